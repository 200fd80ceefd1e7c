/- Contracts: spec.l1Dec. -/
import Derived.Test.YtnnfjjgohhicjaaDoorKg2
import Derived.Lib.ItoaNum
import Derived.Lib.ItoaLen
import Derived.Lib.UnsafeStr
import Derived.Laws.BytesArg
import Derived.Deep.RegionWith
import Derived.Deep.RegionLaw
import Derived.Deep.AppendLies
namespace Go.Proofs.YtnnfjjgohhicjaaDoor
open Go.RowKit
set_option linter.unusedSimpArgs false
set_option linter.unusedVariables false
set_option maxRecDepth 100000

/-- The string of these bytes. -/
abbrev sv (l : List UInt8) : Value := .string ⟨l.toArray⟩
theorem dec_small {u : Nat} (h : u < 10) : Lib.decDigits u = [UInt8.ofNat (48 + u)] := by rw [Lib.decDigits, dif_pos h]
theorem dec_big {u : Nat} (h : ¬ u < 10) : Lib.decDigits u = Lib.decDigits (u / 10) ++ [UInt8.ofNat (48 + u % 10)] := by rw [Lib.decDigits, dif_neg h]
theorem conv1 {W : World} {b : Nat} {c : Int} (h : W.cell? ⟨b, 0, none⟩ = some (.int .u8 c)) (h0 : 0 ≤ c) (h1 : c < 256) : (convert 44 9 (.slice (some ⟨b, 0, none⟩) 1 1)).run Tryd.prog W = .ok (sv [UInt8.ofNat c.toNat]) W := by
  have := run_convert_bytes_arg (P := Tryd.prog) W 44 5 Tryd.underlying44 Tryd.underlying5 b 0 1 1 [c] rfl (fun i hi => by
    obtain rfl : i = 0 := by omega
    exact h) 9 Tryd.underlying9
  rw [this]
  simp [strOfNums]
theorem sv_append (l m : List UInt8) : (⟨l.toArray⟩ ++ ⟨m.toArray⟩ : ByteArray) = ⟨(l ++ m).toArray⟩ := by
  apply ByteArray.ext
  simp [ByteArray.data_append]
theorem cat1 (l : List UInt8) (c : Nat) : Value.string (⟨l.toArray⟩ ++ ⟨#[48 + UInt8.ofNat c]⟩) = sv (l ++ [UInt8.ofNat (48 + c)]) := by
  have := sv_append l [48 + UInt8.ofNat c]
  rw [sv, ← sv_append]
  congr 2
  simp [UInt8.ofNat_add]
theorem wi64 {n : Int} (h0 : -9223372036854775808 ≤ n) (h1 : n < 9223372036854775808) : IntKind.i64.wrap n = n := by simp [IntKind.wrap, IntKind.bits, IntKind.signed]; omega
theorem wu8 {n : Int} (h0 : 0 ≤ n) (h1 : n < 256) : IntKind.u8.wrap n = n := by simp [IntKind.wrap, IntKind.bits, IntKind.signed]; omega
set_option maxHeartbeats 1000000 in
theorem decN_c : ∀ (u : Nat) (hu : u ≤ 4611686018427387904) (w : World), Calls Tryd.prog 86 #[.int .i64 u] w fun e w' => e = .returned (sv (Lib.decDigits u)) ∧ Below w.heap.size w w' := by
  intro u
  induction u using Nat.strongRecOn with
  | _ u ih =>
  intro hu w
  by_cases h10 : u < 10
  · have HD := Lib.hid (dec_small h10)
    have hcv := conv1 (W := w.alloc (.cells #[.int .u8 (48 + (u : Int))] 5)) (b := w.heap.size) (c := 48 + (u : Int)) (by simp) (by omega) (by omega)
    clear ih
    go_enter Tryd.func86, Tryd.ntmps86
    go_wp2
    go_ret
    exact ⟨by rw [HD.out, show 48 + u = (48 + (u : Int)).toNat by omega]; rfl, by repeat (first | (with_reducible first | exact Below.refl _ _ | assumption | exact ext_box _) | (with_reducible apply Below.drew) | ((with_reducible refine Below.setCell ?_ ?hs _); (case hs => first | (simp; done) | (simp; omega) | omega)) | ((with_reducible refine Below.alloc ?_ ?hs _); (case hs => first | (simp; done) | (simp; omega) | omega)))⟩
  · have HD := Lib.hid (dec_big h10)
    have HIH := Lib.hid (fun W => by have := ih (u / 10) (by omega) (by omega) W; rwa [show ((u / 10 : Nat) : Int) = (u : Int) / 10 by omega] at this)
    have hq : ((u : Int)).tdiv 10 = ((u / 10 : Nat) : Int) := by rw [Int.tdiv_eq_ediv_of_nonneg (by omega)]; omega
    have hr : ((u : Int)).tmod 10 = ((u % 10 : Nat) : Int) := by rw [Int.tmod_eq_emod_of_nonneg (by omega)]; omega
    obtain ⟨c, hc⟩ : ∃ c : Nat, u % 10 = c := ⟨_, rfl⟩
    have hc10 : c < 10 := by omega
    rw [hc] at hr
    have h20 : (Lib.decDigits (u / 10)).length ≤ 20 := by rw [Lib.decDigits_length]; exact Lib.nDigits_le20 _ (by omega)
    have hq1 : IntKind.i64.wrap ((u : Int) / 10) = (u : Int) / 10 := wi64 (by omega) (by omega)
    have hq2 : IntKind.i64.wrap (48 + (c : Int)) = 48 + (c : Int) := wi64 (by omega) (by omega)
    have hq3 : IntKind.u8.wrap (48 + (c : Int)) = 48 + (c : Int) := wu8 (by omega) (by omega)
    clear ih
    go_enter Tryd.func86, Tryd.ntmps86
    go_upto_region 5 with (fail)
    have hcv : ∀ (W : World) (b : Nat), W.cell? ⟨b, 0, none⟩ = some (.int .u8 (48 + (c : Int))) → (convert 44 9 (.slice (some ⟨b, 0, none⟩) 1 1)).run Tryd.prog W = .ok (sv [UInt8.ofNat (48 + (c : Int)).toNat]) W := fun W b h => conv1 h (by omega) (by omega)
    have HWW := Below.refl w.heap.size w
    go_region_with (first
      | (go_at_call 86; (with_reducible refine (HIH.out _).mono ?_); rintro e w1 ⟨rfl, hb1⟩; have HB1 : Below w.heap.size w w1 := Below.then_ (by (repeat (first | (with_reducible first | exact Below.refl _ _ | assumption | exact ext_box _) | (with_reducible apply Below.drew) | ((with_reducible refine Below.setCell ?_ ?hs _); (case hs => first | (simp; done) | (simp; omega) | omega)) | ((with_reducible refine Below.alloc ?_ ?hs _); (case hs => first | (simp; done) | (simp; omega) | omega))))) hb1; obtain ⟨hc1, hf1⟩ := bcell hb1; have zw1 := hb1.size; simp at zw1))
    all_goals go_wp2
    all_goals go_ret
    all_goals exact ⟨by rw [HD.out, hc, ← cat1]; rfl, by (repeat (first | (with_reducible first | exact Below.refl _ _ | assumption | exact ext_box _) | (with_reducible apply Below.drew) | ((with_reducible refine Below.setCell ?_ ?hs _); (case hs => first | (simp; done) | (simp; omega) | omega)) | ((with_reducible refine Below.alloc ?_ ?hs _); (case hs => first | (simp; done) | (simp; omega) | omega))))⟩
theorem dec_c (n : Int) (h0 : -4611686018427387904 ≤ n) (h1 : n ≤ 4611686018427387904) (w : World) : Calls Tryd.prog 86 #[.int .i64 n] w fun e w' => e = .returned (sv (Lib.itoa n)) ∧ Below w.heap.size w w' := by
  by_cases hneg : n < 0
  · obtain ⟨u, hu⟩ : ∃ u : Nat, n = -(u : Int) := ⟨n.natAbs, by omega⟩
    have HIT := Lib.hid (show Lib.itoa n = 45 :: Lib.decDigits u by rw [hu]; exact Lib.itoa_neg u (by omega))
    have hw : IntKind.i64.wrap (-n) = (u : Int) := by rw [wi64 (by omega) (by omega)]; omega
    have HDC := Lib.hid (decN_c u (by omega))
    have h20 : (Lib.decDigits u).length ≤ 20 := by rw [Lib.decDigits_length]; exact Lib.nDigits_le20 _ (by omega)
    clear hu
    go_enter Tryd.func86, Tryd.ntmps86
    go_wp2_with (go_at_call 86; (with_reducible refine (HDC.out _).mono ?_); rintro e w1 ⟨rfl, hb1⟩)
    go_ret
    exact ⟨by rw [HIT.out]; exact congrArg (fun b => Ending.returned (Value.string b)) (sv_append [45] (Lib.decDigits u)), hb1⟩
  · obtain ⟨u, rfl⟩ : ∃ u : Nat, n = (u : Int) := ⟨n.toNat, by omega⟩
    rw [Lib.itoa_nonneg]
    exact decN_c u (by omega) w
end Go.Proofs.YtnnfjjgohhicjaaDoor
