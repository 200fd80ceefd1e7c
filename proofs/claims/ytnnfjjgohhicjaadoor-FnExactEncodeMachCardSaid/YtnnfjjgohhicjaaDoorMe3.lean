/- Contracts: comparisons of what is read, field by field. (Printed by kgen.py.) -/
import Derived.Test.YtnnfjjgohhicjaaDoorMe1
import Derived.Test.YtnnfjjgohhicjaaDoorMe2
import Derived.Test.YtnnfjjgohhicjaaDoorKc
import Derived.Test.YtnnfjjgohhicjaaDoorKz
import Derived.Test.YtnnfjjgohhicjaaDoorKm
import Derived.Test.YtnnfjjgohhicjaaDoorKo
import Derived.Test.YtnnfjjgohhicjaaDoorKs
import Derived.Deep.RegionHeld3
namespace Go.Proofs.YtnnfjjgohhicjaaDoor
open Go.RowKit
set_option linter.unusedSimpArgs false
set_option linter.unusedVariables false
set_option maxRecDepth 100000

theorem C_u8 {w : World} {A : Option Addr} {l : List UInt8} (h : C kU8 w A l) : C (kInt .u8) w A (ints8 l) := fun i x hx => by
  rw [List.getElem?_map] at hx
  obtain ⟨c, hc, rfl⟩ := Option.map_eq_some_iff.1 hx
  obtain ⟨a, cs, hA, hK, hcs⟩ := h i c hc
  exact ⟨a, cs, hA, hK, hcs⟩
theorem Wb.reads {g : Nat} {xs : List Int} {w : World} (h : Wb g xs w) : C (kInt .u8) w (some ⟨g, 0, none⟩) xs := fun i y hy => ⟨_, _, rfl, rfl, fun j u hu => by
  obtain ⟨rfl, hu2⟩ : j = 0 ∧ u = .int .u8 y := by
    cases j with
    | zero => simp at hu; exact ⟨rfl, hu.symm⟩
    | succ j => simp at hu
  subst hu2
  rw [show i * (kInt .u8).sz + 0 = i from by simp [kInt], add_plain, Nat.zero_add]
  exact h.cell hy⟩
/-- A row of bytes that may be written, in the blocks fp. -/
def Wv (v : Value) (xs : List Int) (fp : List Nat) (w : World) : Prop := (∃ c, v = .slice none 0 c ∧ xs = [] ∧ fp = []) ∨ ∃ g c, v = .slice (some ⟨g, 0, none⟩) xs.length c ∧ Wb g xs w ∧ fp = [g]
namespace Wv
variable {v : Value} {xs : List Int} {fp : List Nat} {w w' : World}
theorem chg {S : Nat → Prop} (h : Wv v xs fp w) (hc : Chg S w w') (hs : ∀ b ∈ fp, ¬ S b) : Wv v xs fp w' := by
  rcases h with h | ⟨g, c, h1, h2, rfl⟩
  · exact .inl h
  · exact .inr ⟨g, c, h1, h2.chg hc (hs g (by simp)), rfl⟩
theorem below (h : Wv v xs fp w) (hb : Below w.heap.size w w') : Wv v xs fp w' := h.chg (chg_of hb) (by simp)
theorem form (h : Wv v xs fp w) : ∃ A c, v = .slice A xs.length c ∧ C (kInt .u8) w A xs := by
  rcases h with ⟨c, rfl, rfl, _⟩ | ⟨g, c, rfl, h2, _⟩
  · exact ⟨none, c, rfl, C.nil _ _ _⟩
  · exact ⟨_, c, rfl, h2.reads⟩
theorem lt (h : Wv v xs fp w) : ∀ b ∈ fp, b < w.heap.size := by
  rcases h with ⟨c, _, _, rfl⟩ | ⟨g, c, _, h2, rfl⟩
  · simp
  · intro b hb; simp at hb; subst hb; exact h2.lt
end Wv
theorem RetW.wv {w w' : World} {l : List UInt8} {e : Ending} (h : RetW w l e w') : ∃ v fp, e = .returned v ∧ Wv v (ints8 l) fp w' ∧ (∀ b ∈ fp, w.heap.size ≤ b) ∧ Below w.heap.size w w' := by
  obtain ⟨hb, ⟨c, rfl, rfl⟩ | ⟨g, c, rfl, hg, hw⟩⟩ := h
  · exact ⟨_, [], rfl, .inl ⟨c, rfl, rfl, rfl⟩, by simp, hb⟩
  · exact ⟨_, [g], rfl, .inr ⟨g, c, by simp, hw, rfl⟩, fun b hb => by simp at hb; omega, hb⟩
/-- The marks of a row of bytes. -/
def mk8 (k : Int) (n : Nat) : List Int := (List.range n).map fun (i : Nat) => IntKind.u8.wrap (k + (i : Int))
theorem mk8_len (k : Int) (n : Nat) : (mk8 k n).length = n := by simp [mk8]
theorem mk8_get (k : Int) {n i : Nat} (h : i < n) : (mk8 k n)[i]? = some (IntKind.u8.wrap (k + (i : Int))) := by simp [mk8, h]
theorem mk8_snoc (k : Int) (n : Nat) : mk8 k (n + 1) = mk8 k n ++ [IntKind.u8.wrap (k + (n : Int))] := by simp [mk8, List.range_succ]
theorem mk8_set (k : Int) (xs : List Int) {j : Nat} (h : j < xs.length) : (mk8 k j ++ xs.drop j).set j (IntKind.u8.wrap (k + (j : Int))) = mk8 k (j + 1) ++ xs.drop (j + 1) := by
  rw [List.set_append_right _ _ (by rw [mk8_len]; exact Nat.le_refl _), mk8_len, Nat.sub_self, List.drop_eq_getElem_cons h, List.set_cons_zero, mk8_snoc, List.append_assoc]; rfl
set_option maxHeartbeats 2000000 in
theorem eqByteS_c (A0 A1 : Option Addr) (c0 c1 : Nat) (xs : List Int) (w : World) (hx : C (kInt .u8) w A0 xs) (hy : C (kInt .u8) w A1 xs) (hm : xs.length ≤ 140737488351232) :
    Calls Tryd.prog 21 #[.slice A0 xs.length c0, .slice A1 xs.length c1] w fun e w' => e = .returned (.bool true) ∧ Below w.heap.size w w' := by
  go_enter Tryd.func21, Tryd.ntmps21
  have hb : ((xs.length : Int) != xs.length) = false := by simp
  go_wp2
  go_loopw [5] (fun i wr => ∃ k : Nat, k ≤ xs.length ∧ i = .int .i64 k ∧ ∃ u : Ext w, wr = u.w) (fun i _ => xs.length - (intOf i).toNat)
  case atStart => exact ⟨0, by omega, rfl, Ext.self w, rfl⟩
  case round =>
    obtain ⟨k, hk, rfl, u, rfl⟩ := hrel
    by_cases hlt : k < xs.length
    · obtain ⟨x, ex⟩ := get_of_lt hlt
      obtain ⟨a0, _, rfl, rfl, hxc⟩ := hx.at ex
      have P0 := hc1E (n := k * 1) hxc
      rw [Nat.mul_one] at P0
      clear hxc
      obtain ⟨a1, _, rfl, rfl, hyc⟩ := hy.at ex
      have P1 := hc1E (n := k * 1) hyc
      rw [Nat.mul_one] at P1
      clear hyc
      have hd : (x != x) = false := by simp
      clear ex
      go_wp2
      refine wp_region_ext (W := w) (by kernel_rfl) (by kernel_rfl) ⟨_, rfl⟩ ?_
      repeat quiet_step ((fail))
      refine wpQuiet_nil ?_
      rintro _ ⟨u, rfl⟩
      go_wp2
      go_roundw
      case rel => exact ⟨k + 1, by omega, by go_num, u, rfl⟩
      case measure => simp [intOf]; omega
    · have hkn : k = xs.length := by omega
      subst hkn
      go_wp2
      go_ret
      exact ⟨rfl, u.hb⟩
set_option maxHeartbeats 2000000 in
theorem markByteS_c (v : Value) (xs : List Int) (fp : List Nat) (k : Int) (w : World) (h : Wv v xs fp w) (hk : 0 ≤ k) (hk2 : k ≤ 4611686018427387904) (hl : xs.length ≤ 1152921504606846976) :
    Calls Tryd.prog 23 #[v, .int .i64 k] w fun e w' => e = .returned (.int .i64 (k + (xs.length : Int))) ∧ Wv v (mk8 k xs.length) fp w' ∧ Chg (fun b => b ∈ fp) w w' := by
  rcases h with ⟨c, rfl, rfl, rfl⟩ | ⟨g, cap, rfl, hw, rfl⟩
  · go_enter Tryd.func23, Tryd.ntmps23
    go_wp2
    go_loopw [1, 5] (fun k1 i wr => k1 = .int .i64 k ∧ i = .int .i64 0 ∧ wr = w) (fun _ _ _ => 0)
    case atStart => exact ⟨rfl, rfl, rfl⟩
    case round =>
      obtain ⟨rfl, rfl, rfl⟩ := hrel
      go_wp2
      go_ret
      exact ⟨by simp, .inl ⟨c, rfl, rfl, rfl⟩, Chg.refl _ _⟩
  · have HX := Lib.hid hw
    clear hw
    go_enter Tryd.func23, Tryd.ntmps23
    go_wp2
    go_loopw [1, 5] (fun k1 i wr => ∃ j : Nat, j ≤ xs.length ∧ k1 = .int .i64 (k + (j : Int)) ∧ i = .int .i64 j ∧ Wb g (mk8 k j ++ xs.drop j) wr ∧ Chg (fun b => b ∈ [g]) w wr) (fun _ i _ => xs.length - (intOf i).toNat)
    case atStart => exact ⟨0, by omega, by simp, rfl, by simpa [mk8] using HX.out, Chg.refl _ _⟩
    case round =>
      obtain ⟨j, hj, rfl, rfl, hr, hc⟩ := hrel
      by_cases hlt : j < xs.length
      · have hlen : (mk8 k j ++ xs.drop j).length = xs.length := by simp [mk8_len]; omega
        obtain ⟨y, ey⟩ := get_of_lt (show j < (mk8 k j ++ xs.drop j).length by omega)
        have q0 := hr.cell ey
        have f0 := hr.frozen (i := j) (by omega)
        obtain ⟨hr2, hc2⟩ := hr.set (i := j) (by omega) (IntKind.u8.wrap (k + (j : Int)))
        rw [mk8_set k xs hlt] at hr2
        have HR := Lib.hid hr2
        have HC := Lib.hid (hc.trans (hc2.mono fun b _ e => by simp [e]))
        clear hr hr2 hc hc2 hlen ey
        go_wp2
        go_roundw
        case rel => exact ⟨j + 1, by omega, by go_num, by go_num, HR.out, HC.out⟩
        case measure => simp [intOf]; omega
      · have hjn : j = xs.length := by omega
        subst hjn
        have HR := Lib.hid hr
        have HC := Lib.hid hc
        clear hr hc
        go_wp2
        go_ret
        exact ⟨rfl, .inr ⟨g, cap, by rw [mk8_len], by simpa using HR.out, rfl⟩, HC.out⟩
set_option maxHeartbeats 2000000 in
theorem heldByteS_c (v : Value) (n : Nat) (fp : List Nat) (k : Int) (w : World) (h : Wv v (mk8 k n) fp w) (hk : 0 ≤ k) (hk2 : k ≤ 4611686018427387904) (hl : n ≤ 1152921504606846976) :
    Calls Tryd.prog 24 #[v, .int .i64 k] w fun e w' => e = .returned (.int .i64 (k + (n : Int))) ∧ w = w' := by
  have hn := mk8_len k n
  rcases h with ⟨c, rfl, h0, rfl⟩ | ⟨g, cap, rfl, hw, rfl⟩
  · obtain rfl : n = 0 := by rw [h0] at hn; simpa using hn.symm
    clear h0
    go_enter Tryd.func24, Tryd.ntmps24
    go_wp2
    go_loopw [1, 5] (fun k1 i wr => k1 = .int .i64 k ∧ i = .int .i64 0 ∧ wr = w) (fun _ _ _ => 0)
    case atStart => exact ⟨rfl, rfl, rfl⟩
    case round =>
      obtain ⟨rfl, rfl, rfl⟩ := hrel
      go_wp2
      go_ret
      exact ⟨by simp, by first | rfl | trivial⟩
  · have HX := Lib.hid hw
    rw [hn]
    clear hw
    go_enter Tryd.func24, Tryd.ntmps24
    go_wp2
    go_loopw [1, 5] (fun k1 i wr => ∃ j : Nat, j ≤ n ∧ k1 = .int .i64 (k + (j : Int)) ∧ i = .int .i64 j ∧ wr = w) (fun _ i _ => n - (intOf i).toNat)
    case atStart => exact ⟨0, by omega, by simp, rfl, rfl⟩
    case round =>
      obtain ⟨j, hj, rfl, rfl, rfl⟩ := hrel
      by_cases hlt : j < n
      · have q0 := HX.out.cell (mk8_get k hlt)
        go_wp2
        go_roundw
        case rel => exact ⟨j + 1, by omega, by go_num, by go_num, by first | rfl | trivial⟩
        case measure => simp [intOf]; omega
      · have hjn : j = n := by omega
        subst hjn
        go_wp2
        go_ret
        exact ⟨rfl, by first | rfl | trivial⟩
end Go.Proofs.YtnnfjjgohhicjaaDoor
namespace Go.Proofs.YtnnfjjgohhicjaaDoor
open Go.RowKit
set_option linter.unusedSimpArgs false
set_option linter.unusedVariables false
set_option maxRecDepth 100000

/-- A marked row: as long as before, in the same blocks. -/
def MarkRow {α : Type} (e : TypeId) (d : Kd α) (v : Value) (n : Nat) (k : Int) (top : Int) (fp : List Nat) (w : World) (en : Ending) (w' : World) : Prop :=
  ∃ (k' : Int) (ys : List α) (fp' : List Nat), en = .returned (.int .i64 k') ∧ k ≤ k' ∧ k' ≤ k + top ∧ ys.length = n ∧ Row e d w' v ys fp' ∧ (∀ b ∈ fp', b ∈ fp) ∧ Chg (fun b => b ∈ fp) w w'
set_option maxHeartbeats 4000000 in
theorem markInstrS_c (v : Value) (xs : List Instr) (fp : List Nat) (k : Int) (w : World) (h : Row 72 kInstr w v xs fp) (hk : 0 ≤ k) (hk2 : k ≤ 4611686018427387904) (hl : xs.length ≤ 1048576) :
    Calls Tryd.prog 92 #[v, .int .i64 k] w (MarkRow 72 kInstr v xs.length k (5 * (xs.length : Int)) fp w) := by
  rcases h.form' with ⟨rfl, rfl, rfl⟩ | ⟨g, cap, rfl, hg, -⟩
  · have HH := Lib.hid h
    clear h
    go_enter Tryd.func92, Tryd.ntmps92
    go_wp2
    go_loopw [1, 5] (fun k1 i wr => k1 = .int .i64 k ∧ i = .int .i64 0 ∧ wr = w) (fun _ _ _ => 0)
    case atStart => exact ⟨rfl, rfl, rfl⟩
    case round =>
      obtain ⟨rfl, rfl, rfl⟩ := hrel
      go_wp2
      go_ret
      exact ⟨k, [], [], by simp, by omega, by simp, rfl, HH.out, fun _ h => h, Chg.refl _ _⟩
  · have HX := Lib.hid h
    have HG := Lib.hid hg
    clear h hg
    go_enter Tryd.func92, Tryd.ntmps92
    go_wp2
    go_loopw [1, 5] (fun k1 i wr => ∃ (j : Nat) (ys : List Instr) (fp' : List Nat), j ≤ xs.length ∧ k1 = .int .i64 (k + 5 * (j : Int)) ∧ i = .int .i64 j ∧ ys.length = xs.length ∧ Row 72 kInstr wr (.slice (some ⟨g, 0, none⟩) xs.length cap) ys fp' ∧ (∀ b ∈ fp', b ∈ fp) ∧ Chg (fun b => b ∈ fp) w wr) (fun _ i _ => xs.length - (intOf i).toNat)
    case atStart => exact ⟨0, xs, fp, by omega, by simp, rfl, rfl, HX.out, fun _ h => h, Chg.refl _ _⟩
    case round =>
      obtain ⟨j, ys, fp', hj, rfl, rfl, hy, hr, hf, hc⟩ := hrel
      have HF := Lib.hid hf
      have HY := Lib.hid hy
      by_cases hlt : j < xs.length
      · obtain ⟨y, ey⟩ := get_of_lt (show j < ys.length by omega)
        obtain ⟨_, rfl, hq, hfz⟩ := hr.cellsAt hy ey
        obtain ⟨q0, q1, q2, q3, q4⟩ := ha5 (n := j * 5) hq
        have f0 := hfz (j * 5)
        have f1 := hfz (j * 5 + 1)
        have f2 := hfz (j * 5 + 2)
        have f3 := hfz (j * 5 + 3)
        have f4 := hfz (j * 5 + 4)
        obtain ⟨fp2, hr2, hf2, hc2⟩ := hr.set hy (i := j) hlt (y := (⟨k + 5 * (j : Int), k + 5 * (j : Int) + 1, k + 5 * (j : Int) + 1 + 1, k + 5 * (j : Int) + 1 + 1 + 1, k + 5 * (j : Int) + 1 + 1 + 1 + 1⟩ : Instr)) ⟨rfl, rfl⟩ (by simp)
        rw [show j * kInstr.sz = j * 5 from rfl, setCells5] at hr2 hc2
        have HR := Lib.hid hr2
        have HC := Lib.hid (hc.trans (hc2.mono fun b _ e => by rw [e]; exact HG.out))
        have HF2 := Lib.hid (show ∀ b ∈ fp2, b ∈ fp from fun b hb => HF.out b ((hf2 b hb).resolve_right (by simp)))
        clear hr hr2 hc hc2 ey hq hfz hf hf2
        go_wp2
        go_roundw
        case rel => exact ⟨j + 1, _, fp2, by omega, by go_num, by go_num, by simpa using hy, HR.out, HF2.out, HC.out⟩
        case measure => simp [intOf]; omega
      · have hjn : j = xs.length := by omega
        subst hjn
        have HR := Lib.hid hr
        have HC := Lib.hid hc
        clear hr hc hf
        go_wp2
        go_ret
        exact ⟨_, ys, fp', rfl, by omega, by omega, HY.out, HR.out, HF.out, HC.out⟩
end Go.Proofs.YtnnfjjgohhicjaaDoor
namespace Go.Proofs.YtnnfjjgohhicjaaDoor
open Go.RowKit
set_option linter.unusedSimpArgs false
set_option linter.unusedVariables false
set_option maxRecDepth 100000

theorem set_self {w : World} {g o : Nat} {v : Value} (h : w.cell? ⟨g, o, none⟩ = some v) : w.setCell ⟨g, o, none⟩ v = w := by
  have hh : (w.setCell ⟨g, o, none⟩ v).heap = w.heap := by
    apply Array.ext_getElem?
    intro k
    unfold World.cell? at h
    unfold World.setCell
    simp only [Array.getElem?_modify]
    by_cases hk : g = k
    · subst hk
      simp only [if_true]
      cases hg : w.heap[g]? with
      | none => rfl
      | some ob =>
        cases ob <;> simp_all
        apply Array.ext_getElem?
        intro q
        rw [Array.getElem?_setIfInBounds]
        split
        · rename_i hq; subst hq; split
          · exact h.symm
          · rename_i hz; rw [Array.getElem?_eq_none (by omega)]
        · rfl
    · simp [hk]
  unfold World.setCell at hh ⊢
  cases w
  simp only at hh ⊢
  rw [hh]
set_option maxHeartbeats 4000000 in
theorem markMBlockS_c (v : Value) (xs : List MBlock) (fp : List Nat) (k : Int) (w : World) (h : Row 69 (kMB 72) w v xs fp) (hk : 0 ≤ k) (hk2 : k ≤ 1048576) (hl : xs.length ≤ 1048576) (hs : ∀ (i : Nat) b, xs[i]? = some b → b.instrs.length ≤ 1048576) :
    Calls Tryd.prog 62 #[v, .int .i64 k] w (MarkRow 69 (kMB 72) v xs.length k (6000000 * (xs.length : Int)) fp w) := by
  rcases h.form' with ⟨rfl, rfl, rfl⟩ | ⟨g, cap, rfl, hg, -⟩
  · have HH := Lib.hid h
    clear h hs
    go_enter Tryd.func62, Tryd.ntmps62
    go_wp2
    go_loopw [1, 5] (fun k1 i wr => k1 = .int .i64 k ∧ i = .int .i64 0 ∧ wr = w) (fun _ _ _ => 0)
    case atStart => exact ⟨rfl, rfl, rfl⟩
    case round =>
      obtain ⟨rfl, rfl, rfl⟩ := hrel
      go_wp2
      go_ret
      exact ⟨k, [], [], by simp, by omega, by simp, rfl, HH.out, fun _ h => h, Chg.refl _ _⟩
  · have HX := Lib.hid h
    have HG := Lib.hid hg
    have HS := Lib.hid hs
    clear h hg hs
    go_enter Tryd.func62, Tryd.ntmps62
    go_wp2
    go_loopw [1, 5] (fun k1 i wr => ∃ (j : Nat) (k' : Int) (ys : List MBlock) (fp' : List Nat), j ≤ xs.length ∧ k1 = .int .i64 k' ∧ k ≤ k' ∧ k' ≤ k + 6000000 * (j : Int) ∧ i = .int .i64 j ∧ ys.length = xs.length ∧ (∀ (i : Nat) b, ys[i]? = some b → b.instrs.length ≤ 1048576) ∧ Row 69 (kMB 72) wr (.slice (some ⟨g, 0, none⟩) xs.length cap) ys fp' ∧ (∀ b ∈ fp', b ∈ fp) ∧ Chg (fun b => b ∈ fp) w wr) (fun _ i _ => xs.length - (intOf i).toNat)
    case atStart => exact ⟨0, k, xs, fp, by omega, rfl, by omega, by omega, rfl, rfl, HS.out, HX.out, fun _ h => h, Chg.refl _ _⟩
    case round =>
      obtain ⟨j, k', ys, fp', hj, rfl, hk3, hk4, rfl, hy, hys, hr, hf, hc⟩ := hrel
      have HF := Lib.hid hf
      have HY := Lib.hid hy
      have HYS := Lib.hid hys
      by_cases hlt : j < xs.length
      · obtain ⟨y, ey⟩ := get_of_lt (show j < ys.length by omega)
        have hyl := hys _ _ ey
        obtain ⟨_, _, hq, hfz⟩ := hr.cellsAt hy ey
        have f0 := hfz (j * 5)
        have f1 := hfz (j * 5 + 1)
        have f2 := hfz (j * 5 + 2)
        have f3 := hfz (j * 5 + 3)
        have f4 := hfz (j * 5 + 4)
        obtain ⟨_, f9, hO, hcs, hsub, hgn, hset⟩ := hr.focus hy ey
        obtain ⟨_, _, r1, r2, rfl, rfl, hnd, ⟨v0, rfl, r0⟩, rfl, rfl⟩ := hO
        obtain ⟨A4, c4, rfl, hl4⟩ := r0.form
        obtain ⟨q0, q1, q2, q3, q4⟩ := ha5 (n := j * 5) hcs
        simp only [List.append_nil] at hsub hgn hset
        replace hset : ∀ (w' : World) (y2 : MBlock) (cs' : List Value) (f : List Nat), wr.heap.size ≤ w'.heap.size → (∀ b ∈ fp', b ∉ r1 → w'.heap[b]? = wr.heap[b]?) → (kMB 72).O w' y2 cs' f → (∀ b ∈ f, b ∈ r1 ∨ b ∉ fp') → ∃ fp'', Row 69 (kMB 72) (setCells w' g (j * 5) cs') (.slice (some ⟨g, 0, none⟩) xs.length cap) (ys.set j y2) fp'' ∧ (∀ b ∈ fp'', b ∈ fp' ∨ b ∈ f) ∧ Chg (fun k => k = g) w' (setCells w' g (j * 5) cs') := hset
        replace q0 : wr.cell? ⟨g, j * 5, none⟩ = some (.slice A4 y.instrs.length c4) := q0
        have HST := Lib.hid hset
        have HSB := Lib.hid hsub
        have HGN := Lib.hid hgn
        have HM := Lib.hid (markInstrS_c (.slice A4 y.instrs.length c4) y.instrs r1 k' wr r0 (by omega) (by omega) hyl)
        have HLT := Lib.hid (show ∀ b ∈ fp', b < wr.heap.size from fun b hb => hr.lt b hb)
        have HFZ := Lib.hid hfz
        have HC := Lib.hid hc
        have zg := World.block_lt_of_cell? wr _ q0
        clear hset hsub hgn hr hcs hq hfz hc r0 hys hf ey hl4 hnd
        go_wp2_with (
          go_at_call 92; with_reducible refine HM.out.mono ?_; intro e w1 hp1; unfold MarkRow at hp1; obtain ⟨k2, zs, r2, rfl, hk5, hk6, hzl, hr6, hr7, hc6⟩ := hp1
          have hblk : w1.heap[g]? = wr.heap[g]? := hc6.block g zg HGN.out
          have s0 := Chg.at hc6 q0 HGN.out
          have s1 := Chg.at hc6 q1 HGN.out
          have s2 := Chg.at hc6 q2 HGN.out
          have s3 := Chg.at hc6 q3 HGN.out
          have s4 := Chg.at hc6 q4 HGN.out
          have hfz1 : ∀ o, w1.frozen? ⟨g, o, none⟩ = false := fun o => by have := HFZ.out o; unfold World.frozen? at this ⊢; rw [hblk]; exact this
          have f10 := hfz1 (j * 5)
          have f11 := hfz1 (j * 5 + 1)
          have f12 := hfz1 (j * 5 + 2)
          have f13 := hfz1 (j * 5 + 3)
          have f14 := hfz1 (j * 5 + 4)
          obtain ⟨fp2, hr8, hf8, hc8⟩ := HST.out w1 ⟨zs, ⟨k2, k2 + 1, k2 + 1 + 1, k2 + 1 + 1 + 1⟩⟩ _ r2 hc6.size (fun b hb hn => hc6.block b (HLT.out b hb) hn) (kMB_O hr6) (fun b hb => .inl (hr7 b hb))
          rw [setCells5, set_self s0] at hr8 hc8
          have HR8 := Lib.hid hr8
          have HC8 := Lib.hid ((HC.out.trans (hc6.mono fun b _ hb => HF.out b (HSB.out b hb))).trans (hc8.mono fun b _ e => by rw [e]; exact HG.out))
          have HF8 := Lib.hid (show ∀ b ∈ fp2, b ∈ fp from fun b hb => HF.out b ((hf8 b hb).elim id fun h => HSB.out b (hr7 b h)))
          have HZ := Lib.hid hzl
          clear hr8 hc8 hf8 hr6 hr7 hc6 hblk hfz1 q0 q1 q2 q3 q4 f0 f1 f2 f3 f4)
        go_roundw
        case rel => exact ⟨j + 1, k2 + 1 + 1 + 1 + 1, _, fp2, by omega, by go_num, by omega, by omega, by go_num, by simpa using hy, fun i b hb => by
          by_cases hi : j = i
          · subst hi
            rw [List.getElem?_set_self (by omega)] at hb
            obtain rfl := Option.some.inj hb
            have := HZ.out
            simp only
            omega
          · rw [List.getElem?_set_ne hi] at hb
            exact HYS.out i b hb, HR8.out, HF8.out, HC8.out⟩
        case measure => simp [intOf]; omega
      · have hjn : j = xs.length := by omega
        subst hjn
        have HR := Lib.hid hr
        have HC := Lib.hid hc
        clear hr hc hf
        go_wp2
        go_ret
        exact ⟨_, ys, fp', rfl, by omega, by omega, HY.out, HR.out, HF.out, HC.out⟩
def MarkMach (n : Nat) (k : Int) (fp : List Nat) (w : World) (e : Ending) (w' : World) : Prop := ∃ k' : Int, e = .returned (.int .i64 k') ∧ k ≤ k' ∧ k' ≤ k + 6000000 * (n : Int) ∧ Chg (fun b => b ∈ fp) w w'
set_option maxHeartbeats 1000000 in
theorem markMach_c (regs : Int) (v : Value) (xs : List MBlock) (fp : List Nat) (k : Int) (w : World) (h : Row 69 (kMB 72) w v xs fp) (hk : 0 ≤ k) (hk2 : k ≤ 1048576) (hl : xs.length ≤ 1048576) (hs : ∀ (i : Nat) b, xs[i]? = some b → b.instrs.length ≤ 1048576) :
    Calls Tryd.prog 22 #[.agg #[.int .i64 regs, v], .int .i64 k] w (MarkMach xs.length k fp w) := by
  obtain ⟨A, c, rfl, -⟩ := h.form
  have HM := Lib.hid (fun W (hb : Below w.heap.size w W) => markMBlockS_c _ xs fp k W (h.chg (chg_of hb) (by simp)) hk hk2 hl hs)
  clear h hs
  go_enter Tryd.func22, Tryd.ntmps22
  go_wp2_with (
    go_at_call 62; with_reducible refine (HM.out _ (by (repeat (first | (with_reducible first | exact Below.refl _ _ | assumption | exact ext_box _) | (with_reducible apply Below.drew) | ((with_reducible refine Below.setCell ?_ ?hs _); (case hs => first | (simp; done) | (simp; omega) | omega)) | ((with_reducible refine Below.alloc ?_ ?hs _); (case hs => first | (simp; done) | (simp; omega) | omega)))))).mono ?_; intro e w1 hp1; unfold MarkRow at hp1; obtain ⟨k2, zs, r2, rfl, hk5, hk6, hzl, hr6, hr7, hc6⟩ := hp1
    have HC := Lib.hid (show Chg (fun b => b ∈ fp) w w1 from Chg.trans (by (repeat (first | (with_reducible first | exact Chg.refl _ _ | assumption) | (with_reducible refine Chg.drew ?_) | ((with_reducible refine Chg.setCell ?_ ?hs _); (case hs => first | (simp; done) | (simp; omega) | omega)) | (with_reducible refine Chg.alloc ?_ _)))) hc6)
    clear hr6 hr7 hc6)
  go_ret
  exact ⟨k2, rfl, hk5, hk6, HC.out⟩
end Go.Proofs.YtnnfjjgohhicjaaDoor
namespace Go.Proofs.YtnnfjjgohhicjaaDoor
open Go.RowKit
set_option linter.unusedSimpArgs false
set_option linter.unusedVariables false
set_option maxRecDepth 100000

set_option maxHeartbeats 800000 in
theorem eqOutcome_c (R : Outc) (A1 A2 A3 A4 : Option Addr) (c1 c2 c3 c4 : Nat) (w : World) (q1 : C kI64 w A1 R.heap) (q2 : C kI64 w A2 R.trace) (q3 : C kI64 w A3 R.heap) (q4 : C kI64 w A4 R.trace) (h1 : R.heap.length ≤ 1048576) (h2 : R.trace.length ≤ 1048576) :
    Calls Tryd.prog 28 #[outV R (.slice A1 R.heap.length c1) (.slice A2 R.trace.length c2), outV R (.slice A3 R.heap.length c3) (.slice A4 R.trace.length c4)] w fun e w' => e = .returned (.bool true) ∧ Below w.heap.size w w' := by
  have HT := Lib.hid (fun W (h : Below w.heap.size w W) => eqInt64S_c A2 A4 c2 c4 R.trace R.trace W (q2.below h) (q4.below h) (by omega) (by omega))
  have HH := Lib.hid (fun W (h : Below w.heap.size w W) => eqInt64S_c A1 A3 c1 c3 R.heap R.heap W (q1.below h) (q3.below h) (by omega) (by omega))
  clear q1 q2 q3 q4
  simp only [outV]
  go_enter Tryd.func28, Tryd.ntmps28
  go_wp2_with (first
    | (go_at_call 29; with_reducible refine (HT.out _ (by (repeat (first | (with_reducible first | exact Below.refl _ _ | assumption | exact ext_box _) | (with_reducible apply Below.drew) | ((with_reducible refine Below.setCell ?_ ?hs _); (case hs => first | (simp; done) | (simp; omega) | omega)) | ((with_reducible refine Below.alloc ?_ ?hs _); (case hs => first | (simp; done) | (simp; omega) | omega)))))).mono ?_; intro e w1 hp1; obtain ⟨rfl, hb1⟩ := hp1; have HB1 : Below w.heap.size w w1 := Below.then_ (by (repeat (first | (with_reducible first | exact Below.refl _ _ | assumption | exact ext_box _) | (with_reducible apply Below.drew) | ((with_reducible refine Below.setCell ?_ ?hs _); (case hs => first | (simp; done) | (simp; omega) | omega)) | ((with_reducible refine Below.alloc ?_ ?hs _); (case hs => first | (simp; done) | (simp; omega) | omega))))) hb1; obtain ⟨hc1, hf1⟩ := bcell hb1; have zw1 := hb1.size; simp at zw1)
    | (go_at_call 29; with_reducible refine (HH.out _ (by (repeat (first | (with_reducible first | exact Below.refl _ _ | assumption | exact ext_box _) | (with_reducible apply Below.drew) | ((with_reducible refine Below.setCell ?_ ?hs _); (case hs => first | (simp; done) | (simp; omega) | omega)) | ((with_reducible refine Below.alloc ?_ ?hs _); (case hs => first | (simp; done) | (simp; omega) | omega)))))).mono ?_; intro e w2 hp2; obtain ⟨rfl, hb2⟩ := hp2; have HB2 : Below w.heap.size w w2 := Below.then_ (by (repeat (first | (with_reducible first | exact Below.refl _ _ | assumption | exact ext_box _) | (with_reducible apply Below.drew) | ((with_reducible refine Below.setCell ?_ ?hs _); (case hs => first | (simp; done) | (simp; omega) | omega)) | ((with_reducible refine Below.alloc ?_ ?hs _); (case hs => first | (simp; done) | (simp; omega) | omega))))) hb2))
  go_ret
  exact ⟨rfl, by (repeat (first | (with_reducible first | exact Below.refl _ _ | assumption | exact ext_box _) | (with_reducible apply Below.drew) | ((with_reducible refine Below.setCell ?_ ?hs _); (case hs => first | (simp; done) | (simp; omega) | omega)) | ((with_reducible refine Below.alloc ?_ ?hs _); (case hs => first | (simp; done) | (simp; omega) | omega))))⟩
end Go.Proofs.YtnnfjjgohhicjaaDoor
namespace Go.Proofs.YtnnfjjgohhicjaaDoor
open Go.RowKit
set_option linter.unusedSimpArgs false
set_option linter.unusedVariables false
set_option maxRecDepth 100000

def InR (f : List Nat) (lo hi : Nat) : Prop := ∀ b ∈ f, lo ≤ b ∧ b < hi
/-- n0: the argument; n2: the spec's outcome. -/
structure LS2 (w0 : World) (R : Outc) (n0 n2 : Nat) (l0 : List Value) (T0 : TypeId) (vh5 vt5 : Value) (fh5 ft5 : List Nat) (w : World) : Prop where
  hb : Below w0.heap.size w0 w
  k0 : Bk n0 T0 l0 w
  k2 : Bk n2 51 (wolR R vh5 vt5) w
  h5 : Row 2 kI64 w vh5 R.heap fh5
  t5 : Row 2 kI64 w vt5 R.trace ft5
/-- n1: the copy; n3: the program's outcome. -/
structure LSt (w0 : World) (R : Outc) (n0 n1 n2 n3 : Nat) (l0 l1 : List Value) (T0 T1 : TypeId) (vh5 vt5 vh9 vt9 : Value) (fh5 ft5 fh9 ft9 : List Nat) (w : World) : Prop where
  s2 : LS2 w0 R n0 n2 l0 T0 vh5 vt5 fh5 ft5 w
  k1 : Bk n1 T1 l1 w
  k3 : Bk n3 51 (wolR R vh9 vt9) w
  h9 : Row 2 kI64 w vh9 R.heap fh9
  t9 : Row 2 kI64 w vt9 R.trace ft9
section
variable {w0 : World} {R : Outc} {n0 n1 n2 n3 : Nat} {l0 l1 : List Value} {T0 T1 : TypeId} {vh5 vt5 vh9 vt9 : Value} {fh5 ft5 fh9 ft9 : List Nat} {w w' : World} {S : Nat → Prop}
theorem LS2.keep (h : LS2 w0 R n0 n2 l0 T0 vh5 vt5 fh5 ft5 w) (hc : Chg S w w') (hs : ∀ k, S k → w0.heap.size ≤ k ∧ k ≠ n0 ∧ k ≠ n2 ∧ k ∉ fh5 ∧ k ∉ ft5) : LS2 w0 R n0 n2 l0 T0 vh5 vt5 fh5 ft5 w' :=
  ⟨h.hb.trans (hc.below h.hb.size fun k hk => (hs k hk).1), h.k0.chg hc fun e => (hs _ e).2.1 rfl, h.k2.chg hc fun e => (hs _ e).2.2.1 rfl, h.h5.chg hc fun b hb e => (hs _ e).2.2.2.1 hb, h.t5.chg hc fun b hb e => (hs _ e).2.2.2.2 hb⟩
theorem LS2.below (h : LS2 w0 R n0 n2 l0 T0 vh5 vt5 fh5 ft5 w) (hb : Below w.heap.size w w') : LS2 w0 R n0 n2 l0 T0 vh5 vt5 fh5 ft5 w' := h.keep (chg_of hb) fun _ h => h.elim
theorem LSt.keep (h : LSt w0 R n0 n1 n2 n3 l0 l1 T0 T1 vh5 vt5 vh9 vt9 fh5 ft5 fh9 ft9 w) (hc : Chg S w w') (hs : ∀ k, S k → w0.heap.size ≤ k ∧ k ≠ n0 ∧ k ≠ n2 ∧ k ∉ fh5 ∧ k ∉ ft5) (hs2 : ∀ k, S k → k ≠ n1 ∧ k ≠ n3 ∧ k ∉ fh9 ∧ k ∉ ft9) :
    LSt w0 R n0 n1 n2 n3 l0 l1 T0 T1 vh5 vt5 vh9 vt9 fh5 ft5 fh9 ft9 w' :=
  ⟨h.s2.keep hc hs, h.k1.chg hc fun e => (hs2 _ e).1 rfl, h.k3.chg hc fun e => (hs2 _ e).2.1 rfl, h.h9.chg hc fun b hb e => (hs2 _ e).2.2.1 hb, h.t9.chg hc fun b hb e => (hs2 _ e).2.2.2 hb⟩
theorem LSt.below (h : LSt w0 R n0 n1 n2 n3 l0 l1 T0 T1 vh5 vt5 vh9 vt9 fh5 ft5 fh9 ft9 w) (hb : Below w.heap.size w w') : LSt w0 R n0 n1 n2 n3 l0 l1 T0 T1 vh5 vt5 vh9 vt9 fh5 ft5 fh9 ft9 w' := h.keep (chg_of hb) (fun _ h => h.elim) (fun _ h => h.elim)
/-- Blocks of an argument's copy, between the two runs. -/
theorem LSt.mark {fp : List Nat} {s4 s5 s8 s9 lo hi : Nat} (h : LSt w0 R n0 n1 n2 n3 l0 l1 T0 T1 vh5 vt5 vh9 vt9 fh5 ft5 fh9 ft9 w) (hc : Chg (fun b => b ∈ fp) w w') (hf : InR fp lo hi) (h5 : InR fh5 s4 s5) (t5 : InR ft5 s4 s5) (h9 : InR fh9 s8 s9) (t9 : InR ft9 s8 s9)
    (q : w0.heap.size ≤ lo ∧ n0 < lo ∧ n2 < lo ∧ s5 ≤ lo ∧ hi ≤ s8 ∧ hi ≤ n3) (q1 : n1 < lo ∨ hi ≤ n1) : LSt w0 R n0 n1 n2 n3 l0 l1 T0 T1 vh5 vt5 vh9 vt9 fh5 ft5 fh9 ft9 w' := by
  obtain ⟨q2, q3, q4, q5, q6, q7⟩ := q
  refine h.keep hc (fun k hk => ?_) (fun k hk => ?_)
  · have := hf k hk
    exact ⟨by omega, by omega, by omega, fun hm => by have := h5 k hm; omega, fun hm => by have := t5 k hm; omega⟩
  · have := hf k hk
    exact ⟨by omega, by omega, fun hm => by have := h9 k hm; omega, fun hm => by have := t9 k hm; omega⟩
theorem LSt.outs {s4 s5 s8 s9 : Nat} (h : LSt w0 R n0 n1 n2 n3 l0 l1 T0 T1 vh5 vt5 vh9 vt9 fh5 ft5 fh9 ft9 w) (hc : Chg (fun b => b ∈ ft9 ∨ b ∈ fh9) w w') (h5 : InR fh5 s4 s5) (t5 : InR ft5 s4 s5) (h9 : InR fh9 s8 s9) (t9 : InR ft9 s8 s9)
    (q : w0.heap.size ≤ s8 ∧ n0 < s8 ∧ n2 < s8 ∧ s5 ≤ s8 ∧ s9 ≤ n3) : LS2 w0 R n0 n2 l0 T0 vh5 vt5 fh5 ft5 w' ∧ Bk n3 51 (wolR R vh9 vt9) w' := by
  obtain ⟨q2, q3, q4, q5, q6⟩ := q
  have hf : ∀ k, k ∈ ft9 ∨ k ∈ fh9 → s8 ≤ k ∧ k < s9 := fun k hk => hk.elim (t9 k) (h9 k)
  refine ⟨h.s2.keep hc fun k hk => ?_, h.k3.chg hc fun hk => by have := hf _ hk; omega⟩
  have := hf k hk
  exact ⟨by omega, by omega, by omega, fun hm => by have := h5 k hm; omega, fun hm => by have := t5 k hm; omega⟩
end
theorem Row.inR {α : Type} {e : TypeId} {d : Kd α} {w : World} {v : Value} {xs : List α} {fp : List Nat} {lo : Nat} (h : Row e d w v xs fp) (hl : ∀ b ∈ fp, lo ≤ b) : InR fp lo w.heap.size := fun b hb => ⟨hl b hb, h.lt b hb⟩
/-- An outcome's five cells. -/
theorem out5 {n : Nat} {R : Outc} {vh vt : Value} {w : World} (h : Bk n 51 (wolR R vh vt) w) : w.cell? ⟨n, 0, none⟩ = some (.int .i64 R.code) ∧ w.cell? ⟨n, 1, none⟩ = some (.int .i64 R.value) ∧ w.cell? ⟨n, 2, none⟩ = some (.int .i64 R.steps) ∧ w.cell? ⟨n, 3, none⟩ = some vt ∧ w.cell? ⟨n, 4, none⟩ = some vh :=
  ⟨h.cell 0 rfl, h.cell 1 rfl, h.cell 2 rfl, h.cell 3 rfl, h.cell 4 rfl⟩
theorem two {n : Nat} {T : TypeId} {a b : Value} {w : World} (h : Bk n T [a, b] w) : w.cell? ⟨n, 0, none⟩ = some a ∧ w.cell? ⟨n, 1, none⟩ = some b := ⟨h.cell 0 rfl, h.cell 1 rfl⟩
/-- A run's trace is no longer than its fuel; its heap has 32 cells. -/
theorem runS_len (Bf : Int → List Instr × Term) (E : Int → Int → Wd → Wd) (hE : ∀ p q s, (E p q s).trace = s.trace ∧ (E p q s).heap = s.heap) : ∀ (n : Nat) (b : Int) (k : Nat) (s : Wd), (runS Bf E n b k s).trace.length ≤ s.trace.length + n ∧ (runS Bf E n b k s).heap.length = s.heap.length
  | 0, b, k, s => by simp [runS, fin]
  | n + 1, b, k, s => by
    unfold runS
    split
    · split
      · simp [fin, step]
      · rename_i s' he
        obtain ⟨e1, e2, e3, e4, e5, e6⟩ := exec_same he
        have := runS_len Bf E hE n b (k + 1) s'
        simp only [step] at e5 e6
        omega
    · split
      · simp [fin, step]
      · have := runS_len Bf E hE n (nextB (Bf b).2 s) 0 (E b (nextB (Bf b).2 s) (step s))
        rw [(hE _ _ _).1, (hE _ _ _).2, show (step s).trace = s.trace from rfl, show (step s).heap = s.heap from rfl] at this
        omega
theorem runMach_len (m : Mach) (args heap : List Int) (fuel : Int) : (runMach m args heap fuel).trace.length ≤ 1048576 ∧ (runMach m args heap fuel).heap.length ≤ 1048576 := by
  unfold runMach
  split
  · rename_i h
    obtain ⟨-, -, h3, h4⟩ := runOK_iff.1 h.2
    have := runS_len (blkM m) (fun _ _ s => s) (fun _ _ _ => ⟨rfl, rfl⟩) fuel.toNat 0 0 (initW args heap fuel m.regs.toNat)
    rw [show (initW args heap fuel m.regs.toNat).trace.length = 0 from rfl, show (initW args heap fuel m.regs.toNat).heap.length = 32 from heap32_len _] at this
    omega
  · simp [badOut]
end Go.Proofs.YtnnfjjgohhicjaaDoor
namespace Go.Proofs.YtnnfjjgohhicjaaDoor
open Go.RowKit
set_option linter.unusedSimpArgs false
set_option linter.unusedVariables false
set_option maxRecDepth 100000

set_option maxHeartbeats 2000000 in
theorem eqMBlock_c (X0 Y0 : Option Addr) (cX0 cY0 : Nat) (x y : MBlock) (w : World) (hx0 : C kInstr w X0 x.instrs) (hy0 : C kInstr w Y0 y.instrs) (lx0 : x.instrs.length ≤ 140737488351232) (ly0 : y.instrs.length ≤ 140737488351232) :
    Calls Tryd.prog 80 #[.agg #[.slice X0 x.instrs.length cX0, .int .i64 x.term.kind, .int .i64 x.term.a, .int .i64 x.term.to, .int .i64 x.term.els], .agg #[.slice Y0 y.instrs.length cY0, .int .i64 y.term.kind, .int .i64 y.term.a, .int .i64 y.term.to, .int .i64 y.term.els]] w fun e w' => e = .returned (.bool (decide (x = y))) ∧ Below w.heap.size w w' := by
  obtain ⟨x0, ⟨x1, x2, x3, x4⟩⟩ := x
  obtain ⟨y0, ⟨y1, y2, y3, y4⟩⟩ := y
  dsimp only at *
  go_enter Tryd.func80, Tryd.ntmps80
  go_wp2_with (first | (go_at_call 105; refine (eqInstrS_c _ _ _ _ _ _ _ (hx0.below (by first | assumption | (repeat (first | (with_reducible first | exact Below.refl _ _ | assumption | exact ext_box _) | (with_reducible apply Below.drew) | ((with_reducible refine Below.setCell ?_ ?hs _); (case hs => first | (simp; done) | (simp; omega) | omega)) | ((with_reducible refine Below.alloc ?_ ?hs _); (case hs => first | (simp; done) | (simp; omega) | omega)))))) (hy0.below (by first | assumption | (repeat (first | (with_reducible first | exact Below.refl _ _ | assumption | exact ext_box _) | (with_reducible apply Below.drew) | ((with_reducible refine Below.setCell ?_ ?hs _); (case hs => first | (simp; done) | (simp; omega) | omega)) | ((with_reducible refine Below.alloc ?_ ?hs _); (case hs => first | (simp; done) | (simp; omega) | omega)))))) lx0 ly0).mono ?_; rintro e w1 ⟨rfl, hb1⟩; have HB1 : Below w.heap.size w w1 := Below.then_ (by first | exact Below.drew ‹Below w.heap.size w _› | assumption | (repeat (first | (with_reducible first | exact Below.refl _ _ | assumption | exact ext_box _) | (with_reducible apply Below.drew) | ((with_reducible refine Below.setCell ?_ ?hs _); (case hs => first | (simp; done) | (simp; omega) | omega)) | ((with_reducible refine Below.alloc ?_ ?hs _); (case hs => first | (simp; done) | (simp; omega) | omega))))) hb1; obtain ⟨hc1, hf1⟩ := bcell hb1; have hz1 := hb1.size) | (go_at_call 106; refine (eqTerm_c ⟨_, _, _, _⟩ ⟨_, _, _, _⟩ _).mono ?_; rintro e w2 ⟨rfl, hb2⟩; have HB2 : Below w.heap.size w w2 := Below.then_ (by first | exact Below.drew ‹Below w.heap.size w _› | assumption | (repeat (first | (with_reducible first | exact Below.refl _ _ | assumption | exact ext_box _) | (with_reducible apply Below.drew) | ((with_reducible refine Below.setCell ?_ ?hs _); (case hs => first | (simp; done) | (simp; omega) | omega)) | ((with_reducible refine Below.alloc ?_ ?hs _); (case hs => first | (simp; done) | (simp; omega) | omega))))) hb2; obtain ⟨hc2, hf2⟩ := bcell hb2; have hz2 := hb2.size))
  all_goals go_ret
  all_goals go_light
  all_goals exact ⟨by first | (simp_all; done) | (simp_all; omega), by first | assumption | (repeat (first | (with_reducible first | exact Below.refl _ _ | assumption | exact ext_box _) | (with_reducible apply Below.drew) | ((with_reducible refine Below.setCell ?_ ?hs _); (case hs => first | (simp; done) | (simp; omega) | omega)) | ((with_reducible refine Below.alloc ?_ ?hs _); (case hs => first | (simp; done) | (simp; omega) | omega))))⟩
set_option maxHeartbeats 2000000 in
theorem eqMBlockS_c (A0 A1 : Option Addr) (c0 c1 : Nat) (xs ys : List MBlock) (w : World) (hx : C (kMB 0) w A0 xs) (hy : C (kMB 0) w A1 ys) (hm : xs.length ≤ 140737488351232) (hm2 : ys.length ≤ 140737488351232) (bx_ : ∀ (i : Nat) z, xs[i]? = some z → z.instrs.length ≤ 140737488351232) (by_ : ∀ (i : Nat) z, ys[i]? = some z → z.instrs.length ≤ 140737488351232) :
    Calls Tryd.prog 46 #[.slice A0 xs.length c0, .slice A1 ys.length c1] w fun e w' => e = .returned (.bool (decide (xs = ys))) ∧ Below w.heap.size w w' := by
  go_enter Tryd.func46, Tryd.ntmps46
  by_cases hl : xs.length = ys.length
  · have hb : ((xs.length : Int) != ys.length) = false := by simp [hl]
    have HL := Lib.hid hl
    clear hl
    go_wp2
    go_loopw [5] (fun i wr => ∃ k : Nat, k ≤ xs.length ∧ i = .int .i64 k ∧ xs.take k = ys.take k ∧ ∃ u : Ext w, wr = u.w) (fun i _ => xs.length - (intOf i).toNat)
    case atStart => exact ⟨0, by omega, rfl, by simp, Ext.self w, rfl⟩
    case round =>
      obtain ⟨k, hk, rfl, ht, u, rfl⟩ := hrel
      have HT := Lib.hid ht
      clear ht
      by_cases hlt : k < xs.length
      · obtain ⟨x, ex⟩ := get_of_lt hlt
        obtain ⟨y, ey⟩ := get_of_lt (HL.out ▸ hlt)
        obtain ⟨a0, _, rfl, ⟨_, _, rfl, ⟨Ax, cx, rfl, lx, rx⟩, rfl⟩, hxc⟩ := hx.at ex
        have P0 := hc5E (n := k * 5) hxc
        have rxE := fun u : Ext w => C.ext rx u
        have mx := bx_ _ _ ex
        clear hxc
        obtain ⟨a1, _, rfl, ⟨_, _, rfl, ⟨Ay, cy, rfl, ly, ry⟩, rfl⟩, hyc⟩ := hy.at ey
        have P1 := hc5E (n := k * 5) hyc
        have ryE := fun u : Ext w => C.ext ry u
        have my := by_ _ _ ey
        clear hyc
        have hlt2 : k < ys.length := HL.out ▸ hlt
        have EX := Lib.hid ex
        have EY := Lib.hid ey
        by_cases he : x = y
        · have hd : decide (x = y) = true := by simp [he]
          have HE := Lib.hid he
          clear he ex ey
          go_wp2
          refine wp_region_ext (W := w) (by kernel_rfl) (by kernel_rfl) ⟨_, rfl⟩ ?_
          repeat quiet_step ((first | (go_at_call 80; exact ext_of (eqMBlock_c _ _ _ _ x y _ (rxE _) (ryE _) mx my))))
          refine wpQuiet_nil ?_
          rintro _ ⟨u, rfl⟩
          go_wp2
          go_roundw
          case rel => exact ⟨k + 1, by omega, by go_num, by rw [take_snoc EX.out, take_snoc EY.out, HT.out, HE.out], _, rfl⟩
          case measure => simp [intOf]; omega
        · have hd : decide (x = y) = false := by simp [he]
          have HE := Lib.hid (show xs ≠ ys by rintro rfl; rw [ex] at ey; injection ey with e; exact he e)
          clear he ex ey
          go_wp2
          refine wp_region_ext (W := w) (by kernel_rfl) (by kernel_rfl) ⟨_, rfl⟩ ?_
          repeat quiet_step ((first | (go_at_call 80; exact ext_of (eqMBlock_c _ _ _ _ x y _ (rxE _) (ryE _) mx my))))
          refine wpQuiet_nil ?_
          rintro _ ⟨u, rfl⟩
          go_wp2
          go_ret
          exact ⟨ret_bool (by simp [HE.out]), u.hb⟩
      · have HR := Lib.hid (show xs = ys by have := HT.out; rwa [List.take_of_length_le (by omega), List.take_of_length_le (by have := HL.out; omega)] at this)
        go_wp2
        go_ret
        exact ⟨ret_bool (by simp [HR.out]), u.hb⟩
  · have hb : ((xs.length : Int) != ys.length) = true := by simp; omega
    have HN := Lib.hid (show xs ≠ ys from fun e => hl (by rw [e]))
    clear hl
    go_wp2
    go_ret
    exact ⟨ret_bool (by simp [HN.out]), Below.refl _ _⟩
end Go.Proofs.YtnnfjjgohhicjaaDoor
namespace Go.Proofs.YtnnfjjgohhicjaaDoor
open Go.RowKit
set_option linter.unusedSimpArgs false
set_option linter.unusedVariables false
set_option maxRecDepth 100000

set_option maxHeartbeats 2000000 in
theorem eqMach_c (X1 Y1 : Option Addr) (cX1 cY1 : Nat) (x y : Mach) (w : World) (hx1 : C (kMB 0) w X1 x.blocks) (hy1 : C (kMB 0) w Y1 y.blocks) (lx1 : x.blocks.length ≤ 140737488351232) (ly1 : y.blocks.length ≤ 140737488351232) (bx_ : ∀ (i : Nat) z, x.blocks[i]? = some z → z.instrs.length ≤ 140737488351232) (by_ : ∀ (i : Nat) z, y.blocks[i]? = some z → z.instrs.length ≤ 140737488351232) :
    Calls Tryd.prog 13 #[.agg #[.int .i64 x.regs, .slice X1 x.blocks.length cX1], .agg #[.int .i64 y.regs, .slice Y1 y.blocks.length cY1]] w fun e w' => e = .returned (.bool (decide (x = y))) ∧ Below w.heap.size w w' := by
  obtain ⟨x0, x1⟩ := x
  obtain ⟨y0, y1⟩ := y
  dsimp only at *
  go_enter Tryd.func13, Tryd.ntmps13
  go_wp2_with (first | (go_at_call 46; refine (eqMBlockS_c _ _ _ _ _ _ _ (hx1.below (by first | assumption | (repeat (first | (with_reducible first | exact Below.refl _ _ | assumption | exact ext_box _) | (with_reducible apply Below.drew) | ((with_reducible refine Below.setCell ?_ ?hs _); (case hs => first | (simp; done) | (simp; omega) | omega)) | ((with_reducible refine Below.alloc ?_ ?hs _); (case hs => first | (simp; done) | (simp; omega) | omega)))))) (hy1.below (by first | assumption | (repeat (first | (with_reducible first | exact Below.refl _ _ | assumption | exact ext_box _) | (with_reducible apply Below.drew) | ((with_reducible refine Below.setCell ?_ ?hs _); (case hs => first | (simp; done) | (simp; omega) | omega)) | ((with_reducible refine Below.alloc ?_ ?hs _); (case hs => first | (simp; done) | (simp; omega) | omega)))))) lx1 ly1 bx_ by_).mono ?_; rintro e w2 ⟨rfl, hb2⟩; have HB2 : Below w.heap.size w w2 := Below.then_ (by first | exact Below.drew ‹Below w.heap.size w _› | assumption | (repeat (first | (with_reducible first | exact Below.refl _ _ | assumption | exact ext_box _) | (with_reducible apply Below.drew) | ((with_reducible refine Below.setCell ?_ ?hs _); (case hs => first | (simp; done) | (simp; omega) | omega)) | ((with_reducible refine Below.alloc ?_ ?hs _); (case hs => first | (simp; done) | (simp; omega) | omega))))) hb2; obtain ⟨hc2, hf2⟩ := bcell hb2; have hz2 := hb2.size))
  all_goals go_ret
  all_goals go_light
  all_goals exact ⟨by first | (simp_all; done) | (simp_all; omega), by first | assumption | (repeat (first | (with_reducible first | exact Below.refl _ _ | assumption | exact ext_box _) | (with_reducible apply Below.drew) | ((with_reducible refine Below.setCell ?_ ?hs _); (case hs => first | (simp; done) | (simp; omega) | omega)) | ((with_reducible refine Below.alloc ?_ ?hs _); (case hs => first | (simp; done) | (simp; omega) | omega))))⟩
theorem szL_mem {α : Type} {f : α → Int → Int} (hf : ∀ x l, 0 ≤ l → f x l ≤ l ∧ -1 ≤ f x l) : ∀ (xs : List α) (l : Int), 0 ≤ l → 0 ≤ szL f xs l → ∀ x ∈ xs, ∃ q, 0 ≤ q ∧ q ≤ l ∧ 0 ≤ f x q
  | [], _, _, _, x, hx => by simp at hx
  | y :: r, l, hl, h, x, hx => by
    simp only [szL] at h
    have h1 := hf y l hl
    split at h
    · omega
    · rcases List.mem_cons.1 hx with rfl | hx
      · exact ⟨l, hl, by omega, by omega⟩
      · obtain ⟨q, q0, q1, q2⟩ := szL_mem hf r (f y l) (by omega) h x hx
        exact ⟨q, q0, by omega, q2⟩
theorem szMach_len {m : Mach} {l : Int} (h0 : 0 ≤ l) (h : ¬ szMach m l < 0) : (m.blocks.length : Int) ≤ l ∧ ∀ (i : Nat) b, m.blocks[i]? = some b → (b.instrs.length : Int) ≤ l := by
  simp only [szMach, szS] at h
  have h1 := szN_le m.blocks.length l h0
  split at h
  · omega
  · rename_i hn
    refine ⟨by simp only [szN] at hn; split at hn <;> omega, fun i b hb => ?_⟩
    obtain ⟨q, q0, q1, q2⟩ := szL_mem (f := szMB) (fun x l h => szMB_le x l h) m.blocks (szN m.blocks.length l) (by omega) (by omega) b (List.mem_of_getElem? hb)
    simp only [szMB, szN] at q2
    split at q2 <;> omega
set_option maxHeartbeats 4000000 in
theorem lawValidMach_c (A : Option Addr) (c : Nat) (m : Mach) (w : World) (hx : C (kMB 0) w A m.blocks) (hS : Shapes w) (hn : m.blocks.length ≤ 9223372036854775807) (hm : ∀ (i : Nat) b, m.blocks[i]? = some b → b.instrs.length ≤ 9223372036854775807) :
    Calls Tryd.prog 3 #[.agg #[.int .i64 m.regs, .slice A m.blocks.length c]] w fun e w' => e = .returned (.bool true) ∧ Below w.heap.size w w' := by
  by_cases hz : szMach m 1048576 < 0
  · have HSZ := Lib.hid (fun W (h : C (kMB 0) W A m.blocks) => szMach_c A c m 1048576 W h hn hm (by omega) (by omega))
    go_enter Tryd.func3, Tryd.ntmps3
    go_wp2_with (go_at_call 9; refine (HSZ.out _ (hx.below (by repeat (first | (with_reducible first | exact Below.refl _ _ | assumption | exact ext_box _) | (with_reducible apply Below.drew) | ((with_reducible refine Below.setCell ?_ ?hs _); (case hs => first | (simp; done) | (simp; omega) | omega)) | ((with_reducible refine Below.alloc ?_ ?hs _); (case hs => first | (simp; done) | (simp; omega) | omega)))))).mono ?_; rintro e w1 ⟨rfl, hb1⟩; have HB1 := Below.then_ (w := w) (by repeat (first | (with_reducible first | exact Below.refl _ _ | assumption | exact ext_box _) | (with_reducible apply Below.drew) | ((with_reducible refine Below.setCell ?_ ?hs _); (case hs => first | (simp; done) | (simp; omega) | omega)) | ((with_reducible refine Below.alloc ?_ ?hs _); (case hs => first | (simp; done) | (simp; omega) | omega)))) hb1)
    go_ret
    exact ⟨rfl, HB1⟩
  · have HSZ := Lib.hid (fun W (h : C (kMB 0) W A m.blocks) => szMach_c A c m 1048576 W h hn hm (by omega) (by omega))
    have HB := Lib.hid (szMach_len (by omega) hz)
    go_enter Tryd.func3, Tryd.ntmps3
    have hbl : m.blocks.length ≤ 1048576 := by have := HB.out.1; omega
    have HIL := Lib.hid (show ∀ (i : Nat) b, m.blocks[i]? = some b → b.instrs.length ≤ 1048576 from fun i b h => by have := HB.out.2 i b h; omega)
    have HTO := Lib.hid (fun W (h : C (kMB 0) W A m.blocks) => toMach_c A c m W h hbl HIL.out)
    have HSV := Lib.hid (fun A c W (h : C (kMB 0) W A m.blocks) => validMachS_c A c m W h hbl HIL.out)
    go_upto_region 6 with (first
      | (go_at_call 9; refine (HSZ.out _ (hx.below (by repeat (first | (with_reducible first | exact Below.refl _ _ | assumption | exact ext_box _) | (with_reducible apply Below.drew) | ((with_reducible refine Below.setCell ?_ ?hs _); (case hs => first | (simp; done) | (simp; omega) | omega)) | ((with_reducible refine Below.alloc ?_ ?hs _); (case hs => first | (simp; done) | (simp; omega) | omega)))))).mono ?_; rintro e w1 ⟨rfl, hb1⟩; have HB1 := Below.then_ (w := w) (by repeat (first | (with_reducible first | exact Below.refl _ _ | assumption | exact ext_box _) | (with_reducible apply Below.drew) | ((with_reducible refine Below.setCell ?_ ?hs _); (case hs => first | (simp; done) | (simp; omega) | omega)) | ((with_reducible refine Below.alloc ?_ ?hs _); (case hs => first | (simp; done) | (simp; omega) | omega)))) hb1; obtain ⟨hc1, hf1⟩ := bcell hb1; have zw1 : w.heap.size < w1.heap.size := (by have := hb1.size; (try simp at this); omega))
      | (go_at_call 11; refine (HTO.out _ (hx.below (by assumption))).mono ?_; rintro e w2 ⟨v2, fp2, rfl, r2, -, hb2⟩; obtain ⟨A2, c2, rfl, hl2⟩ := r2.form; have HR2 : Hid (C (kMB 0) w2 A2 m.blocks) := Lib.hid r2.reads; clear r2; have HB2 := Below.then_ (w := w) (by assumption) hb2; obtain ⟨hc2, hf2⟩ := bcell hb2; have zw2 : w.heap.size < w2.heap.size := (by have := hb2.size; (try simp at this); omega))
      | (go_at_call 10; refine (HSV.out _ _ _ HR2.out).mono ?_; rintro e w3 ⟨rfl, hb3⟩; have HB3 := Below.then_ (w := w) (by assumption) hb3; obtain ⟨hc3, hf3⟩ := bcell hb3; have zw3 : w.heap.size < w3.heap.size := (by have := hb3.size; (try simp at this); omega)))
    have HIV := Lib.hid (fun A c W (h : C (kMB 0) W A m.blocks) (h2 : Below w.heap.size w W) => validMach_i A c m W h (hS.below h2 hS.pos) hbl HIL.out)
    go_upto_region 10 with (first
      | (go_at_call 11; refine (HTO.out _ (hx.below (by assumption))).mono ?_; rintro e w4 ⟨v4, fp4, rfl, r4, -, hb4⟩; obtain ⟨A4, c4, rfl, hl4⟩ := r4.form; have HR4 : Hid (C (kMB 0) w4 A4 m.blocks) := Lib.hid r4.reads; clear r4; have HB4 := Below.then_ (w := w) (by assumption) hb4; obtain ⟨hc4, hf4⟩ := bcell hb4; have zw4 : w.heap.size < w4.heap.size := (by have := hb4.size; (try simp at this); omega))
      | (go_at_call 12; refine (HIV.out _ _ _ (HR4.out.below (by repeat (first | (with_reducible first | exact Below.refl _ _ | assumption | exact ext_box _) | (with_reducible apply Below.drew) | ((with_reducible refine Below.setCell ?_ ?hs _); (case hs => first | (simp; done) | (simp; omega) | omega)) | ((with_reducible refine Below.alloc ?_ ?hs _); (case hs => first | (simp; done) | (simp; omega) | omega))))) (by repeat (first | (with_reducible first | exact Below.refl _ _ | assumption | exact ext_box _) | (with_reducible apply Below.drew) | ((with_reducible refine Below.setCell ?_ ?hs _); (case hs => first | (simp; done) | (simp; omega) | omega)) | ((with_reducible refine Below.alloc ?_ ?hs _); (case hs => first | (simp; done) | (simp; omega) | omega))))).mono ?_; rintro e w5 ⟨rfl, hb5⟩; have HB5 := Below.then_ (w := w) (by repeat (first | (with_reducible first | exact Below.refl _ _ | assumption | exact ext_box _) | (with_reducible apply Below.drew) | ((with_reducible refine Below.setCell ?_ ?hs _); (case hs => first | (simp; done) | (simp; omega) | omega)) | ((with_reducible refine Below.alloc ?_ ?hs _); (case hs => first | (simp; done) | (simp; omega) | omega)))) hb5; have HR5 := Lib.hid ((HR4.out.below (by repeat (first | (with_reducible first | exact Below.refl _ _ | assumption | exact ext_box _) | (with_reducible apply Below.drew) | ((with_reducible refine Below.setCell ?_ ?hs _); (case hs => first | (simp; done) | (simp; omega) | omega)) | ((with_reducible refine Below.alloc ?_ ?hs _); (case hs => first | (simp; done) | (simp; omega) | omega))))).below hb5); obtain ⟨hc5, hf5⟩ := bcell hb5; have zv5 : w4.heap.size < w5.heap.size := (by have := hb5.size; (try simp at this); omega); have zw5 : w.heap.size < w5.heap.size := (by have := hb5.size; (try simp at this); omega)))
    have HEQ := Lib.hid (fun A0 A1 c0 c1 W (h : C (kMB 0) W A0 m.blocks) (h2 : C (kMB 0) W A1 m.blocks) => eqMach_c A0 A1 c0 c1 m m W h h2 (by omega) (by omega) (fun i b hb => by have := HIL.out i b hb; omega) (fun i b hb => by have := HIL.out i b hb; omega))
    have y0 : w5.cell? ⟨w4.heap.size, 0, none⟩ = some (.int .i64 m.regs) := by simp [*]
    have y1 : w5.cell? ⟨w4.heap.size, 1, none⟩ = some (.slice A4 m.blocks.length c4) := by simp [*]
    have y2 : w5.cell? ⟨w.heap.size, 0, none⟩ = some (.int .i64 m.regs) := (hc5 _ _ (by simp; omega)).trans ((((Below.refl _ w4).alloc (Nat.le_refl _) _).cell zw4).trans ((hc4 _ _ zw3).trans ((hc3 _ _ zw2).trans ((hc2 _ _ zw1).trans ((hc1 _ _ (by simp)).trans (by simp))))))
    have y3 : w5.cell? ⟨w.heap.size, 1, none⟩ = some (.slice A m.blocks.length c) := (hc5 _ _ (by simp; omega)).trans ((((Below.refl _ w4).alloc (Nat.le_refl _) _).cell zw4).trans ((hc4 _ _ zw3).trans ((hc3 _ _ zw2).trans ((hc2 _ _ zw1).trans ((hc1 _ _ (by simp)).trans (by simp))))))
    have KS := Lib.hid (fun w' (h : Below w5.heap.size w5 w') => (⟨(h.cell zv5).trans y0, (h.cell zv5).trans y1, (h.cell zw5).trans y2, (h.cell zw5).trans y3, h⟩ : w'.cell? ⟨w4.heap.size, 0, none⟩ = some (.int .i64 m.regs) ∧ w'.cell? ⟨w4.heap.size, 1, none⟩ = some (.slice A4 m.blocks.length c4) ∧ w'.cell? ⟨w.heap.size, 0, none⟩ = some (.int .i64 m.regs) ∧ w'.cell? ⟨w.heap.size, 1, none⟩ = some (.slice A m.blocks.length c) ∧ Below w5.heap.size w5 w'))
    go_region_held3 (fun w' => w'.cell? ⟨w4.heap.size, 0, none⟩ = some (.int .i64 m.regs) ∧ w'.cell? ⟨w4.heap.size, 1, none⟩ = some (.slice A4 m.blocks.length c4) ∧ w'.cell? ⟨w.heap.size, 0, none⟩ = some (.int .i64 m.regs) ∧ w'.cell? ⟨w.heap.size, 1, none⟩ = some (.slice A m.blocks.length c) ∧ Below w5.heap.size w5 w') ((refine KS.out _ ?_; (repeat (first | (with_reducible first | exact Below.refl _ _ | assumption | exact ext_box _) | (with_reducible apply Below.drew) | ((with_reducible refine Below.setCell ?_ ?hs _); (case hs => first | (simp; done) | (simp; omega) | omega)) | ((with_reducible refine Below.alloc ?_ ?hs _); (case hs => first | (simp; done) | (simp; omega) | omega))))))
      (first
      | (go_at_call 11; refine (HTO.out _ (hx.below (Below.then_ HB5 (by (repeat (first | (with_reducible first | exact Below.refl _ _ | assumption | exact ext_box _) | (with_reducible apply Below.drew) | ((with_reducible refine Below.setCell ?_ ?hs _); (case hs => first | (simp; done) | (simp; omega) | omega)) | ((with_reducible refine Below.alloc ?_ ?hs _); (case hs => first | (simp; done) | (simp; omega) | omega)))))))).mono ?_; rintro e w6 ⟨v6, fp6, rfl, r6, -, hb6⟩; obtain ⟨A6, c6, rfl, hl6⟩ := r6.form; have HR6 : Hid (C (kMB 0) w6 A6 m.blocks) := Lib.hid r6.reads; clear r6; have HR65 := Lib.hid (HR5.out.below (Below.then_ (by repeat (first | (with_reducible first | exact Below.refl _ _ | assumption | exact ext_box _) | (with_reducible apply Below.drew) | ((with_reducible refine Below.setCell ?_ ?hs _); (case hs => first | (simp; done) | (simp; omega) | omega)) | ((with_reducible refine Below.alloc ?_ ?hs _); (case hs => first | (simp; done) | (simp; omega) | omega)))) hb6)); have HB6 := Below.then_ (w := w5) (by repeat (first | (with_reducible first | exact Below.refl _ _ | assumption | exact ext_box _) | (with_reducible apply Below.drew) | ((with_reducible refine Below.setCell ?_ ?hs _); (case hs => first | (simp; done) | (simp; omega) | omega)) | ((with_reducible refine Below.alloc ?_ ?hs _); (case hs => first | (simp; done) | (simp; omega) | omega)))) hb6)
      | (go_at_call 13; refine (HEQ.out _ _ _ _ _ (HR65.out.below (by repeat (first | (with_reducible first | exact Below.refl _ _ | assumption | exact ext_box _) | (with_reducible apply Below.drew) | ((with_reducible refine Below.setCell ?_ ?hs _); (case hs => first | (simp; done) | (simp; omega) | omega)) | ((with_reducible refine Below.alloc ?_ ?hs _); (case hs => first | (simp; done) | (simp; omega) | omega))))) (HR6.out.below (by repeat (first | (with_reducible first | exact Below.refl _ _ | assumption | exact ext_box _) | (with_reducible apply Below.drew) | ((with_reducible refine Below.setCell ?_ ?hs _); (case hs => first | (simp; done) | (simp; omega) | omega)) | ((with_reducible refine Below.alloc ?_ ?hs _); (case hs => first | (simp; done) | (simp; omega) | omega)))))).mono ?_; rintro e w7 ⟨rfl, hb7⟩; have HB7 := Below.then_ (w := w5) (by repeat (first | (with_reducible first | exact Below.refl _ _ | assumption | exact ext_box _) | (with_reducible apply Below.drew) | ((with_reducible refine Below.setCell ?_ ?hs _); (case hs => first | (simp; done) | (simp; omega) | omega)) | ((with_reducible refine Below.alloc ?_ ?hs _); (case hs => first | (simp; done) | (simp; omega) | omega)))) hb7))
    all_goals go_wp2
    all_goals go_ret
    all_goals exact ⟨rfl, Below.trans HB5 (Below.mono (by (repeat (first | (with_reducible first | exact Below.refl _ _ | assumption | exact ext_box _) | (with_reducible apply Below.drew) | ((with_reducible refine Below.setCell ?_ ?hs _); (case hs => first | (simp; done) | (simp; omega) | omega)) | ((with_reducible refine Below.alloc ?_ ?hs _); (case hs => first | (simp; done) | (simp; omega) | omega))))) (by omega))⟩
end Go.Proofs.YtnnfjjgohhicjaaDoor
