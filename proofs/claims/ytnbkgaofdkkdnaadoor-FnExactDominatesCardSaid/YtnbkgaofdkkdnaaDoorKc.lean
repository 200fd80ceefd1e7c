/- Contracts: the laws' copies (laws.to..). -/
import Derived.Test.YtnbkgaofdkkdnaaDoorKt
import Derived.Test.YtnbkgaofdkkdnaaDoorKr
namespace Go.Proofs.YtnbkgaofdkkdnaaDoor
open Go.RowKit
set_option linter.unusedSimpArgs false
set_option linter.unusedVariables false
set_option maxRecDepth 100000

theorem info_instr : (Tryd.prog.info? 107).map (fun i => (i.zero, i.size, i.bytes)) = some (some (.agg #[.int .i64 0, .int .i64 0, .int .i64 0, .int .i64 0, .int .i64 0]), 5, 40) := by kernel_rfl
theorem toInstr_c (x : Instr) (w : World) : Calls Tryd.prog 108 #[x.v] w fun e w' => e = .returned (.agg #[.int .i64 x.op, .int .i64 x.dst, .int .i64 x.a, .int .i64 x.b, .int .i64 x.imm]) ∧ Below w.heap.size w w' := by
  obtain ⟨a0, a1, a2, a3, a4⟩ := x
  simp only [Instr.v]
  go_enter Tryd.func108, Tryd.ntmps108
  go_wp2
  exact bodyPost_ret (v := .agg #[.int .i64 a0, .int .i64 a1, .int .i64 a2, .int .i64 a3, .int .i64 a4]) (by simp [results, Tryd.results108, go_sem]) rfl ⟨rfl, (by repeat (first | (with_reducible first | exact Below.refl _ _ | assumption | exact ext_box _) | (with_reducible apply Below.drew) | ((with_reducible refine Below.setCell ?_ ?hs _); (case hs => first | (simp; done) | (simp; omega) | omega)) | ((with_reducible refine Below.alloc ?_ ?hs _); (case hs => first | (simp; done) | (simp; omega) | omega))))⟩

theorem slot_k {α β : Type} {xs : List α} {ys : List β} {k : Nat} {z : β} (h : k < xs.length) (hy : ys.length = k) : (ys ++ List.replicate (xs.length - k) z)[k]? = some z := by
  rw [List.getElem?_append_right (by omega), List.getElem?_replicate, if_pos (by omega)]
theorem slot_set {α : Type} {xs : List α} {k : Nat} {z x : α} (h : k < xs.length) (hx : xs[k]? = some x) : (xs.take k ++ List.replicate (xs.length - k) z).set k x = xs.take (k + 1) ++ List.replicate (xs.length - (k + 1)) z := by
  have hl : (xs.take k).length = k := List.length_take_of_le (by omega)
  rw [List.set_append_right _ _ (by omega), hl, Nat.sub_self, show xs.length - k = (xs.length - (k + 1)) + 1 by omega, List.replicate_succ, List.set_cons_zero, take_snoc hx]
  simp
theorem slot_len {α : Type} {xs : List α} {k : Nat} {z : α} (h : k ≤ xs.length) : (xs.take k ++ List.replicate (xs.length - k) z).length = xs.length := by simp; omega
set_option maxHeartbeats 1000000 in
theorem toInstrS_c (A : Option Addr) (c : Nat) (xs : List Instr) (w : World) (hx : C kInstr w A xs) (hm : xs.length ≤ 1048576) :
    Calls Tryd.prog 94 #[.slice A xs.length c] w (RetRow 107 kInstr w xs) := by
  obtain ⟨i0, hi, hz0, hz1, hz2⟩ := info_parts info_instr
  go_enter Tryd.func94, Tryd.ntmps94
  go_wp2_with (at_make; refine wpList_make_full _ rfl _ _ 101 rfl 0 107 i0 _ 5 Tryd.underlying101 hi hz0 hz1 _ _ _ _ xs.length rfl rfl rfl rfl (by rw [hz2]; omega) (by simp [maxLen]; omega) (Nat.zero_le _) ?_; intro w1 ho hg)
  have hR := Lib.hid (Row.made (d := kInstr) (z := ⟨0, 0, 0, 0, 0⟩) (zc := [.int .i64 0, .int .i64 0, .int .i64 0, .int .i64 0, .int .i64 0]) ho (by decide) ⟨rfl, rfl⟩)
  have hB : Below w.heap.size w w1 := (Below.refl _ _).grown hg (Nat.le_refl _) (by simp)
  go_loopw [4] (fun i wr => ∃ (k : Nat) (fp : List Nat), k ≤ xs.length ∧ i = .int .i64 k ∧ Row 107 kInstr wr (.slice (some ⟨w.heap.size, 0, none⟩) xs.length xs.length) (xs.take k ++ List.replicate (xs.length - k) ⟨0, 0, 0, 0, 0⟩) fp ∧ (∀ b ∈ fp, w.heap.size ≤ b) ∧ ∃ u : Ext w, wr = u.w) (fun i _ => xs.length - (intOf i).toNat)
  case atStart => exact ⟨0, _, by omega, rfl, hR.out, by simp, ⟨w1, hB⟩, rfl⟩
  case round =>
    obtain ⟨k, fp, hk, rfl, hr, hfp, u, rfl⟩ := hrel
    have HR := Lib.hid hr
    have HF := Lib.hid hfp
    clear hr hfp ho hR
    by_cases hlt : k < xs.length
    · obtain ⟨x, ex⟩ := get_of_lt hlt
      obtain ⟨a, _, rfl, rfl, hc⟩ := (hx.ext u).at ex
      obtain ⟨p0, p1, p2, p3, p4⟩ := hc5 (n := k * 5) hc
      clear hc
      have EX := Lib.hid ex
      clear ex
      go_wp2_with (go_at_call 108; refine (toInstr_c x _).mono ?_; rintro e w2 ⟨rfl, hb⟩; have HR2 := Lib.hid (HR.out.keep fun b hb' => hb.block b (HR.out.lt b hb')); obtain ⟨_, rfl, hq, hfz⟩ := HR2.out.cellsAt (slot_len hk) (i := k) (x := ⟨0, 0, 0, 0, 0⟩) (slot_k hlt (by simp; omega)); obtain ⟨q0, q1, q2, q3, q4⟩ := ha5 (n := k * 5) hq; have f0 := hfz (k * 5); have f1 := hfz (k * 5 + 1); have f2 := hfz (k * 5 + 2); have f3 := hfz (k * 5 + 3); have f4 := hfz (k * 5 + 4); clear hq hfz)
      obtain ⟨fp', hr', hf', hC⟩ := HR2.out.set (slot_len hk) (i := k) hlt (y := x) ⟨rfl, rfl⟩ (by simp)
      rw [show k * kInstr.sz = k * 5 from rfl, setCells5] at hr' hC
      rw [slot_set hlt EX.out] at hr'
      go_roundw
      case rel => exact ⟨k + 1, fp', by omega, by go_num, hr', fun b hb' => HF.out b ((hf' b hb').resolve_right (by simp)), ⟨_, (Below.then_ u.hb hb).trans (hC.below (by have := u.hb.size; have := hb.size; omega) fun b hb' => by omega)⟩, rfl⟩
      case measure => simp [intOf]; omega
    · go_wp2
      go_ret
      refine ⟨_, fp, rfl, ?_, HF.out, u.hb⟩
      have := HR.out
      rwa [List.take_of_length_le (by omega), show xs.length - k = 0 by omega, List.replicate_zero, List.append_nil] at this

theorem toTerm_c (t : Term) (w : World) : Calls Tryd.prog 95 #[t.v] w fun e w' => e = .returned (.agg #[.int .i64 t.kind, .int .i64 t.a, .int .i64 t.to, .int .i64 t.els]) ∧ Below w.heap.size w w' := by
  obtain ⟨a0, a1, a2, a3⟩ := t
  simp only [Term.v]
  go_enter Tryd.func95, Tryd.ntmps95
  go_wp2
  exact bodyPost_ret (v := .agg #[.int .i64 a0, .int .i64 a1, .int .i64 a2, .int .i64 a3]) (by simp [results, Tryd.results95, go_sem]) rfl ⟨rfl, (by repeat (first | (with_reducible first | exact Below.refl _ _ | assumption | exact ext_box _) | (with_reducible apply Below.drew) | ((with_reducible refine Below.setCell ?_ ?hs _); (case hs => first | (simp; done) | (simp; omega) | omega)) | ((with_reducible refine Below.alloc ?_ ?hs _); (case hs => first | (simp; done) | (simp; omega) | omega))))⟩
end Go.Proofs.YtnbkgaofdkkdnaaDoor
