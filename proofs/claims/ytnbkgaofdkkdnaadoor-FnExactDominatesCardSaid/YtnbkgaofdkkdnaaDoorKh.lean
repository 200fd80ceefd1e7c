/- Contracts: impl.fieldOK, instrOK, Term.reads, termOK -/
import Derived.Test.YtnbkgaofdkkdnaaDoorKv
import Derived.Outline
namespace Go.Proofs.YtnbkgaofdkkdnaaDoor
open Go.RowKit
set_option linter.unusedSimpArgs false
set_option linter.unusedVariables false
set_option maxRecDepth 100000

/-- The table impl.shapes (variable 0), as it lies in memory. -/
def shapeV (op : Nat) : List Value := [.bool (usedD op), .bool (usedA op), .bool (usedB op), .bool (usedI op)]
def Shapes (w : World) : Prop := ∀ op : Nat, op < 14 → ∀ (j : Nat) (v : Value), (shapeV op)[j]? = some v → w.cell? ⟨0, op * 4 + j, none⟩ = some v
theorem Shapes.keep {w w' : World} (h : Shapes w) (hk : w'.heap[0]? = w.heap[0]?) : Shapes w' := fun op ho j v hv => (World.cell?_of_block (w := w) (a := ⟨0, op * 4 + j, none⟩) hk).trans (h op ho j v hv)
theorem Shapes.pos {w : World} (h : Shapes w) : 0 < w.heap.size := by
  have := World.block_lt_of_cell? w _ (h 0 (by omega) 0 _ rfl)
  exact this
theorem Shapes.below {B : Nat} {w w' : World} (h : Shapes w) (hb : Below B w w') (hB : 0 < B) : Shapes w' := h.keep (hb.block 0 hB)
theorem Shapes.ext {W : World} (h : Shapes W) (u : Ext W) : Shapes u.w := h.below u.hb h.pos

theorem fieldOK_c (u : Bool) (x n : Int) (w : World) (h0 : 0 ≤ n) (h1 : n ≤ 1000000) : Calls Tryd.prog 96 #[.bool u, .int .i64 x, .int .i64 n] w fun e w' => e = .returned (.bool (decide (Fld u x n))) ∧ w = w' := by
  cases u
  all_goals go_enter Tryd.func96, Tryd.ntmps96
  all_goals go_wp2_with (go_at_call 31; (with_reducible refine (within_c _ _ _ _).mono ?_); rintro e w1 ⟨rfl, rfl⟩)
  all_goals go_ret
  all_goals go_light
  all_goals exact ⟨ret_bool (by rw [Bool.eq_iff_iff]; simp [Fld]; try omega), rfl⟩
theorem reads_c (t : Term) (w : World) : Calls Tryd.prog 77 #[t.v] w fun e w' => e = .returned (.bool (decide (t.kind ≠ 1))) ∧ Below w.heap.size w w' := by
  obtain ⟨k, a, to, els⟩ := t
  simp only [Term.v]
  go_enter Tryd.func77, Tryd.ntmps77
  go_wp2
  go_ret
  exact ⟨ret_bool (by rw [Bool.eq_iff_iff]; simp), by repeat (first | exact Below.refl _ _ | apply Below.drew | refine Below.alloc ?_ (by simp) _)⟩

set_option maxHeartbeats 4000000 in
theorem termOK_c (t : Term) (n low blocks : Int) (w : World) (h0 : 0 ≤ n) (h1 : n ≤ 1000000) (h2 : 0 ≤ blocks) (h3 : blocks ≤ 140737488351232) : Calls Tryd.prog 63 #[t.v, .int .i64 n, .int .i64 low, .int .i64 blocks] w fun e w' => e = .returned (.bool (goodTerm t n low blocks)) ∧ Below w.heap.size w w' := by
  obtain ⟨k, a, to, els⟩ := t
  have hbox := fun u j => box_cell w #[.int .i64 k, .int .i64 a, .int .i64 to, .int .i64 els] 102 u j
  by_cases hk : 1 ≤ k ∧ k ≤ 3
  · have hd : decide (1 ≤ k ∧ k ≤ 3) = true := by simpa using hk
    cases hbf : decide (Fld (!decide (k = 1)) a n)
    all_goals
      have HF := Lib.hid hbf
      simp only [Term.v]
      go_enter Tryd.func63, Tryd.ntmps63
      go_wp2
      refine wp_region_ext (by kernel_rfl) (by kernel_rfl) ⟨Ext.self _, rfl⟩ ?_
      repeat quiet_step ((first | (go_at_call 31; exact ext_same (within_c _ _ _ _)) | (go_at_call 77; exact ext_of (reads_c ⟨k, a, to, els⟩ _)) | (go_at_call 96; exact ext_same (fieldOK_c _ _ _ _ h0 h1))))
      refine wpQuiet_nil ?_
      rintro _ ⟨u, rfl⟩
      obtain ⟨q0, q1, q2, q3, -⟩ := box_at u
      clear hd hbf hbox
      go_wp2_with (first | (go_at_call 31; (with_reducible refine (within_c _ _ _ _).mono ?_); rintro e w1 ⟨rfl, rfl⟩))
      all_goals go_ret
      all_goals go_light
      all_goals
        refine ⟨ret_bool ?_, ext_box _⟩
        have hf := HF.out
        clear HF q0 q1 q2 q3
        rw [Bool.eq_iff_iff, goodTerm_iff]
        simp only [GoodTerm, Fld, decide_eq_true_eq, Bool.and_eq_true, Bool.or_eq_true, Bool.and_eq_false_iff, Bool.or_eq_false_iff, beq_iff_eq, beq_eq_false_iff_ne, bne_iff_ne, bne_eq_false_iff_eq, ne_eq, Bool.false_eq_true, Bool.true_eq_false, Bool.not_eq_true, Bool.not_eq_true', Bool.not_eq_eq_eq_not, Bool.not_true, Bool.not_false, Bool.not_eq_false, decide_eq_false_iff_not, reduceCtorEq, true_and, and_true, false_and, or_false, false_or, and_false, true_or, or_true, false_iff, true_iff, not_false_eq_true, not_true_eq_false, Decidable.not_not] at *
        omega
  · have hd : decide (1 ≤ k ∧ k ≤ 3) = false := by simpa using hk
    have HK := Lib.hid (show ¬ GoodTerm ⟨k, a, to, els⟩ n low blocks by simp only [GoodTerm]; omega)
    clear hk
    simp only [Term.v]
    go_enter Tryd.func63, Tryd.ntmps63
    go_wp2
    refine wp_region_ext (by kernel_rfl) (by kernel_rfl) ⟨Ext.self _, rfl⟩ ?_
    repeat quiet_step ((first | (go_at_call 31; exact ext_same (within_c _ _ _ _))))
    refine wpQuiet_nil ?_
    rintro _ ⟨u, rfl⟩
    go_wp2
    go_ret
    exact ⟨ret_bool (by simp [goodTerm, HK.out]), ext_box _⟩
end Go.Proofs.YtnbkgaofdkkdnaaDoor
