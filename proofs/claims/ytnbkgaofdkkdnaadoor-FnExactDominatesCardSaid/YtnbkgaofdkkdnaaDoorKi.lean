/- Contracts: impl.instrOK -/
import Derived.Test.YtnbkgaofdkkdnaaDoorKh
namespace Go.Proofs.YtnbkgaofdkkdnaaDoor
open Go.RowKit
set_option linter.unusedSimpArgs false
set_option linter.unusedVariables false
set_option maxRecDepth 100000

set_option maxHeartbeats 4000000 in
theorem instrOK_c (x : Instr) (last n : Int) (w : World) (hS : Shapes w) (h0 : 0 ≤ n) (h1 : n ≤ 1000000) (hl : last ≤ 13) : Calls Tryd.prog 65 #[x.v, .int .i64 last, .int .i64 n] w fun e w' => e = .returned (.bool (goodInstr x n last)) ∧ Below w.heap.size w w' := by
  obtain ⟨op, dst, a, b, imm⟩ := x
  by_cases hk : 1 ≤ op ∧ op ≤ last
  · have hd : decide (1 ≤ op ∧ op ≤ last) = true := by simpa using hk
    obtain ⟨k, rfl⟩ : ∃ k : Nat, op = k := ⟨op.toNat, by omega⟩
    have hk14 : k < 14 := by omega
    have s0 : w.cell? ⟨0, k * 4, none⟩ = some (.bool (usedD k)) := hS k hk14 0 _ rfl
    have s1 : w.cell? ⟨0, k * 4 + 1, none⟩ = some (.bool (usedA k)) := hS k hk14 1 _ rfl
    have s2 : w.cell? ⟨0, k * 4 + 2, none⟩ = some (.bool (usedB k)) := hS k hk14 2 _ rfl
    have s3 : w.cell? ⟨0, k * 4 + 3, none⟩ = some (.bool (usedI k)) := hS k hk14 3 _ rfl
    have hp := hS.pos
    simp only [Instr.v]
    go_enter Tryd.func65, Tryd.ntmps65
    go_wp2_with (first | (go_at_call 31; (with_reducible refine (within_c _ _ _ _).mono ?_); rintro e w1 ⟨rfl, rfl⟩) | (go_at_call 96; (with_reducible refine (fieldOK_c _ _ _ _ h0 h1).mono ?_); rintro e w1 ⟨rfl, rfl⟩))
    all_goals go_ret
    all_goals go_light
    all_goals
      refine ⟨ret_bool ?_, ?_⟩
      · clear s0 s1 s2 s3
        rw [Bool.eq_iff_iff, goodInstr_iff]
        simp only [GoodInstr, ImmOK, decide_eq_true_eq, Bool.and_eq_true, Bool.or_eq_true, Bool.and_eq_false_iff, Bool.or_eq_false_iff, beq_iff_eq, beq_eq_false_iff_ne, bne_iff_ne, bne_eq_false_iff_eq, ne_eq, Bool.false_eq_true, Bool.true_eq_false, Bool.not_eq_true, Bool.not_eq_true', Bool.not_eq_eq_eq_not, Bool.not_true, Bool.not_false, Bool.not_eq_false, decide_eq_false_iff_not, reduceCtorEq, true_and, and_true, false_and, or_false, false_or, and_false, true_or, or_true, false_iff, true_iff, not_false_eq_true, not_true_eq_false, Decidable.not_not] at *
        try simp only [eq_true (‹Fld (usedD (k : Int)) dst n›)]
        try simp only [eq_true (‹Fld (usedA (k : Int)) a n›)]
        try simp only [eq_true (‹Fld (usedB (k : Int)) b n›)]
        try simp only [eq_false (‹¬ Fld (usedD (k : Int)) dst n›)]
        try simp only [eq_false (‹¬ Fld (usedA (k : Int)) a n›)]
        try simp only [eq_false (‹¬ Fld (usedB (k : Int)) b n›)]
        try simp only [decide_eq_true_eq, Bool.and_eq_true, Bool.or_eq_true, Bool.and_eq_false_iff, Bool.or_eq_false_iff, beq_iff_eq, beq_eq_false_iff_ne, bne_iff_ne, bne_eq_false_iff_eq, ne_eq, Bool.false_eq_true, Bool.true_eq_false, Bool.not_eq_true, Bool.not_eq_true', Bool.not_eq_eq_eq_not, Bool.not_true, Bool.not_false, Bool.not_eq_false, decide_eq_false_iff_not, reduceCtorEq, true_and, and_true, false_and, or_false, false_or, and_false, true_or, or_true, false_iff, true_iff, not_false_eq_true, not_true_eq_false, Decidable.not_not]
        try omega
      · repeat (first | exact Below.refl _ _ | apply Below.drew | refine Below.setCell ?_ (by simp) _ | refine Below.alloc ?_ (by simp) _)
  · have hd : decide (1 ≤ op ∧ op ≤ last) = false := by simpa using hk
    have HK := Lib.hid (show ¬ GoodInstr ⟨op, dst, a, b, imm⟩ n last from fun h => hk ⟨h.1, h.2.1⟩)
    clear hk
    simp only [Instr.v]
    go_enter Tryd.func65, Tryd.ntmps65
    go_wp2_with (go_at_call 31; (with_reducible refine (within_c _ _ _ _).mono ?_); rintro e w1 ⟨rfl, rfl⟩)
    go_ret
    exact ⟨ret_bool (by simp [goodInstr, HK.out]), by repeat (first | (with_reducible first | exact Below.refl _ _ | assumption | exact ext_box _) | (with_reducible apply Below.drew) | ((with_reducible refine Below.setCell ?_ ?hs _); (case hs => first | (simp; done) | (simp; omega) | omega)) | ((with_reducible refine Below.alloc ?_ ?hs _); (case hs => first | (simp; done) | (simp; omega) | omega)))⟩
end Go.Proofs.YtnbkgaofdkkdnaaDoor
