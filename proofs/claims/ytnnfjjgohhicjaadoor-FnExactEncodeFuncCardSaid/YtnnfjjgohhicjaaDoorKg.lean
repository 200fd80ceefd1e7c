/- Contracts: spec.l1GoodInstr -/
import Derived.Test.YtnnfjjgohhicjaaDoorKv
namespace Go.Proofs.YtnnfjjgohhicjaaDoor
open Go.RowKit
set_option linter.unusedSimpArgs false
set_option linter.unusedVariables false
set_option maxRecDepth 100000

set_option maxHeartbeats 4000000 in
theorem goodInstr_c (x : Instr) (n most : Int) (w : World) (hm : most ≤ 13) : Calls Tryd.prog 40 #[x.v, .int .i64 n, .int .i64 most] w fun e w' => e = .returned (.bool (goodInstr x n most)) ∧ Below w.heap.size w w' := by
  obtain ⟨op, dst, a, b, imm⟩ := x
  by_cases h0 : 1 ≤ op ∧ op ≤ most
  · obtain ⟨h1, h2⟩ := h0
    have cd := fun W => usedD_c op W
    have ca := fun W => usedA_c op W
    have cb := fun W => usedB_c op W
    rcases flags op h1 (by omega) with ⟨hd, ha, hb, h3⟩ | ⟨hd, ha, hb, h3, h4⟩ | ⟨hd, ha, hb, h3⟩ | ⟨hd, ha, hb, h3⟩ | ⟨hd, ha, hb, h3⟩
    all_goals
      have HD := Lib.hid hd
      have HA := Lib.hid ha
      have HB := Lib.hid hb
      rw [hd] at cd
      rw [ha] at ca
      rw [hb] at cb
      clear hd ha hb
      simp only [Instr.v]
      go_enter Tryd.func40, Tryd.ntmps40
      go_wp2_with (first | (go_at_call 75; (with_reducible refine (cd _).mono ?_); rintro e w1 ⟨rfl, rfl⟩) | (go_at_call 75; (with_reducible refine (ca _).mono ?_); rintro e w1 ⟨rfl, rfl⟩) | (go_at_call 75; (with_reducible refine (cb _).mono ?_); rintro e w1 ⟨rfl, rfl⟩))
      all_goals go_ret
      all_goals go_light
      all_goals refine ⟨ret_bool ?_, by repeat (first | exact Below.refl _ _ | apply Below.drew | refine Below.alloc ?_ (by simp) _)⟩
      all_goals
        rw [Bool.eq_iff_iff, goodInstr, decide_eq_true_eq]
        simp only [GoodInstr, Fld, ImmOK, HD.out, HA.out, HB.out]
        clear HD HA HB cd ca cb
        simp only [decide_eq_true_eq, beq_iff_eq, beq_eq_false_iff_ne, bne_iff_ne, bne_eq_false_iff_eq, ne_eq, Bool.false_eq_true, reduceCtorEq, true_and, and_true, false_and, or_false, false_or, Bool.true_eq_false, false_iff, true_iff] at *
        omega
  · have HG : Hid (goodInstr ⟨op, dst, a, b, imm⟩ n most = false) := Lib.hid (by rw [Bool.eq_false_iff, ne_eq, goodInstr_iff]; intro h; simp only [GoodInstr] at h; exact h0 ⟨h.1, h.2.1⟩)
    simp only [Instr.v]
    by_cases h1 : op < 1
    all_goals
      go_enter Tryd.func40, Tryd.ntmps40
      go_wp2
      all_goals first | (go_ret; exact ⟨ret_bool HG.out.symm, by repeat (first | exact Below.refl _ _ | apply Below.drew | refine Below.alloc ?_ (by simp) _)⟩) | (exfalso; omega)
end Go.Proofs.YtnnfjjgohhicjaaDoor
