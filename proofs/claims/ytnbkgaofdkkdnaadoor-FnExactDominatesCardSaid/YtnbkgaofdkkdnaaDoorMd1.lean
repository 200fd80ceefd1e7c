/- make([]T, n) as an owned row; steps of extended worlds. -/
import Derived.Test.YtnbkgaofdkkdnaaDoorKv
import Derived.Test.YtnbkgaofdkkdnaaDoorKp
import Derived.Test.YtnbkgaofdkkdnaaDoorPg
import Derived.Test.YtnbkgaofdkkdnaaDoorPf
import Derived.Test.YtnbkgaofdkkdnaaDoorKx
namespace Go.Proofs.YtnbkgaofdkkdnaaDoor
open Go.RowKit
set_option linter.unusedSimpArgs false
set_option linter.unusedVariables false
set_option maxRecDepth 100000

set_option maxHeartbeats 4000000 in
theorem goodInstr_c (x : Instr) (n most : Int) (w : World) (hm : most ≤ 13) : Calls Tryd.prog 58 #[x.v, .int .i64 n, .int .i64 most] w fun e w' => e = .returned (.bool (goodInstr x n most)) ∧ Below w.heap.size w w' := by
  obtain ⟨op, dst, a, b, imm⟩ := x
  by_cases h0 : 1 ≤ op ∧ op ≤ most
  · obtain ⟨h1, h2⟩ := h0
    have cd := fun W => usedD_c op W
    have ca := fun W => usedA_c op W
    have cb := fun W => usedB_c op W
    rcases flags op h1 (by omega) with ⟨hd, ha, hb, h3⟩ | ⟨hd, ha, hb, h3, h4⟩ | ⟨hd, ha, hb, h3⟩ | ⟨hd, ha, hb, h3⟩ | ⟨hd, ha, hb, h3⟩
    all_goals
      have HD := Lib.hid hd
      have HA := Lib.hid ha
      have HB := Lib.hid hb
      rw [hd] at cd
      rw [ha] at ca
      rw [hb] at cb
      clear hd ha hb
      simp only [Instr.v]
      go_enter Tryd.func58, Tryd.ntmps58
      go_wp2_with (first | (go_at_call 82; (with_reducible refine (cd _).mono ?_); rintro e w1 ⟨rfl, rfl⟩) | (go_at_call 82; (with_reducible refine (ca _).mono ?_); rintro e w1 ⟨rfl, rfl⟩) | (go_at_call 82; (with_reducible refine (cb _).mono ?_); rintro e w1 ⟨rfl, rfl⟩))
      all_goals go_ret
      all_goals go_light
      all_goals refine ⟨ret_bool ?_, by repeat (first | exact Below.refl _ _ | apply Below.drew | refine Below.alloc ?_ (by simp) _)⟩
      all_goals
        rw [Bool.eq_iff_iff, goodInstr, decide_eq_true_eq]
        simp only [GoodInstr, Fld, ImmOK, HD.out, HA.out, HB.out]
        clear HD HA HB cd ca cb
        simp only [decide_eq_true_eq, beq_iff_eq, beq_eq_false_iff_ne, bne_iff_ne, bne_eq_false_iff_eq, ne_eq, Bool.false_eq_true, reduceCtorEq, true_and, and_true, false_and, or_false, false_or, Bool.true_eq_false, false_iff, true_iff] at *
        omega
  · have HG : Hid (goodInstr ⟨op, dst, a, b, imm⟩ n most = false) := Lib.hid (by rw [Bool.eq_false_iff, ne_eq, goodInstr_iff]; intro h; simp only [GoodInstr] at h; exact h0 ⟨h.1, h.2.1⟩)
    simp only [Instr.v]
    by_cases h1 : op < 1
    all_goals
      go_enter Tryd.func58, Tryd.ntmps58
      go_wp2
      all_goals first | (go_ret; exact ⟨ret_bool HG.out.symm, by repeat (first | exact Below.refl _ _ | apply Below.drew | refine Below.alloc ?_ (by simp) _)⟩) | (exfalso; omega)
end Go.Proofs.YtnbkgaofdkkdnaaDoor
namespace Go.Proofs.YtnbkgaofdkkdnaaDoor
open Go.RowKit
set_option linter.unusedSimpArgs false
set_option linter.unusedVariables false
set_option maxRecDepth 100000

theorem defsB_len {x : Block} {L : Nat} (h : okBlk L x) : (defsB x).length ≤ L + L := by
  obtain ⟨h1, _, h3⟩ := h
  have := dstsI_len x.instrs
  unfold defsB
  rw [List.length_append, List.length_map]
  omega
theorem defs_len {bs : List Block} {L : Nat} (h : ∀ (i : Nat) b, bs[i]? = some b → okBlk L b) (k : Nat) : (defs (bs.take k)).length ≤ bs.length * (L + L) := by
  have h1 := sum_take_le (fun b => (defsB b).length) bs k
  have h2 := sum_bound (f := fun b => (defsB b).length) (xs := bs) fun i b hb => defsB_len (h i b hb)
  unfold defs
  rw [List.length_flatMap]
  omega
set_option maxHeartbeats 4000000 in
theorem l1Defs_c (A : Option Addr) (c : Nat) (m : Func) (w : World) (hx : C (kBlock 0 0 0) w A m.blocks) (hm : m.blocks.length ≤ 1048576) (hs : ∀ (i : Nat) b, m.blocks[i]? = some b → okBlk 1048576 b) :
    Calls Tryd.prog 60 #[.agg #[.int .i64 m.values, .slice A m.blocks.length c]] w (RetRow 2 (kInt .i64) w (defs m.blocks)) := by
  obtain ⟨i0, hi, hz0, hz1, hz2⟩ := info_parts info_i64
  have HDL := Lib.hid (defs_len hs)
  have HB := Lib.hid hs
  clear hs
  go_enter Tryd.func60, Tryd.ntmps60
  go_wp2
  go_loopw [3, 4] (fun v i wr => ∃ (k : Nat) (fp : List Nat) (u : Ext (w.alloc (.cells #[.int .i64 m.values, .slice A m.blocks.length c] 29))), k ≤ m.blocks.length ∧ i = .int .i64 k ∧ Row 2 (kInt .i64) wr v (defs (m.blocks.take k)) fp ∧ (∀ q ∈ fp, w.heap.size < q) ∧ wr = u.w) (fun _ i _ => m.blocks.length - (intOf i).toNat)
  case atStart => exact ⟨0, [w.heap.size + 1], ⟨(w.alloc (.cells #[.int .i64 m.values, .slice A m.blocks.length c] 29)).alloc (.cells #[] 2), by repeat (first | (with_reducible first | exact Below.refl _ _ | assumption | exact ext_box _) | (with_reducible apply Below.drew) | ((with_reducible refine Below.setCell ?_ ?hs _); (case hs => first | (simp; done) | (simp; omega) | omega)) | ((with_reducible refine Below.alloc ?_ ?hs _); (case hs => first | (simp; done) | (simp; omega) | omega)))⟩, by omega, rfl, Row.empty0 (by simp), by simp, rfl⟩
  case round =>
    obtain ⟨k, fp, u, hk, rfl, hr, hfp, rfl⟩ := hrel
    have HR := Lib.hid hr
    have HF := Lib.hid hfp
    obtain ⟨A0, c0, hv, hl0⟩ := hr.form
    clear hr hfp
    subst hv
    obtain ⟨b0, b1, -⟩ := box_at u
    have hzu : w.heap.size < u.w.heap.size := by have := u.hb.size; simp at this; omega
    have hxu := (hx.below (ext_box u))
    by_cases hlt : k < m.blocks.length
    · obtain ⟨x, ex⟩ := get_of_lt hlt
      have HEX := Lib.hid ex
      have hd1 := HDL.out k
      have HO := Lib.hid (HB.out _ _ ex)
      have hb3 : x.instrs.length ≤ 1048576 := HO.out.2.2
      have hb1 : x.phis.length ≤ 1048576 := HO.out.1
      clear ex
      go_wp2
      go_loopw [3, 5] (fun v i wr => ∃ (j : Nat) (ys : List Int) (fp : List Nat) (u : Ext (w.alloc (.cells #[.int .i64 m.values, .slice A m.blocks.length c] 29))), j ≤ x.phis.length ∧ i = .int .i64 j ∧ ys = defs (m.blocks.take k) ++ (x.phis.take j).map (·.dst) ∧ Row 2 (kInt .i64) wr v ys fp ∧ (∀ q ∈ fp, w.heap.size < q) ∧ wr = u.w) (fun _ i _ => x.phis.length - (intOf i).toNat)
      case atStart => exact ⟨0, _, fp, u, by omega, rfl, by simp, HR.out, HF.out, rfl⟩
      case round =>
        clear b0 b1 hzu hxu hl0 HR HF
        obtain ⟨j, ys, fp, u, hj, rfl, hys, hr, hfp, rfl⟩ := hrel
        have HY := Lib.hid hys
        clear hys
        have HR := Lib.hid hr
        have HF := Lib.hid hfp
        obtain ⟨A0, c0, hv, hl0⟩ := hr.form
        clear hr hfp
        subst hv
        obtain ⟨b0, b1, -⟩ := box_at u
        have hzu : w.heap.size < u.w.heap.size := by have := u.hb.size; simp at this; omega
        obtain ⟨a, _, rfl, ⟨_, _, rfl, ⟨A1', c1', rfl, l1', r1'⟩, _, _, rfl, ⟨A2', c2', rfl, l2', r2'⟩, rfl⟩, hc⟩ := (hx.below (ext_box u)).at HEX.out
        obtain ⟨p0, p1, p2, p3, p4, p5⟩ := hc6 (n := k * 6) hc
        clear hc
        by_cases hlj : j < x.phis.length
        · obtain ⟨p, ep⟩ := get_of_lt hlj
          obtain ⟨a2, _, rfl, ⟨_, _, rfl, rfl, ⟨A3', c3', rfl, l3', r3'⟩⟩, hc⟩ := r1'.at ep
          obtain ⟨q0, q1⟩ := hc2 (n := j * 2) hc
          clear hc
          have EP := Lib.hid (show ys ++ [p.dst] = defs (m.blocks.take k) ++ (x.phis.take (j + 1)).map (·.dst) by rw [take_snoc ep, HY.out]; simp)
          clear ep
          have hll : ys.length ≤ 2199023255552 + 1048576 := by rw [HY.out, List.length_append, List.length_map, List.length_take]; omega
          go_wp2_with (at_builtin; refine wpList_append_row (kInt .i64) rfl _ _ 35 rfl 2 i0 _ 8 Tryd.underlying35 hi hz0 hz1 hz2 rfl (by decide) _ _ fp rfl (HR.out.chg (S := fun _ => False) (by (repeat (first | (with_reducible first | exact Chg.refl _ _ | assumption) | (with_reducible refine Chg.drew ?_) | ((with_reducible refine Chg.setCell ?_ ?hs _); (case hs => first | (simp; done) | (simp; omega) | omega)) | (with_reducible refine Chg.alloc ?_ _)))) (by simp)) _ _ [.int .i64 p.dst] p.dst [] rfl ⟨rfl, rfl⟩ (by simp) (box_news (by simp)) (by simp only [maxLen]; omega) (by omega) ?_; intro g cap w3 fp3 hr3 hf3 hC3)
          have HR3 := Lib.hid hr3
          have HF3 := Lib.hid hf3
          clear hr3 hf3
          obtain ⟨u3, rfl⟩ := u.app (by repeat (first | (with_reducible first | exact Below.refl _ _ | assumption | exact ext_box _) | (with_reducible apply Below.drew) | ((with_reducible refine Below.setCell ?_ ?hs _); (case hs => first | (simp; done) | (simp; omega) | omega)) | ((with_reducible refine Below.alloc ?_ ?hs _); (case hs => first | (simp; done) | (simp; omega) | omega)))) hC3 (fun q hq => by have := HF.out q hq; simp; omega)
          go_roundw
          case rel => exact ⟨j + 1, _, fp3, u3, by omega, by go_num, EP.out, HR3.out, fun q hq => by rcases HF3.out q hq with h | h | h; exact HF.out q h; simp at h; simp at h; omega, rfl⟩
          case measure => simp [intOf]; omega
        · have hjn : j = x.phis.length := by omega
          have HY2 := Lib.hid (show ys = defs (m.blocks.take k) ++ x.phis.map (·.dst) by have := HY.out; rwa [hjn, List.take_length] at this)
          clear HY hjn
          go_wp2
          go_loopw [3, 6] (fun v i wr => ∃ (j : Nat) (ys : List Int) (fp : List Nat) (u : Ext (w.alloc (.cells #[.int .i64 m.values, .slice (some a) m.blocks.length c] 29))), j ≤ x.instrs.length ∧ i = .int .i64 j ∧ ys = defs (m.blocks.take k) ++ x.phis.map (·.dst) ++ dstsI (x.instrs.take j) ∧ Row 2 (kInt .i64) wr v ys fp ∧ (∀ q ∈ fp, w.heap.size < q) ∧ wr = u.w) (fun _ i _ => x.instrs.length - (intOf i).toNat)
          case atStart => exact ⟨0, ys, fp, u, by omega, rfl, by rw [HY2.out]; simp [dstsI], HR.out, HF.out, rfl⟩
          case round =>
            clear b0 b1 hzu p0 p1 p2 p3 p4 p5 hl0 HR HF HY2
            obtain ⟨j, ys, fp, u, hj, rfl, hys, hr, hfp, rfl⟩ := hrel
            have HY := Lib.hid hys
            clear hys
            have HR := Lib.hid hr
            have HF := Lib.hid hfp
            obtain ⟨A0, c0, hv, hl0⟩ := hr.form
            clear hr hfp
            subst hv
            obtain ⟨b0, b1, -⟩ := box_at u
            have hzu : w.heap.size < u.w.heap.size := by have := u.hb.size; simp at this; omega
            obtain ⟨a, _, ha, ⟨_, _, rfl, ⟨A1', c1', rfl, l1', r1'⟩, _, _, rfl, ⟨A2', c2', rfl, l2', r2'⟩, rfl⟩, hc⟩ := (hx.below (ext_box u)).at HEX.out
            obtain rfl := Option.some.inj ha
            clear ha
            obtain ⟨p0, p1, p2, p3, p4, p5⟩ := hc6 (n := k * 6) hc
            clear hc
            by_cases hlj : j < x.instrs.length
            · obtain ⟨y, ey⟩ := get_of_lt hlj
              obtain ⟨a3, _, rfl, rfl, hc⟩ := r2'.at ey
              obtain ⟨q0, q1, q2, q3, q4⟩ := hc5 (n := j * 5) hc
              clear hc
              have hll : ys.length ≤ 2199023255552 + 1048576 + 1048576 := by have := dstsI_len (x.instrs.take j); rw [List.length_take] at this; rw [HY.out, List.length_append, List.length_append, List.length_map]; omega
              have cd := fun W => usedD_c y.op W
              cases hd : usedD y.op
              · rw [hd] at cd
                have EP := Lib.hid (show ys = defs (m.blocks.take k) ++ x.phis.map (·.dst) ++ dstsI (x.instrs.take (j + 1)) by rw [dstsI_snoc ey, HY.out, hd]; simp)
                clear ey hd
                go_wp2_with (go_at_call 82; (with_reducible refine (cd _).mono ?_); rintro e w1 ⟨rfl, rfl⟩)
                go_roundw
                case rel => exact ⟨j + 1, ys, fp, u, by omega, by go_num, EP.out, HR.out, HF.out, rfl⟩
                case measure => simp [intOf]; omega
              · rw [hd] at cd
                have EP := Lib.hid (show ys ++ [y.dst] = defs (m.blocks.take k) ++ x.phis.map (·.dst) ++ dstsI (x.instrs.take (j + 1)) by rw [dstsI_snoc ey, HY.out, hd]; simp)
                clear ey hd
                go_wp2_with (first | (go_at_call 82; (with_reducible refine (cd _).mono ?_); rintro e w1 ⟨rfl, rfl⟩) | (at_builtin; refine wpList_append_row (kInt .i64) rfl _ _ 35 rfl 2 i0 _ 8 Tryd.underlying35 hi hz0 hz1 hz2 rfl (by decide) _ _ fp rfl (HR.out.chg (S := fun _ => False) (by (repeat (first | (with_reducible first | exact Chg.refl _ _ | assumption) | (with_reducible refine Chg.drew ?_) | ((with_reducible refine Chg.setCell ?_ ?hs _); (case hs => first | (simp; done) | (simp; omega) | omega)) | (with_reducible refine Chg.alloc ?_ _)))) (by simp)) _ _ [.int .i64 y.dst] y.dst [] rfl ⟨rfl, rfl⟩ (by simp) (box_news (by simp)) (by simp only [maxLen]; omega) (by omega) ?_; intro g cap w3 fp3 hr3 hf3 hC3))
                have HR3 := Lib.hid hr3
                have HF3 := Lib.hid hf3
                clear hr3 hf3
                obtain ⟨u3, rfl⟩ := u.app (by repeat (first | (with_reducible first | exact Below.refl _ _ | assumption | exact ext_box _) | (with_reducible apply Below.drew) | ((with_reducible refine Below.setCell ?_ ?hs _); (case hs => first | (simp; done) | (simp; omega) | omega)) | ((with_reducible refine Below.alloc ?_ ?hs _); (case hs => first | (simp; done) | (simp; omega) | omega)))) hC3 (fun q hq => by have := HF.out q hq; simp; omega)
                go_roundw
                case rel => exact ⟨j + 1, _, fp3, u3, by omega, by go_num, EP.out, HR3.out, fun q hq => by rcases HF3.out q hq with h | h | h; exact HF.out q h; simp at h; simp at h; omega, rfl⟩
                case measure => simp [intOf]; omega
            · have HYZ := Lib.hid (show ys = defs (m.blocks.take (k + 1)) by rw [defs_snoc HEX.out, HY.out, show j = x.instrs.length by omega, List.take_length]; simp [defsB])
              go_wp2
              go_roundw
              case rel => exact ⟨k + 1, fp, u, by omega, by go_num, by rw [← HYZ.out]; exact HR.out, HF.out, rfl⟩
              case measure => simp [intOf]; omega
    · go_wp2
      go_ret
      refine ⟨_, fp, rfl, ?_, fun q hq => Nat.le_of_lt (HF.out q hq), ext_box u⟩
      have := HR.out
      show Row _ _ u.w (.slice A0 (defs (m.blocks.take k)).length c0) _ _
      rw [List.take_of_length_le (show m.blocks.length ≤ k by omega)] at this ⊢
      exact this
end Go.Proofs.YtnbkgaofdkkdnaaDoor
namespace Go.Proofs.YtnbkgaofdkkdnaaDoor
set_option linter.unusedVariables false
def inR (n a : Int) : Bool := decide (0 ≤ a ∧ a < n)
theorem inR_iff {n a : Int} : inR n a = true ↔ 0 ≤ a ∧ a < n := by simp [inR]
theorem inR_not {n a : Int} : inR n a = false ↔ ¬ (0 ≤ a ∧ a < n) := by simp [inR]
def sameEnds (t : Term) : Bool := decide (t.kind = 2) && decide (t.to = t.els)
def blkOK (m : Func) (b : Block) : Bool := (b.instrs.all fun x => goodInstr x m.values 10) && (goodTerm b.term m.values 1 m.blocks.length && !sameEnds b.term)
def phiOK (n : Int) (np : Nat) (p : Phi) : Bool := decide (1 ≤ p.args.length ∧ p.args.length = np) && p.args.all (inR n)
def phisFrom (m : Func) : List Block → Nat → Bool
  | [], _ => true
  | b :: bs, i => b.phis.all (phiOK m.values (preds m.blocks i).length) && phisFrom m bs (i + 1)
def defsOK (L : List Int) (n : Int) : Bool := decide ((L.length : Int) = n) && (List.range n.toNat).all fun v => decide ((v : Int) ∈ L)
def validF (m : Func) : Bool :=
  (decide (0 ≤ m.values ∧ m.values ≤ 2000) && decide (1 ≤ m.blocks.length ∧ m.blocks.length ≤ 1000)) && (decide (sizeF m.blocks ≤ 4000) && (m.blocks.all (blkOK m) && (phisFrom m m.blocks 0 && defsOK (defs m.blocks) m.values)))
theorem phisFrom_iff (m : Func) : ∀ (bs : List Block) (i : Nat), phisFrom m bs i = true ↔ ∀ (j : Nat) b, bs[j]? = some b → b.phis.all (phiOK m.values (preds m.blocks (i + j : Nat)).length) = true
  | [], i => by simp [phisFrom]
  | b :: bs, i => by
    rw [phisFrom, Bool.and_eq_true, phisFrom_iff m bs (i + 1)]
    constructor
    · rintro ⟨h1, h2⟩ j c hc
      cases j with
      | zero => simp at hc; subst hc; simpa using h1
      | succ j => have := h2 j c (by simpa using hc); rwa [show i + 1 + j = i + (j + 1) by omega] at this
    · intro h
      exact ⟨by simpa using h 0 b rfl, fun j c hc => by have := h (j + 1) c (by simpa using hc); rwa [show i + (j + 1) = i + 1 + j by omega] at this⟩
theorem validF_iff {m : Func} : validF m = true ↔ (0 ≤ m.values ∧ m.values ≤ 2000) ∧ (1 ≤ m.blocks.length ∧ m.blocks.length ≤ 1000) ∧ sizeF m.blocks ≤ 4000 ∧ (∀ (j : Nat) b, m.blocks[j]? = some b → blkOK m b = true) ∧
    (∀ (j : Nat) b, m.blocks[j]? = some b → ∀ (i : Nat) p, b.phis[i]? = some p → phiOK m.values (preds m.blocks j).length p = true) ∧ defsOK (defs m.blocks) m.values = true := by
  have e1 : m.blocks.all (blkOK m) = true ↔ (∀ (j : Nat) b, m.blocks[j]? = some b → blkOK m b = true) := by
    rw [List.all_eq_true]
    exact ⟨fun h j b hb => h b (List.mem_of_getElem? hb), fun h b hb => by obtain ⟨j, hj⟩ := List.getElem?_of_mem hb; exact h j b hj⟩
  have e2 : phisFrom m m.blocks 0 = true ↔ (∀ (j : Nat) b, m.blocks[j]? = some b → ∀ (i : Nat) p, b.phis[i]? = some p → phiOK m.values (preds m.blocks j).length p = true) := by
    rw [phisFrom_iff]
    simp only [Nat.zero_add]
    refine forall_congr' fun j => forall_congr' fun b => imp_congr_right fun _ => ?_
    rw [List.all_eq_true]
    exact ⟨fun h i p hp => h p (List.mem_of_getElem? hp), fun h p hp => by obtain ⟨i, hi⟩ := List.getElem?_of_mem hp; exact h i p hi⟩
  simp only [validF, Bool.and_eq_true, decide_eq_true_eq, e1, e2]
  constructor
  · rintro ⟨⟨a, b⟩, c, d, e, f⟩; exact ⟨a, b, c, d, e, f⟩
  · rintro ⟨a, b, c, d, e, f⟩; exact ⟨⟨a, b⟩, c, d, e, f⟩
theorem vf_not {m : Func} (h : validF m = true → False) : validF m = false := by
  cases hv : validF m
  · rfl
  · exact (h hv).elim
theorem vf_values {m : Func} (h : ¬ (0 ≤ m.values ∧ m.values ≤ 2000)) : validF m = false := vf_not fun g => h (validF_iff.1 g).1
theorem vf_n {m : Func} (h : ¬ (1 ≤ m.blocks.length ∧ m.blocks.length ≤ 1000)) : validF m = false := vf_not fun g => h (validF_iff.1 g).2.1
theorem vf_size {m : Func} (h : 4000 < sizeF m.blocks) : validF m = false := vf_not fun g => by have := (validF_iff.1 g).2.2.1; omega
theorem vf_size' {m : Func} {k : Nat} {n : Nat} (h : 4000 < n) (h2 : n ≤ sizeF (m.blocks.take k)) : validF m = false := vf_size (by have := sum_take_le sizeB m.blocks k; unfold sizeF at *; omega)
theorem vf_blk {m : Func} {k : Nat} {b : Block} (hb : m.blocks[k]? = some b) (h : blkOK m b = false) : validF m = false := vf_not fun g => by have := (validF_iff.1 g).2.2.2.1 k b hb; rw [h] at this; cases this
theorem vf_instr {m : Func} {k i : Nat} {b : Block} {x : Instr} (hb : m.blocks[k]? = some b) (hx : b.instrs[i]? = some x) (h : goodInstr x m.values 10 = false) : validF m = false :=
  vf_blk hb (by rw [blkOK, List.all_eq_false.2 ⟨x, List.mem_of_getElem? hx, by simp [h]⟩, Bool.false_and])
theorem vf_term {m : Func} {k : Nat} {b : Block} (hb : m.blocks[k]? = some b) (h : goodTerm b.term m.values 1 m.blocks.length = false) : validF m = false := vf_blk hb (by simp [blkOK, h])
theorem vf_same {m : Func} {k : Nat} {b : Block} (hb : m.blocks[k]? = some b) (h1 : b.term.kind = 2) (h2 : b.term.to = b.term.els) : validF m = false := vf_blk hb (by simp [blkOK, sameEnds, h1, h2])
theorem vf_phi {m : Func} {k i : Nat} {b : Block} {p : Phi} (hb : m.blocks[k]? = some b) (hp : b.phis[i]? = some p) (h : phiOK m.values (preds m.blocks k).length p = false) : validF m = false := vf_not fun g => by have := (validF_iff.1 g).2.2.2.2.1 k b hb i p hp; rw [h] at this; cases this
theorem vf_defs {m : Func} (h : defsOK (defs m.blocks) m.values = false) : validF m = false := vf_not fun g => by have := (validF_iff.1 g).2.2.2.2.2; rw [h] at this; cases this
theorem phi_arg {n : Int} {np i : Nat} {p : Phi} {a : Int} (h : p.args[i]? = some a) (hr : inR n a = false) : phiOK n np p = false := by
  rw [phiOK, List.all_eq_false.2 ⟨a, List.mem_of_getElem? h, by simp [hr]⟩, Bool.and_false]
theorem phi_len {n : Int} {np : Nat} {p : Phi} (h : ¬ (1 ≤ p.args.length ∧ p.args.length = np)) : phiOK n np p = false := by rw [phiOK, decide_eq_false h, Bool.false_and]
theorem phi_ok {n : Int} {np : Nat} {p : Phi} (h : 1 ≤ p.args.length ∧ p.args.length = np) (ha : p.args.all (inR n) = true) : phiOK n np p = true := by rw [phiOK, decide_eq_true h, ha]; rfl
/-- Numbers below n, each once. -/
def nums (n : Nat) : List Int := (List.range n).map Int.ofNat
theorem nums_mem {n : Nat} {a : Int} : a ∈ nums n ↔ 0 ≤ a ∧ a < n := by
  simp only [nums, List.mem_map, List.mem_range]
  exact ⟨by rintro ⟨v, hv, rfl⟩; simp only [Int.ofNat_eq_natCast]; omega, fun h => ⟨a.toNat, by omega, by simp only [Int.ofNat_eq_natCast]; omega⟩⟩
theorem nums_nodup (n : Nat) : (nums n).Nodup := List.Pairwise.map _ (fun a b h e => h (Int.ofNat.inj e)) List.nodup_range
theorem perm_of_sub : ∀ {R L : List Int}, R.Nodup → (∀ a ∈ R, a ∈ L) → L.length = R.length → L.Perm R
  | [], L, _, _, h => by rw [List.eq_nil_of_length_eq_zero h]
  | r :: R, L, hn, hs, h => by
    have hr : r ∈ L := hs r (by simp)
    have h1 := List.perm_cons_erase hr
    rw [List.nodup_cons] at hn
    refine h1.trans (List.Perm.cons r (perm_of_sub hn.2 (fun a ha => ?_) (by rw [List.length_erase_of_mem hr, h]; simp)))
    have hne : a ≠ r := fun e => hn.1 (e ▸ ha)
    exact (List.mem_erase_of_ne hne).2 (hs a (by simp [ha]))
theorem defsOK_perm {L : List Int} {n : Int} (h0 : 0 ≤ n) : defsOK L n = true ↔ L.Perm (nums n.toNat) := by
  have hl : (nums n.toNat).length = n.toNat := by simp [nums]
  simp only [defsOK, Bool.and_eq_true, decide_eq_true_eq, List.all_eq_true, List.mem_range]
  constructor
  · rintro ⟨h1, h2⟩
    refine perm_of_sub (nums_nodup _) (fun a ha => ?_) (by omega)
    have := nums_mem.1 ha
    have := h2 a.toNat (by omega)
    rwa [show (a.toNat : Int) = a by omega] at this
  · intro h
    refine ⟨by have := h.length_eq; omega, fun v hv => h.mem_iff.2 (nums_mem.2 (by omega))⟩
theorem defsOK_count {L : List Int} {n : Int} (h0 : 0 ≤ n) : defsOK L n = true ↔ (∀ a ∈ L, 0 ≤ a ∧ a < n) ∧ ∀ v : Nat, v < n → L.count (v : Int) = 1 := by
  rw [defsOK_perm h0]
  constructor
  · intro h
    refine ⟨fun a ha => by have := nums_mem.1 (h.mem_iff.1 ha); omega, fun v hv => ?_⟩
    rw [h.count_eq, (nums_nodup n.toNat).count, if_pos (nums_mem.2 (by omega))]
  · rintro ⟨h1, h2⟩
    rw [List.perm_iff_count]
    intro a
    rw [(nums_nodup n.toNat).count]
    by_cases ha : a ∈ nums n.toNat
    · have := nums_mem.1 ha
      have h3 := h2 a.toNat (by omega)
      rw [show (a.toNat : Int) = a by omega] at h3
      rw [if_pos ha, h3]
    · rw [if_neg ha, List.count_eq_zero]
      exact fun hm => ha (nums_mem.2 (by have := h1 a hm; omega))
theorem mem_defs {bs : List Block} {k : Nat} {b : Block} {a : Int} (hb : bs[k]? = some b) (ha : a ∈ defsB b) : a ∈ defs bs := List.mem_flatMap.2 ⟨b, List.mem_of_getElem? hb, ha⟩
theorem vf_dst {m : Func} {k i : Nat} {b : Block} {p : Phi} (hb : m.blocks[k]? = some b) (hp : b.phis[i]? = some p) (h : inR m.values p.dst = false) : validF m = false := vf_not fun g => by
  have h1 := validF_iff.1 g
  have h2 := ((defsOK_count h1.1.1).1 h1.2.2.2.2.2).1 p.dst (mem_defs hb (List.mem_append_left _ (List.mem_map.2 ⟨p, List.mem_of_getElem? hp, rfl⟩)))
  exact inR_not.1 h h2
theorem vf_count {m : Func} {v : Nat} (hv : (v : Int) < m.values) (h : (defs m.blocks).count (v : Int) ≠ 1) : validF m = false := vf_not fun g => by
  have h1 := validF_iff.1 g
  exact h (((defsOK_count h1.1.1).1 h1.2.2.2.2.2).2 v hv)
theorem rep_pred {t : Term} {n low N : Int} (hg : goodTerm t n low N = true) (hs : sameEnds t = false) (v : Nat) (b : Int) : rep (targets t) v b = if isPred t v then [b] else [] := by
  obtain ⟨k, a, to, els⟩ := t
  rw [goodTerm_iff] at hg
  simp only [GoodTerm] at hg
  simp only [sameEnds, Bool.and_eq_false_iff, decide_eq_false_iff_not] at hs
  rcases hg with ⟨rfl, _⟩ | ⟨rfl, _⟩ | ⟨rfl, _⟩
  · by_cases h : to = (v : Int) <;> simp [rep, targets, isPred, h]
  · have hne : to ≠ els := by omega
    by_cases h : to = (v : Int) <;> by_cases h2 : els = (v : Int) <;> simp [rep, targets, isPred, h, h2]
    omega
  · simp [rep, targets, isPred]
theorem predM_preds {bs : List Block} {n low N : Int} (v : Nat) : ∀ (i : Nat), (∀ b ∈ bs, goodTerm b.term n low N = true ∧ sameEnds b.term = false) → predM v bs i = predsN (v : Int) bs i := by
  induction bs with
  | nil => intro i _; rfl
  | cons b bs ih =>
    intro i h
    have h0 := h b (by simp)
    rw [predM, predsN, rep_pred h0.1 h0.2, ih (i + 1) fun c hc => h c (by simp [hc])]
theorem vf_true {m : Func} (h1 : 0 ≤ m.values ∧ m.values ≤ 2000) (h2 : 1 ≤ m.blocks.length ∧ m.blocks.length ≤ 1000) (h3 : sizeF m.blocks ≤ 4000) (h4 : ∀ (j : Nat) b, m.blocks[j]? = some b → goodTerm b.term m.values 1 m.blocks.length = true ∧ sameEnds b.term = false)
    (h5 : ∀ (j : Nat) b, m.blocks[j]? = some b → ∀ (i : Nat) x, b.instrs[i]? = some x → goodInstr x m.values 10 = true)
    (h6 : ∀ (j : Nat) b, m.blocks[j]? = some b → ∀ (i : Nat) p, b.phis[i]? = some p → phiOK m.values (preds m.blocks j).length p = true) (h7 : defsOK (defs m.blocks) m.values = true) : validF m = true := by
  refine validF_iff.2 ⟨h1, h2, h3, fun j b hb => ?_, h6, h7⟩
  obtain ⟨g1, g2⟩ := h4 j b hb
  have : (b.instrs.all fun x => goodInstr x m.values 10) = true := List.all_eq_true.2 fun x hx => by obtain ⟨i, hi⟩ := List.getElem?_of_mem hx; exact h5 j b hb i x hi
  rw [blkOK, this, g1, g2]; rfl
theorem used_range {x : Instr} {n most : Int} (h : goodInstr x n most = true) (hd : usedD x.op = true) : 0 ≤ x.dst ∧ x.dst < n := by
  rw [goodInstr_iff] at h
  obtain ⟨_, _, h3, _⟩ := h
  rcases h3 with h3 | h3
  · exact h3.2
  · rw [hd] at h3; exact absurd h3.1 (by simp)
theorem defs_range {bs : List Block} {n : Int} (hp : ∀ (j : Nat) b, bs[j]? = some b → ∀ (i : Nat) p, b.phis[i]? = some p → 0 ≤ p.dst ∧ p.dst < n) (hi : ∀ (j : Nat) b, bs[j]? = some b → ∀ (i : Nat) x, b.instrs[i]? = some x → goodInstr x n 10 = true) : ∀ a ∈ defs bs, 0 ≤ a ∧ a < n := by
  intro a ha
  obtain ⟨b, hb, ha⟩ := List.mem_flatMap.1 ha
  obtain ⟨j, hj⟩ := List.getElem?_of_mem hb
  rcases List.mem_append.1 ha with ha | ha
  · obtain ⟨p, hpm, rfl⟩ := List.mem_map.1 ha
    obtain ⟨i, hi'⟩ := List.getElem?_of_mem hpm
    exact hp j b hj i p hi'
  · obtain ⟨x, hx, rfl⟩ := List.mem_map.1 ha
    rw [List.mem_filter] at hx
    obtain ⟨i, hi'⟩ := List.getElem?_of_mem hx.1
    exact used_range (hi j b hj i x hi') (by simpa using hx.2)
end Go.Proofs.YtnbkgaofdkkdnaaDoor
namespace Go.Proofs.YtnbkgaofdkkdnaaDoor
open Go.RowKit
set_option linter.unusedSimpArgs false
set_option linter.unusedVariables false
set_option maxRecDepth 100000

theorem ext_end {w : World} {o : Obj} (u : Ext (w.alloc o)) {w' : World} (h : Below u.w.heap.size u.w w') : Below w.heap.size w w' := (ext_box u).trans (h.mono (by have := u.hb.size; simp at this; omega))
theorem below_drewN {B : Nat} {w w' : World} (h : Below B w w') (n : Nat) : Below B w (w'.drewN n) := ⟨h.os, h.tape, h.output, h.size, h.block⟩
theorem Ext.lt {w : World} {o : Obj} (u : Ext (w.alloc o)) : w.heap.size < u.w.heap.size := by have := u.hb.size; simp at this; omega
theorem all_take {α : Type} {p : α → Bool} {xs : List α} {k : Nat} (h : (xs.take k).all p = true) (hk : xs.length ≤ k) : xs.all p = true := by rwa [List.take_of_length_le hk] at h
theorem blk_term {m : Func} {b : Block} (h1 : (b.instrs.all fun x => goodInstr x m.values 10) = true) (h2 : goodTerm b.term m.values 1 m.blocks.length = true) (h3 : sameEnds b.term = false) : blkOK m b = true := by rw [blkOK, h1, h2, h3]; rfl
def PhisUpTo (m : Func) (k : Nat) : Prop := ∀ (j : Nat) b, j < k → m.blocks[j]? = some b → ∀ (i : Nat) p, b.phis[i]? = some p → phiOK m.values (preds m.blocks j).length p = true
theorem phisUpTo_snoc {m : Func} {k : Nat} {b : Block} (h : PhisUpTo m k) (hb : m.blocks[k]? = some b) (ha : b.phis.all (phiOK m.values (preds m.blocks k).length) = true) : PhisUpTo m (k + 1) := by
  intro j c hj hc i p hp
  rcases Nat.lt_or_eq_of_le (Nat.le_of_lt_succ hj) with h1 | rfl
  · exact h j c h1 hc i p hp
  · obtain rfl := Option.some.inj (hb.symm.trans hc)
    exact List.all_eq_true.1 ha p (List.mem_of_getElem? hp)
theorem vf_all {m : Func} (h1 : 0 ≤ m.values ∧ m.values ≤ 2000) (h2 : 1 ≤ m.blocks.length ∧ m.blocks.length ≤ 1000) (h3 : sizeF m.blocks ≤ 4000) (h4 : m.blocks.all (blkOK m) = true) (h5 : PhisUpTo m m.blocks.length) (h6 : defsOK (defs m.blocks) m.values = true) : validF m = true :=
  validF_iff.2 ⟨h1, h2, h3, fun j b hb => List.all_eq_true.1 h4 b (List.mem_of_getElem? hb), fun j b hb i p hp => h5 j b (List.getElem?_eq_some_iff.1 hb).1 hb i p hp, h6⟩
theorem defs_all {L : List Int} {n : Int} (h0 : 0 ≤ n) (h1 : (L.length : Int) = n) (h2 : ∀ v : Nat, v < n → (v : Int) ∈ L) : defsOK L n = true := by
  simp only [defsOK, Bool.and_eq_true, decide_eq_true_eq, List.all_eq_true, List.mem_range]
  exact ⟨h1, fun v hv => h2 v (by omega)⟩
theorem defs_miss {L : List Int} {n : Int} {v : Nat} (hv : (v : Int) < n) (h : (v : Int) ∉ L) : defsOK L n = false := by
  cases hd : defsOK L n
  · rfl
  · simp only [defsOK, Bool.and_eq_true, decide_eq_true_eq, List.all_eq_true, List.mem_range] at hd
    exact (h (hd.2 v (by omega))).elim
theorem defs_count {L : List Int} {n : Int} (h : (L.length : Int) ≠ n) : defsOK L n = false := by simp [defsOK, h]
set_option maxHeartbeats 8000000 in
theorem validFS_c (A : Option Addr) (c : Nat) (m : Func) (w : World) (hx : C (kBlock 0 0 0) w A m.blocks) (hm : m.blocks.length ≤ 1048576) (hs : ∀ (i : Nat) b, m.blocks[i]? = some b → okBlk 1048576 b) :
    Calls Tryd.prog 26 #[.agg #[.int .i64 m.values, .slice A m.blocks.length c]] w fun e w' => e = .returned (.bool (validF m)) ∧ Below w.heap.size w w' := by
  have HSZ := Lib.hid (fun W (h : C (kBlock 0 0 0) W A m.blocks) => l1Size_c A c m W h hm hs)
  by_cases hr1 : m.values < 0
  · have HV := Lib.hid (vf_values (m := m) (by omega))
    go_enter Tryd.func26, Tryd.ntmps26
    go_wp2
    go_ret
    exact ⟨ret_bool HV.out.symm, by repeat (first | (with_reducible first | exact Below.refl _ _ | assumption | exact ext_box _) | (with_reducible apply Below.drew) | ((with_reducible refine Below.setCell ?_ ?hs _); (case hs => first | (simp; done) | (simp; omega) | omega)) | ((with_reducible refine Below.alloc ?_ ?hs _); (case hs => first | (simp; done) | (simp; omega) | omega)))⟩
  by_cases hr2 : m.values > 2000
  · have HV := Lib.hid (vf_values (m := m) (by omega))
    go_enter Tryd.func26, Tryd.ntmps26
    go_wp2
    go_ret
    exact ⟨ret_bool HV.out.symm, by repeat (first | (with_reducible first | exact Below.refl _ _ | assumption | exact ext_box _) | (with_reducible apply Below.drew) | ((with_reducible refine Below.setCell ?_ ?hs _); (case hs => first | (simp; done) | (simp; omega) | omega)) | ((with_reducible refine Below.alloc ?_ ?hs _); (case hs => first | (simp; done) | (simp; omega) | omega)))⟩
  by_cases hn1 : (m.blocks.length : Int) < 1
  · have HV := Lib.hid (vf_n (m := m) (by omega))
    go_enter Tryd.func26, Tryd.ntmps26
    go_wp2
    go_ret
    exact ⟨ret_bool HV.out.symm, by repeat (first | (with_reducible first | exact Below.refl _ _ | assumption | exact ext_box _) | (with_reducible apply Below.drew) | ((with_reducible refine Below.setCell ?_ ?hs _); (case hs => first | (simp; done) | (simp; omega) | omega)) | ((with_reducible refine Below.alloc ?_ ?hs _); (case hs => first | (simp; done) | (simp; omega) | omega)))⟩
  by_cases hn2 : (m.blocks.length : Int) > 1000
  · have HV := Lib.hid (vf_n (m := m) (by omega))
    go_enter Tryd.func26, Tryd.ntmps26
    go_wp2
    go_ret
    exact ⟨ret_bool HV.out.symm, by repeat (first | (with_reducible first | exact Below.refl _ _ | assumption | exact ext_box _) | (with_reducible apply Below.drew) | ((with_reducible refine Below.setCell ?_ ?hs _); (case hs => first | (simp; done) | (simp; omega) | omega)) | ((with_reducible refine Below.alloc ?_ ?hs _); (case hs => first | (simp; done) | (simp; omega) | omega)))⟩
  by_cases hz : sizeF m.blocks > 4000
  · have HV := Lib.hid (vf_size (m := m) hz)
    have HZ := Lib.hid (show (sizeF m.blocks : Int) > 4000 by omega)
    go_enter Tryd.func26, Tryd.ntmps26
    go_wp2_with (go_at_call 57; refine (HSZ.out _ (hx.below (by repeat (first | (with_reducible first | exact Below.refl _ _ | assumption | exact ext_box _) | (with_reducible apply Below.drew) | ((with_reducible refine Below.setCell ?_ ?hs _); (case hs => first | (simp; done) | (simp; omega) | omega)) | ((with_reducible refine Below.alloc ?_ ?hs _); (case hs => first | (simp; done) | (simp; omega) | omega)))))).mono ?_; rintro e w1 ⟨rfl, hb1⟩; have HB1 := Below.then_ (w := w) (by repeat (first | (with_reducible first | exact Below.refl _ _ | assumption | exact ext_box _) | (with_reducible apply Below.drew) | ((with_reducible refine Below.setCell ?_ ?hs _); (case hs => first | (simp; done) | (simp; omega) | omega)) | ((with_reducible refine Below.alloc ?_ ?hs _); (case hs => first | (simp; done) | (simp; omega) | omega)))) hb1; have hz' := HZ.out)
    go_ret
    exact ⟨ret_bool HV.out.symm, HB1⟩
  have HZ := Lib.hid (show ¬ (sizeF m.blocks : Int) > 4000 by omega)
  go_enter Tryd.func26, Tryd.ntmps26
  go_wp2_with (go_at_call 57; refine (HSZ.out _ (hx.below (by repeat (first | (with_reducible first | exact Below.refl _ _ | assumption | exact ext_box _) | (with_reducible apply Below.drew) | ((with_reducible refine Below.setCell ?_ ?hs _); (case hs => first | (simp; done) | (simp; omega) | omega)) | ((with_reducible refine Below.alloc ?_ ?hs _); (case hs => first | (simp; done) | (simp; omega) | omega)))))).mono ?_; rintro e w1 ⟨rfl, hb1⟩; have hz' := HZ.out)
  have HN := Lib.hid (show 1 ≤ m.blocks.length ∧ m.blocks.length ≤ 1000 by omega)
  have HRR := Lib.hid (show 0 ≤ m.values ∧ m.values ≤ 2000 by omega)
  have HS := Lib.hid (show sizeF m.blocks ≤ 4000 by omega)
  have HO := Lib.hid hs
  have HDF := Lib.hid (fun W (h : C (kBlock 0 0 0) W A m.blocks) => l1Defs_c A c m W h hm hs)
  have HDL := Lib.hid (show (defs m.blocks).length ≤ 2199023255552 by have h1 := defs_len hs m.blocks.length; rw [List.take_length] at h1; omega)
  have HPR := Lib.hid (fun b W (h : C (kBlock 0 0 0) W A m.blocks) => preds_c A c m b W h hm)
  clear hz' hz HZ hr1 hr2 hs
  obtain ⟨u0, rfl⟩ := (Ext.self (w.alloc (.cells #[.int .i64 m.values, .slice A m.blocks.length c] 29))).more hb1
  clear hb1
  go_loopw [4] (fun i wr => ∃ (k : Nat) (u : Ext (w.alloc (.cells #[.int .i64 m.values, .slice A m.blocks.length c] 29))), k ≤ m.blocks.length ∧ i = .int .i64 k ∧ (m.blocks.take k).all (blkOK m) = true ∧ wr = u.w) (fun i _ => m.blocks.length - (intOf i).toNat)
  case atStart => exact ⟨0, u0, by omega, rfl, by simp, rfl⟩
  case round =>
    clear u0
    obtain ⟨k, u, hk, rfl, hall, rfl⟩ := hrel
    have HA := Lib.hid hall
    clear hall
    obtain ⟨b0, b1, -⟩ := box_at u
    have hzu := u.lt
    by_cases hlt : k < m.blocks.length
    · obtain ⟨x, ex⟩ := get_of_lt hlt
      obtain ⟨a, _, rfl, ⟨_, _, rfl, ⟨A1', c1', rfl, l1', r1'⟩, _, _, rfl, ⟨A2', c2', rfl, l2', r2'⟩, rfl⟩, hc⟩ := (hx.below (ext_box u)).at ex
      obtain ⟨p0, p1, p2, p3, p4, p5⟩ := hc6 (n := k * 6) hc
      clear hc
      have hb : x.instrs.length ≤ 1048576 := (HO.out _ _ ex).2.2
      have HE := Lib.hid ex
      clear ex
      go_wp2
      go_loopw [6] (fun i wr => ∃ (j : Nat) (v : Ext (u.w.alloc (.cells #[.slice A1' x.phis.length c1', .slice A2' x.instrs.length c2', .int .i64 x.term.kind, .int .i64 x.term.a, .int .i64 x.term.to, .int .i64 x.term.els] 104))), j ≤ x.instrs.length ∧ i = .int .i64 j ∧ (x.instrs.take j).all (fun x => goodInstr x m.values 10) = true ∧ wr = v.w) (fun i _ => x.instrs.length - (intOf i).toNat)
      case atStart => exact ⟨0, Ext.self _, by omega, rfl, by simp, rfl⟩
      case round =>
        obtain ⟨j, v, hj, rfl, hall2, rfl⟩ := hrel
        have HA3 := Lib.hid hall2
        clear hall2 p0 p1 p2 p3 p4 p5
        have hbv := ext_box v
        have hzv := v.lt
        have d0 := (hbv.cell (p := ⟨w.heap.size, 0, none⟩) hzu).trans b0
        have d1 := (hbv.cell (p := ⟨w.heap.size, 1, none⟩) hzu).trans b1
        obtain ⟨e0, e1, e2, e3, e4, e5, -⟩ := box_at v
        have hzz : w.heap.size < v.w.heap.size := by omega
        by_cases hlj : j < x.instrs.length
        · obtain ⟨y, ey⟩ := get_of_lt hlj
          obtain ⟨a', _, rfl, rfl, hc⟩ := (r2'.below hbv).at ey
          have EX := Lib.hid ey
          clear ey
          have q := fun z : Ext v.w => hc5E (n := j * 5) hc z
          have q0 := fun z : Ext v.w => (q z).1
          have q1 := fun z : Ext v.w => (q z).2.1
          have q2 := fun z : Ext v.w => (q z).2.2.1
          have q3 := fun z : Ext v.w => (q z).2.2.2.1
          have q4 := fun z : Ext v.w => (q z).2.2.2.2
          clear hc q
          have f0 := fun z : Ext v.w => Ext.cell d0 z
          have g1 := fun z : Ext v.w => Ext.cell e1 z
          cases hg : goodInstr y m.values 10
          all_goals
            have HG := Lib.hid hg
            have hgi := fun W => goodInstr_c y m.values 10 W (by omega)
            rw [hg] at hgi
            clear hg
            go_wp2
            refine wp_region_ext (W := v.w) (by kernel_rfl) (by kernel_rfl) ⟨Ext.self v.w, rfl⟩ ?_
            repeat quiet_step ((first | (go_at_call 58; exact ext_of (hgi _))))
            refine wpQuiet_nil ?_
            rintro _ ⟨z, rfl⟩
            go_wp2
          · go_ret
            exact ⟨ret_bool (vf_instr HE.out EX.out HG.out).symm, ext_end u (Below.trans hbv (z.hb.mono (by omega)))⟩
          · obtain ⟨v1, hv1⟩ := v.more z.hb
            have HV1 := Lib.hid hv1
            clear hv1
            go_roundw
            case rel => exact ⟨j + 1, v1, by omega, by go_num, all_snoc EX.out HA3.out HG.out, HV1.out⟩
            case measure => simp [intOf]; omega
        · have HA4 := Lib.hid (all_take HA3.out (by omega))
          cases hg : goodTerm x.term m.values 1 m.blocks.length
          · have HV := Lib.hid (vf_term HE.out hg)
            have hgi := fun W => goodTermS_c x.term m.values 1 m.blocks.length W
            rw [hg] at hgi
            clear hg
            go_wp2_with (go_at_call 59; refine (hgi _).mono ?_; rintro e w1 ⟨rfl, hb1⟩; have HB1 := Below.then_ (w := v.w) (by repeat (first | (with_reducible first | exact Below.refl _ _ | assumption | exact ext_box _) | (with_reducible apply Below.drew) | ((with_reducible refine Below.setCell ?_ ?hs _); (case hs => first | (simp; done) | (simp; omega) | omega)) | ((with_reducible refine Below.alloc ?_ ?hs _); (case hs => first | (simp; done) | (simp; omega) | omega)))) hb1)
            go_ret
            exact ⟨ret_bool HV.out.symm, ext_end u (Below.trans hbv (HB1.mono (by omega)))⟩
          · have HG := Lib.hid hg
            have hgi := fun W => goodTermS_c x.term m.values 1 m.blocks.length W
            rw [hg] at hgi
            clear hg
            by_cases h2 : x.term.kind = 2
            · by_cases h3 : x.term.to = x.term.els
              · have HV := Lib.hid (vf_same HE.out h2 h3)
                have t2 : (x.term.kind == 2) = true := by simp [h2]
                have t3 : (x.term.to == x.term.els) = true := by simp [h3]
                clear h2 h3
                go_wp2_with (go_at_call 59; refine (hgi _).mono ?_; rintro e w1 ⟨rfl, hb1⟩; have HB1 := Below.then_ (w := v.w) (by repeat (first | (with_reducible first | exact Below.refl _ _ | assumption | exact ext_box _) | (with_reducible apply Below.drew) | ((with_reducible refine Below.setCell ?_ ?hs _); (case hs => first | (simp; done) | (simp; omega) | omega)) | ((with_reducible refine Below.alloc ?_ ?hs _); (case hs => first | (simp; done) | (simp; omega) | omega)))) hb1; have i2 := (HB1.cell hzv).trans e2; have i4 := (HB1.cell hzv).trans e4; have i5 := (HB1.cell hzv).trans e5)
                go_ret
                exact ⟨ret_bool HV.out.symm, ext_end u (Below.trans hbv (HB1.mono (by omega)))⟩
              · have HSE := Lib.hid (show sameEnds x.term = false by simp [sameEnds, h3])
                have t2 : (x.term.kind == 2) = true := by simp [h2]
                have t3 : (x.term.to == x.term.els) = false := by simp [h3]
                clear h2 h3
                go_wp2_with (go_at_call 59; refine (hgi _).mono ?_; rintro e w1 ⟨rfl, hb1⟩; have HB1 := Below.then_ (w := v.w) (by repeat (first | (with_reducible first | exact Below.refl _ _ | assumption | exact ext_box _) | (with_reducible apply Below.drew) | ((with_reducible refine Below.setCell ?_ ?hs _); (case hs => first | (simp; done) | (simp; omega) | omega)) | ((with_reducible refine Below.alloc ?_ ?hs _); (case hs => first | (simp; done) | (simp; omega) | omega)))) hb1; have i2 := (HB1.cell hzv).trans e2; have i4 := (HB1.cell hzv).trans e4; have i5 := (HB1.cell hzv).trans e5)
                obtain ⟨u1, rfl⟩ := u.more (Below.trans hbv (HB1.mono (by omega)))
                go_roundw
                case rel => exact ⟨k + 1, u1, by omega, by go_num, all_snoc HE.out HA.out (blk_term HA4.out HG.out HSE.out), rfl⟩
                case measure => simp [intOf]; omega
            · have HSE := Lib.hid (show sameEnds x.term = false by simp [sameEnds, h2])
              have t2 : (x.term.kind == 2) = false := by simp [h2]
              clear h2
              go_wp2_with (go_at_call 59; refine (hgi _).mono ?_; rintro e w1 ⟨rfl, hb1⟩; have HB1 := Below.then_ (w := v.w) (by repeat (first | (with_reducible first | exact Below.refl _ _ | assumption | exact ext_box _) | (with_reducible apply Below.drew) | ((with_reducible refine Below.setCell ?_ ?hs _); (case hs => first | (simp; done) | (simp; omega) | omega)) | ((with_reducible refine Below.alloc ?_ ?hs _); (case hs => first | (simp; done) | (simp; omega) | omega)))) hb1; have i2 := (HB1.cell hzv).trans e2)
              obtain ⟨u1, rfl⟩ := u.more (Below.trans hbv (HB1.mono (by omega)))
              go_roundw
              case rel => exact ⟨k + 1, u1, by omega, by go_num, all_snoc HE.out HA.out (blk_term HA4.out HG.out HSE.out), rfl⟩
              case measure => simp [intOf]; omega
    · have HA2 := Lib.hid (all_take HA.out (by omega))
      clear HA
      go_wp2
      clear hk hlt b0 b1 hzu
      go_loopw [7] (fun i wr => ∃ (k : Nat) (u : Ext (w.alloc (.cells #[.int .i64 m.values, .slice A m.blocks.length c] 29))), k ≤ m.blocks.length ∧ i = .int .i64 k ∧ PhisUpTo m k ∧ wr = u.w) (fun i _ => m.blocks.length - (intOf i).toNat)
      case atStart => exact ⟨0, u, by omega, rfl, fun j b hj => by omega, rfl⟩
      case round =>
        clear u
        obtain ⟨k, u, hk, rfl, hall, rfl⟩ := hrel
        have HA := Lib.hid hall
        clear hall
        obtain ⟨b0, b1, -⟩ := box_at u
        have hzu := u.lt
        by_cases hlt : k < m.blocks.length
        · obtain ⟨x, ex⟩ := get_of_lt hlt
          have HE := Lib.hid ex
          have hb : x.phis.length ≤ 1048576 := (HO.out _ _ ex).1
          have HOP := Lib.hid (HO.out _ _ ex).2.1
          have hpl := preds_len m.blocks (k : Int)
          clear ex
          go_wp2_with (go_at_call 35; refine (HPR.out _ _ (hx.below (by repeat (first | (with_reducible first | exact Below.refl _ _ | assumption | exact ext_box _) | (with_reducible apply Below.drew) | ((with_reducible refine Below.setCell ?_ ?hs _); (case hs => first | (simp; done) | (simp; omega) | omega)) | ((with_reducible refine Below.alloc ?_ ?hs _); (case hs => first | (simp; done) | (simp; omega) | omega)))))).mono ?_; rintro e w1 ⟨v, fp, rfl, hr, hf, hb1⟩; obtain ⟨A5, c5, rfl, hl5⟩ := hr.form; have HB1 := Below.then_ (w := u.w) (by repeat (first | (with_reducible first | exact Below.refl _ _ | assumption | exact ext_box _) | (with_reducible apply Below.drew) | ((with_reducible refine Below.setCell ?_ ?hs _); (case hs => first | (simp; done) | (simp; omega) | omega)) | ((with_reducible refine Below.alloc ?_ ?hs _); (case hs => first | (simp; done) | (simp; omega) | omega)))) hb1; clear hr hf)
          obtain ⟨u1, hu1⟩ := u.more HB1
          subst hu1
          clear b0 b1 hzu hb1 HB1
          go_loopw [9] (fun i wr => ∃ (j : Nat) (v : Ext (w.alloc (.cells #[.int .i64 m.values, .slice A m.blocks.length c] 29))), j ≤ x.phis.length ∧ i = .int .i64 j ∧ (x.phis.take j).all (phiOK m.values (preds m.blocks k).length) = true ∧ wr = v.w) (fun i _ => x.phis.length - (intOf i).toNat)
          case atStart => exact ⟨0, u1, by omega, rfl, by simp, rfl⟩
          case round =>
            clear u1 u
            obtain ⟨j, u, hj, rfl, hall2, rfl⟩ := hrel
            have HA3 := Lib.hid hall2
            clear hall2
            obtain ⟨b0, b1, -⟩ := box_at u
            have hzu := u.lt
            obtain ⟨a, _, rfl, ⟨_, _, rfl, ⟨A1', c1', rfl, l1', r1'⟩, _, _, rfl, ⟨A2', c2', rfl, l2', r2'⟩, rfl⟩, hc⟩ := (hx.below (ext_box u)).at HE.out
            obtain ⟨p0, p1, p2, p3, p4, p5⟩ := hc6 (n := k * 6) hc
            clear hc
            by_cases hlj : j < x.phis.length
            · obtain ⟨p, ep⟩ := get_of_lt hlj
              have EX := Lib.hid ep
              obtain ⟨a', _, rfl, ⟨_, _, rfl, rfl, ⟨A3', c3', rfl, l3', r3'⟩⟩, hc⟩ := r1'.at ep
              obtain ⟨q0, q1⟩ := hc2 (n := j * 2) hc
              clear hc
              have hal : p.args.length ≤ 1048576 := HOP.out _ _ ep
              clear ep
              by_cases hl1 : (p.args.length : Int) < 1
              · have HV := Lib.hid (vf_phi HE.out EX.out (phi_len (by omega)))
                go_wp2
                go_ret
                exact ⟨ret_bool HV.out.symm, ext_end u (by repeat (first | (with_reducible first | exact Below.refl _ _ | assumption | exact ext_box _) | (with_reducible apply Below.drew) | ((with_reducible refine Below.setCell ?_ ?hs _); (case hs => first | (simp; done) | (simp; omega) | omega)) | ((with_reducible refine Below.alloc ?_ ?hs _); (case hs => first | (simp; done) | (simp; omega) | omega))))⟩
              · by_cases hl2 : p.args.length = (preds m.blocks k).length
                · have HL := Lib.hid (show 1 ≤ p.args.length ∧ p.args.length = (preds m.blocks k).length by omega)
                  have hl3 : ((p.args.length : Int) != ((preds m.blocks k).length : Int)) = false := by simp [hl2]
                  clear hl2
                  go_wp2
                  go_loopw [11] (fun i wr => ∃ (l : Nat) (v : Ext (u.w.alloc (.cells #[.int .i64 p.dst, .slice A3' p.args.length c3'] 110))), l ≤ p.args.length ∧ i = .int .i64 l ∧ (p.args.take l).all (inR m.values) = true ∧ wr = v.w) (fun i _ => p.args.length - (intOf i).toNat)
                  case atStart => exact ⟨0, Ext.self _, by omega, rfl, by simp, rfl⟩
                  case round =>
                    clear p0 p1 p2 p3 p4 p5 q0 q1
                    obtain ⟨l, v, hl, rfl, hall4, rfl⟩ := hrel
                    have HA5 := Lib.hid hall4
                    clear hall4
                    have hbv := ext_box v
                    have hzv := v.lt
                    have d0 := (hbv.cell (p := ⟨w.heap.size, 0, none⟩) hzu).trans b0
                    obtain ⟨e0, e1, -⟩ := box_at v
                    have hzz : w.heap.size < v.w.heap.size := by omega
                    by_cases hll : l < p.args.length
                    · obtain ⟨y, ey⟩ := get_of_lt hll
                      obtain ⟨a4, _, rfl, rfl, hc⟩ := (r3'.below hbv).at ey
                      have s0 := hc1 (n := l * 1) hc
                      rw [Nat.mul_one] at s0
                      have EY := Lib.hid ey
                      clear hc ey
                      have s0E := fun z : Ext v.w => Ext.cell s0 z
                      have d0E := fun z : Ext v.w => Ext.cell d0 z
                      have e1E := fun z : Ext v.w => Ext.cell e1 z
                      by_cases hy : y < 0
                      · have HV := Lib.hid (vf_phi HE.out EX.out (phi_arg EY.out (inR_not.2 (by omega))))
                        go_wp2
                        go_quiet (fail)
                        go_wp2
                        go_ret
                        exact ⟨ret_bool HV.out.symm, ext_end u (below_drewN hbv _)⟩
                      · by_cases hy2 : y ≥ m.values
                        · have HV := Lib.hid (vf_phi HE.out EX.out (phi_arg EY.out (inR_not.2 (by omega))))
                          go_wp2
                          go_quiet (fail)
                          go_wp2
                          go_ret
                          exact ⟨ret_bool HV.out.symm, ext_end u (below_drewN hbv _)⟩
                        · have HIN := Lib.hid (show inR m.values y = true from inR_iff.2 (by omega))
                          go_wp2
                          go_quiet (fail)
                          go_wp2
                          go_roundw
                          case rel => exact ⟨l + 1, ⟨_, below_drewN v.hb _⟩, by omega, by go_num, all_snoc EY.out HA5.out HIN.out, rfl⟩
                          case measure => simp [intOf]; omega
                    · have HOK := Lib.hid (phi_ok HL.out (all_take HA5.out (by omega)))
                      obtain ⟨u1, hu1⟩ := u.more hbv
                      have HU := Lib.hid hu1
                      clear hu1
                      go_wp2
                      go_roundw
                      case rel => exact ⟨j + 1, u1, by omega, by go_num, all_snoc EX.out HA3.out HOK.out, HU.out⟩
                      case measure => simp [intOf]; omega
                · have HV := Lib.hid (vf_phi HE.out EX.out (phi_len (np := (preds m.blocks k).length) (by omega)))
                  have hl3 : ((p.args.length : Int) != ((preds m.blocks k).length : Int)) = true := by simp; omega
                  clear hl2
                  go_wp2
                  go_ret
                  exact ⟨ret_bool HV.out.symm, ext_end u (by repeat (first | (with_reducible first | exact Below.refl _ _ | assumption | exact ext_box _) | (with_reducible apply Below.drew) | ((with_reducible refine Below.setCell ?_ ?hs _); (case hs => first | (simp; done) | (simp; omega) | omega)) | ((with_reducible refine Below.alloc ?_ ?hs _); (case hs => first | (simp; done) | (simp; omega) | omega))))⟩
            · have HA4 := Lib.hid (all_take HA3.out (by omega))
              go_wp2
              go_roundw
              case rel => exact ⟨k + 1, u, by omega, by go_num, phisUpTo_snoc HA.out HE.out HA4.out, rfl⟩
              case measure => simp [intOf]; omega
        · have HP := Lib.hid (show PhisUpTo m m.blocks.length by have := HA.out; rwa [show k = m.blocks.length by omega] at this)
          clear HA
          by_cases hdl : ((defs m.blocks).length : Int) = m.values
          · have HD := Lib.hid hdl
            have hd1 : (((defs m.blocks).length : Int) != m.values) = false := by simp [hdl]
            clear hdl
            go_wp2_with (go_at_call 60; refine (HDF.out _ (hx.below (by repeat (first | (with_reducible first | exact Below.refl _ _ | assumption | exact ext_box _) | (with_reducible apply Below.drew) | ((with_reducible refine Below.setCell ?_ ?hs _); (case hs => first | (simp; done) | (simp; omega) | omega)) | ((with_reducible refine Below.alloc ?_ ?hs _); (case hs => first | (simp; done) | (simp; omega) | omega)))))).mono ?_; rintro e w1 ⟨v, fp, rfl, hr, hf, hb1⟩; obtain ⟨A5, c5, rfl, hl5⟩ := hr.form; have HB1 := Below.then_ (w := u.w) (by repeat (first | (with_reducible first | exact Below.refl _ _ | assumption | exact ext_box _) | (with_reducible apply Below.drew) | ((with_reducible refine Below.setCell ?_ ?hs _); (case hs => first | (simp; done) | (simp; omega) | omega)) | ((with_reducible refine Below.alloc ?_ ?hs _); (case hs => first | (simp; done) | (simp; omega) | omega)))) hb1; have HC := Lib.hid hr.reads; clear hr hf; have b0' := (HB1.cell (p := ⟨w.heap.size, 0, none⟩) hzu).trans b0)
            have HHC := Lib.hid (fun x => has_c A5 c5 (defs m.blocks) x w1 HC.out (by have := HDL.out; omega))
            have hvr := HRR.out
            have hd2 := HD.out
            clear hk hlt
            go_loop [13] (fun i => ∃ j : Nat, (j : Int) ≤ m.values ∧ i = .int .i64 j ∧ ∀ v : Nat, v < j → (v : Int) ∈ defs m.blocks) (fun i => m.values.toNat - (intOf i).toNat)
            case atStart => exact ⟨0, by omega, rfl, by omega⟩
            case round =>
              obtain ⟨j, hj, rfl, hin⟩ := hrel
              have HIN := Lib.hid hin
              clear hin
              by_cases hlj : (j : Int) < m.values
              · by_cases hmem : (j : Int) ∈ defs m.blocks
                · have HM := Lib.hid hmem
                  have hhc := HHC.out (j : Int)
                  rw [decide_eq_true hmem] at hhc
                  clear hmem hd2
                  go_wp2_with (go_at_call 27; refine hhc.mono ?_; rintro e w2 ⟨rfl, rfl⟩)
                  go_round
                  case rel => exact ⟨j + 1, by omega, by go_num, fun v hv => by rcases Nat.lt_or_eq_of_le (Nat.le_of_lt_succ hv) with h | rfl; exact HIN.out v h; exact HM.out⟩
                  case measure => simp [intOf]; omega
                · have HV := Lib.hid (vf_defs (m := m) (defs_miss hlj hmem))
                  have hhc := HHC.out (j : Int)
                  rw [decide_eq_false hmem] at hhc
                  clear hmem hd2
                  go_wp2_with (go_at_call 27; refine hhc.mono ?_; rintro e w2 ⟨rfl, rfl⟩)
                  go_ret
                  exact ⟨ret_bool HV.out.symm, ext_end u HB1⟩
              · have HV := Lib.hid (vf_all HRR.out HN.out HS.out HA2.out HP.out (defs_all HRR.out.1 HD.out fun v hv => HIN.out v (by omega)))
                clear hd2
                go_wp2
                go_ret
                exact ⟨ret_bool HV.out.symm, ext_end u HB1⟩
          · have HV := Lib.hid (vf_defs (m := m) (defs_count hdl))
            have hd1 : (((defs m.blocks).length : Int) != m.values) = true := by simp [hdl]
            clear hdl
            go_wp2_with (go_at_call 60; refine (HDF.out _ (hx.below (by repeat (first | (with_reducible first | exact Below.refl _ _ | assumption | exact ext_box _) | (with_reducible apply Below.drew) | ((with_reducible refine Below.setCell ?_ ?hs _); (case hs => first | (simp; done) | (simp; omega) | omega)) | ((with_reducible refine Below.alloc ?_ ?hs _); (case hs => first | (simp; done) | (simp; omega) | omega)))))).mono ?_; rintro e w1 ⟨v, fp, rfl, hr, hf, hb1⟩; obtain ⟨A5, c5, rfl, hl5⟩ := hr.form; have HB1 := Below.then_ (w := u.w) (by repeat (first | (with_reducible first | exact Below.refl _ _ | assumption | exact ext_box _) | (with_reducible apply Below.drew) | ((with_reducible refine Below.setCell ?_ ?hs _); (case hs => first | (simp; done) | (simp; omega) | omega)) | ((with_reducible refine Below.alloc ?_ ?hs _); (case hs => first | (simp; done) | (simp; omega) | omega)))) hb1; clear hr hf; have b0' := (HB1.cell (p := ⟨w.heap.size, 0, none⟩) hzu).trans b0)
            go_ret
            exact ⟨ret_bool HV.out.symm, ext_end u HB1⟩
end Go.Proofs.YtnbkgaofdkkdnaaDoor
namespace Go.Proofs.YtnbkgaofdkkdnaaDoor
open Go.RowKit
set_option linter.unusedSimpArgs false
set_option linter.unusedVariables false
set_option maxRecDepth 100000

theorem wpList_make_row {α : Type} (d : Kd α) (z : α) (zc : List Value) {P : Program} (w : World) {ops : Array Oper} {rest : List Oper} {o : Oper} {a : Act} {Q : Exit → Act → World → Prop}
    (hg : o.guard = none) (l c : Operand) (t : TypeId) (hop : o.op = Op.makeSlice t l c) (e : TypeId) (i : TypeInfo) (zv : Value) (h1 : P.underlying t = some (.slice e)) (h2 : P.info? e = some i) (h3 : i.zero = some zv) (h4 : i.size = d.sz)
    (hzc : zv.cells = zc.toArray) (h0 : 0 < d.sz) (hz : ∀ w', d.O w' z zc [])
    (L : Int) (n : Nat) (hl : a.eval l = .int .i64 L) (hc : a.eval c = .int .i64 L) (hL : L = (n : Int)) (b2 : i.bytes * n ≤ 281474976710656) (b3 : n ≤ maxLen)
    (hK : ∀ w', Row e d w' (.slice (some ⟨w.heap.size, 0, none⟩) n n) (List.replicate n z) [w.heap.size] → Below w.heap.size w w' → w.heap.size < w'.heap.size → wpList P ops Q rest (a.put o.dst (.slice (some ⟨w.heap.size, 0, none⟩) n n)) w') :
    wpList P ops Q (o :: rest) a w := by
  refine wpList_make_full w hg l c t hop 0 e i zv d.sz h1 h2 h3 h4 .i64 .i64 L L n hl hc hL hL b2 b3 (Nat.zero_le _) ?_
  intro w' ho hgr
  rw [hzc] at ho
  have hr := Row.made (d := d) (z := z) (zc := zc) ho h0 (hz w')
  exact hK w' hr ((Below.refl _ w).grown hgr (Nat.le_refl _) (by simp)) (hr.lt _ (by simp))
theorem bat {B b o : Nat} {w w' : World} {v : Value} (hb : Below B w w') (h : w.cell? ⟨b, o, none⟩ = some v) (hlt : b < B) : w'.cell? ⟨b, o, none⟩ = some v := (hb.cell (p := ⟨b, o, none⟩) hlt).trans h
theorem new_cell (w : World) (cs : Array Value) (T : TypeId) (j : Nat) (v : Value) (h : cs[j]? = some v) : (w.alloc (.cells cs T)).cell? ⟨w.heap.size, j, none⟩ = some v := by
  have := box_cell w cs T (Ext.self _) j
  rw [h] at this
  exact this
theorem Chg.at {S : Nat → Prop} {b o : Nat} {w w' : World} {v : Value} (hb : Chg S w w') (h : w.cell? ⟨b, o, none⟩ = some v) (hS : ¬ S b) : w'.cell? ⟨b, o, none⟩ = some v := (World.cell?_of_block (hb.block b (World.block_lt_of_cell? w _ h) hS)).trans h
def Ext.step {W : World} (v : Ext W) {w' : World} (h : Below v.w.heap.size v.w w') : Ext W := ⟨w', v.hb.trans (h.mono v.hb.size)⟩
def Ext.chg {W : World} (v : Ext W) {w' : World} {S : Nat → Prop} (h : Chg S v.w w') (hS : ∀ k, S k → W.heap.size ≤ k) : Ext W := ⟨w', v.hb.trans (h.below v.hb.size hS)⟩
end Go.Proofs.YtnbkgaofdkkdnaaDoor
