/- Contract: (*flow).number. -/
import Derived.Test.YtnbkgaofdkkdnaaDoorHg
import Derived.Laws.EntriesVeiled
namespace Go.Proofs.YtnbkgaofdkkdnaaDoor
open Go.RowKit
set_option linter.unusedSimpArgs false
set_option linter.unusedVariables false
set_option maxRecDepth 100000
open Dom

theorem num_begin {a : FlowA} {bs : List Block} {W0 : World} {n : Nat} {P : List (List Int)} {I Q D : List Int} {L : List Bool} {vo : Value} {vals : Int} {Af : Option Addr} {cf : Nat} {w : World} (hF : FlowM a n P I Q L D vo w) (hlow : ∀ q, a.Own q → W0.heap.size ≤ q) (hext : Below W0.heap.size W0 w) :
    NumM ⟨a, w.heap.size, w.heap.size + 1, w.heap.size + 1 + 1 + 1 + 1, w.heap.size + 1 + 1 + 1, vals, Af, cf⟩ bs W0 n P I D vo Q L [] (.slice (some ⟨w.heap.size + 1 + 1, 0, none⟩) 0 0) [w.heap.size + 1 + 1]
      (((((w.alloc (Obj.cells #[Value.pointer (some ⟨a.g, 0, none⟩)] 55)).alloc (Obj.cells #[Value.int IntKind.i64 vals, Value.slice Af bs.length cf] 29)).alloc (Obj.cells #[] 2)).alloc
          (Obj.cells #[Value.slice (some ⟨w.heap.size + 1 + 1, 0, none⟩) 0 0] 35)).alloc
      (Obj.cells #[Value.func (Fn.func 97) #[] #[Value.pointer (some ⟨w.heap.size, 0, none⟩), Value.pointer (some ⟨w.heap.size + 1, 0, none⟩), Value.pointer (some ⟨w.heap.size + 1 + 1 + 1 + 1, 0, none⟩), Value.pointer (some ⟨w.heap.size + 1 + 1 + 1, 0, none⟩)]] 149)) ∧ Below w.heap.size w (((((w.alloc (Obj.cells #[Value.pointer (some ⟨a.g, 0, none⟩)] 55)).alloc (Obj.cells #[Value.int IntKind.i64 vals, Value.slice Af bs.length cf] 29)).alloc (Obj.cells #[] 2)).alloc
          (Obj.cells #[Value.slice (some ⟨w.heap.size + 1 + 1, 0, none⟩) 0 0] 35)).alloc
      (Obj.cells #[Value.func (Fn.func 97) #[] #[Value.pointer (some ⟨w.heap.size, 0, none⟩), Value.pointer (some ⟨w.heap.size + 1, 0, none⟩), Value.pointer (some ⟨w.heap.size + 1 + 1 + 1 + 1, 0, none⟩), Value.pointer (some ⟨w.heap.size + 1 + 1 + 1, 0, none⟩)]] 149)) := by
  have hlt : ∀ q, a.Own q → q < w.heap.size := fun q hq => hF.lt hq
  have hs := hext.size
  refine ⟨?_, by repeat (first | (with_reducible first | exact Below.refl _ _ | assumption | exact ext_box _) | (with_reducible apply Below.drew) | ((with_reducible refine Below.setCell ?_ ?hs _); (case hs => first | (simp; done) | (simp; omega) | omega)) | ((with_reducible refine Below.alloc ?_ ?hs _); (case hs => first | (simp; done) | (simp; omega) | omega)))⟩
  refine ⟨hF.below (by repeat (first | (with_reducible first | exact Below.refl _ _ | assumption | exact ext_box _) | (with_reducible apply Below.drew) | ((with_reducible refine Below.setCell ?_ ?hs _); (case hs => first | (simp; done) | (simp; omega) | omega)) | ((with_reducible refine Below.alloc ?_ ?hs _); (case hs => first | (simp; done) | (simp; omega) | omega)))), bk_old (bk_old (bk_old (bk_old (bk_newl rfl)))), bk_old (bk_old (bk_old (bk_newl (by simp)))), bk_newl (by simp), bk_old (bk_newl (by simp)), ?_, ?_, ?_, ?_, hext.trans (Below.mono (by repeat (first | (with_reducible first | exact Below.refl _ _ | assumption | exact ext_box _) | (with_reducible apply Below.drew) | ((with_reducible refine Below.setCell ?_ ?hs _); (case hs => first | (simp; done) | (simp; omega) | omega)) | ((with_reducible refine Below.alloc ?_ ?hs _); (case hs => first | (simp; done) | (simp; omega) | omega)))) hs)⟩
  · exact (Row.empty0 (W := (w.alloc _).alloc _) (by simp)).chg (S := fun _ => False) (by (repeat (first | (with_reducible first | exact Chg.refl _ _ | assumption) | (with_reducible refine Chg.drew ?_) | ((with_reducible refine Chg.setCell ?_ ?hs _); (case hs => first | (simp; done) | (simp; omega) | omega)) | (with_reducible refine Chg.alloc ?_ _)))) (by simp)
  · intro q hq
    simp at hq
    subst hq
    refine ⟨by omega, fun k => ?_⟩
    rcases k with k | k | k | k | k
    · have := hlt _ k; omega
    all_goals (simp at k; try omega)
  · refine ⟨fun k => ?_, fun k => ?_, fun k => ?_, fun k => ?_, by simp; omega, by simp, by simp⟩
    all_goals (have := hlt _ k; simp at this; try omega)
  · intro q hq
    rcases hq with k | k | k | k | k
    · exact hlow q k
    all_goals (simp at k; omega)
def RetNum (a : FlowA) (bs : List Block) (n : Nat) (P : List (List Int)) (I D : List Int) (vo : Value) (w : World) (e : Ending) (w' : World) : Prop :=
  ∃ (Q : List Int) (v : Value) (fp : List Nat), e = .returned v ∧ FlowM a n P I Q (dfs (succB bs) n 0 (List.replicate n false, [])).1 D vo w' ∧ Row 2 kI64 w' v (natI (dfs (succB bs) n 0 (List.replicate n false, [])).2) fp ∧ (∀ q ∈ fp, w.heap.size ≤ q) ∧ PostOk Q (dfs (succB bs) n 0 (List.replicate n false, [])).2 ∧ Chg a.Own w w'
set_option maxHeartbeats 4000000 in
theorem number_c (a : FlowA) (bs : List Block) (W0 : World) (n : Nat) (P : List (List Int)) (I Q D : List Int) (vo : Value) (vals : Int) (Af : Option Addr) (cf : Nat) (w : World) (hF : FlowM a n P I Q (List.replicate n false) D vo w) (hbs : bs.length = n) (hok : OkT bs) (hx : C (kBlock 0 0 0) W0 Af bs) (hn : n ≤ 1048576)
    (hlow : ∀ q, a.Own q → W0.heap.size ≤ q) (hext : Below W0.heap.size W0 w) :
    Calls Tryd.prog 66 #[.pointer (some ⟨a.g, 0, none⟩), .agg #[.int .i64 vals, .slice Af bs.length cf]] w (RetNum a bs n P I D vo w) := by
  have hmf : ∀ (fn : Fn) (first cap : Array Value) (w : World), (Instr.makeFunc fn first cap).run Tryd.prog w = .ok (.func fn first cap) w := fun _ _ _ _ => rfl
  have HB := Lib.hid (num_begin (bs := bs) (vals := vals) (Af := Af) (cf := cf) hF hlow hext)
  have hunm : unm (List.replicate n false) ≤ n := by unfold unm; exact Nat.le_trans (List.length_filter_le _ _) (by simp)
  have hmk : ¬ Mk (List.replicate n false) 0 := fun h => by
    unfold Mk at h
    rw [List.getD_eq_getElem?_getD, List.getElem?_replicate] at h
    split at h <;> simp at h
  have HV := Lib.hid (visit_c _ bs W0 n P I D vo hbs hok hx hn n 0 Q (List.replicate n false) [] _ _ _ HB.out.1 ⟨by simp, by simp, by simp⟩ (fun x hx => by simp at hx) hF.pos hmk hunm)
  have HLT := Lib.hid (fun q (hq : a.Own q) => hF.lt hq)
  clear hmk hunm hbs hok hx hF hlow hext
  go_enter Tryd.func66, Tryd.ntmps66
  go_upto_region 4 with fail
  go_wp2_with (go_at_call 97; refine HV.out.mono ?_; rintro e w1 ⟨rfl, Q1, v1, fp1, hM1, hP1, hf1, hC1⟩; have g0 := hM1.bl.cell 0 rfl)
  go_ret
  refine ⟨Q1, v1, fp1, rfl, hM1.flow, hM1.row, fun q hq => ?_, hP1, ?_⟩
  · rcases hf1 q hq with h | h
    · simp at h; omega
    · simp at h; omega
  · have h2 := (chg_of HB.out.2).mono (T := fun q => a.Own q ∨ w.heap.size ≤ q) (fun _ _ k => k.elim)
    exact (h2.trans (hC1.mono fun q _ k => by
      rcases k with (k | k | k | k | k) | k
      · exact .inl k
      all_goals (right; simp at k; omega))).mono fun q hq k => k.elim id fun k => by omega
end Go.Proofs.YtnbkgaofdkkdnaaDoor
