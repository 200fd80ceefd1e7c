/- The dominators' loop in memory: state, nearest as it is called there. -/
import Derived.Test.YtnbkgaofdkkdnaaDoorHl
namespace Go.Proofs.YtnbkgaofdkkdnaaDoor
open Go.RowKit
set_option linter.unusedSimpArgs false
set_option linter.unusedVariables false
set_option maxRecDepth 100000
open Dom

structure FS (a : FlowA) (bs : List Block) (Q : List Int) (L : List Bool) (D : List Int) (S : List Nat) (Al : Option Addr) (cl : Nat) (fp : List Nat) (W0 : World) (I : List Int) (w : World) : Prop where
  flow : FlowM a bs.length (tab bs.length fun t => predM t bs 0) I Q L D (.slice none 0 0) w
  row : Row 2 kI64 w (.slice Al S.length cl) (natI S) fp
  own : ∀ q ∈ fp, W0.heap.size ≤ q ∧ ¬ a.Own q
  low : ∀ q, a.Own q → W0.heap.size ≤ q
  ext : Below W0.heap.size W0 w
namespace FS
variable {a : FlowA} {bs : List Block} {Q : List Int} {L : List Bool} {D : List Int} {S : List Nat} {Al : Option Addr} {cl : Nat} {fp : List Nat} {W0 : World} {I : List Int} {w w' : World}
theorem below (h : FS a bs Q L D S Al cl fp W0 I w) (hb : Below w.heap.size w w') : FS a bs Q L D S Al cl fp W0 I w' :=
  ⟨h.flow.below hb, h.row.chg (chg_of hb) fun _ _ h => h, h.own, h.low, h.ext.trans (hb.mono h.ext.size)⟩
theorem setI (h : FS a bs Q L D S Al cl fp W0 I w) {i : Nat} (hi : i < bs.length) (y : Int) : FS a bs Q L D S Al cl fp W0 (I.set i y) (w.setCell ⟨a.gi, i, none⟩ (.int .i64 y)) := by
  obtain ⟨h1, h2⟩ := h.flow.setI hi y
  have hg : a.Own a.gi := by simp [FlowA.Own]
  exact ⟨h1, h.row.chg h2 fun q hq e => (h.own q hq).2 (e ▸ hg), h.own, h.low, h.ext.trans (h2.below h.ext.size fun q hq => by rw [hq]; exact h.low _ hg)⟩
theorem at_ (h : FS a bs Q L D S Al cl fp W0 I w) {i b : Nat} (hb : S[i]? = some b) : ∃ A, Al = some A ∧ A.block ∈ fp ∧ w.cell? (A.add i) = some (.int .i64 (b : Int)) := by
  have hr := h.row
  rw [← natI_len] at hr
  obtain ⟨A, _, hA, rfl, hc⟩ := hr.reads.at (natI_get hb)
  have := hc1 (n := i * 1) hc
  rw [Nat.mul_one] at this
  refine ⟨A, hA, ?_, this⟩
  rw [row_int_fp h.row]
  subst hA
  rcases h.row.form' with ⟨h4, _⟩ | ⟨g, cap, h4, _⟩
  · cases h4
  · injection h4 with h5 _ _
    obtain rfl := Option.some.inj h5
    simp [Value.ownBlock]
end FS
def readI (g n : Nat) (w : World) : List Int := (List.range n).map fun i => match w.cell? ⟨g, i, none⟩ with
  | some (.int _ x) => x
  | _ => 0
theorem readI_arr {T : TypeId} {g n : Nat} {xs : List Int} {w : World} (h : Arr T eI g n xs w) : readI g n w = xs := by
  apply List.ext_getElem?
  intro i
  unfold readI
  by_cases hi : i < n
  · have hx := List.getElem?_eq_getElem (l := xs) (i := i) (by rw [h.len]; exact hi)
    rw [hx, List.getElem?_map, List.getElem?_range hi]
    simp [h.cell hx]
  · rw [List.getElem?_eq_none (by simp; omega), List.getElem?_eq_none (by rw [h.len]; omega)]
theorem near_c {a : FlowA} {bs : List Block} {Q : List Int} {L : List Bool} {D : List Int} {S : List Nat} {t : Nat → Nat} {Al : Option Addr} {cl : Nat} {fp : List Nat} {W0 : World} {I : List Int} (hN : Num bs L S t) (hQ : PostOk Q S) (hn : bs.length ≤ 1048576) {cur : Nat} (hL : LoopSt bs L S t I cur) {b : Nat} (hb : RA (succB bs) none b) (h0 : b ≠ 0) (hc : cur ≤ S.idxOf b + 1)
    (W : World) (h : FS a bs Q L D S Al cl fp W0 I W) : Calls Tryd.prog 67 #[.pointer (some ⟨a.g, 0, none⟩), .int .i64 b] W (RetN (rpB bs L) (parL I) b W) := by
  have hS : S.length ≤ bs.length := nodup_len _ S hN.nodup fun x hx => hN.lt hx
  have hb' := hN.lt ((hN.mem b).2 hb)
  refine nearest_c a bs.length _ I Q L D _ W h.flow S.idxOf (S.idxOf 0) (hL.mt hN) (fun x hx => hQ x ((hN.mem x).2 (hL.only x hx))) bs b rfl ?_ hL.vals (hN.known hL.st hb h0 hc) hn ?_
  · rw [tab_get _ hb', predB_cast]
  · have := hN.top0; omega
end Go.Proofs.YtnbkgaofdkkdnaaDoor
