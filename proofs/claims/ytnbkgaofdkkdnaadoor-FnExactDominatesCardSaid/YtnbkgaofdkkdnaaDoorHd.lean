/- The flow's blocks in memory. -/
import Derived.Test.YtnbkgaofdkkdnaaDoorHb
namespace Go.Proofs.YtnbkgaofdkkdnaaDoor
open Go.RowKit
set_option linter.unusedSimpArgs false
set_option linter.unusedVariables false
set_option maxRecDepth 100000

/-- Where a flow lies. -/
structure FlowA where
  g : Nat
  gi : Nat
  gp : Nat
  gr : Nat
  gd : Nat
  A : Option Addr
  cA : Nat
  fp : List Nat
def FlowA.Own (a : FlowA) (q : Nat) : Prop := q ∈ a.fp ∨ q = a.g ∨ q = a.gi ∨ q = a.gp ∨ q = a.gr ∨ q = a.gd
def ptr (g : Nat) : Option Addr := some ⟨g, 0, none⟩
abbrev eI (x : Int) : Value := .int .i64 x
abbrev eB (x : Bool) : Value := .bool x
structure FlowM (a : FlowA) (n : Nat) (P : List (List Int)) (I Q : List Int) (L : List Bool) (D : List Int) (vo : Value) (w : World) : Prop where
  box : Bk a.g 60 [.slice a.A n a.cA, .slice (some ⟨a.gi, 0, none⟩) n n, .slice (some ⟨a.gp, 0, none⟩) n n, .slice (some ⟨a.gr, 0, none⟩) n n, vo, .slice (some ⟨a.gd, 0, none⟩) n n] w
  preds : Row 35 kI64s w (.slice a.A n a.cA) P a.fp
  idom : Arr 2 eI a.gi n I w
  post : Arr 2 eI a.gp n Q w
  reach : Arr 4 eB a.gr n L w
  depth : Arr 3 eI a.gd n D w
  plen : P.length = n
  pos : 0 < n
  apart : (∀ q ∈ a.fp, q ≠ a.g ∧ q ≠ a.gi ∧ q ≠ a.gp ∧ q ≠ a.gr ∧ q ≠ a.gd) ∧ a.g ≠ a.gi ∧ a.g ≠ a.gp ∧ a.g ≠ a.gr ∧ a.g ≠ a.gd ∧ a.gi ≠ a.gp ∧ a.gi ≠ a.gr ∧ a.gi ≠ a.gd ∧ a.gp ≠ a.gr ∧ a.gp ≠ a.gd ∧ a.gr ≠ a.gd
namespace FlowM
variable {a : FlowA} {n : Nat} {P : List (List Int)} {I Q : List Int} {L : List Bool} {D : List Int} {vo : Value} {w w' : World}
theorem chg {S : Nat → Prop} (h : FlowM a n P I Q L D vo w) (hc : Chg S w w') (hS : ∀ q, a.Own q → ¬ S q) : FlowM a n P I Q L D vo w' :=
  ⟨h.box.chg hc (hS _ (by simp [FlowA.Own])), h.preds.chg hc fun q hq => hS q (.inl hq), h.idom.chg hc (hS _ (by simp [FlowA.Own])), h.post.chg hc (hS _ (by simp [FlowA.Own])), h.reach.chg hc (hS _ (by simp [FlowA.Own])), h.depth.chg hc (hS _ (by simp [FlowA.Own])), h.plen, h.pos, h.apart⟩
theorem below (h : FlowM a n P I Q L D vo w) (hb : Below w.heap.size w w') : FlowM a n P I Q L D vo w' := h.chg (chg_of hb) fun _ _ h => h
theorem lt (h : FlowM a n P I Q L D vo w) {q : Nat} (hq : a.Own q) : q < w.heap.size := by
  rcases hq with hq | rfl | rfl | rfl | rfl | rfl
  · exact h.preds.lt q hq
  · exact h.box.lt
  · exact h.idom.lt h.pos
  · exact h.post.lt h.pos
  · exact h.reach.lt h.pos
  · exact h.depth.lt h.pos
theorem cells (h : FlowM a n P I Q L D vo w) : w.cell? ⟨a.g, 0, none⟩ = some (.slice a.A n a.cA) ∧ w.cell? ⟨a.g, 1, none⟩ = some (.slice (some ⟨a.gi, 0, none⟩) n n) ∧ w.cell? ⟨a.g, 2, none⟩ = some (.slice (some ⟨a.gp, 0, none⟩) n n) ∧ w.cell? ⟨a.g, 3, none⟩ = some (.slice (some ⟨a.gr, 0, none⟩) n n) ∧ w.cell? ⟨a.g, 4, none⟩ = some vo ∧ w.cell? ⟨a.g, 5, none⟩ = some (.slice (some ⟨a.gd, 0, none⟩) n n) :=
  ⟨h.box.cell 0 rfl, h.box.cell 1 rfl, h.box.cell 2 rfl, h.box.cell 3 rfl, h.box.cell 4 rfl, h.box.cell 5 rfl⟩
theorem row (h : FlowM a n P I Q L D vo w) {b : Nat} {ps : List Int} (hb : P[b]? = some ps) : ∃ (A : Addr) (A1 : Option Addr) (c1 : Nat), a.A = some A ∧ w.cell? (A.add b) = some (.slice A1 ps.length c1) ∧ ps.length ≤ c1 ∧ C kI64 w A1 ps := by
  have hp := h.preds
  rw [← h.plen] at hp
  obtain ⟨A, _, hA, ⟨A1, c1, rfl, hl, hC⟩, hc⟩ := hp.reads.at hb
  have := hc1 (n := b * 1) hc
  rw [Nat.mul_one] at this
  exact ⟨A, A1, c1, hA, this, hl, hC⟩
theorem setI (h : FlowM a n P I Q L D vo w) {i : Nat} (hi : i < n) (y : Int) : FlowM a n P (I.set i y) Q L D vo (w.setCell ⟨a.gi, i, none⟩ (.int .i64 y)) ∧ Chg (fun q => q = a.gi) w (w.setCell ⟨a.gi, i, none⟩ (.int .i64 y)) := by
  obtain ⟨h1, h2⟩ := h.idom.set hi y
  obtain ⟨k0, k1, k2, k3, k4, k5, k6, k7, k8, k9, k10⟩ := h.apart
  exact ⟨⟨h.box.chg h2 k1, h.preds.chg h2 fun q hq => (k0 q hq).2.1, h1, h.post.chg h2 fun e => k5 e.symm, h.reach.chg h2 fun e => k6 e.symm, h.depth.chg h2 fun e => k7 e.symm, h.plen, h.pos, h.apart⟩, h2⟩
theorem setQ (h : FlowM a n P I Q L D vo w) {i : Nat} (hi : i < n) (y : Int) : FlowM a n P I (Q.set i y) L D vo (w.setCell ⟨a.gp, i, none⟩ (.int .i64 y)) ∧ Chg (fun q => q = a.gp) w (w.setCell ⟨a.gp, i, none⟩ (.int .i64 y)) := by
  obtain ⟨h1, h2⟩ := h.post.set hi y
  obtain ⟨k0, k1, k2, k3, k4, k5, k6, k7, k8, k9, k10⟩ := h.apart
  exact ⟨⟨h.box.chg h2 k2, h.preds.chg h2 fun q hq => (k0 q hq).2.2.1, h.idom.chg h2 k5, h1, h.reach.chg h2 fun e => k8 e.symm, h.depth.chg h2 fun e => k9 e.symm, h.plen, h.pos, h.apart⟩, h2⟩
theorem setL (h : FlowM a n P I Q L D vo w) {i : Nat} (hi : i < n) (y : Bool) : FlowM a n P I Q (L.set i y) D vo (w.setCell ⟨a.gr, i, none⟩ (.bool y)) ∧ Chg (fun q => q = a.gr) w (w.setCell ⟨a.gr, i, none⟩ (.bool y)) := by
  obtain ⟨h1, h2⟩ := h.reach.set hi y
  obtain ⟨k0, k1, k2, k3, k4, k5, k6, k7, k8, k9, k10⟩ := h.apart
  exact ⟨⟨h.box.chg h2 k3, h.preds.chg h2 fun q hq => (k0 q hq).2.2.2.1, h.idom.chg h2 k6, h.post.chg h2 k8, h1, h.depth.chg h2 fun e => k10 e.symm, h.plen, h.pos, h.apart⟩, h2⟩
theorem setD (h : FlowM a n P I Q L D vo w) {i : Nat} (hi : i < n) (y : Int) : FlowM a n P I Q L (D.set i y) vo (w.setCell ⟨a.gd, i, none⟩ (.int .i64 y)) ∧ Chg (fun q => q = a.gd) w (w.setCell ⟨a.gd, i, none⟩ (.int .i64 y)) := by
  obtain ⟨h1, h2⟩ := h.depth.set hi y
  obtain ⟨k0, k1, k2, k3, k4, k5, k6, k7, k8, k9, k10⟩ := h.apart
  exact ⟨⟨h.box.chg h2 k4, h.preds.chg h2 fun q hq => (k0 q hq).2.2.2.2, h.idom.chg h2 k7, h.post.chg h2 k9, h.reach.chg h2 k10, h1, h.plen, h.pos, h.apart⟩, h2⟩
theorem setO (h : FlowM a n P I Q L D vo w) (v : Value) : FlowM a n P I Q L D v (w.setCell ⟨a.g, 4, none⟩ v) ∧ Chg (fun q => q = a.g) w (w.setCell ⟨a.g, 4, none⟩ v) := by
  obtain ⟨h1, h2⟩ := h.box.set 4 v
  obtain ⟨k0, k1, k2, k3, k4, k5, k6, k7, k8, k9, k10⟩ := h.apart
  exact ⟨⟨h1, h.preds.chg h2 fun q hq => (k0 q hq).1, h.idom.chg h2 fun e => k1 e.symm, h.post.chg h2 fun e => k2 e.symm, h.reach.chg h2 fun e => k3 e.symm, h.depth.chg h2 fun e => k4 e.symm, h.plen, h.pos, h.apart⟩, h2⟩
theorem getI (h : FlowM a n P I Q L D vo w) {i : Nat} {x : Int} (hx : I[i]? = some x) : w.cell? ⟨a.gi, i, none⟩ = some (.int .i64 x) ∧ w.frozen? ⟨a.gi, i, none⟩ = false := ⟨h.idom.cell hx, h.idom.frozen h.pos i⟩
theorem getQ (h : FlowM a n P I Q L D vo w) {i : Nat} {x : Int} (hx : Q[i]? = some x) : w.cell? ⟨a.gp, i, none⟩ = some (.int .i64 x) ∧ w.frozen? ⟨a.gp, i, none⟩ = false := ⟨h.post.cell hx, h.post.frozen h.pos i⟩
theorem getL (h : FlowM a n P I Q L D vo w) {i : Nat} {x : Bool} (hx : L[i]? = some x) : w.cell? ⟨a.gr, i, none⟩ = some (.bool x) ∧ w.frozen? ⟨a.gr, i, none⟩ = false := ⟨h.reach.cell hx, h.reach.frozen h.pos i⟩
theorem getD (h : FlowM a n P I Q L D vo w) {i : Nat} {x : Int} (hx : D[i]? = some x) : w.cell? ⟨a.gd, i, none⟩ = some (.int .i64 x) ∧ w.frozen? ⟨a.gd, i, none⟩ = false := ⟨h.depth.cell hx, h.depth.frozen h.pos i⟩
end FlowM
end Go.Proofs.YtnbkgaofdkkdnaaDoor
