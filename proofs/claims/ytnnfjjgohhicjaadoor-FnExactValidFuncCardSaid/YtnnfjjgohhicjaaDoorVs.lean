/- Over the laid table impl.shapes: what the walks need of it; a world for the witness. No condition. -/
import Derived.Test.YtnnfjjgohhicjaaDoorRows
import Derived.Test.YtnnfjjgohhicjaaDoorKh
import Derived.Test.YtnnfjjgohhicjaaDoorKq
import Derived.WalkKit
import Derived.ProofKit
import Derived.OpenShut
import Derived.Deep.DeepHandedRow
import Derived.SizedLaws
namespace Go.Proofs.YtnnfjjgohhicjaaDoor
open Go.RowKit
set_option linter.unusedSimpArgs false
set_option linter.unusedVariables false
set_option maxRecDepth 100000
open Go.ChangeShapes Go.WideShapes Go.ChangeAt

theorem own : ownKnob Tryd.prog.godebug = none := by kernel_rfl
theorem laidOut : laidOutB Tryd.prog = true := by kernel_rfl
theorem gShapes : Tryd.prog.globalNamed "loop.example/s0031/impl.shapes" = some 0 := by kernel_rfl
theorem gShapesType : (Tryd.prog.globals[0]?).map (·.type) = some 93 := by kernel_rfl
theorem shapes_of {w : World} {rest : List (String × DataW Unit)} (h : laidMet Tryd.prog (("loop.example/s0031/impl.shapes", Rows.laid_loop_example_s0031_impl_shapes) :: rest) w) : Shapes w := by
  obtain ⟨ps, ⟨g', t', cs, fuel, p, q, hg', ht', hvar, hd, _, _⟩, _⟩ := h
  obtain rfl := Option.some.inj (gShapes.symm.trans hg')
  obtain rfl := Option.some.inj (gShapesType.symm.trans ht')
  intro op ho j v hv
  have hc := World.var?_cell gShapes hvar (op * 4 + j)
  have hj : j < 4 := by have := (List.getElem?_eq_some_iff.1 hv).1; simpa [shapeV] using this
  rw [hc, ← hv]
  have K := fun i j row b => bools_of_table (i := i) (j := j) (row := row) (b := b) Tryd.underlying93 Tryd.underlying92 Tryd.underlying4 (by kernel_rfl) (by kernel_rfl) (by intro j f hf; match j, hf with | 0, hf | 1, hf | 2, hf | 3, hf => (simp at hf; subst hf; exact ⟨rfl, rfl⟩) | j + 4, hf => simp at hf) hd
  simp only [Array.getElem?_toList] at K
  clear hd hv hc hvar
  rcases (by omega : op = 0 ∨ op = 1 ∨ op = 2 ∨ op = 3 ∨ op = 4 ∨ op = 5 ∨ op = 6 ∨ op = 7 ∨ op = 8 ∨ op = 9 ∨ op = 10 ∨ op = 11 ∨ op = 12 ∨ op = 13) with rfl | rfl | rfl | rfl | rfl | rfl | rfl | rfl | rfl | rfl | rfl | rfl | rfl | rfl
  · rcases (by omega : j = 0 ∨ j = 1 ∨ j = 2 ∨ j = 3) with rfl | rfl | rfl | rfl
    · exact K 0 0 _ false rfl rfl
    · exact K 0 1 _ false rfl rfl
    · exact K 0 2 _ false rfl rfl
    · exact K 0 3 _ false rfl rfl
  · rcases (by omega : j = 0 ∨ j = 1 ∨ j = 2 ∨ j = 3) with rfl | rfl | rfl | rfl
    · exact K 1 0 _ true rfl rfl
    · exact K 1 1 _ false rfl rfl
    · exact K 1 2 _ false rfl rfl
    · exact K 1 3 _ true rfl rfl
  · rcases (by omega : j = 0 ∨ j = 1 ∨ j = 2 ∨ j = 3) with rfl | rfl | rfl | rfl
    · exact K 2 0 _ true rfl rfl
    · exact K 2 1 _ false rfl rfl
    · exact K 2 2 _ false rfl rfl
    · exact K 2 3 _ true rfl rfl
  · rcases (by omega : j = 0 ∨ j = 1 ∨ j = 2 ∨ j = 3) with rfl | rfl | rfl | rfl
    · exact K 3 0 _ true rfl rfl
    · exact K 3 1 _ true rfl rfl
    · exact K 3 2 _ true rfl rfl
    · exact K 3 3 _ false rfl rfl
  · rcases (by omega : j = 0 ∨ j = 1 ∨ j = 2 ∨ j = 3) with rfl | rfl | rfl | rfl
    · exact K 4 0 _ true rfl rfl
    · exact K 4 1 _ true rfl rfl
    · exact K 4 2 _ true rfl rfl
    · exact K 4 3 _ false rfl rfl
  · rcases (by omega : j = 0 ∨ j = 1 ∨ j = 2 ∨ j = 3) with rfl | rfl | rfl | rfl
    · exact K 5 0 _ true rfl rfl
    · exact K 5 1 _ true rfl rfl
    · exact K 5 2 _ true rfl rfl
    · exact K 5 3 _ false rfl rfl
  · rcases (by omega : j = 0 ∨ j = 1 ∨ j = 2 ∨ j = 3) with rfl | rfl | rfl | rfl
    · exact K 6 0 _ true rfl rfl
    · exact K 6 1 _ true rfl rfl
    · exact K 6 2 _ true rfl rfl
    · exact K 6 3 _ false rfl rfl
  · rcases (by omega : j = 0 ∨ j = 1 ∨ j = 2 ∨ j = 3) with rfl | rfl | rfl | rfl
    · exact K 7 0 _ true rfl rfl
    · exact K 7 1 _ true rfl rfl
    · exact K 7 2 _ true rfl rfl
    · exact K 7 3 _ false rfl rfl
  · rcases (by omega : j = 0 ∨ j = 1 ∨ j = 2 ∨ j = 3) with rfl | rfl | rfl | rfl
    · exact K 8 0 _ true rfl rfl
    · exact K 8 1 _ true rfl rfl
    · exact K 8 2 _ false rfl rfl
    · exact K 8 3 _ false rfl rfl
  · rcases (by omega : j = 0 ∨ j = 1 ∨ j = 2 ∨ j = 3) with rfl | rfl | rfl | rfl
    · exact K 9 0 _ false rfl rfl
    · exact K 9 1 _ true rfl rfl
    · exact K 9 2 _ true rfl rfl
    · exact K 9 3 _ false rfl rfl
  · rcases (by omega : j = 0 ∨ j = 1 ∨ j = 2 ∨ j = 3) with rfl | rfl | rfl | rfl
    · exact K 10 0 _ false rfl rfl
    · exact K 10 1 _ true rfl rfl
    · exact K 10 2 _ false rfl rfl
    · exact K 10 3 _ false rfl rfl
  · rcases (by omega : j = 0 ∨ j = 1 ∨ j = 2 ∨ j = 3) with rfl | rfl | rfl | rfl
    · exact K 11 0 _ true rfl rfl
    · exact K 11 1 _ true rfl rfl
    · exact K 11 2 _ false rfl rfl
    · exact K 11 3 _ false rfl rfl
  · rcases (by omega : j = 0 ∨ j = 1 ∨ j = 2 ∨ j = 3) with rfl | rfl | rfl | rfl
    · exact K 12 0 _ false rfl rfl
    · exact K 12 1 _ true rfl rfl
    · exact K 12 2 _ false rfl rfl
    · exact K 12 3 _ false rfl rfl
  · rcases (by omega : j = 0 ∨ j = 1 ∨ j = 2 ∨ j = 3) with rfl | rfl | rfl | rfl
    · exact K 13 0 _ true rfl rfl
    · exact K 13 1 _ false rfl rfl
    · exact K 13 2 _ false rfl rfl
    · exact K 13 3 _ false rfl rfl
/-- A world for the witness: the table (block 0) as its initialiser lays it. -/
noncomputable def laidWorld (os : Os) : World :=
  { World.holding Tryd.prog os ⟨#[], #[], []⟩ with heap := (World.holding Tryd.prog os ⟨#[], #[], []⟩).heap.modify 0 fun
      | .cells _ t frozen => .cells #[.bool false, .bool false, .bool false, .bool false, .bool true, .bool false, .bool false, .bool true, .bool true, .bool false, .bool false, .bool true, .bool true, .bool true, .bool true, .bool false, .bool true, .bool true, .bool true, .bool false, .bool true, .bool true, .bool true, .bool false, .bool true, .bool true, .bool true, .bool false, .bool true, .bool true, .bool true, .bool false, .bool true, .bool true, .bool false, .bool false, .bool false, .bool true, .bool true, .bool false, .bool false, .bool true, .bool false, .bool false, .bool true, .bool true, .bool false, .bool false, .bool false, .bool true, .bool false, .bool false, .bool true, .bool false, .bool false, .bool false] t frozen
      | o => o }
end Go.Proofs.YtnnfjjgohhicjaaDoor
