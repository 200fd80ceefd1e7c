/- Proved: for every slice of moves handed in, the law FnExactSequence returns true and the argument reads afterwards as before. No condition. -/
import Derived.Test.YtnnfjjgohhicjaaRows
import Derived.Test.YtnnfjjgohhicjaaChecked
import Derived.Test.YtnnfjjgohhicjaaQo
import Derived.Test.YtnnfjjgohhicjaaKq
import Derived.WalkKit
import Derived.ProofKit
import Derived.OpenShut
import Derived.WideShapes
import Derived.SizedLaws
namespace Go.Proofs.Ytnnfjjgohhicjaa
open Go.RowKit
set_option linter.unusedSimpArgs false
set_option linter.unusedVariables false
set_option maxRecDepth 100000
open Go.ChangeShapes Go.WideShapes Go.ChangeAt

theorem opens_lmove : Opens Try.prog 46 kMove fun m => (Lit.int .i64 m.to).wf = true ∧ (Lit.int .i64 m.src).wf = true := by
  have h3 := opens_prod (d1 := kInt .i64) (d2 := kInt .i64) Try.underlying46 rfl rfl (by kernel_rfl) (by kernel_rfl) (by kernel_rfl) (opens_int Try.underlying2) (opens_int Try.underlying2)
  intro H enc w base spare held fuel cs x h
  obtain ⟨⟨a, b⟩, ⟨h1, h2⟩, c1, c2, hcs, k1, k2⟩ := h3 H enc w base spare held fuel cs x h
  exact ⟨⟨a, b⟩, ⟨h1, h2⟩, by rw [hcs, show c1 = [.int .i64 a] from k1, show c2 = [.int .i64 b] from k2]; rfl⟩
theorem open_moves {H : Type} {enc : TypeId × Value → H} {w : World} {base b0 : Nat} {r : Reach} {spare : Nat → Bool} {held : Bool} {v : Value} {d : DataW H} {p : List MemPlace} (hv : Value.okWide Try.prog w r b0 23 v) (h : DataW.Trod enc Try.prog w base spare held 23 v d p) :
    ∃ (xs : List Move) (A : Option Addr) (c : Nat), v = .slice A xs.length c ∧ C kMove w A xs ∧ xs.length ≤ 9223372036854775807 ∧ ∀ m ∈ xs, (Lit.int .i64 m.to).wf = true ∧ (Lit.int .i64 m.src).wf = true := by
  obtain ⟨a, n, cp, rfl⟩ := okWide_slice Try.underlying23 hv
  obtain ⟨fuel, hf⟩ := h
  obtain ⟨xs, ⟨hl, hg⟩, A, c, hcs, -, hC⟩ := opens_slice (e' := 46) Try.underlying23 (by kernel_rfl) opens_lmove _ _ _ _ _ _ _ _ _ hf
  exact ⟨xs, A, c, by simpa [Value.cells] using hcs, hC, by simpa [maxLen] using hl, fun m hm => by obtain ⟨i, hi⟩ := List.getElem?_of_mem hm; exact hg i m hi⟩
theorem laidOut : laidOutB Try.prog = true := by kernel_rfl
theorem own : ownKnob Try.prog.godebug = none := by kernel_rfl
theorem lifted (os : Os) (started : os.Started) (H : Type) (enc : TypeId × Value → H) :
    ReturnsInHanded {} Try.checked os 4 .any (Rows.fnExactSequenceSpec.pre6 enc Try.prog Try.f4 Rows.fnExactSequenceRow.domain false) (Rows.fnExactSequenceSpec.post enc Try.prog Try.f4 false true false false) := by
  refine returnsInHanded_of_change_sized (C := Try.checked) own started (by kernel_rfl) Try.func4
    (ChangeSpec.witness6 (enc := enc) (C := Try.checked) false ⟨#[], #[.slice none 0 0], []⟩ 8 (by kernel_rfl) (by kernel_rfl) (by kernel_rfl) (by kernel_rfl)) ?_
  intro W base args ds gs before hval0 hW hcnd hsz0 _
  have hval : ∀ (j : Nat) t v, Try.f4.params[j]? = some t → args[j]? = some v → Value.okWide Try.prog W .any base t v := hval0
  have hW' := hW
  obtain ⟨p, q, hA0, hV, rfl, hfz, hnd⟩ := hW
  have hA : DataW.TrodAll enc Try.prog W 0 (fun _ => true) true Try.f4.params.toList args.toList ds p := hA0
  rw [Try.params4] at hA hval
  obtain ⟨v0, vs0, d0, ds0, p0, q0, hargs, rfl, rfl, h0, r0⟩ := trodAll_cons hA
  obtain ⟨rfl, rfl, rfl⟩ := trodAll_nil r0
  obtain rfl : args = #[v0] := by cases args; simp_all
  obtain ⟨rfl, rfl⟩ := trodVars_none hV
  obtain ⟨ms, A, c, rfl, hC, hl, hwf⟩ := open_moves (hval 0 23 v0 rfl rfl) h0
  have lt0 : ∀ x ∈ p0, x.block < W.heap.size := by obtain ⟨n, hn⟩ := h0; exact DataW.trod_lt n _ _ _ hn
  clear hA0 hval0 hsz0
  refine (lawSequence_c A c ms W hC hl hwf).mono fun e W' ⟨he, bel⟩ => ?_
  subst he
  exact ⟨_, rfl, _, _, _, [], _, [], hW', trodAll_mk1 (shut_bool Try.underlying4 _), trodAll_cons_mk (Below.trod laidOut (by kernel_rfl) (of_decide_eq_true (by kernel_rfl)) h0 bel lt0) trodAll_mk0, rfl, bel.frame _, fun h => by cases h⟩
theorem fnExactSequence_holds : Rows.FnExactSequenceSaid :=
  OpenClaim.holds_of_wide 4 Try.f4 rfl rfl rfl rfl rfl rfl rfl ⟨rfl, rfl, rfl, rfl, rfl⟩ rfl rfl rfl rfl rfl (by kernel_rfl) Try.func4 (by kernel_rfl)
    (of_decide_eq_true (by kernel_rfl)) (by unfold Go.Func.isWrapper; first | (rw [if_pos (by decide +kernel)]; kernel_rfl) | (rw [if_neg (by decide +kernel)]; exact ⟨rfl, rfl⟩))
    (fun os started H enc _ => lifted os started H enc)
#print axioms fnExactSequence_holds
end Go.Proofs.Ytnnfjjgohhicjaa
