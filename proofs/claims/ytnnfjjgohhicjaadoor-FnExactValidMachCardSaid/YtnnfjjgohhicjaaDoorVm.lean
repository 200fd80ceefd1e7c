/- Proved: for every machine program handed in, over the laid table impl.shapes, the law FnExactValidMach returns true and the argument and the table read afterwards as before. No condition beyond the row's own list. -/
import Derived.Test.YtnnfjjgohhicjaaDoorCards
import Derived.Test.YtnnfjjgohhicjaaDoorTie
import Derived.Test.YtnnfjjgohhicjaaDoorKa
import Derived.Test.YtnnfjjgohhicjaaDoorKq
import Derived.WalkKit
import Derived.ProofKit
import Derived.OpenShut
import Derived.Deep.DeepHandedRow
import Derived.SizedLaws
namespace Go.Proofs.YtnnfjjgohhicjaaDoor
open Go.RowKit
set_option linter.unusedSimpArgs false
set_option linter.unusedVariables false
set_option maxRecDepth 100000
open Go.ChangeShapes Go.WideShapes Go.ChangeAt

theorem own : ownKnob Tryd.prog.godebug = none := by kernel_rfl
theorem laidOut : laidOutB Tryd.prog = true := by kernel_rfl
theorem gShapes : Tryd.prog.globalNamed "loop.example/s0031/impl.shapes" = some 0 := by kernel_rfl
theorem gShapesType : (Tryd.prog.globals[0]?).map (·.type) = some 93 := by kernel_rfl
theorem shapes_of {w : World} {rest : List (String × DataW Unit)} (h : laidMet Tryd.prog (("loop.example/s0031/impl.shapes", Rows.laid_loop_example_s0031_impl_shapes) :: rest) w) : Shapes w := by
  obtain ⟨ps, ⟨g', t', cs, fuel, p, q, hg', ht', hvar, hd, _, _⟩, _⟩ := h
  obtain rfl := Option.some.inj (gShapes.symm.trans hg')
  obtain rfl := Option.some.inj (gShapesType.symm.trans ht')
  intro op ho j v hv
  have hc := World.var?_cell gShapes hvar (op * 4 + j)
  have hj : j < 4 := by have := (List.getElem?_eq_some_iff.1 hv).1; simpa [shapeV] using this
  rw [hc, ← hv]
  have K := fun i j row b => bools_of_table (i := i) (j := j) (row := row) (b := b) Tryd.underlying93 Tryd.underlying92 Tryd.underlying4 (by kernel_rfl) (by kernel_rfl) (by intro j f hf; match j, hf with | 0, hf | 1, hf | 2, hf | 3, hf => (simp at hf; subst hf; exact ⟨rfl, rfl⟩) | j + 4, hf => simp at hf) hd
  simp only [Array.getElem?_toList] at K
  clear hd hv hc hvar
  rcases (by omega : op = 0 ∨ op = 1 ∨ op = 2 ∨ op = 3 ∨ op = 4 ∨ op = 5 ∨ op = 6 ∨ op = 7 ∨ op = 8 ∨ op = 9 ∨ op = 10 ∨ op = 11 ∨ op = 12 ∨ op = 13) with rfl | rfl | rfl | rfl | rfl | rfl | rfl | rfl | rfl | rfl | rfl | rfl | rfl | rfl
  · rcases (by omega : j = 0 ∨ j = 1 ∨ j = 2 ∨ j = 3) with rfl | rfl | rfl | rfl
    · exact K 0 0 _ false rfl rfl
    · exact K 0 1 _ false rfl rfl
    · exact K 0 2 _ false rfl rfl
    · exact K 0 3 _ false rfl rfl
  · rcases (by omega : j = 0 ∨ j = 1 ∨ j = 2 ∨ j = 3) with rfl | rfl | rfl | rfl
    · exact K 1 0 _ true rfl rfl
    · exact K 1 1 _ false rfl rfl
    · exact K 1 2 _ false rfl rfl
    · exact K 1 3 _ true rfl rfl
  · rcases (by omega : j = 0 ∨ j = 1 ∨ j = 2 ∨ j = 3) with rfl | rfl | rfl | rfl
    · exact K 2 0 _ true rfl rfl
    · exact K 2 1 _ false rfl rfl
    · exact K 2 2 _ false rfl rfl
    · exact K 2 3 _ true rfl rfl
  · rcases (by omega : j = 0 ∨ j = 1 ∨ j = 2 ∨ j = 3) with rfl | rfl | rfl | rfl
    · exact K 3 0 _ true rfl rfl
    · exact K 3 1 _ true rfl rfl
    · exact K 3 2 _ true rfl rfl
    · exact K 3 3 _ false rfl rfl
  · rcases (by omega : j = 0 ∨ j = 1 ∨ j = 2 ∨ j = 3) with rfl | rfl | rfl | rfl
    · exact K 4 0 _ true rfl rfl
    · exact K 4 1 _ true rfl rfl
    · exact K 4 2 _ true rfl rfl
    · exact K 4 3 _ false rfl rfl
  · rcases (by omega : j = 0 ∨ j = 1 ∨ j = 2 ∨ j = 3) with rfl | rfl | rfl | rfl
    · exact K 5 0 _ true rfl rfl
    · exact K 5 1 _ true rfl rfl
    · exact K 5 2 _ true rfl rfl
    · exact K 5 3 _ false rfl rfl
  · rcases (by omega : j = 0 ∨ j = 1 ∨ j = 2 ∨ j = 3) with rfl | rfl | rfl | rfl
    · exact K 6 0 _ true rfl rfl
    · exact K 6 1 _ true rfl rfl
    · exact K 6 2 _ true rfl rfl
    · exact K 6 3 _ false rfl rfl
  · rcases (by omega : j = 0 ∨ j = 1 ∨ j = 2 ∨ j = 3) with rfl | rfl | rfl | rfl
    · exact K 7 0 _ true rfl rfl
    · exact K 7 1 _ true rfl rfl
    · exact K 7 2 _ true rfl rfl
    · exact K 7 3 _ false rfl rfl
  · rcases (by omega : j = 0 ∨ j = 1 ∨ j = 2 ∨ j = 3) with rfl | rfl | rfl | rfl
    · exact K 8 0 _ true rfl rfl
    · exact K 8 1 _ true rfl rfl
    · exact K 8 2 _ false rfl rfl
    · exact K 8 3 _ false rfl rfl
  · rcases (by omega : j = 0 ∨ j = 1 ∨ j = 2 ∨ j = 3) with rfl | rfl | rfl | rfl
    · exact K 9 0 _ false rfl rfl
    · exact K 9 1 _ true rfl rfl
    · exact K 9 2 _ true rfl rfl
    · exact K 9 3 _ false rfl rfl
  · rcases (by omega : j = 0 ∨ j = 1 ∨ j = 2 ∨ j = 3) with rfl | rfl | rfl | rfl
    · exact K 10 0 _ false rfl rfl
    · exact K 10 1 _ true rfl rfl
    · exact K 10 2 _ false rfl rfl
    · exact K 10 3 _ false rfl rfl
  · rcases (by omega : j = 0 ∨ j = 1 ∨ j = 2 ∨ j = 3) with rfl | rfl | rfl | rfl
    · exact K 11 0 _ true rfl rfl
    · exact K 11 1 _ true rfl rfl
    · exact K 11 2 _ false rfl rfl
    · exact K 11 3 _ false rfl rfl
  · rcases (by omega : j = 0 ∨ j = 1 ∨ j = 2 ∨ j = 3) with rfl | rfl | rfl | rfl
    · exact K 12 0 _ false rfl rfl
    · exact K 12 1 _ true rfl rfl
    · exact K 12 2 _ false rfl rfl
    · exact K 12 3 _ false rfl rfl
  · rcases (by omega : j = 0 ∨ j = 1 ∨ j = 2 ∨ j = 3) with rfl | rfl | rfl | rfl
    · exact K 13 0 _ true rfl rfl
    · exact K 13 1 _ false rfl rfl
    · exact K 13 2 _ false rfl rfl
    · exact K 13 3 _ false rfl rfl
theorem opens_mb : Opens Tryd.prog 130 (kMB 0) fun b => b.instrs.length ≤ 9223372036854775807 := by
  have h1 := opens_slice (e' := 0) Tryd.underlying127 (by kernel_rfl) (opens_instr Tryd.underlying190 rfl Tryd.underlying2 (by kernel_rfl) (by kernel_rfl) (by intro j f hf; match j, hf with | 0, hf | 1, hf | 2, hf | 3, hf | 4, hf => (simp at hf; subst hf; exact ⟨rfl, rfl⟩) | j + 5, hf => simp at hf))
  have h2 := opens_term Tryd.underlying128 rfl Tryd.underlying2 (by kernel_rfl) (by kernel_rfl) (by intro j f hf; match j, hf with | 0, hf | 1, hf | 2, hf | 3, hf => (simp at hf; subst hf; exact ⟨rfl, rfl⟩) | j + 4, hf => simp at hf)
  have h3 := opens_prod Tryd.underlying130 rfl rfl (by kernel_rfl) (by kernel_rfl) (by kernel_rfl) h1 h2
  intro H enc w base spare held fuel cs x h
  obtain ⟨y, hy, hk⟩ := opens_iso (f := fun b : MBlock => (b.instrs, b.term)) (g := fun y => ⟨y.1, y.2⟩) (fun y => rfl) h3 H enc w base spare held fuel cs x h
  exact ⟨y, by have := hy.1.1; simpa [maxLen] using this, hk⟩
def okMach (m : Mach) : Prop := m.blocks.length ≤ 9223372036854775807 ∧ ∀ (i : Nat) b, m.blocks[i]? = some b → b.instrs.length ≤ 9223372036854775807
theorem open_mach {H : Type} {enc : TypeId × Value → H} {w : World} {base b0 : Nat} {r : Reach} {spare : Nat → Bool} {held : Bool} {v : Value} {d : DataW H} {p : List MemPlace} (hv : Value.okWide Tryd.prog w r b0 24 v) (h : DataW.Trod enc Tryd.prog w base spare held 24 v d p) :
    ∃ (m : Mach) (A : Option Addr) (c : Nat), v = .agg #[.int .i64 m.regs, .slice A m.blocks.length c] ∧ C (kMB 0) w A m.blocks ∧ okMach m := by
  obtain ⟨cs, rfl, hsz⟩ := okWide_struct Tryd.underlying24 hv
  obtain ⟨fuel, hf⟩ := h
  have h3 := opens_prod Tryd.underlying24 (d1 := kInt .i64) (d2 := kSlice 0 (kMB 0)) rfl rfl (by kernel_rfl) (by kernel_rfl) (by kernel_rfl) (opens_int Tryd.underlying2) (opens_slice Tryd.underlying22 (by kernel_rfl) opens_mb)
  obtain ⟨⟨n, bs⟩, ⟨-, hl, hb⟩, c1, c2, hcs, rfl, A, c, rfl, -, hC⟩ := h3 _ _ _ _ _ _ _ _ _ hf
  exact ⟨⟨n, bs⟩, A, c, by simp only [Value.cells] at hcs; cases cs; simp_all, hC, by simpa [maxLen] using hl, hb⟩


theorem contractVm (H : Type) (enc : TypeId × Value → H) (W : World) (base : Nat) (args : Array Value) (ds gs : List (DataW H)) (before : List MemPlace)
    (hval : ∀ (j : Nat) t v, Tryd.f3.params[j]? = some t → args[j]? = some v → Value.okWide Tryd.prog W .any base t v)
    (hW : DataW.Whole enc Tryd.prog Tryd.f3.params.toList Rows.fnExactValidMachSpec.vars false W args.toList ds gs before) (hL : laidMetH Tryd.prog Rows.fnExactValidMachRow.laid W) :
    Calls Tryd.prog 3 args W fun e W' => ∃ v, e = .returned v ∧ Rows.fnExactValidMachSpec.post enc Tryd.prog Tryd.f3 false true false false W args v W' := by
  have hW' := hW
  obtain ⟨p, q, hA0, hV, rfl, hfz, hnd⟩ := hW
  have hA : DataW.TrodAll enc Tryd.prog W 0 (fun _ => true) true Tryd.f3.params.toList args.toList ds p := hA0
  rw [Tryd.params3] at hA hval
  obtain ⟨v0, vs0, d0, ds0, p0, q0, hargs, rfl, rfl, h0, r0⟩ := trodAll_cons hA
  obtain ⟨rfl, rfl, rfl⟩ := trodAll_nil r0
  obtain rfl : args = #[v0] := by cases args; simp_all
  have hgs : ∃ g, gs = [g] := by
    obtain ⟨_, _, _, _, d, _, h, _⟩ := trodVars_one hV
    exact ⟨d, h⟩
  obtain ⟨g, rfl⟩ := hgs
  obtain ⟨m, A, c, rfl, hC, hm⟩ := open_mach (hval 0 24 v0 rfl rfl) h0
  have lt0 : ∀ x ∈ p0, x.block < W.heap.size := by obtain ⟨n, hn⟩ := h0; exact DataW.trod_lt n _ _ _ hn
  refine (lawValidMach_c A c m W hC (shapes_of hL) hm.1 hm.2).mono fun e W' ⟨he, bel⟩ => ?_
  subst he
  exact ⟨_, rfl, _, _, _, [], _, q, hW', trodAll_mk1 (shut_bool Tryd.underlying4 _), trodAll_cons_mk (Below.trod laidOut (by kernel_rfl) (of_decide_eq_true (by kernel_rfl)) h0 bel lt0) trodAll_mk0, var_carry laidOut gShapes gShapesType (by kernel_rfl) (of_decide_eq_true (by kernel_rfl)) hV bel, bel.frame _, fun h => by cases h⟩

/-- A world for the witness: the table (block 0) as its initialiser lays it. -/
noncomputable def laidWorld (os : Os) : World :=
  { World.holding Tryd.prog os ⟨#[], #[], []⟩ with heap := (World.holding Tryd.prog os ⟨#[], #[], []⟩).heap.modify 0 fun
      | .cells _ t frozen => .cells #[.bool false, .bool false, .bool false, .bool false, .bool true, .bool false, .bool false, .bool true, .bool true, .bool false, .bool false, .bool true, .bool true, .bool true, .bool true, .bool false, .bool true, .bool true, .bool true, .bool false, .bool true, .bool true, .bool true, .bool false, .bool true, .bool true, .bool true, .bool false, .bool true, .bool true, .bool true, .bool false, .bool true, .bool true, .bool false, .bool false, .bool false, .bool true, .bool true, .bool false, .bool false, .bool true, .bool false, .bool false, .bool true, .bool true, .bool false, .bool false, .bool false, .bool true, .bool false, .bool false, .bool true, .bool false, .bool false, .bool false] t frozen
      | o => o }
def zeroMach : Value := .agg #[.int .i64 0, .slice none 0 0]
theorem laid_met (os : Os) : laidMet Tryd.prog Rows.fnExactValidMachRow.laid ((laidWorld os).forCall (fun _ _ => 0) ⟨#[], #[zeroMach], []⟩).memory :=
  laidMet_of_run' 8 (by kernel_rfl) (by kernel_rfl)
theorem reads (os : Os) {H : Type} (enc : TypeId × Value → H) : ∃ places, DataW.whole enc Tryd.prog ((laidWorld os).forCall (fun _ _ => 0) ⟨#[], #[zeroMach], []⟩).memory Tryd.f3.params.toList Rows.fnExactValidMachSpec.vars false #[zeroMach].toList 8 = some ([.agg [.lit (.int .i64 0), .nil]], [Rows.laid_loop_example_s0031_impl_shapes], places) :=
  ⟨MemPlace.row ⟨0, 0, none⟩ 56, by kernel_rfl⟩
theorem lifted (os : Os) (started : os.Started) (H : Type) (enc : TypeId × Value → H) (F : Stop.Interp) :
    ReturnsInHanded {} Tryd.checked os 3 .any ((OpenSpec.ofChange Rows.fnExactValidMachSpec).preRow enc Tryd.prog Tryd.f3 Rows.fnExactValidMachRow.domain false Rows.fnExactValidMachRow.laid) (((OpenSpec.ofChange Rows.fnExactValidMachSpec).at F).post enc Tryd.prog Tryd.f3 false true false false) := by
  obtain ⟨places, hx⟩ := reads os enc
  refine returnsInHanded_of_row (C := Tryd.checked) (s := OpenSpec.ofChange Rows.fnExactValidMachSpec) own started (by kernel_rfl) Tryd.func3
    (witness_row_at (enc := enc) (C := Tryd.checked) false (laidWorld os) #[zeroMach] rfl (by kernel_rfl) (by kernel_rfl) (by kernel_rfl)
      (OpenSpec.preRow_of_cond 8 hx (by kernel_rfl) (fun k hk => by cases hk) (by kernel_rfl) (laid_met os))) ?_
  intro W base args ds gs before hval hW _ _ _ hL _ _
  exact contractVm H enc W base args ds gs before hval hW hL
theorem said : Rows.FnExactValidMachSaid :=
  OpenClaim.holds_of_cond 3 Tryd.f3 rfl rfl rfl rfl rfl rfl rfl ⟨rfl, rfl, rfl, rfl, rfl⟩ rfl rfl rfl rfl rfl (by kernel_rfl) Tryd.func3 (by kernel_rfl)
    (of_decide_eq_true (by kernel_rfl)) (by unfold Go.Func.isWrapper; first | (rw [if_pos (by decide +kernel)]; kernel_rfl) | (rw [if_neg (by decide +kernel)]; exact ⟨rfl, rfl⟩))
    (fun os started H enc _ F => by rw [OpenClaim.pre_eq_preRow]; exact lifted os started H enc F)
theorem plain (f : FuncId) (fn : Go.Func) (hf : Tryd.pinned.checked.prog.funcNamed "loop.example/s0031/laws.FnExactValidMach" = some f) (hfn : Tryd.pinned.checked.prog.funcs[f]? = some fn) :
    true = Tryd.pinned.checked.prog.looks [] ∧ ∀ (j : Nat) t, fn.params[j]? = some t → Tryd.pinned.checked.prog.wantsStandIn t = false := by
  obtain rfl : f = 3 := Option.some.inj ((show Tryd.prog.funcNamed "loop.example/s0031/laws.FnExactValidMach" = some 3 by kernel_rfl).symm.trans hf) |>.symm
  obtain rfl : fn = Tryd.f3 := (Option.some.inj (Tryd.func3.symm.trans hfn)).symm
  refine ⟨by kernel_rfl, fun j t ht => ?_⟩
  rw [Tryd.params3] at ht
  obtain rfl : t = 24 := by simpa using Array.mem_of_getElem? ht
  exact (show Tryd.prog.wantsStandIn 24 = false by kernel_rfl)
theorem fnExactValidMach_holds : Rows.FnExactValidMachCardSaid :=
  Claim7.holds_tied_plain_at .later [] _ _ _ _ said (fun _ h => by cases h) (by kernel_rfl) (fun _ h => by cases h) fnExactValidMach_row_tie rfl ⟨rfl, rfl⟩ (by kernel_rfl) rfl plain (by kernel_rfl)
#print axioms fnExactValidMach_holds
end Go.Proofs.YtnnfjjgohhicjaaDoor
