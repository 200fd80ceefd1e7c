/- Proved: for every function handed in, over the laid table impl.shapes, the law FnExactValidFunc returns true and the argument and the table read afterwards as before. No condition beyond the row's own list. -/
import Derived.Test.YtnnfjjgohhicjaaDoorCards
import Derived.Test.YtnnfjjgohhicjaaDoorTie
import Derived.Test.YtnnfjjgohhicjaaDoorKl
import Derived.Test.YtnnfjjgohhicjaaDoorVs
import Derived.WalkKit
import Derived.ProofKit
import Derived.OpenShut
import Derived.Deep.DeepHandedRow
import Derived.SizedLaws
namespace Go.Proofs.YtnnfjjgohhicjaaDoor
open Go.RowKit
set_option linter.unusedSimpArgs false
set_option linter.unusedVariables false
set_option maxRecDepth 100000
open Go.ChangeShapes Go.WideShapes Go.ChangeAt

/-- A struct of three fields. -/
theorem opens_prod3 {α β γ : Type} {P : Program} {t : TypeId} {f0 f1 f2 : Field} {d1 : Kd α} {d2 : Kd β} {d3 : Kd γ} {G1 : α → Prop} {G2 : β → Prop} {G3 : γ → Prop} (ht : P.underlying t = some (.struct #[f0, f1, f2])) (h0 : f0.offset = 0) (h1 : f1.offset = d1.sz) (h2 : f2.offset = d1.sz + d2.sz)
    (hc0 : P.cellsOf f0.type = d1.sz) (hc1 : P.cellsOf f1.type = d2.sz) (hc2 : P.cellsOf f2.type = d3.sz) (hc : P.cellsOf t = d1.sz + (d2.sz + d3.sz))
    (o1 : Opens P f0.type d1 G1) (o2 : Opens P f1.type d2 G2) (o3 : Opens P f2.type d3 G3) : Opens P t (kProd d1 (kProd d2 d3)) fun x => G1 x.1 ∧ G2 x.2.1 ∧ G3 x.2.2 := by
  intro H enc w base spare held fuel cs x h
  obtain ⟨xs, n, -, -, hl, hxl, hr⟩ := DataW.trod_struct ht h
  have a0 := hr 0 f0 rfl
  have a1 := hr 1 f1 rfl
  have a2 := hr 2 f2 rfl
  rw [h0, hc0, List.drop_zero] at a0
  rw [h1, hc1] at a1
  rw [h2, hc2] at a2
  have hx : xs.length = 3 := by simpa using hxl
  match xs, hx with
  | [x0, x1, x2], _ =>
    obtain ⟨a, ga, ka⟩ := o1 _ _ _ _ _ _ _ _ _ a0
    obtain ⟨b, gb, kb⟩ := o2 _ _ _ _ _ _ _ _ _ a1
    obtain ⟨c, gc, kc⟩ := o3 _ _ _ _ _ _ _ _ _ a2
    refine ⟨(a, b, c), ⟨ga, gb, gc⟩, cs.take d1.sz, cs.drop d1.sz, (List.take_append_drop _ _).symm, ka, (cs.drop d1.sz).take d2.sz, (cs.drop d1.sz).drop d2.sz, (List.take_append_drop _ _).symm, kb, ?_⟩
    rw [List.drop_drop]
    rwa [List.take_of_length_le (by simp; omega)] at kc
theorem opens_lphi : Opens Tryd.prog 193 (kPhi 0) (okPhi 9223372036854775807) := by
  have h3 := opens_prod (d1 := kInt .i64) (d2 := kSlice 0 (kInt .i64)) Tryd.underlying193 rfl rfl (by kernel_rfl) (by kernel_rfl) (by kernel_rfl) (opens_int Tryd.underlying2) (opens_slice Tryd.underlying49 (by kernel_rfl) (opens_int Tryd.underlying2))
  intro H enc w base spare held fuel cs x h
  obtain ⟨y, hy, hk⟩ := opens_iso (f := fun p : Phi => (p.dst, p.args)) (g := fun y => ⟨y.1, y.2⟩) (fun y => rfl) h3 H enc w base spare held fuel cs x h
  exact ⟨y, by have := hy.2.1; unfold okPhi; simpa [maxLen] using this, hk⟩
theorem opens_lblock : Opens Tryd.prog 140 (kBlock 0 0 0) (okBlk 9223372036854775807) := by
  have h0 := opens_slice (e' := 0) Tryd.underlying138 (by kernel_rfl) opens_lphi
  have h1 := opens_slice (e' := 0) Tryd.underlying127 (by kernel_rfl) (opens_instr Tryd.underlying190 rfl Tryd.underlying2 (by kernel_rfl) (by kernel_rfl) (by intro j f hf; match j, hf with | 0, hf | 1, hf | 2, hf | 3, hf | 4, hf => (simp at hf; subst hf; exact ⟨rfl, rfl⟩) | j + 5, hf => simp at hf))
  have h2 := opens_term Tryd.underlying128 rfl Tryd.underlying2 (by kernel_rfl) (by kernel_rfl) (by intro j f hf; match j, hf with | 0, hf | 1, hf | 2, hf | 3, hf => (simp at hf; subst hf; exact ⟨rfl, rfl⟩) | j + 4, hf => simp at hf)
  have h3 := opens_prod3 Tryd.underlying140 (by rfl) (by rfl) (by rfl) (by kernel_rfl) (by kernel_rfl) (by kernel_rfl) (by kernel_rfl) h0 h1 h2
  intro H enc w base spare held fuel cs x h
  obtain ⟨y, hy, hk⟩ := opens_iso (f := fun b : Block => (b.phis, (b.instrs, b.term))) (g := fun y => ⟨y.1, y.2.1, y.2.2⟩) (fun y => rfl) h3 H enc w base spare held fuel cs x h
  refine ⟨y, ⟨by have := hy.1.1; simpa [maxLen] using this, fun i p hp => hy.1.2 i p hp, by have := hy.2.1.1; simpa [maxLen] using this⟩, hk⟩
def okFunc (m : Func) : Prop := m.blocks.length ≤ 9223372036854775807 ∧ ∀ (i : Nat) b, m.blocks[i]? = some b → okBlk 9223372036854775807 b
theorem open_func {H : Type} {enc : TypeId × Value → H} {w : World} {base b0 : Nat} {r : Reach} {spare : Nat → Bool} {held : Bool} {v : Value} {d : DataW H} {p : List MemPlace} (hv : Value.okWide Tryd.prog w r b0 35 v) (h : DataW.Trod enc Tryd.prog w base spare held 35 v d p) :
    ∃ (m : Func) (A : Option Addr) (c : Nat), v = .agg #[.int .i64 m.values, .slice A m.blocks.length c] ∧ C (kBlock 0 0 0) w A m.blocks ∧ okFunc m := by
  obtain ⟨cs, rfl, hsz⟩ := okWide_struct Tryd.underlying35 hv
  obtain ⟨fuel, hf⟩ := h
  have h3 := opens_prod Tryd.underlying35 (d1 := kInt .i64) (d2 := kSlice 0 (kBlock 0 0 0)) rfl rfl (by kernel_rfl) (by kernel_rfl) (by kernel_rfl) (opens_int Tryd.underlying2) (opens_slice Tryd.underlying33 (by kernel_rfl) opens_lblock)
  obtain ⟨⟨n, bs⟩, ⟨-, hl, hb⟩, c1, c2, hcs, rfl, A, c, rfl, -, hC⟩ := h3 _ _ _ _ _ _ _ _ _ hf
  exact ⟨⟨n, bs⟩, A, c, by simp only [Value.cells] at hcs; cases cs; simp_all, hC, by simpa [maxLen] using hl, hb⟩


theorem contractVf (H : Type) (enc : TypeId × Value → H) (W : World) (base : Nat) (args : Array Value) (ds gs : List (DataW H)) (before : List MemPlace)
    (hval : ∀ (j : Nat) t v, Tryd.f4.params[j]? = some t → args[j]? = some v → Value.okWide Tryd.prog W .any base t v)
    (hW : DataW.Whole enc Tryd.prog Tryd.f4.params.toList Rows.fnExactValidFuncSpec.vars false W args.toList ds gs before) (hL : laidMetH Tryd.prog Rows.fnExactValidFuncRow.laid W) :
    Calls Tryd.prog 4 args W fun e W' => ∃ v, e = .returned v ∧ Rows.fnExactValidFuncSpec.post enc Tryd.prog Tryd.f4 false true false false W args v W' := by
  have hW' := hW
  obtain ⟨p, q, hA0, hV, rfl, hfz, hnd⟩ := hW
  have hA : DataW.TrodAll enc Tryd.prog W 0 (fun _ => true) true Tryd.f4.params.toList args.toList ds p := hA0
  rw [Tryd.params4] at hA hval
  obtain ⟨v0, vs0, d0, ds0, p0, q0, hargs, rfl, rfl, h0, r0⟩ := trodAll_cons hA
  obtain ⟨rfl, rfl, rfl⟩ := trodAll_nil r0
  obtain rfl : args = #[v0] := by cases args; simp_all
  have hgs : ∃ g, gs = [g] := by
    obtain ⟨_, _, _, _, d, _, h, _⟩ := trodVars_one hV
    exact ⟨d, h⟩
  obtain ⟨g, rfl⟩ := hgs
  obtain ⟨m, A, c, rfl, hC, hm⟩ := open_func (hval 0 35 v0 rfl rfl) h0
  have lt0 : ∀ x ∈ p0, x.block < W.heap.size := by obtain ⟨n, hn⟩ := h0; exact DataW.trod_lt n _ _ _ hn
  refine (lawValidFunc_c A c m W hC (shapes_of hL) hm.1 hm.2).mono fun e W' ⟨he, bel⟩ => ?_
  subst he
  exact ⟨_, rfl, _, _, _, [], _, q, hW', trodAll_mk1 (shut_bool Tryd.underlying4 _), trodAll_cons_mk (Below.trod laidOut (by kernel_rfl) (of_decide_eq_true (by kernel_rfl)) h0 bel lt0) trodAll_mk0, var_carry laidOut gShapes gShapesType (by kernel_rfl) (of_decide_eq_true (by kernel_rfl)) hV bel, bel.frame _, fun h => by cases h⟩

def zeroFunc : Value := .agg #[.int .i64 0, .slice none 0 0]
theorem laid_met (os : Os) : laidMet Tryd.prog Rows.fnExactValidFuncRow.laid ((laidWorld os).forCall (fun _ _ => 0) ⟨#[], #[zeroFunc], []⟩).memory :=
  laidMet_of_run' 8 (by kernel_rfl) (by kernel_rfl)
theorem reads (os : Os) {H : Type} (enc : TypeId × Value → H) : ∃ places, DataW.whole enc Tryd.prog ((laidWorld os).forCall (fun _ _ => 0) ⟨#[], #[zeroFunc], []⟩).memory Tryd.f4.params.toList Rows.fnExactValidFuncSpec.vars false #[zeroFunc].toList 8 = some ([.agg [.lit (.int .i64 0), .nil]], [Rows.laid_loop_example_s0031_impl_shapes], places) :=
  ⟨MemPlace.row ⟨0, 0, none⟩ 56, by kernel_rfl⟩
theorem lifted (os : Os) (started : os.Started) (H : Type) (enc : TypeId × Value → H) (F : Stop.Interp) :
    ReturnsInHanded {} Tryd.checked os 4 .any ((OpenSpec.ofChange Rows.fnExactValidFuncSpec).preRow enc Tryd.prog Tryd.f4 Rows.fnExactValidFuncRow.domain false Rows.fnExactValidFuncRow.laid) (((OpenSpec.ofChange Rows.fnExactValidFuncSpec).at F).post enc Tryd.prog Tryd.f4 false true false false) := by
  obtain ⟨places, hx⟩ := reads os enc
  refine returnsInHanded_of_row (C := Tryd.checked) (s := OpenSpec.ofChange Rows.fnExactValidFuncSpec) own started (by kernel_rfl) Tryd.func4
    (witness_row_at (enc := enc) (C := Tryd.checked) false (laidWorld os) #[zeroFunc] rfl (by kernel_rfl) (by kernel_rfl) (by kernel_rfl)
      (OpenSpec.preRow_of_cond 8 hx (by kernel_rfl) (fun k hk => by cases hk) (by kernel_rfl) (laid_met os))) ?_
  intro W base args ds gs before hval hW _ _ _ hL _ _
  exact contractVf H enc W base args ds gs before hval hW hL
theorem said : Rows.FnExactValidFuncSaid :=
  OpenClaim.holds_of_cond 4 Tryd.f4 rfl rfl rfl rfl rfl rfl rfl ⟨rfl, rfl, rfl, rfl, rfl⟩ rfl rfl rfl rfl rfl (by kernel_rfl) Tryd.func4 (by kernel_rfl)
    (of_decide_eq_true (by kernel_rfl)) (by unfold Go.Func.isWrapper; first | (rw [if_pos (by decide +kernel)]; kernel_rfl) | (rw [if_neg (by decide +kernel)]; exact ⟨rfl, rfl⟩))
    (fun os started H enc _ F => by rw [OpenClaim.pre_eq_preRow]; exact lifted os started H enc F)
theorem plain (f : FuncId) (fn : Go.Func) (hf : Tryd.pinned.checked.prog.funcNamed "loop.example/s0031/laws.FnExactValidFunc" = some f) (hfn : Tryd.pinned.checked.prog.funcs[f]? = some fn) :
    true = Tryd.pinned.checked.prog.looks [] ∧ ∀ (j : Nat) t, fn.params[j]? = some t → Tryd.pinned.checked.prog.wantsStandIn t = false := by
  obtain rfl : f = 4 := Option.some.inj ((show Tryd.prog.funcNamed "loop.example/s0031/laws.FnExactValidFunc" = some 4 by kernel_rfl).symm.trans hf) |>.symm
  obtain rfl : fn = Tryd.f4 := (Option.some.inj (Tryd.func4.symm.trans hfn)).symm
  refine ⟨by kernel_rfl, fun j t ht => ?_⟩
  rw [Tryd.params4] at ht
  obtain rfl : t = 35 := by simpa using Array.mem_of_getElem? ht
  exact (show Tryd.prog.wantsStandIn 35 = false by kernel_rfl)
theorem fnExactValidFunc_holds : Rows.FnExactValidFuncCardSaid :=
  Claim7.holds_tied_plain_at .later [] _ _ _ _ said (fun _ h => by cases h) (by kernel_rfl) (fun _ h => by cases h) fnExactValidFunc_row_tie rfl ⟨rfl, rfl⟩ (by kernel_rfl) rfl plain (by kernel_rfl)
#print axioms fnExactValidFunc_holds
end Go.Proofs.YtnnfjjgohhicjaaDoor
