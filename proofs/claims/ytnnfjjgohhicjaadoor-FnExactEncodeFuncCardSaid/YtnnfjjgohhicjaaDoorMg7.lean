/- From a row's reading: functions. No condition. -/
import Derived.Test.YtnnfjjgohhicjaaDoorKt
import Derived.ChangeArms
import Derived.ChangeVars
import Derived.OpenShut
import Derived.WideShapes
import Derived.Carry
import Derived.DataElems
import Derived.Test.YtnnfjjgohhicjaaDoorRows
import Derived.Test.YtnnfjjgohhicjaaDoorKh
import Derived.WalkKit
import Derived.ProofKit
import Derived.Deep.DeepHandedRow
import Derived.SizedLaws
import Derived.Test.YtnnfjjgohhicjaaDoorMg1
import Derived.Lib.LaidTab
import Derived.Test.YtnnfjjgohhicjaaDoorKg2
import Derived.Test.YtnnfjjgohhicjaaDoorKu
namespace Go.Proofs.YtnnfjjgohhicjaaDoor
open Go.RowKit
set_option linter.unusedSimpArgs false
set_option linter.unusedVariables false
set_option maxRecDepth 100000
open Go.ChangeShapes

def Opens {α : Type} (P : Program) (t : TypeId) (d : Kd α) (G : α → Prop) : Prop :=
  ∀ (H : Type) (enc : TypeId × Value → H) (w : World) (base : Nat) (spare : Nat → Bool) (held : Bool) (fuel : Nat) (cs : List Value) (x : DataW H × List MemPlace), DataW.trod enc P w base spare held fuel t cs = some x → ∃ y, G y ∧ d.K w y cs
theorem opens_int {P : Program} {t : TypeId} {k : IntKind} (ht : P.underlying t = some (.int k)) : Opens P t (kInt k) fun n => (Lit.int k n).wf = true := by
  intro H enc w base spare held fuel cs x h
  obtain ⟨n, rfl, -, hw⟩ := DataW.trod_int ht h
  exact ⟨n, hw, rfl⟩
theorem pick {α : Type} {R : Nat → α → Prop} : ∀ (n : Nat), (∀ i, i < n → ∃ y, R i y) → ∃ ys : List α, ys.length = n ∧ ∀ (i : Nat) y, ys[i]? = some y → R i y
  | 0, _ => ⟨[], rfl, by simp⟩
  | n + 1, h => by
    obtain ⟨ys, hl, hr⟩ := pick n fun i hi => h i (by omega)
    obtain ⟨y, hy⟩ := h n (by omega)
    refine ⟨ys ++ [y], by simp [hl], fun i z hz => ?_⟩
    rw [List.getElem?_append] at hz
    split at hz
    · exact hr i z hz
    · have : i = n := by
        have := (List.getElem?_eq_some_iff.1 hz).1
        simp at this
        omega
      subst this
      simp [hl] at hz
      exact hz ▸ hy
theorem opens_slice {α : Type} {P : Program} {t e e' : TypeId} {d : Kd α} {G : α → Prop} (ht : P.underlying t = some (.slice e)) (hc : P.cellsOf e = d.sz) (ho : Opens P e d G) :
    Opens P t (kSlice e' d) fun xs => xs.length ≤ maxLen ∧ ∀ (i : Nat) x, xs[i]? = some x → G x := by
  intro H enc w base spare held fuel cs x h
  rcases DataW.trod_slice ht h with ⟨rfl, -⟩ | ⟨a, len, cap, elems, rest, n, -, rfl, -, hb, hl, hm, hlen, hel, -, -⟩
  · exact ⟨[], ⟨by simp, by simp⟩, none, 0, rfl, by simp, C.nil _ _ _⟩
  · obtain ⟨ys, hyl, hr⟩ := pick (R := fun i y => G y ∧ ∃ cs, d.K w y cs ∧ w.cells? base (a.add (i * P.cellsOf e)) (P.cellsOf e) = some cs) len (by
      intro i hi
      have h1 := hel i hi
      obtain ⟨z, hz⟩ := get_of_lt (show i < elems.length by omega)
      rw [hz, Option.bind_eq_some_iff] at h1
      obtain ⟨cs, hcs, ht'⟩ := h1
      obtain ⟨y, hg, hk⟩ := ho _ _ _ _ _ _ _ _ _ ht'
      exact ⟨y, hg, cs, hk, hcs⟩)
    refine ⟨ys, ⟨by omega, fun i y hy => (hr i y hy).1⟩, some a, cap, by rw [hyl], by omega, fun i y hy => ?_⟩
    obtain ⟨-, cs, hk, hcs⟩ := hr i y hy
    obtain ⟨-, hcl, hcell⟩ := World.cells?_some hcs
    refine ⟨a, cs, rfl, hk, fun j u hu => ?_⟩
    have hj : j < P.cellsOf e := by have := (List.getElem?_eq_some_iff.1 hu).1; omega
    have h1 := hcell j hj
    rw [hu] at h1
    rw [← h1, hc, Addr.add_add]
/-- A struct of whole numbers. -/
theorem open_flat {H : Type} {enc : TypeId × Value → H} {P : Program} {w : World} {base : Nat} {spare : Nat → Bool} {held : Bool} {fuel : Nat} {t : TypeId} {cs : List Value} {x : DataW H × List MemPlace} {fs : Array Field}
    (ht : P.underlying t = some (.struct fs)) (hi : P.underlying 2 = some (.int .i64)) (h2 : P.cellsOf 2 = 1) (hc : P.cellsOf t = fs.size) (hf : ∀ (j : Nat) f, fs[j]? = some f → f.offset = j ∧ f.type = 2)
    (h : DataW.trod enc P w base spare held fuel t cs = some x) : ∃ zs : List Int, zs.length = fs.size ∧ (∀ z ∈ zs, (Lit.int .i64 z).wf = true) ∧ cs = zs.map (Value.int .i64) := by
  obtain ⟨xs, n, -, -, hl, hxl, hr⟩ := DataW.trod_struct ht h
  obtain ⟨zs, hzl, hz⟩ := pick (R := fun i z => (Lit.int .i64 z).wf = true ∧ cs[i]? = some (.int .i64 z)) fs.size (by
    intro i hi'
    have hg : fs[i]? = some fs[i] := by simp [hi']
    obtain ⟨ho, hty⟩ := hf i _ hg
    have h1 := hr i _ hg
    rw [ho, hty, h2] at h1
    obtain ⟨y, hy⟩ := get_of_lt (show i < xs.length by omega)
    rw [hy] at h1
    obtain ⟨z, hcz, -, hw⟩ := DataW.trod_int hi h1
    refine ⟨z, hw, ?_⟩
    have := congrArg (·[0]?) hcz
    simpa [List.getElem?_take, List.getElem?_drop] using this)
  refine ⟨zs, hzl, fun z hm => ?_, ?_⟩
  · obtain ⟨i, hi'⟩ := List.getElem?_of_mem hm
    exact (hz i z hi').1
  · apply List.ext_getElem?
    intro i
    by_cases hi' : i < fs.size
    · obtain ⟨z, hzi⟩ := get_of_lt (show i < zs.length by omega)
      simp [hzi, (hz i z hzi).2]
    · rw [List.getElem?_eq_none (by omega), List.getElem?_eq_none (by simp; omega)]
theorem opens_instr {P : Program} {t : TypeId} {fs : Array Field} (ht : P.underlying t = some (.struct fs)) (hs : fs.size = 5) (hi : P.underlying 2 = some (.int .i64)) (h2 : P.cellsOf 2 = 1) (hc : P.cellsOf t = fs.size) (hf : ∀ (j : Nat) f, fs[j]? = some f → f.offset = j ∧ f.type = 2) : Opens P t kInstr fun _ => True := by
  intro H enc w base spare held fuel cs x h
  obtain ⟨zs, hl, -, rfl⟩ := open_flat ht hi h2 hc hf h
  match zs, hl.trans hs with
  | [a, b, c, d, e], _ => exact ⟨⟨a, b, c, d, e⟩, trivial, rfl⟩
theorem opens_term {P : Program} {t : TypeId} {fs : Array Field} (ht : P.underlying t = some (.struct fs)) (hs : fs.size = 4) (hi : P.underlying 2 = some (.int .i64)) (h2 : P.cellsOf 2 = 1) (hc : P.cellsOf t = fs.size) (hf : ∀ (j : Nat) f, fs[j]? = some f → f.offset = j ∧ f.type = 2) : Opens P t kTerm fun _ => True := by
  intro H enc w base spare held fuel cs x h
  obtain ⟨zs, hl, -, rfl⟩ := open_flat ht hi h2 hc hf h
  match zs, hl.trans hs with
  | [a, b, c, d], _ => exact ⟨⟨a, b, c, d⟩, trivial, rfl⟩
theorem opens_prod {α β : Type} {P : Program} {t : TypeId} {f0 f1 : Field} {d1 : Kd α} {d2 : Kd β} {G1 : α → Prop} {G2 : β → Prop} (ht : P.underlying t = some (.struct #[f0, f1])) (h0 : f0.offset = 0) (h1 : f1.offset = d1.sz) (hc0 : P.cellsOf f0.type = d1.sz) (hc1 : P.cellsOf f1.type = d2.sz) (hc : P.cellsOf t = d1.sz + d2.sz)
    (o1 : Opens P f0.type d1 G1) (o2 : Opens P f1.type d2 G2) : Opens P t (kProd d1 d2) fun x => G1 x.1 ∧ G2 x.2 := by
  intro H enc w base spare held fuel cs x h
  obtain ⟨y0, y1, n, -, hl, ha, hb⟩ := trod_struct2 ht h
  rw [h0, hc0, List.drop_zero] at ha
  rw [h1, hc1] at hb
  obtain ⟨a, ga, ka⟩ := o1 _ _ _ _ _ _ _ _ _ ha
  obtain ⟨b, gb, kb⟩ := o2 _ _ _ _ _ _ _ _ _ hb
  refine ⟨(a, b), ⟨ga, gb⟩, cs.take d1.sz, cs.drop d1.sz, (List.take_append_drop _ _).symm, ka, ?_⟩
  rwa [List.take_of_length_le (by simp; omega)] at kb
theorem opens_iso {α β : Type} {P : Program} {t : TypeId} {f : α → β} {g : β → α} {d : Kd β} {G : β → Prop} (hfg : ∀ y, f (g y) = y) (o : Opens P t d G) : Opens P t (kIso f d) fun x => G (f x) := by
  intro H enc w base spare held fuel cs x h
  obtain ⟨y, gy, ky⟩ := o _ _ _ _ _ _ _ _ _ h
  exact ⟨g y, by show G (f (g y)); rw [hfg]; exact gy, by show d.K w (f (g y)) cs; rw [hfg]; exact ky⟩
/-- A table of structs of bools. -/
theorem bools_of_table {H : Type} {enc : TypeId × Value → H} {P : Program} {w : World} {base : Nat} {spare : Nat → Bool} {held : Bool} {fuel : Nat} {t e : TypeId} {n : Nat} {cs : List Value} {ds : List (DataW H)} {p : List MemPlace} {fs : Array Field}
    (ht : P.underlying t = some (.array n e)) (he : P.underlying e = some (.struct fs)) (hb : P.underlying 4 = some .bool) (h4 : P.cellsOf 4 = 1) (hc : P.cellsOf e = fs.size) (hf : ∀ (j : Nat) f, fs[j]? = some f → f.offset = j ∧ f.type = 4)
    (h : DataW.trod enc P w base spare held fuel t cs = some (.agg ds, p)) {i j : Nat} {row : List (DataW H)} {b : Bool} (hi : ds[i]? = some (.agg row)) (hj : row[j]? = some (.lit (.bool b))) : cs[i * fs.size + j]? = some (.bool b) := by
  obtain ⟨xs, m, -, hx, hl, hxl, hr⟩ := DataW.trod_array ht h
  simp only [Prod.mk.injEq, DataW.agg.injEq] at hx
  obtain ⟨rfl, -⟩ := hx
  rw [List.getElem?_map, Option.map_eq_some_iff] at hi
  obtain ⟨x, hxi, hx1⟩ := hi
  have hin : i < n := by have := (List.getElem?_eq_some_iff.1 hxi).1; omega
  have h1 := hr i hin
  rw [hxi, hc] at h1
  obtain ⟨ys, m2, -, hy, hl2, hyl, hr2⟩ := DataW.trod_struct he h1
  rw [hy] at hx1
  simp only [DataW.agg.injEq] at hx1
  subst hx1
  rw [List.getElem?_map, Option.map_eq_some_iff] at hj
  obtain ⟨y, hyj, hy1⟩ := hj
  have hjn : j < fs.size := by have := (List.getElem?_eq_some_iff.1 hyj).1; omega
  obtain ⟨ho, hty⟩ := hf j fs[j] (by simp [hjn])
  have h2 := hr2 j fs[j] (by simp [hjn])
  rw [hyj, ho, hty, h4] at h2
  obtain ⟨b', hcb, rfl⟩ := DataW.trod_bool hb h2
  simp only [DataW.lit.injEq, Lit.bool.injEq] at hy1
  subst hy1
  have := congrArg (·[0]?) hcb
  simp only [List.getElem?_take, List.getElem?_drop, List.getElem?_cons_zero] at this
  simpa [hjn] using this
/-- A variable that a row reads, under Below. -/
theorem var_carry {H : Type} {enc : TypeId × Value → H} {P : Program} {W W' : World} {n : String} {gs : List (DataW H)} {ps : List MemPlace} (lo : laidOutB P = true) {t0 : TypeId} {g0 : Nat} (hg0 : P.globalNamed n = some g0) (ht0 : (P.globals[g0]?).map (·.type) = some t0) (hr : P.readableRec t0 = true) (hs : t0 < P.types.size)
    (h : DataW.TrodVars enc P W (fun _ => true) [n] gs ps) (bel : Below W.heap.size W W') : DataW.TrodVars enc P W' (fun b => decide (b < W.heap.size)) [n] gs ps := by
  have hlt := DataW.TrodVars.lt h
  obtain ⟨g, t, cs, fuel, d, p, rfl, h1, h2, h3, h4, rfl⟩ := trodVars_one h
  obtain rfl := Option.some.inj (hg0.symm.trans h1)
  obtain rfl := Option.some.inj (ht0.symm.trans h2)
  have hgl : g0 < W.heap.size := by
    simp only [World.var?, h1, Option.bind_some] at h3
    rcases hh : W.heap[g0]? with _ | o
    · rw [hh] at h3
      simp at h3
    · exact (Array.getElem?_eq_some_iff.1 hh).1
  obtain ⟨fuel', hf⟩ := Below.trod lo hr hs (v := .agg cs) ⟨fuel, by simpa [Value.cells] using h4⟩ bel fun x hx => hlt x (by simp [hx])
  refine trodVars_mk1 (fuel := fuel') h1 h2 ?_ (by simpa [Value.cells] using hf)
  simp only [World.var?, h1, Option.bind_some] at h3 ⊢
  rw [bel.block g0 hgl]
  exact h3
end Go.Proofs.YtnnfjjgohhicjaaDoor
namespace Go.Proofs.YtnnfjjgohhicjaaDoor
open Go.RowKit
set_option linter.unusedSimpArgs false
set_option linter.unusedVariables false
set_option maxRecDepth 100000
open Go.ChangeShapes Go.WideShapes Go.ChangeAt

theorem own : ownKnob Tryd.prog.godebug = none := by kernel_rfl
theorem laidOut : laidOutB Tryd.prog = true := by kernel_rfl
theorem gShapes : Tryd.prog.globalNamed "loop.example/s0031/impl.shapes" = some 0 := by kernel_rfl
theorem gShapesType : (Tryd.prog.globals[0]?).map (·.type) = some 93 := by kernel_rfl
theorem shapes_of {w : World} {rest : List (String × DataW Unit)} (h : laidMet Tryd.prog (("loop.example/s0031/impl.shapes", Rows.laid_loop_example_s0031_impl_shapes) :: rest) w) : Shapes w := by
  obtain ⟨ps, ⟨g', t', cs, fuel, p, q, hg', ht', hvar, hd, _, _⟩, _⟩ := h
  obtain rfl := Option.some.inj (gShapes.symm.trans hg')
  obtain rfl := Option.some.inj (gShapesType.symm.trans ht')
  intro op ho j v hv
  have hc := World.var?_cell gShapes hvar (op * 4 + j)
  have hj : j < 4 := by have := (List.getElem?_eq_some_iff.1 hv).1; simpa [shapeV] using this
  rw [hc, ← hv]
  have K := fun i j row b => bools_of_table (i := i) (j := j) (row := row) (b := b) Tryd.underlying93 Tryd.underlying92 Tryd.underlying4 (by kernel_rfl) (by kernel_rfl) (by intro j f hf; match j, hf with | 0, hf | 1, hf | 2, hf | 3, hf => (simp at hf; subst hf; exact ⟨rfl, rfl⟩) | j + 4, hf => simp at hf) hd
  simp only [Array.getElem?_toList] at K
  clear hd hv hc hvar
  rcases (by omega : op = 0 ∨ op = 1 ∨ op = 2 ∨ op = 3 ∨ op = 4 ∨ op = 5 ∨ op = 6 ∨ op = 7 ∨ op = 8 ∨ op = 9 ∨ op = 10 ∨ op = 11 ∨ op = 12 ∨ op = 13) with rfl | rfl | rfl | rfl | rfl | rfl | rfl | rfl | rfl | rfl | rfl | rfl | rfl | rfl
  · rcases (by omega : j = 0 ∨ j = 1 ∨ j = 2 ∨ j = 3) with rfl | rfl | rfl | rfl
    · exact K 0 0 _ false rfl rfl
    · exact K 0 1 _ false rfl rfl
    · exact K 0 2 _ false rfl rfl
    · exact K 0 3 _ false rfl rfl
  · rcases (by omega : j = 0 ∨ j = 1 ∨ j = 2 ∨ j = 3) with rfl | rfl | rfl | rfl
    · exact K 1 0 _ true rfl rfl
    · exact K 1 1 _ false rfl rfl
    · exact K 1 2 _ false rfl rfl
    · exact K 1 3 _ true rfl rfl
  · rcases (by omega : j = 0 ∨ j = 1 ∨ j = 2 ∨ j = 3) with rfl | rfl | rfl | rfl
    · exact K 2 0 _ true rfl rfl
    · exact K 2 1 _ false rfl rfl
    · exact K 2 2 _ false rfl rfl
    · exact K 2 3 _ true rfl rfl
  · rcases (by omega : j = 0 ∨ j = 1 ∨ j = 2 ∨ j = 3) with rfl | rfl | rfl | rfl
    · exact K 3 0 _ true rfl rfl
    · exact K 3 1 _ true rfl rfl
    · exact K 3 2 _ true rfl rfl
    · exact K 3 3 _ false rfl rfl
  · rcases (by omega : j = 0 ∨ j = 1 ∨ j = 2 ∨ j = 3) with rfl | rfl | rfl | rfl
    · exact K 4 0 _ true rfl rfl
    · exact K 4 1 _ true rfl rfl
    · exact K 4 2 _ true rfl rfl
    · exact K 4 3 _ false rfl rfl
  · rcases (by omega : j = 0 ∨ j = 1 ∨ j = 2 ∨ j = 3) with rfl | rfl | rfl | rfl
    · exact K 5 0 _ true rfl rfl
    · exact K 5 1 _ true rfl rfl
    · exact K 5 2 _ true rfl rfl
    · exact K 5 3 _ false rfl rfl
  · rcases (by omega : j = 0 ∨ j = 1 ∨ j = 2 ∨ j = 3) with rfl | rfl | rfl | rfl
    · exact K 6 0 _ true rfl rfl
    · exact K 6 1 _ true rfl rfl
    · exact K 6 2 _ true rfl rfl
    · exact K 6 3 _ false rfl rfl
  · rcases (by omega : j = 0 ∨ j = 1 ∨ j = 2 ∨ j = 3) with rfl | rfl | rfl | rfl
    · exact K 7 0 _ true rfl rfl
    · exact K 7 1 _ true rfl rfl
    · exact K 7 2 _ true rfl rfl
    · exact K 7 3 _ false rfl rfl
  · rcases (by omega : j = 0 ∨ j = 1 ∨ j = 2 ∨ j = 3) with rfl | rfl | rfl | rfl
    · exact K 8 0 _ true rfl rfl
    · exact K 8 1 _ true rfl rfl
    · exact K 8 2 _ false rfl rfl
    · exact K 8 3 _ false rfl rfl
  · rcases (by omega : j = 0 ∨ j = 1 ∨ j = 2 ∨ j = 3) with rfl | rfl | rfl | rfl
    · exact K 9 0 _ false rfl rfl
    · exact K 9 1 _ true rfl rfl
    · exact K 9 2 _ true rfl rfl
    · exact K 9 3 _ false rfl rfl
  · rcases (by omega : j = 0 ∨ j = 1 ∨ j = 2 ∨ j = 3) with rfl | rfl | rfl | rfl
    · exact K 10 0 _ false rfl rfl
    · exact K 10 1 _ true rfl rfl
    · exact K 10 2 _ false rfl rfl
    · exact K 10 3 _ false rfl rfl
  · rcases (by omega : j = 0 ∨ j = 1 ∨ j = 2 ∨ j = 3) with rfl | rfl | rfl | rfl
    · exact K 11 0 _ true rfl rfl
    · exact K 11 1 _ true rfl rfl
    · exact K 11 2 _ false rfl rfl
    · exact K 11 3 _ false rfl rfl
  · rcases (by omega : j = 0 ∨ j = 1 ∨ j = 2 ∨ j = 3) with rfl | rfl | rfl | rfl
    · exact K 12 0 _ false rfl rfl
    · exact K 12 1 _ true rfl rfl
    · exact K 12 2 _ false rfl rfl
    · exact K 12 3 _ false rfl rfl
  · rcases (by omega : j = 0 ∨ j = 1 ∨ j = 2 ∨ j = 3) with rfl | rfl | rfl | rfl
    · exact K 13 0 _ true rfl rfl
    · exact K 13 1 _ false rfl rfl
    · exact K 13 2 _ false rfl rfl
    · exact K 13 3 _ false rfl rfl
/-- A world for the witness: the table (block 0) as its initialiser lays it. -/
noncomputable def laidWorld (os : Os) : World :=
  { World.holding Tryd.prog os ⟨#[], #[], []⟩ with heap := (World.holding Tryd.prog os ⟨#[], #[], []⟩).heap.modify 0 fun
      | .cells _ t frozen => .cells #[.bool false, .bool false, .bool false, .bool false, .bool true, .bool false, .bool false, .bool true, .bool true, .bool false, .bool false, .bool true, .bool true, .bool true, .bool true, .bool false, .bool true, .bool true, .bool true, .bool false, .bool true, .bool true, .bool true, .bool false, .bool true, .bool true, .bool true, .bool false, .bool true, .bool true, .bool true, .bool false, .bool true, .bool true, .bool false, .bool false, .bool false, .bool true, .bool true, .bool false, .bool false, .bool true, .bool false, .bool false, .bool true, .bool true, .bool false, .bool false, .bool false, .bool true, .bool false, .bool false, .bool true, .bool false, .bool false, .bool false] t frozen
      | o => o }
end Go.Proofs.YtnnfjjgohhicjaaDoor
namespace Go.Proofs.YtnnfjjgohhicjaaDoor
open Go.RowKit
set_option linter.unusedSimpArgs false
set_option linter.unusedVariables false
set_option maxRecDepth 100000
open Go.ChangeShapes Go.WideShapes Go.ChangeAt

theorem laidMet_tail {P : Program} {x : String × DataW Unit} {rest : List (String × DataW Unit)} {w : World} (h : laidMet P (x :: rest) w) : laidMet P rest w := by
  obtain ⟨ps, ⟨g, t, cs, fuel, p, q, _, _, _, _, hq, rfl⟩, hn, hb⟩ := h
  exact ⟨q, hq, (List.nodup_append.1 hn).2.1, fun b off hm => hb b off (by simp [hm])⟩
theorem gNames : Tryd.prog.globalNamed "loop.example/s0031/impl.opNames" = some 1 := by kernel_rfl
theorem gNamesType : (Tryd.prog.globals[1]?).map (·.type) = some 155 := by kernel_rfl
theorem gTabType : (Tryd.prog.globals[2]?).map (·.type) = some 207 := by kernel_rfl
theorem string_of_table {P : Program} {w : World} {base : Nat} {spare : Nat → Bool} {held : Bool} {fuel : Nat} {t e : TypeId} {n : Nat} {cs : List Value} {ds : List (DataW Unit)} {p : List MemPlace}
    (ht : P.underlying t = some (.array n e)) (he : P.underlying e = some .string) (hc : P.cellsOf e = 1) (h : DataW.trod (fun _ => ()) P w base spare held fuel t cs = some (.agg ds, p)) {i : Nat} {l : List UInt8} (hi : ds[i]? = some (.lit (.string l))) : cs[i]? = some (sv l) := by
  obtain ⟨xs, m, -, hx, hl, hxl, hr⟩ := DataW.trod_array ht h
  simp only [Prod.mk.injEq, DataW.agg.injEq] at hx
  obtain ⟨rfl, -⟩ := hx
  rw [List.getElem?_map, Option.map_eq_some_iff] at hi
  obtain ⟨x, hxi, hx1⟩ := hi
  have hin : i < n := by have := (List.getElem?_eq_some_iff.1 hxi).1; omega
  have h1 := hr i hin
  rw [hxi, hc] at h1
  obtain ⟨s, hcb, rfl, -⟩ := DataW.trod_string he h1
  simp only [DataW.lit.injEq, Lit.string.injEq] at hx1
  have := congrArg (·[0]?) hcb
  simp only [List.getElem?_take, List.getElem?_drop, List.getElem?_cons_zero] at this
  subst hx1
  simpa using this
theorem names_of {w : World} {rest : List (String × DataW Unit)} (h : laidMet Tryd.prog (("loop.example/s0031/impl.opNames", Rows.laid_loop_example_s0031_impl_opNames) :: rest) w) :
    ∀ op : Nat, 1 ≤ op → op ≤ 13 → w.cell? ⟨1, op, none⟩ = some (sv (wordL op)) := by
  obtain ⟨ps, ⟨g', t', cs, fuel, p, q, hg', ht', hvar, hd, _, _⟩, _⟩ := h
  obtain rfl := Option.some.inj (gNames.symm.trans hg')
  obtain rfl := Option.some.inj (gNamesType.symm.trans ht')
  intro op h1 h2
  have hc := World.var?_cell gNames hvar op
  rw [hc]
  have K := fun i l => string_of_table (i := i) (l := l) Tryd.underlying155 Tryd.underlying9 (by kernel_rfl) hd
  simp only [Array.getElem?_toList] at K
  clear hd hc hvar
  rcases (by omega : op = 1 ∨ op = 2 ∨ op = 3 ∨ op = 4 ∨ op = 5 ∨ op = 6 ∨ op = 7 ∨ op = 8 ∨ op = 9 ∨ op = 10 ∨ op = 11 ∨ op = 12 ∨ op = 13) with rfl | rfl | rfl | rfl | rfl | rfl | rfl | rfl | rfl | rfl | rfl | rfl | rfl
  all_goals exact K _ _ rfl
theorem globs_of {w : World} {x y : String × DataW Unit}
    (h : laidMet Tryd.prog [x, y, ("internal/strconv.uint64pow10", Rows.laid_internal_strconv_uint64pow10), ("loop.example/s0031/impl.shapes", Rows.laid_loop_example_s0031_impl_shapes), ("loop.example/s0031/impl.opNames", Rows.laid_loop_example_s0031_impl_opNames)] w) : Globs w := by
  have h2 := laidMet_tail (laidMet_tail h)
  have h3 := laidMet_tail h2
  exact ⟨shapes_of h3, names_of (laidMet_tail h3), Lib.tabIs_of_head gTab gTabType Tryd.underlying207 Tryd.underlying200 (by kernel_rfl) (by kernel_rfl) h2⟩
theorem vars_carry2 {H : Type} {enc : TypeId × Value → H} {P : Program} {W W' : World} {n n1 : String} {gs : List (DataW H)} {ps : List MemPlace} (lo : laidOutB P = true) {t0 t1 : TypeId} {g0 g1 : Nat} (hg0 : P.globalNamed n = some g0) (ht0 : (P.globals[g0]?).map (·.type) = some t0) (hr : P.readableRec t0 = true) (hs : t0 < P.types.size)
    (hg1 : P.globalNamed n1 = some g1) (ht1 : (P.globals[g1]?).map (·.type) = some t1) (hr1 : P.readableRec t1 = true) (hs1 : t1 < P.types.size)
    (h : DataW.TrodVars enc P W (fun _ => true) [n, n1] gs ps) (bel : Below W.heap.size W W') : DataW.TrodVars enc P W' (fun b => decide (b < W.heap.size)) [n, n1] gs ps := by
  cases gs with
  | nil => simp [DataW.TrodVars] at h
  | cons d ds =>
    obtain ⟨g, t, cs, fuel, p, q, h1, h2, h3, h4, h5, rfl⟩ := h
    have k1 := var_carry lo hg1 ht1 hr1 hs1 h5 bel
    have k0 := var_carry lo hg0 ht0 hr hs (trodVars_mk1 h1 h2 h3 h4) bel
    obtain ⟨g', t', cs', fuel', d', p', e, m1, m2, m3, m4, m5⟩ := trodVars_one k0
    simp only [List.cons.injEq, and_true] at e
    subst e
    refine ⟨g', t', cs', fuel', p', q, m1, m2, m3, m4, k1, ?_⟩
    rw [← m5]
def lit1 : DataW Unit → List Value
  | .lit (.int k z) => [.int k z]
  | .lit (.bool b) => [.bool b]
  | .lit (.string l) => [.string ⟨l.toArray⟩]
  | _ => []
def agg1 : DataW Unit → List Value
  | .agg ds => ds.flatMap lit1
  | d => lit1 d
def agg2 : DataW Unit → List Value
  | .agg ds => ds.flatMap agg1
  | d => agg1 d
/-- A table laid into a world. -/
def World.laying (g : Nat) (d : DataW Unit) (w : World) : World := { w with heap := w.heap.modify g fun
  | .cells _ t frozen => .cells (agg2 d).toArray t frozen
  | o => o }
/-- A world for the witness. -/
noncomputable def laidWorld5 (os : Os) : World :=
  World.laying 3 Rows.laid_math_bits_deBruijn32tab (World.laying 4 Rows.laid_math_bits_deBruijn64tab (World.laying 2 Rows.laid_internal_strconv_uint64pow10 (World.laying 1 Rows.laid_loop_example_s0031_impl_opNames (laidWorld os))))
end Go.Proofs.YtnnfjjgohhicjaaDoor
namespace Go.Proofs.YtnnfjjgohhicjaaDoor
open Go.RowKit
set_option linter.unusedSimpArgs false
set_option linter.unusedVariables false
set_option maxRecDepth 100000
open Go.ChangeShapes Go.WideShapes

theorem opens_mb : Opens Tryd.prog 130 (kMB 0) fun b => b.instrs.length ≤ 9223372036854775807 := by
  have h1 := opens_slice (e' := 0) Tryd.underlying127 (by kernel_rfl) (opens_instr Tryd.underlying190 rfl Tryd.underlying2 (by kernel_rfl) (by kernel_rfl) (by intro j f hf; match j, hf with | 0, hf | 1, hf | 2, hf | 3, hf | 4, hf => (simp at hf; subst hf; exact ⟨rfl, rfl⟩) | j + 5, hf => simp at hf))
  have h2 := opens_term Tryd.underlying128 rfl Tryd.underlying2 (by kernel_rfl) (by kernel_rfl) (by intro j f hf; match j, hf with | 0, hf | 1, hf | 2, hf | 3, hf => (simp at hf; subst hf; exact ⟨rfl, rfl⟩) | j + 4, hf => simp at hf)
  have h3 := opens_prod Tryd.underlying130 rfl rfl (by kernel_rfl) (by kernel_rfl) (by kernel_rfl) h1 h2
  intro H enc w base spare held fuel cs x h
  obtain ⟨y, hy, hk⟩ := opens_iso (f := fun b : MBlock => (b.instrs, b.term)) (g := fun y => ⟨y.1, y.2⟩) (fun y => rfl) h3 H enc w base spare held fuel cs x h
  exact ⟨y, by have := hy.1.1; simpa [maxLen] using this, hk⟩
def okMach (m : Mach) : Prop := m.blocks.length ≤ 9223372036854775807 ∧ ∀ (i : Nat) b, m.blocks[i]? = some b → b.instrs.length ≤ 9223372036854775807
theorem open_mach {H : Type} {enc : TypeId × Value → H} {w : World} {base b0 : Nat} {r : Reach} {spare : Nat → Bool} {held : Bool} {v : Value} {d : DataW H} {p : List MemPlace} (hv : Value.okWide Tryd.prog w r b0 24 v) (h : DataW.Trod enc Tryd.prog w base spare held 24 v d p) :
    ∃ (m : Mach) (A : Option Addr) (c : Nat), v = .agg #[.int .i64 m.regs, .slice A m.blocks.length c] ∧ C (kMB 0) w A m.blocks ∧ okMach m := by
  obtain ⟨cs, rfl, hsz⟩ := okWide_struct Tryd.underlying24 hv
  obtain ⟨fuel, hf⟩ := h
  have h3 := opens_prod Tryd.underlying24 (d1 := kInt .i64) (d2 := kSlice 0 (kMB 0)) rfl rfl (by kernel_rfl) (by kernel_rfl) (by kernel_rfl) (opens_int Tryd.underlying2) (opens_slice Tryd.underlying22 (by kernel_rfl) opens_mb)
  obtain ⟨⟨n, bs⟩, ⟨-, hl, hb⟩, c1, c2, hcs, rfl, A, c, rfl, -, hC⟩ := h3 _ _ _ _ _ _ _ _ _ hf
  exact ⟨⟨n, bs⟩, A, c, by simp only [Value.cells] at hcs; cases cs; simp_all, hC, by simpa [maxLen] using hl, hb⟩
theorem open_ints {H : Type} {enc : TypeId × Value → H} {w : World} {base b0 : Nat} {r : Reach} {spare : Nat → Bool} {held : Bool} {v : Value} {d : DataW H} {p : List MemPlace} (hv : Value.okWide Tryd.prog w r b0 49 v) (h : DataW.Trod enc Tryd.prog w base spare held 49 v d p) :
    ∃ (xs : List Int) (A : Option Addr) (c : Nat), v = .slice A xs.length c ∧ C kI64 w A xs ∧ xs.length ≤ 9223372036854775807 := by
  obtain ⟨a, n, cp, rfl⟩ := okWide_slice Tryd.underlying49 hv
  obtain ⟨fuel, hf⟩ := h
  obtain ⟨xs, ⟨hl, -⟩, A, c, hcs, -, hC⟩ := opens_slice (e' := 2) Tryd.underlying49 (by kernel_rfl) (opens_int Tryd.underlying2) _ _ _ _ _ _ _ _ _ hf
  exact ⟨xs, A, c, by simpa [Value.cells] using hcs, hC, by simpa [maxLen] using hl⟩
theorem open_i64 {w : World} {b0 : Nat} {r : Reach} {v : Value} (hv : Value.okWide Tryd.prog w r b0 2 v) : ∃ n : Int, v = .int .i64 n := okWide_int Tryd.underlying2 hv
end Go.Proofs.YtnnfjjgohhicjaaDoor
namespace Go.Proofs.YtnnfjjgohhicjaaDoor
open Go.RowKit
set_option linter.unusedSimpArgs false
set_option linter.unusedVariables false
set_option maxRecDepth 100000
open Go.ChangeShapes Go.WideShapes

/-- A struct of three fields. -/
theorem opens_prod3 {α β γ : Type} {P : Program} {t : TypeId} {f0 f1 f2 : Field} {d1 : Kd α} {d2 : Kd β} {d3 : Kd γ} {G1 : α → Prop} {G2 : β → Prop} {G3 : γ → Prop} (ht : P.underlying t = some (.struct #[f0, f1, f2])) (h0 : f0.offset = 0) (h1 : f1.offset = d1.sz) (h2 : f2.offset = d1.sz + d2.sz)
    (hc0 : P.cellsOf f0.type = d1.sz) (hc1 : P.cellsOf f1.type = d2.sz) (hc2 : P.cellsOf f2.type = d3.sz) (hc : P.cellsOf t = d1.sz + (d2.sz + d3.sz))
    (o1 : Opens P f0.type d1 G1) (o2 : Opens P f1.type d2 G2) (o3 : Opens P f2.type d3 G3) : Opens P t (kProd d1 (kProd d2 d3)) fun x => G1 x.1 ∧ G2 x.2.1 ∧ G3 x.2.2 := by
  intro H enc w base spare held fuel cs x h
  obtain ⟨xs, n, -, -, hl, hxl, hr⟩ := DataW.trod_struct ht h
  have a0 := hr 0 f0 rfl
  have a1 := hr 1 f1 rfl
  have a2 := hr 2 f2 rfl
  rw [h0, hc0, List.drop_zero] at a0
  rw [h1, hc1] at a1
  rw [h2, hc2] at a2
  have hx : xs.length = 3 := by simpa using hxl
  match xs, hx with
  | [x0, x1, x2], _ =>
    obtain ⟨a, ga, ka⟩ := o1 _ _ _ _ _ _ _ _ _ a0
    obtain ⟨b, gb, kb⟩ := o2 _ _ _ _ _ _ _ _ _ a1
    obtain ⟨c, gc, kc⟩ := o3 _ _ _ _ _ _ _ _ _ a2
    refine ⟨(a, b, c), ⟨ga, gb, gc⟩, cs.take d1.sz, cs.drop d1.sz, (List.take_append_drop _ _).symm, ka, (cs.drop d1.sz).take d2.sz, (cs.drop d1.sz).drop d2.sz, (List.take_append_drop _ _).symm, kb, ?_⟩
    rw [List.drop_drop]
    rwa [List.take_of_length_le (by simp; omega)] at kc
theorem opens_lphi : Opens Tryd.prog 193 (kPhi 0) (okPhi 9223372036854775807) := by
  have h3 := opens_prod (d1 := kInt .i64) (d2 := kSlice 0 (kInt .i64)) Tryd.underlying193 rfl rfl (by kernel_rfl) (by kernel_rfl) (by kernel_rfl) (opens_int Tryd.underlying2) (opens_slice Tryd.underlying49 (by kernel_rfl) (opens_int Tryd.underlying2))
  intro H enc w base spare held fuel cs x h
  obtain ⟨y, hy, hk⟩ := opens_iso (f := fun p : Phi => (p.dst, p.args)) (g := fun y => ⟨y.1, y.2⟩) (fun y => rfl) h3 H enc w base spare held fuel cs x h
  exact ⟨y, by have := hy.2.1; unfold okPhi; simpa [maxLen] using this, hk⟩
theorem opens_lblock : Opens Tryd.prog 140 (kBlock 0 0 0) (okBlk 9223372036854775807) := by
  have h0 := opens_slice (e' := 0) Tryd.underlying138 (by kernel_rfl) opens_lphi
  have h1 := opens_slice (e' := 0) Tryd.underlying127 (by kernel_rfl) (opens_instr Tryd.underlying190 rfl Tryd.underlying2 (by kernel_rfl) (by kernel_rfl) (by intro j f hf; match j, hf with | 0, hf | 1, hf | 2, hf | 3, hf | 4, hf => (simp at hf; subst hf; exact ⟨rfl, rfl⟩) | j + 5, hf => simp at hf))
  have h2 := opens_term Tryd.underlying128 rfl Tryd.underlying2 (by kernel_rfl) (by kernel_rfl) (by intro j f hf; match j, hf with | 0, hf | 1, hf | 2, hf | 3, hf => (simp at hf; subst hf; exact ⟨rfl, rfl⟩) | j + 4, hf => simp at hf)
  have h3 := opens_prod3 Tryd.underlying140 (by rfl) (by rfl) (by rfl) (by kernel_rfl) (by kernel_rfl) (by kernel_rfl) (by kernel_rfl) h0 h1 h2
  intro H enc w base spare held fuel cs x h
  obtain ⟨y, hy, hk⟩ := opens_iso (f := fun b : Block => (b.phis, (b.instrs, b.term))) (g := fun y => ⟨y.1, y.2.1, y.2.2⟩) (fun y => rfl) h3 H enc w base spare held fuel cs x h
  refine ⟨y, ⟨by have := hy.1.1; simpa [maxLen] using this, fun i p hp => hy.1.2 i p hp, by have := hy.2.1.1; simpa [maxLen] using this⟩, hk⟩
def okFunc (m : Func) : Prop := m.blocks.length ≤ 9223372036854775807 ∧ ∀ (i : Nat) b, m.blocks[i]? = some b → okBlk 9223372036854775807 b
theorem open_func {H : Type} {enc : TypeId × Value → H} {w : World} {base b0 : Nat} {r : Reach} {spare : Nat → Bool} {held : Bool} {v : Value} {d : DataW H} {p : List MemPlace} (hv : Value.okWide Tryd.prog w r b0 35 v) (h : DataW.Trod enc Tryd.prog w base spare held 35 v d p) :
    ∃ (m : Func) (A : Option Addr) (c : Nat), v = .agg #[.int .i64 m.values, .slice A m.blocks.length c] ∧ C (kBlock 0 0 0) w A m.blocks ∧ okFunc m := by
  obtain ⟨cs, rfl, hsz⟩ := okWide_struct Tryd.underlying35 hv
  obtain ⟨fuel, hf⟩ := h
  have h3 := opens_prod Tryd.underlying35 (d1 := kInt .i64) (d2 := kSlice 0 (kBlock 0 0 0)) rfl rfl (by kernel_rfl) (by kernel_rfl) (by kernel_rfl) (opens_int Tryd.underlying2) (opens_slice Tryd.underlying33 (by kernel_rfl) opens_lblock)
  obtain ⟨⟨n, bs⟩, ⟨-, hl, hb⟩, c1, c2, hcs, rfl, A, c, rfl, -, hC⟩ := h3 _ _ _ _ _ _ _ _ _ hf
  exact ⟨⟨n, bs⟩, A, c, by simp only [Value.cells] at hcs; cases cs; simp_all, hC, by simpa [maxLen] using hl, hb⟩
end Go.Proofs.YtnnfjjgohhicjaaDoor
