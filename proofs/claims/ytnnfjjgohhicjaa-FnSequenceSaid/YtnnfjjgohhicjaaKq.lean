/- From a row's reading of an argument to the reading facts of the walks; the end of a row over a table. -/
import Derived.Test.YtnnfjjgohhicjaaKt
import Derived.ChangeArms
import Derived.ChangeVars
import Derived.OpenShut
import Derived.WideShapes
import Derived.Carry
import Derived.DataElems
namespace Go.Proofs.Ytnnfjjgohhicjaa
open Go.RowKit
set_option linter.unusedSimpArgs false
set_option linter.unusedVariables false
set_option maxRecDepth 100000
open Go.ChangeShapes

def Opens {α : Type} (P : Program) (t : TypeId) (d : Kd α) (G : α → Prop) : Prop :=
  ∀ (H : Type) (enc : TypeId × Value → H) (w : World) (base : Nat) (spare : Nat → Bool) (held : Bool) (fuel : Nat) (cs : List Value) (x : DataW H × List MemPlace), DataW.trod enc P w base spare held fuel t cs = some x → ∃ y, G y ∧ d.K w y cs
theorem opens_int {P : Program} {t : TypeId} {k : IntKind} (ht : P.underlying t = some (.int k)) : Opens P t (kInt k) fun n => (Lit.int k n).wf = true := by
  intro H enc w base spare held fuel cs x h
  obtain ⟨n, rfl, -, hw⟩ := DataW.trod_int ht h
  exact ⟨n, hw, rfl⟩
theorem pick {α : Type} {R : Nat → α → Prop} : ∀ (n : Nat), (∀ i, i < n → ∃ y, R i y) → ∃ ys : List α, ys.length = n ∧ ∀ (i : Nat) y, ys[i]? = some y → R i y
  | 0, _ => ⟨[], rfl, by simp⟩
  | n + 1, h => by
    obtain ⟨ys, hl, hr⟩ := pick n fun i hi => h i (by omega)
    obtain ⟨y, hy⟩ := h n (by omega)
    refine ⟨ys ++ [y], by simp [hl], fun i z hz => ?_⟩
    rw [List.getElem?_append] at hz
    split at hz
    · exact hr i z hz
    · have : i = n := by
        have := (List.getElem?_eq_some_iff.1 hz).1
        simp at this
        omega
      subst this
      simp [hl] at hz
      exact hz ▸ hy
theorem opens_slice {α : Type} {P : Program} {t e e' : TypeId} {d : Kd α} {G : α → Prop} (ht : P.underlying t = some (.slice e)) (hc : P.cellsOf e = d.sz) (ho : Opens P e d G) :
    Opens P t (kSlice e' d) fun xs => xs.length ≤ maxLen ∧ ∀ (i : Nat) x, xs[i]? = some x → G x := by
  intro H enc w base spare held fuel cs x h
  rcases DataW.trod_slice ht h with ⟨rfl, -⟩ | ⟨a, len, cap, elems, rest, n, -, rfl, -, hb, hl, hm, hlen, hel, -, -⟩
  · exact ⟨[], ⟨by simp, by simp⟩, none, 0, rfl, by simp, C.nil _ _ _⟩
  · obtain ⟨ys, hyl, hr⟩ := pick (R := fun i y => G y ∧ ∃ cs, d.K w y cs ∧ w.cells? base (a.add (i * P.cellsOf e)) (P.cellsOf e) = some cs) len (by
      intro i hi
      have h1 := hel i hi
      obtain ⟨z, hz⟩ := get_of_lt (show i < elems.length by omega)
      rw [hz, Option.bind_eq_some_iff] at h1
      obtain ⟨cs, hcs, ht'⟩ := h1
      obtain ⟨y, hg, hk⟩ := ho _ _ _ _ _ _ _ _ _ ht'
      exact ⟨y, hg, cs, hk, hcs⟩)
    refine ⟨ys, ⟨by omega, fun i y hy => (hr i y hy).1⟩, some a, cap, by rw [hyl], by omega, fun i y hy => ?_⟩
    obtain ⟨-, cs, hk, hcs⟩ := hr i y hy
    obtain ⟨-, hcl, hcell⟩ := World.cells?_some hcs
    refine ⟨a, cs, rfl, hk, fun j u hu => ?_⟩
    have hj : j < P.cellsOf e := by have := (List.getElem?_eq_some_iff.1 hu).1; omega
    have h1 := hcell j hj
    rw [hu] at h1
    rw [← h1, hc, Addr.add_add]
/-- A struct of whole numbers. -/
theorem open_flat {H : Type} {enc : TypeId × Value → H} {P : Program} {w : World} {base : Nat} {spare : Nat → Bool} {held : Bool} {fuel : Nat} {t : TypeId} {cs : List Value} {x : DataW H × List MemPlace} {fs : Array Field}
    (ht : P.underlying t = some (.struct fs)) (hi : P.underlying 2 = some (.int .i64)) (h2 : P.cellsOf 2 = 1) (hc : P.cellsOf t = fs.size) (hf : ∀ (j : Nat) f, fs[j]? = some f → f.offset = j ∧ f.type = 2)
    (h : DataW.trod enc P w base spare held fuel t cs = some x) : ∃ zs : List Int, zs.length = fs.size ∧ (∀ z ∈ zs, (Lit.int .i64 z).wf = true) ∧ cs = zs.map (Value.int .i64) := by
  obtain ⟨xs, n, -, -, hl, hxl, hr⟩ := DataW.trod_struct ht h
  obtain ⟨zs, hzl, hz⟩ := pick (R := fun i z => (Lit.int .i64 z).wf = true ∧ cs[i]? = some (.int .i64 z)) fs.size (by
    intro i hi'
    have hg : fs[i]? = some fs[i] := by simp [hi']
    obtain ⟨ho, hty⟩ := hf i _ hg
    have h1 := hr i _ hg
    rw [ho, hty, h2] at h1
    obtain ⟨y, hy⟩ := get_of_lt (show i < xs.length by omega)
    rw [hy] at h1
    obtain ⟨z, hcz, -, hw⟩ := DataW.trod_int hi h1
    refine ⟨z, hw, ?_⟩
    have := congrArg (·[0]?) hcz
    simpa [List.getElem?_take, List.getElem?_drop] using this)
  refine ⟨zs, hzl, fun z hm => ?_, ?_⟩
  · obtain ⟨i, hi'⟩ := List.getElem?_of_mem hm
    exact (hz i z hi').1
  · apply List.ext_getElem?
    intro i
    by_cases hi' : i < fs.size
    · obtain ⟨z, hzi⟩ := get_of_lt (show i < zs.length by omega)
      simp [hzi, (hz i z hzi).2]
    · rw [List.getElem?_eq_none (by omega), List.getElem?_eq_none (by simp; omega)]
theorem opens_instr {P : Program} {t : TypeId} {fs : Array Field} (ht : P.underlying t = some (.struct fs)) (hs : fs.size = 5) (hi : P.underlying 2 = some (.int .i64)) (h2 : P.cellsOf 2 = 1) (hc : P.cellsOf t = fs.size) (hf : ∀ (j : Nat) f, fs[j]? = some f → f.offset = j ∧ f.type = 2) : Opens P t kInstr fun _ => True := by
  intro H enc w base spare held fuel cs x h
  obtain ⟨zs, hl, -, rfl⟩ := open_flat ht hi h2 hc hf h
  match zs, hl.trans hs with
  | [a, b, c, d, e], _ => exact ⟨⟨a, b, c, d, e⟩, trivial, rfl⟩
theorem opens_term {P : Program} {t : TypeId} {fs : Array Field} (ht : P.underlying t = some (.struct fs)) (hs : fs.size = 4) (hi : P.underlying 2 = some (.int .i64)) (h2 : P.cellsOf 2 = 1) (hc : P.cellsOf t = fs.size) (hf : ∀ (j : Nat) f, fs[j]? = some f → f.offset = j ∧ f.type = 2) : Opens P t kTerm fun _ => True := by
  intro H enc w base spare held fuel cs x h
  obtain ⟨zs, hl, -, rfl⟩ := open_flat ht hi h2 hc hf h
  match zs, hl.trans hs with
  | [a, b, c, d], _ => exact ⟨⟨a, b, c, d⟩, trivial, rfl⟩
theorem opens_prod {α β : Type} {P : Program} {t : TypeId} {f0 f1 : Field} {d1 : Kd α} {d2 : Kd β} {G1 : α → Prop} {G2 : β → Prop} (ht : P.underlying t = some (.struct #[f0, f1])) (h0 : f0.offset = 0) (h1 : f1.offset = d1.sz) (hc0 : P.cellsOf f0.type = d1.sz) (hc1 : P.cellsOf f1.type = d2.sz) (hc : P.cellsOf t = d1.sz + d2.sz)
    (o1 : Opens P f0.type d1 G1) (o2 : Opens P f1.type d2 G2) : Opens P t (kProd d1 d2) fun x => G1 x.1 ∧ G2 x.2 := by
  intro H enc w base spare held fuel cs x h
  obtain ⟨y0, y1, n, -, hl, ha, hb⟩ := trod_struct2 ht h
  rw [h0, hc0, List.drop_zero] at ha
  rw [h1, hc1] at hb
  obtain ⟨a, ga, ka⟩ := o1 _ _ _ _ _ _ _ _ _ ha
  obtain ⟨b, gb, kb⟩ := o2 _ _ _ _ _ _ _ _ _ hb
  refine ⟨(a, b), ⟨ga, gb⟩, cs.take d1.sz, cs.drop d1.sz, (List.take_append_drop _ _).symm, ka, ?_⟩
  rwa [List.take_of_length_le (by simp; omega)] at kb
theorem opens_iso {α β : Type} {P : Program} {t : TypeId} {f : α → β} {g : β → α} {d : Kd β} {G : β → Prop} (hfg : ∀ y, f (g y) = y) (o : Opens P t d G) : Opens P t (kIso f d) fun x => G (f x) := by
  intro H enc w base spare held fuel cs x h
  obtain ⟨y, gy, ky⟩ := o _ _ _ _ _ _ _ _ _ h
  exact ⟨g y, by show G (f (g y)); rw [hfg]; exact gy, by show d.K w (f (g y)) cs; rw [hfg]; exact ky⟩
/-- A table of structs of bools. -/
theorem bools_of_table {H : Type} {enc : TypeId × Value → H} {P : Program} {w : World} {base : Nat} {spare : Nat → Bool} {held : Bool} {fuel : Nat} {t e : TypeId} {n : Nat} {cs : List Value} {ds : List (DataW H)} {p : List MemPlace} {fs : Array Field}
    (ht : P.underlying t = some (.array n e)) (he : P.underlying e = some (.struct fs)) (hb : P.underlying 4 = some .bool) (h4 : P.cellsOf 4 = 1) (hc : P.cellsOf e = fs.size) (hf : ∀ (j : Nat) f, fs[j]? = some f → f.offset = j ∧ f.type = 4)
    (h : DataW.trod enc P w base spare held fuel t cs = some (.agg ds, p)) {i j : Nat} {row : List (DataW H)} {b : Bool} (hi : ds[i]? = some (.agg row)) (hj : row[j]? = some (.lit (.bool b))) : cs[i * fs.size + j]? = some (.bool b) := by
  obtain ⟨xs, m, -, hx, hl, hxl, hr⟩ := DataW.trod_array ht h
  simp only [Prod.mk.injEq, DataW.agg.injEq] at hx
  obtain ⟨rfl, -⟩ := hx
  rw [List.getElem?_map, Option.map_eq_some_iff] at hi
  obtain ⟨x, hxi, hx1⟩ := hi
  have hin : i < n := by have := (List.getElem?_eq_some_iff.1 hxi).1; omega
  have h1 := hr i hin
  rw [hxi, hc] at h1
  obtain ⟨ys, m2, -, hy, hl2, hyl, hr2⟩ := DataW.trod_struct he h1
  rw [hy] at hx1
  simp only [DataW.agg.injEq] at hx1
  subst hx1
  rw [List.getElem?_map, Option.map_eq_some_iff] at hj
  obtain ⟨y, hyj, hy1⟩ := hj
  have hjn : j < fs.size := by have := (List.getElem?_eq_some_iff.1 hyj).1; omega
  obtain ⟨ho, hty⟩ := hf j fs[j] (by simp [hjn])
  have h2 := hr2 j fs[j] (by simp [hjn])
  rw [hyj, ho, hty, h4] at h2
  obtain ⟨b', hcb, rfl⟩ := DataW.trod_bool hb h2
  simp only [DataW.lit.injEq, Lit.bool.injEq] at hy1
  subst hy1
  have := congrArg (·[0]?) hcb
  simp only [List.getElem?_take, List.getElem?_drop, List.getElem?_cons_zero] at this
  simpa [hjn] using this
/-- A variable that a row reads, under Below. -/
theorem var_carry {H : Type} {enc : TypeId × Value → H} {P : Program} {W W' : World} {n : String} {gs : List (DataW H)} {ps : List MemPlace} (lo : laidOutB P = true) {t0 : TypeId} {g0 : Nat} (hg0 : P.globalNamed n = some g0) (ht0 : (P.globals[g0]?).map (·.type) = some t0) (hr : P.readableRec t0 = true) (hs : t0 < P.types.size)
    (h : DataW.TrodVars enc P W (fun _ => true) [n] gs ps) (bel : Below W.heap.size W W') : DataW.TrodVars enc P W' (fun b => decide (b < W.heap.size)) [n] gs ps := by
  have hlt := DataW.TrodVars.lt h
  obtain ⟨g, t, cs, fuel, d, p, rfl, h1, h2, h3, h4, rfl⟩ := trodVars_one h
  obtain rfl := Option.some.inj (hg0.symm.trans h1)
  obtain rfl := Option.some.inj (ht0.symm.trans h2)
  have hgl : g0 < W.heap.size := by
    simp only [World.var?, h1, Option.bind_some] at h3
    rcases hh : W.heap[g0]? with _ | o
    · rw [hh] at h3
      simp at h3
    · exact (Array.getElem?_eq_some_iff.1 hh).1
  obtain ⟨fuel', hf⟩ := Below.trod lo hr hs (v := .agg cs) ⟨fuel, by simpa [Value.cells] using h4⟩ bel fun x hx => hlt x (by simp [hx])
  refine trodVars_mk1 (fuel := fuel') h1 h2 ?_ (by simpa [Value.cells] using hf)
  simp only [World.var?, h1, Option.bind_some] at h3 ⊢
  rw [bel.block g0 hgl]
  exact h3
end Go.Proofs.Ytnnfjjgohhicjaa
