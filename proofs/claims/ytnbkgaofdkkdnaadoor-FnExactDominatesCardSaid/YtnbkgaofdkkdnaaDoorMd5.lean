/- From a row's reading: functions. No condition. -/
import Derived.Test.YtnbkgaofdkkdnaaDoorMd4
import Derived.Test.YtnbkgaofdkkdnaaDoorKu
import Derived.WideShapes
namespace Go.Proofs.YtnbkgaofdkkdnaaDoor
open Go.RowKit
set_option linter.unusedSimpArgs false
set_option linter.unusedVariables false
set_option maxRecDepth 100000
open Go.ChangeShapes Go.WideShapes

/-- A struct of three fields. -/
theorem opens_prod3 {α β γ : Type} {P : Program} {t : TypeId} {f0 f1 f2 : Field} {d1 : Kd α} {d2 : Kd β} {d3 : Kd γ} {G1 : α → Prop} {G2 : β → Prop} {G3 : γ → Prop} (ht : P.underlying t = some (.struct #[f0, f1, f2])) (h0 : f0.offset = 0) (h1 : f1.offset = d1.sz) (h2 : f2.offset = d1.sz + d2.sz)
    (hc0 : P.cellsOf f0.type = d1.sz) (hc1 : P.cellsOf f1.type = d2.sz) (hc2 : P.cellsOf f2.type = d3.sz) (hc : P.cellsOf t = d1.sz + (d2.sz + d3.sz))
    (o1 : Opens P f0.type d1 G1) (o2 : Opens P f1.type d2 G2) (o3 : Opens P f2.type d3 G3) : Opens P t (kProd d1 (kProd d2 d3)) fun x => G1 x.1 ∧ G2 x.2.1 ∧ G3 x.2.2 := by
  intro H enc w base spare held fuel cs x h
  obtain ⟨xs, n, -, -, hl, hxl, hr⟩ := DataW.trod_struct ht h
  have a0 := hr 0 f0 rfl
  have a1 := hr 1 f1 rfl
  have a2 := hr 2 f2 rfl
  rw [h0, hc0, List.drop_zero] at a0
  rw [h1, hc1] at a1
  rw [h2, hc2] at a2
  have hx : xs.length = 3 := by simpa using hxl
  match xs, hx with
  | [x0, x1, x2], _ =>
    obtain ⟨a, ga, ka⟩ := o1 _ _ _ _ _ _ _ _ _ a0
    obtain ⟨b, gb, kb⟩ := o2 _ _ _ _ _ _ _ _ _ a1
    obtain ⟨c, gc, kc⟩ := o3 _ _ _ _ _ _ _ _ _ a2
    refine ⟨(a, b, c), ⟨ga, gb, gc⟩, cs.take d1.sz, cs.drop d1.sz, (List.take_append_drop _ _).symm, ka, (cs.drop d1.sz).take d2.sz, (cs.drop d1.sz).drop d2.sz, (List.take_append_drop _ _).symm, kb, ?_⟩
    rw [List.drop_drop]
    rwa [List.take_of_length_le (by simp; omega)] at kc
theorem opens_lphi : Opens Tryd.prog 161 (kPhi 0) (okPhi 9223372036854775807) := by
  have h3 := opens_prod (d1 := kInt .i64) (d2 := kSlice 0 (kInt .i64)) Tryd.underlying161 rfl rfl (by kernel_rfl) (by kernel_rfl) (by kernel_rfl) (opens_int Tryd.underlying2) (opens_slice Tryd.underlying35 (by kernel_rfl) (opens_int Tryd.underlying2))
  intro H enc w base spare held fuel cs x h
  obtain ⟨y, hy, hk⟩ := opens_iso (f := fun p : Phi => (p.dst, p.args)) (g := fun y => ⟨y.1, y.2⟩) (fun y => rfl) h3 H enc w base spare held fuel cs x h
  exact ⟨y, by have := hy.2.1; unfold okPhi; simpa [maxLen] using this, hk⟩
theorem opens_lblock : Opens Tryd.prog 98 (kBlock 0 0 0) (okBlk 9223372036854775807) := by
  have h0 := opens_slice (e' := 0) Tryd.underlying93 (by kernel_rfl) opens_lphi
  have h1 := opens_slice (e' := 0) Tryd.underlying94 (by kernel_rfl) (opens_instr Tryd.underlying164 rfl Tryd.underlying2 (by kernel_rfl) (by kernel_rfl) (by intro j f hf; match j, hf with | 0, hf | 1, hf | 2, hf | 3, hf | 4, hf => (simp at hf; subst hf; exact ⟨rfl, rfl⟩) | j + 5, hf => simp at hf))
  have h2 := opens_term Tryd.underlying96 rfl Tryd.underlying2 (by kernel_rfl) (by kernel_rfl) (by intro j f hf; match j, hf with | 0, hf | 1, hf | 2, hf | 3, hf => (simp at hf; subst hf; exact ⟨rfl, rfl⟩) | j + 4, hf => simp at hf)
  have h3 := opens_prod3 Tryd.underlying98 (by rfl) (by rfl) (by rfl) (by kernel_rfl) (by kernel_rfl) (by kernel_rfl) (by kernel_rfl) h0 h1 h2
  intro H enc w base spare held fuel cs x h
  obtain ⟨y, hy, hk⟩ := opens_iso (f := fun b : Block => (b.phis, (b.instrs, b.term))) (g := fun y => ⟨y.1, y.2.1, y.2.2⟩) (fun y => rfl) h3 H enc w base spare held fuel cs x h
  refine ⟨y, ⟨by have := hy.1.1; simpa [maxLen] using this, fun i p hp => hy.1.2 i p hp, by have := hy.2.1.1; simpa [maxLen] using this⟩, hk⟩
def okFunc (m : Func) : Prop := m.blocks.length ≤ 9223372036854775807 ∧ ∀ (i : Nat) b, m.blocks[i]? = some b → okBlk 9223372036854775807 b
theorem open_func {H : Type} {enc : TypeId × Value → H} {w : World} {base b0 : Nat} {r : Reach} {spare : Nat → Bool} {held : Bool} {v : Value} {d : DataW H} {p : List MemPlace} (hv : Value.okWide Tryd.prog w r b0 24 v) (h : DataW.Trod enc Tryd.prog w base spare held 24 v d p) :
    ∃ (m : Func) (A : Option Addr) (c : Nat), v = .agg #[.int .i64 m.values, .slice A m.blocks.length c] ∧ C (kBlock 0 0 0) w A m.blocks ∧ okFunc m := by
  obtain ⟨cs, rfl, hsz⟩ := okWide_struct Tryd.underlying24 hv
  obtain ⟨fuel, hf⟩ := h
  have h3 := opens_prod Tryd.underlying24 (d1 := kInt .i64) (d2 := kSlice 0 (kBlock 0 0 0)) rfl rfl (by kernel_rfl) (by kernel_rfl) (by kernel_rfl) (opens_int Tryd.underlying2) (opens_slice Tryd.underlying22 (by kernel_rfl) opens_lblock)
  obtain ⟨⟨n, bs⟩, ⟨-, hl, hb⟩, c1, c2, hcs, rfl, A, c, rfl, -, hC⟩ := h3 _ _ _ _ _ _ _ _ _ hf
  exact ⟨⟨n, bs⟩, A, c, by simp only [Value.cells] at hcs; cases cs; simp_all, hC, by simpa [maxLen] using hl, hb⟩
end Go.Proofs.YtnbkgaofdkkdnaaDoor
