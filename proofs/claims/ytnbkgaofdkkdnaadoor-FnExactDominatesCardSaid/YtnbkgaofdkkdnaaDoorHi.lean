/- The preorder's closure in memory; contract of (*flow).preorder$1. -/
import Derived.Test.YtnbkgaofdkkdnaaDoorHh
import Derived.Deep.RegionLaw
namespace Go.Proofs.YtnbkgaofdkkdnaaDoor
open Go.RowKit
set_option linter.unusedSimpArgs false
set_option linter.unusedVariables false
set_option maxRecDepth 100000
open Dom

namespace Dom
theorem pre_anc {m : Nat} {par : Nat → Option Nat} : ∀ (n b x : Nat), x ∈ pre (kidsOf m par) n b → Anc par x b
  | 0, b, x, h => by simp [pre] at h; rw [h]; exact .refl _
  | n + 1, b, x, h => by
    rw [pre] at h
    rcases List.mem_cons.1 h with h | h
    · rw [h]; exact .refl _
    · obtain ⟨c, hc, hx⟩ := List.mem_flatMap.1 h
      have h1 := (List.mem_filter.1 hc).2
      simp at h1
      exact (pre_anc n c x hx).trans (.up h1.1 h1.2 (.refl _))
theorem pre_nodup {m : Nat} {par : Nat → Option Nat} {dep : Nat → Nat} (hd : Dep par dep) : ∀ (n b : Nat), (pre (kidsOf m par) n b).Nodup
  | 0, b => by simp [pre]
  | n + 1, b => by
    rw [pre, List.nodup_cons]
    have hk : ∀ c ∈ kidsOf m par b, dep c = dep b + 1 := fun c hc => by
      have h1 := (List.mem_filter.1 hc).2
      simp at h1
      exact hd.up c b h1.1 h1.2
    constructor
    · intro h
      obtain ⟨c, hc, hx⟩ := List.mem_flatMap.1 h
      have := hd.le (pre_anc n c b hx)
      have := hk c hc
      omega
    · have hn : (kidsOf m par b).Nodup := List.Pairwise.filter _ List.nodup_range
      revert hk hn
      generalize kidsOf m par b = l
      intro hk hn
      induction l with
      | nil => simp
      | cons c l ih =>
        rw [List.nodup_cons] at hn
        rw [List.flatMap_cons, List.nodup_append]
        refine ⟨pre_nodup hd n c, ih (fun x hx => hk x (by simp [hx])) hn.2, fun x hx y hy e => ?_⟩
        subst e
        obtain ⟨c2, hc2, hx2⟩ := List.mem_flatMap.1 hy
        have a1 := pre_anc n c x hx
        have a2 := pre_anc n c2 x hx2
        have d1 := hk c (by simp)
        have d2 := hk c2 (by simp [hc2])
        have : c = c2 := by
          rcases a1.total a2 with h | h
          · exact hd.eq h (by omega)
          · exact (hd.eq h (by omega)).symm
        subst this
        exact hn.1 hc2
theorem pre_len {m : Nat} {par : Nat → Option Nat} {dep : Nat → Nat} (hd : Dep par dep) (hm : ∀ c, (par c).isSome → c < m) (n b : Nat) (hb : b < m) : (pre (kidsOf m par) n b).length ≤ m := by
  refine nodup_len m _ (pre_nodup hd n b) fun x hx => ?_
  cases pre_anc n b x hx with
  | refl => exact hb
  | up _ h1 _ => exact hm x (by rw [h1]; rfl)
/-- Depths that are set. -/
def DepOk (dep : Nat → Nat) (D : List Int) (O : List Nat) : Prop := ∀ x ∈ O, D[x]? = some ((dep x : Nat) : Int)
theorem DepOk.snoc {dep : Nat → Nat} {D : List Int} {O : List Nat} {b : Nat} (h : DepOk dep D O) (hb : b < D.length) : DepOk dep (D.set b (dep b : Int)) (O ++ [b]) := by
  intro x hx
  rw [List.getElem?_set]
  by_cases e : b = x
  · subst e; rw [if_pos rfl, if_pos hb]
  · rw [if_neg e]
    rcases List.mem_append.1 hx with hx | hx
    · exact h x hx
    · simp at hx; exact absurd hx.symm e
end Dom

theorem step_append_row {P : Program} {ops : Array Oper} {o : Oper} {a : Act} {K : Act → World → Prop} {Q : Exit → Act → World → Prop} {E : Prop} {w : World} {α : Type} (d : Kd α) (hgd : o.guard = none) (s x : Operand) (t : TypeId)
    (ho : o.op = .call { callee := .builtin .append, args := #[s, x], argTypes := #[t, t] })
    (e : TypeId) (i : TypeInfo) (z : Value) (bytes : Nat) (ht : P.underlying t = some (.slice e)) (hi : P.info? e = some i) (hz : i.zero = some z)
    (hsize : i.size = d.sz) (hby : i.bytes = bytes) (hzs : z.cells.size = d.sz) (hsz : 0 < d.sz)
    (v : Value) (xs : List α) (fp : List Nat) (hs : a.eval s = v) (hrow : Row e d w v xs fp)
    (ad : Addr) (c : Nat) (news : List Value) (y : α) (f : List Nat) (hx : a.eval x = .slice (some ad) 1 c) (hO : d.O w y news f) (hf : ∀ b ∈ f, b ∉ fp) (hnews : ∀ (j : Nat) u, news[j]? = some u → w.cell? (ad.add j) = some u)
    (h63 : xs.length + 1 ≤ maxLen) (hbytes : (xs.length + 1) * bytes ≤ 140737488355328)
    (h : ∀ g cap w' fp', Row e d w' (.slice (some ⟨g, 0, none⟩) (xs.length + 1) cap) (xs ++ [y]) fp' → (∀ b ∈ fp', b ∈ fp ∨ b ∈ f ∨ b = w.heap.size) → Chg (fun k => k ∈ fp) w w' → K (a.put o.dst (.slice (some ⟨g, 0, none⟩) (xs.length + 1) cap)) w') : if Region.wanted o (yielded ops a.tmps) = true then Oper.wp P o a w K Q else E := by
  obtain ⟨css, fps, how, ha, rfl, hn⟩ := hrow
  refine step_append_lies w hgd s x t ho 0 e i z d.sz bytes ht hi hz hsize hby hzs hsz v xs.length css.flatten hs how ad 1 c news hx (by rw [Nat.one_mul]; exact d.len (d.read hO)) hnews (d.one (d.read hO)) (by omega) h63 hbytes (Nat.zero_le _) w.heap.size rfl ?_
  intro g cap w' h2 h3 h4 _
  have hc := Chg.of_grown h3
  refine h g cap w' _ (Row.snoc how ha hn hO hf h2 hc h4) ?_ (hc.mono fun k _ hk => by simp [hk])
  intro b hb
  rcases List.mem_cons.1 hb with rfl | hb
  · rcases h4 with h4 | h4
    · exact .inl (by simp [h4])
    · exact .inr (.inr h4)
  · rcases List.mem_append.1 hb with hb | hb
    · exact .inl (List.mem_append_right _ hb)
    · exact .inr (.inl hb)
theorem Row.inner {w : World} {A : Option Addr} {n c : Nat} {K : List (List Int)} {fb : List Nat} (h : Row 35 kI64s w (.slice A n c) K fb) {b : Nat} {ps : List Int} (hb : K[b]? = some ps) :
    ∃ (A0 : Addr) (A1 : Option Addr) (c1 : Nat), A = some A0 ∧ w.cell? (A0.add b) = some (.slice A1 ps.length c1) ∧ C kI64 w A1 ps ∧ ∀ a, A1 = some a → a.block ∈ fb := by
  have hn : n = K.length := by
    obtain ⟨A', c', hv, _⟩ := h.form
    injection hv
  subst hn
  have hr := h.reads
  obtain ⟨css, fps, ho, ha, rfl, hnd⟩ := h
  obtain ⟨cs, f, hcs, hf, v, rfl, hv⟩ := ha.get hb
  obtain ⟨a, cs2, hA, ⟨A1, c1, rfl, hl, hC⟩, hc⟩ := hr.at hb
  have h2 := hc1 (n := b * 1) hc
  rw [Nat.mul_one] at h2
  have h3 : w.cell? (a.add b) = some v := by
    have h4 := flatten_get ha.lens hcs (j := 0) (u := v) rfl
    subst hA
    rcases ho.2 with ⟨hv0, _⟩ | ⟨g, cap, cur, hv0, _⟩
    · cases hv0
    · injection hv0 with hv1 _ _
      obtain rfl := Option.some.inj hv1
      have := ho.cells (g := g) rfl _ _ h4
      rwa [show b * kI64s.sz + 0 = b from by show b * 1 + 0 = b; omega] at this
  rw [h2] at h3
  obtain rfl := Option.some.inj h3
  refine ⟨a, A1, c1, hA, h2, hC, fun a1 ha1 => ?_⟩
  subst ha1
  refine List.mem_append_right _ (List.mem_flatten.2 ⟨f, List.mem_of_getElem? hf, ?_⟩)
  rw [row_int_fp hv]
  rcases hv.form' with ⟨h4, _⟩ | ⟨g, cap, h4, _⟩
  · cases h4
  · injection h4 with h5 _ _
    obtain rfl := Option.some.inj h5
    simp [Value.ownBlock]
structure PreA where
  a : FlowA
  Bw : Nat
  Bb : Nat
  Bv : Nat
  A : Option Addr
  c : Nat
  fb : List Nat
def PreA.Own (z : PreA) (q : Nat) : Prop := z.a.Own q ∨ q = z.Bw ∨ q = z.Bb ∨ q = z.Bv ∨ q ∈ z.fb
def PreA.fn (z : PreA) : Value := .func (.func 99) #[] #[.pointer (some ⟨z.Bw, 0, none⟩), .pointer (some ⟨z.Bb, 0, none⟩), .pointer (some ⟨z.Bv, 0, none⟩)]
structure PreM (z : PreA) (W0 : World) (n : Nat) (P : List (List Int)) (I Q : List Int) (L : List Bool) (K : List (List Int)) (D : List Int) (O : List Nat) (vo : Value) (fo : List Nat) (w : World) : Prop where
  flow : FlowM z.a n P I Q L D vo w
  orow : Row 2 kI64 w vo (natI O) fo
  oown : ∀ q ∈ fo, W0.heap.size ≤ q ∧ ¬ z.Own q
  bw : Bk z.Bw 55 [.pointer (some ⟨z.a.g, 0, none⟩)] w
  bb : Bk z.Bb 57 [.slice z.A n z.c] w
  brow : Row 35 kI64s w (.slice z.A n z.c) K z.fb
  bv : Bk z.Bv 151 [z.fn] w
  apart : ¬ z.a.Own z.Bw ∧ ¬ z.a.Own z.Bb ∧ ¬ z.a.Own z.Bv ∧ ∀ q ∈ z.fb, ¬ z.a.Own q
  low : ∀ q, z.Own q → W0.heap.size ≤ q
  ext : Below W0.heap.size W0 w
namespace PreM
variable {z : PreA} {W0 : World} {n : Nat} {P : List (List Int)} {I Q : List Int} {L : List Bool} {K : List (List Int)} {D : List Int} {O : List Nat} {vo : Value} {fo : List Nat} {w w' : World}
theorem upd {D' : List Int} {T : Nat → Prop} (h : PreM z W0 n P I Q L K D O vo fo w) (hf : FlowM z.a n P I Q L D' vo w') (hc : Chg T w w') (hT : ∀ q, T q → z.a.Own q) : PreM z W0 n P I Q L K D' O vo fo w' := by
  obtain ⟨a1, a2, a3, a4⟩ := h.apart
  exact ⟨hf, h.orow.chg hc fun q hq k => (h.oown q hq).2 (.inl (hT _ k)), h.oown, h.bw.chg hc fun k => a1 (hT _ k), h.bb.chg hc fun k => a2 (hT _ k), h.brow.chg hc fun q hq k => a4 q hq (hT _ k), h.bv.chg hc fun k => a3 (hT _ k), h.apart, h.low, h.ext.trans (hc.below h.ext.size fun q hq => h.low q (.inl (hT _ hq)))⟩
theorem below (h : PreM z W0 n P I Q L K D O vo fo w) (hb : Below w.heap.size w w') : PreM z W0 n P I Q L K D O vo fo w' := h.upd (h.flow.below hb) (chg_of hb) fun _ h => h.elim
theorem lt (h : PreM z W0 n P I Q L K D O vo fo w) {q : Nat} (hq : z.Own q) : q < w.heap.size := by
  rcases hq with hq | rfl | rfl | rfl | hq
  · exact h.flow.lt hq
  · exact h.bw.lt
  · exact h.bb.lt
  · exact h.bv.lt
  · exact h.brow.lt q hq
theorem app {v' : Value} {fo' : List Nat} {O' : List Nat} {w3 : World} (h : PreM z W0 n P I Q L K D O vo fo w) (hc : Chg (fun q => q ∈ fo) w w3) (hr : Row 2 kI64 w3 v' (natI O') fo') (hf : ∀ q ∈ fo', q ∈ fo ∨ w.heap.size ≤ q) :
    PreM z W0 n P I Q L K D O' v' fo' (w3.setCell ⟨z.a.g, 4, none⟩ v') ∧ Chg (fun q => z.a.Own q ∨ q ∈ fo) w (w3.setCell ⟨z.a.g, 4, none⟩ v') := by
  obtain ⟨a1, a2, a3, a4⟩ := h.apart
  have hn : ∀ q, z.Own q → ¬ q ∈ fo := fun q hq hm => (h.oown q hm).2 hq
  have hg : z.a.Own z.a.g := by simp [FlowA.Own]
  obtain ⟨b1, b2⟩ := (h.flow.chg hc fun q hq => hn q (.inl hq)).setO v'
  have hfo' : ∀ q ∈ fo', W0.heap.size ≤ q ∧ ¬ z.Own q := fun q hq => by
    rcases hf q hq with k | k
    · exact h.oown q k
    · exact ⟨Nat.le_trans h.ext.size k, fun k2 => by have := h.lt k2; omega⟩
  have hcc : Chg (fun q => z.a.Own q ∨ q ∈ fo) w (w3.setCell ⟨z.a.g, 4, none⟩ v') := (hc.mono fun q _ k => .inr k).trans (b2.mono fun q _ k => .inl (by rw [k]; exact hg))
  refine ⟨⟨b1, hr.chg b2 fun q hq k => (hfo' q hq).2 (by rw [k]; exact .inl hg), hfo', (h.bw.chg hc (hn _ (by simp [PreA.Own]))).chg b2 fun k => a1 (k ▸ hg), (h.bb.chg hc (hn _ (by simp [PreA.Own]))).chg b2 fun k => a2 (k ▸ hg), (h.brow.chg hc fun q hq => hn _ (by simp [PreA.Own, hq])).chg b2 fun q hq k => a4 q hq (k ▸ hg), (h.bv.chg hc (hn _ (by simp [PreA.Own]))).chg b2 fun k => a3 (k ▸ hg), h.apart, h.low, ?_⟩, hcc⟩
  exact h.ext.trans (hcc.below h.ext.size fun q hq => hq.elim (fun k => h.low q (.inl k)) fun k => (h.oown q k).1)
end PreM
end Go.Proofs.YtnbkgaofdkkdnaaDoor
