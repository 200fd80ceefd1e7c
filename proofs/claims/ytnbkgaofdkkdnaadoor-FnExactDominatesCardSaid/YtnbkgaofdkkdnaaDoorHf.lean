/- Plain: the dominators' loop, state by state; what a finished flow says. -/
import Derived.Test.YtnbkgaofdkkdnaaDoorHc
namespace Go.Proofs.YtnbkgaofdkkdnaaDoor
set_option linter.unusedVariables false
set_option linter.unusedSectionVars false

namespace Dom
def PostOk (Q : List Int) (S : List Nat) : Prop := ∀ x ∈ S, Q[x]? = some ((S.idxOf x : Nat) : Int)
structure LoopSt (bs : List Block) (L : List Bool) (S : List Nat) (t : Nat → Nat) (l : List Int) (cur : Nat) : Prop where
  len : l.length = bs.length
  zero : parL l 0 = some 0
  vals : ∀ (x : Nat) v, l[x]? = some v → v = -1 ∨ 0 ≤ v
  only : Only (succB bs) (parL l)
  st : PassSt (succB bs) S.idxOf (rpB bs L) t (parL l) cur
abbrev GrewL (bs : List Block) (L : List Bool) (S : List Nat) (l0 l : List Int) (cur : Nat) : Prop := Grew (succB bs) S.idxOf (rpB bs L) S (parL l0) (parL l) cur
variable {bs : List Block} {L : List Bool} {S : List Nat} {t : Nat → Nat} {l l0 : List Int}
theorem ra0 {succ : Nat → List Nat} : RA succ none 0 := .start (by simp)
theorem LoopSt.mt (hn : Num bs L S t) {cur : Nat} (h : LoopSt bs L S t l cur) : MtOk S.idxOf (parL l) (S.idxOf 0) :=
  ⟨h.st.tree, fun x y hx hy e => hn.inj x y (h.only x hx) (h.only y hy) e, fun x hx => by
    by_cases e : x = 0
    · rw [e]; exact Nat.le_refl _
    · exact Nat.le_of_lt (hn.top x (h.only x hx) e), rfl⟩
theorem LoopSt.first (hn : Num bs L S t) (hb : 0 < bs.length) : LoopSt bs L S t ((List.replicate bs.length (-1)).set 0 0) (S.idxOf 0) := by
  have hz : parL ((List.replicate bs.length (-1)).set 0 0) 0 = some 0 := by unfold parL; rw [List.getElem?_set]; simp [hb]
  have ho : ∀ x, x ≠ 0 → parL ((List.replicate bs.length (-1)).set 0 0) x = none := fun x hx => by
    unfold parL
    rw [List.getElem?_set, if_neg (fun e => hx e.symm), List.getElem?_replicate]
    split
    · rename_i v hv
      split at hv
      · have := Option.some.inj hv; subst this; rfl
      · cases hv
    · rfl
  refine ⟨by simp, hz, fun x v hv => ?_, fun x hx => ?_, PassSt.first hz ho (fun x hx h0 => hn.top x hx h0) ra0⟩
  · rw [List.getElem?_set] at hv
    split at hv
    · split at hv
      · have := Option.some.inj hv; omega
      · cases hv
    · rw [List.getElem?_replicate] at hv
      split at hv
      · have := Option.some.inj hv; omega
      · cases hv
  · by_cases e : x = 0
    · rw [e]; exact ra0
    · rw [ho x e] at hx; cases hx
theorem LoopSt.again {cur : Nat} (h : LoopSt bs L S t l 0) : LoopSt bs L S t l cur := ⟨h.len, h.zero, h.vals, h.only, h.st.again cur⟩
theorem LoopSt.visit (hn : Num bs L S t) {i b N : Nat} (hi : S[i]? = some b) (hl : i + 1 < S.length) (h : LoopSt bs L S t l (i + 1)) (hg : GrewL bs L S l0 l (i + 1)) (hN : Near (rpB bs L) (parL l) b N) :
    LoopSt bs L S t (l.set b (N : Int)) i ∧ GrewL bs L S l0 (l.set b (N : Int)) i := by
  obtain ⟨h1, h2, h3⟩ := hn.at_ hi
  have h0 := hn.ne0 hi hl
  have hb : b < l.length := by rw [h.len]; exact h3
  have hst := h.st
  have hg' := hg
  unfold GrewL at hg'
  rw [← h2] at hst hg'
  obtain ⟨k1, k2⟩ := hst.visit hn.inj hn.ahead hn.rp2 h1 h0 hN.2 hN.1
  have k3 := Grew.visit hn.inj hst.tree h1 ((hn.mem b).2 h1) k2 hN hg'
  rw [h2] at k1 k3
  refine ⟨⟨by simpa using h.len, ?_, fun x v hv => ?_, ?_, ?_⟩, ?_⟩
  · rw [parL_set hb]; unfold upd; rw [if_neg (fun e => h0 e.symm)]; exact h.zero
  · rw [List.getElem?_set] at hv
    split at hv
    · have := Option.some.inj hv; omega
    · exact h.vals x v hv
  · rw [parL_set hb]; exact h.only.upd h1
  · rw [parL_set hb]; exact k1
  · unfold GrewL; rw [parL_set hb]; exact k3
theorem GrewL.fin' {b N : Nat} (ht : Tree S.idxOf (parL l)) (h : GrewL bs L S l0 l 0) (hb : RA (succB bs) none b) (h0 : b ≠ 0) (hN : Near (rpB bs L) (parL l) b N) (hne : parL l b ≠ some N) : wsum S.idxOf (parL l0) S < wsum S.idxOf (parL l) S := by
  rcases h with h | ⟨e, h⟩
  · exact h
  · obtain ⟨M, h1, h2⟩ := h b hb h0 (Nat.zero_le _)
    exact absurd (by rw [h1, h2.uniq ht hN]) hne
theorem GrewL.first (hn : Num bs L S t) : GrewL bs L S l l (S.idxOf 0) := Grew.begin fun x hx h0 => hn.top x hx h0
theorem wsum_bound (hn : Num bs L S t) (par : Nat → Option Nat) : wsum S.idxOf par S ≤ S.length * S.length :=
  wsum_le (P := S.length) (fun x => by exact List.idxOf_le_length) S
/-- idom[b] as it should be. -/
def FixAt (bs : List Block) (L : List Bool) (l : List Int) (b : Nat) : Prop := b ≠ 0 → ∃ N, parL l b = some N ∧ Near (rpB bs L) (parL l) b N
/-- What a finished flow says. -/
structure FlowP (bs : List Block) (par : Nat → Option Nat) (post dep : Nat → Nat) (L : List Bool) (I D O : List Int) : Prop where
  okt : OkT bs
  pos : 0 < bs.length
  mks : ∀ x, Mk L x ↔ RA (succB bs) none x
  llen : L.length = bs.length
  ilen : I.length = bs.length
  i0 : I[0]? = some (-1)
  iN : ∀ x, x < bs.length → x ≠ 0 → I[x]? = some (match par x with | some p => (p : Int) | none => -1)
  par0 : par 0 = some 0
  known : ∀ x, (par x).isSome ↔ RA (succB bs) none x
  tree : Tree post par
  exact : ∀ c d, RA (succB bs) none c → (Anc par c d ↔ ¬ RA (succB bs) (some d) c)
  hdep : Dep par dep
  dlen : D.length = bs.length
  dD : ∀ x, RA (succB bs) none x → D[x]? = some ((dep x : Nat) : Int)
  ord : O = natI (pre (kidsOf bs.length par) bs.length 0)
/-- The same ahead of the preorder. -/
structure FlowH (bs : List Block) (par : Nat → Option Nat) (post dep : Nat → Nat) (L : List Bool) (I : List Int) : Prop where
  okt : OkT bs
  pos : 0 < bs.length
  mks : ∀ x, Mk L x ↔ RA (succB bs) none x
  llen : L.length = bs.length
  ilen : I.length = bs.length
  i0 : I[0]? = some (-1)
  iN : ∀ x, x < bs.length → x ≠ 0 → I[x]? = some (match par x with | some p => (p : Int) | none => -1)
  par0 : par 0 = some 0
  known : ∀ x, (par x).isSome ↔ RA (succB bs) none x
  tree : Tree post par
  exact : ∀ c d, RA (succB bs) none c → (Anc par c d ↔ ¬ RA (succB bs) (some d) c)
  hdep : Dep par dep
  lt : ∀ c, (par c).isSome → dep c < bs.length ∧ c < bs.length
theorem LoopSt.done (hn : Num bs L S t) (hb : 0 < bs.length) (h : LoopSt bs L S t l 0) (hf : ∀ b ∈ S, FixAt bs L l b) : FlowH bs (parL l) S.idxOf (depF (parL l) S.length) L (l.set 0 (-1)) := by
  have hk : ∀ x, (parL l x).isSome ↔ RA (succB bs) none x := fun x => ⟨h.only x, fun hx => h.st.known hx (Nat.zero_le _)⟩
  have hS : ∀ x, RA (succB bs) none x → S.idxOf x < S.length := fun x hx => List.idxOf_lt_length_iff.2 ((hn.mem x).2 hx)
  have hd : Dep (parL l) (depF (parL l) S.length) := dep_of h.st.tree fun x _ hx => hS x (h.only x hx)
  have hx : ∀ c d, RA (succB bs) none c → (Anc (parL l) c d ↔ ¬ RA (succB bs) (some d) c) := fun c d hc => h.st.exact hn.rp1 hn.rp2 (fun b hb h0 => by
    obtain ⟨N, h1, h2⟩ := hf b ((hn.mem b).2 hb) h0
    exact ⟨N, h1, h2.2⟩) hc
  have hlt : ∀ c, (parL l c).isSome → c < bs.length := fun c hc => hn.lt ((hn.mem c).2 (h.only c hc))
  refine ⟨hn.okt, hb, hn.mks, hn.len, by simpa using h.len, by rw [List.getElem?_set]; simp [h.len, hb], fun x hxl h0 => ?_, h.zero, hk, h.st.tree, hx, hd, fun c hc => ⟨?_, hlt c hc⟩⟩
  · rw [List.getElem?_set, if_neg (fun e => h0 e.symm)]
    have hv := List.getElem?_eq_getElem (l := l) (i := x) (by rw [h.len]; exact hxl)
    rcases h.vals x _ hv with e | e
    · rw [hv, parL_none hv (by omega), e]
    · rw [hv, parL_some hv e]
      congr 1
      show _ = (((l[x]'(by rw [h.len]; exact hxl)).toNat : Nat) : Int)
      omega
  · classical
    have := count_doms h.st.tree hd hlt (fun c a => decide (Anc (parL l) c a)) (fun c a _ => by simp) _ c (Nat.le_refl _) hc
    have h2 := List.length_filter_le (fun a => decide (Anc (parL l) c a)) (List.range bs.length)
    rw [List.length_range] at h2
    omega
theorem FlowH.fin {par : Nat → Option Nat} {post dep : Nat → Nat} {I D O : List Int} (h : FlowH bs par post dep L I) (hD : D.length = bs.length) (hO : O = natI (pre (kidsOf bs.length par) bs.length 0)) (hd : ∀ x ∈ pre (kidsOf bs.length par) bs.length 0, D[x]? = some ((dep x : Nat) : Int)) : FlowP bs par post dep L I D O :=
  ⟨h.okt, h.pos, h.mks, h.llen, h.ilen, h.i0, h.iN, h.par0, h.known, h.tree, h.exact, h.hdep, hD, fun x hx => hd x (pre_all h.hdep h.tree h.lt _ x (Nat.le_refl _) ((h.known x).2 hx)), hO⟩
/-! ### dominates. -/
theorem FlowP.step {par : Nat → Option Nat} {post dep : Nat → Nat} {I D O : List Int} (h : FlowP bs par post dep L I D O) {a b : Nat} (hb : RA (succB bs) none b) (hl : dep a < dep b) : ∃ p, b ≠ 0 ∧ par b = some p ∧ I[b]? = some (p : Int) ∧ RA (succB bs) none p ∧ dep b = dep p + 1 ∧ (Anc par b a ↔ Anc par p a) := by
  have h0 : b ≠ 0 := fun e => by subst e; rw [h.hdep.zero] at hl; omega
  obtain ⟨p, hp⟩ := Option.isSome_iff_exists.1 ((h.known b).2 hb)
  have hlt : b < bs.length := by rw [← h.llen]; exact mk_lt ((h.mks b).2 hb)
  refine ⟨p, h0, hp, by rw [h.iN b hlt h0, hp], (h.known p).1 (h.tree.up b p h0 hp).2, h.hdep.up b p h0 hp, h.hdep.step h0 hp hl⟩
end Dom
end Go.Proofs.YtnbkgaofdkkdnaaDoor
