/- Plain: trees of dominators as a fixpoint's states: chains, their meet, one visit of a block. -/
import Derived.Test.YtnbkgaofdkkdnaaDoorPv
namespace Go.Proofs.YtnbkgaofdkkdnaaDoor
set_option linter.unusedVariables false
set_option linter.unusedSectionVars false

namespace Dom
/-- y lies on the chain that begins at x. -/
inductive Anc (par : Nat → Option Nat) : Nat → Nat → Prop
  | refl (x : Nat) : Anc par x x
  | up {x p y : Nat} : x ≠ 0 → par x = some p → Anc par p y → Anc par x y
structure Tree (post : Nat → Nat) (par : Nat → Option Nat) : Prop where
  up : ∀ b p, b ≠ 0 → par b = some p → post b < post p ∧ (par p).isSome
variable {post : Nat → Nat} {par : Nat → Option Nat}
theorem Anc.trans {x y z : Nat} (h : Anc par x y) (k : Anc par y z) : Anc par x z := by
  induction h with
  | refl => exact k
  | up h0 h1 _ ih => exact .up h0 h1 (ih k)
theorem Anc.post_le (ht : Tree post par) {x y : Nat} (h : Anc par x y) : post x ≤ post y := by
  induction h with
  | refl => exact Nat.le_refl _
  | up h0 h1 _ ih => have := (ht.up _ _ h0 h1).1; omega
theorem Anc.eq_of_post (ht : Tree post par) {x y : Nat} (h : Anc par x y) (e : post y ≤ post x) : x = y := by
  cases h with
  | refl => rfl
  | up h0 h1 h2 => have := (ht.up _ _ h0 h1).1; have := h2.post_le ht; omega
theorem Anc.known (ht : Tree post par) {x y : Nat} (h : Anc par x y) (hx : (par x).isSome) : (par y).isSome := by
  induction h with
  | refl => exact hx
  | up h0 h1 _ ih => exact ih (ht.up _ _ h0 h1).2
/-- Two of one chain: one lies above the other. -/
theorem Anc.total {x y z : Nat} (h : Anc par x y) (k : Anc par x z) : Anc par y z ∨ Anc par z y := by
  induction h with
  | refl => exact .inl k
  | up h0 h1 h2 ih =>
    cases k with
    | refl => exact .inr (.up h0 h1 h2)
    | up k0 k1 k2 =>
      rw [h1] at k1
      obtain rfl := Option.some.inj k1
      exact ih k2
/-- What is above x, but not x. -/
def SD (par : Nat → Option Nat) (x y : Nat) : Prop := ∃ p, par x = some p ∧ Anc par p y
theorem anc_iff {x y : Nat} (hx : x ≠ 0) : Anc par x y ↔ x = y ∨ SD par x y := by
  constructor
  · intro h
    cases h with
    | refl => exact .inl rfl
    | up h0 h1 h2 => exact .inr ⟨_, h1, h2⟩
  · rintro (rfl | ⟨p, h1, h2⟩)
    · exact .refl _
    · exact .up hx h1 h2
theorem SD.lt (ht : Tree post par) {x y : Nat} (hx : x ≠ 0) (h : SD par x y) : post x < post y := by
  obtain ⟨p, h1, h2⟩ := h
  have := (ht.up _ _ hx h1).1
  have := h2.post_le ht
  omega
/-- A step of the two fingers: the lower one goes up, the common part stays. -/
theorem meet_step (ht : Tree post par) {a b p y : Nat} (ha : a ≠ 0) (hp : par a = some p) (hl : post a < post b) : (Anc par a y ∧ Anc par b y) ↔ (Anc par p y ∧ Anc par b y) := by
  constructor
  · rintro ⟨h1, h2⟩
    refine ⟨?_, h2⟩
    cases h1 with
    | refl => have := h2.post_le ht; omega
    | up _ k1 k2 => rw [hp] at k1; obtain rfl := Option.some.inj k1; exact k2
  · rintro ⟨h1, h2⟩
    exact ⟨.up ha hp h1, h2⟩
/-! ### One block moves up. -/
def upd (par : Nat → Option Nat) (b N : Nat) : Nat → Option Nat := fun x => if x = b then some N else par x
section
variable {b N : Nat} (ht : Tree post par) (hN : SD par b N) (hb : b ≠ 0)
include ht hN hb
theorem upd_tree (hkn : (par N).isSome) : Tree post (upd par b N) := by
  have h1 := hN.lt ht hb
  have hk : ∀ p, (par p).isSome → (upd par b N p).isSome := fun p hp => by
    unfold upd
    split
    · rfl
    · exact hp
  refine ⟨fun x p hx hp => ?_⟩
  unfold upd at hp
  split at hp
  · rename_i e
    obtain rfl := Option.some.inj hp
    subst e
    exact ⟨h1, hk _ hkn⟩
  · have := ht.up x p hx hp
    exact ⟨this.1, hk _ this.2⟩
/-- A chain that does not come by b stays. -/
theorem upd_other {x y : Nat} (h : Anc par x y) (hx : ¬ Anc par x b) : Anc (upd par b N) x y := by
  induction h with
  | refl => exact .refl _
  | up h0 h1 h2 ih =>
    rename_i x p y
    have hne : x ≠ b := fun e => hx (e ▸ .refl _)
    exact .up h0 (by unfold upd; rw [if_neg hne]; exact h1) (ih fun h => hx (.up h0 h1 h))
/-- What lies below b, or is b, stays too. -/
theorem upd_low {x y : Nat} (h : Anc par x y) (hy : post y ≤ post b) : Anc (upd par b N) x y := by
  induction h with
  | refl => exact .refl _
  | up h0 h1 h2 ih =>
    rename_i x p y
    have h3 := (ht.up _ _ h0 h1).1
    have h4 := h2.post_le ht
    have hne : x ≠ b := fun e => by subst e; omega
    exact .up h0 (by unfold upd; rw [if_neg hne]; exact h1) (ih hy)
theorem upd_sub {x y : Nat} (h : Anc (upd par b N) x y) : Anc par x y := by
  induction h with
  | refl => exact .refl _
  | up h0 h1 h2 ih =>
    rename_i x p y
    unfold upd at h1
    split at h1
    · rename_i e
      obtain rfl := Option.some.inj h1
      subst e
      obtain ⟨q, k1, k2⟩ := hN
      exact .up h0 k1 (k2.trans ih)
    · exact .up h0 h1 ih
theorem not_below : ¬ Anc par N b := fun h => by have := h.post_le ht; have := hN.lt ht hb; omega
/-- What b's followers keep. -/
theorem upd_below {x y : Nat} (hx : Anc par x b) : Anc (upd par b N) x y ↔ Anc par x y ∧ (post y ≤ post b ∨ Anc par N y) := by
  constructor
  · intro h
    refine ⟨upd_sub ht hN hb h, ?_⟩
    by_cases hy : post y ≤ post b
    · exact .inl hy
    · right
      have hxb := upd_low ht hN hb hx (Nat.le_refl _)
      rcases hxb.total h with h1 | h1
      · cases h1 with
        | refl => exact absurd (Nat.le_refl _) hy
        | up h0 k1 k2 =>
          unfold upd at k1
          rw [if_pos rfl] at k1
          obtain rfl := Option.some.inj k1
          exact upd_sub ht hN hb k2
      · exact absurd ((upd_sub ht hN hb h1).post_le ht) hy
  · rintro ⟨h1, h2 | h2⟩
    · exact upd_low ht hN hb h1 h2
    · have hxb := upd_low ht hN hb hx (Nat.le_refl _)
      exact hxb.trans (.up hb (by unfold upd; rw [if_pos rfl]) (upd_other ht hN hb h2 (not_below ht hN hb)))
theorem upd_sd_self {y : Nat} : SD (upd par b N) b y ↔ Anc par N y := by
  unfold SD upd
  rw [if_pos rfl]
  constructor
  · rintro ⟨p, h1, h2⟩
    obtain rfl := Option.some.inj h1
    exact upd_sub ht hN hb h2
  · intro h
    exact ⟨N, rfl, upd_other ht hN hb h (not_below ht hN hb)⟩
theorem upd_sd {c y : Nat} (hc : c ≠ b) : SD (upd par b N) c y → SD par c y := by
  unfold SD
  rintro ⟨p, h1, h2⟩
  have h1 : upd par b N c = some p := h1
  unfold upd at h1
  rw [if_neg hc] at h1
  exact ⟨p, h1, upd_sub ht hN hb h2⟩
end
/-- The invariants of the passes: K = the blocks that count, rp = their known predecessors, t = a predecessor with a greater post. -/
structure Inv (post : Nat → Nat) (K : Nat → Prop) (rp : Nat → List Nat) (t : Nat → Nat) (par : Nat → Option Nat) (cur : Nat) : Prop where
  tree : Tree post par
  all : ∀ c, K c → (par c).isSome
  J : ∀ c, K c → c ≠ 0 → ∀ y, (∀ p ∈ rp c, Anc par p y) → SD par c y
  W : ∀ c, K c → c ≠ 0 → ∀ x, SD par c x → (cur ≤ post c ∨ post x < cur) → Anc par (t c) x
theorem Inv.visit {post : Nat → Nat} {K : Nat → Prop} {rp : Nat → List Nat} {t : Nat → Nat} {par : Nat → Option Nat} {b N : Nat} (hinj : ∀ x y, K x → K y → post x = post y → x = y)
    (ht : ∀ c, K c → c ≠ 0 → t c ∈ rp c ∧ post c < post (t c)) (h : Inv post K rp t par (post b + 1)) (hKb : K b) (hb : b ≠ 0) (hN : ∀ y, Anc par N y ↔ ∀ p ∈ rp b, Anc par p y) (hNk : (par N).isSome) :
    SD par b N ∧ Inv post K rp t (upd par b N) (post b) := by
  have hsd : SD par b N := h.J b hKb hb N ((hN N).1 (.refl _))
  have hT := upd_tree h.tree hsd hb hNk
  refine ⟨hsd, hT, fun c hc => ?_, fun c hc hc0 y hy => ?_, fun c hc hc0 x hx hcur => ?_⟩
  · unfold upd
    split
    · rfl
    · exact h.all c hc
  · by_cases e : c = b
    · subst e
      rw [upd_sd_self h.tree hsd hb, hN]
      exact fun p hp => upd_sub h.tree hsd hb (hy p hp)
    · have h1 := h.J c hc hc0 y fun p hp => upd_sub h.tree hsd hb (hy p hp)
      obtain ⟨q, hq, hqy⟩ := h1
      refine ⟨q, by unfold upd; rw [if_neg e]; exact hq, ?_⟩
      by_cases hqb : Anc par q b
      · rw [upd_below h.tree hsd hb hqb]
        refine ⟨hqy, ?_⟩
        have hcb := SD.lt h.tree hc0 ⟨q, hq, hqb⟩
        have htb : Anc par (t c) b := h.W c hc hc0 b ⟨q, hq, hqb⟩ (.inr (by omega))
        exact ((upd_below h.tree hsd hb htb).1 (hy _ (ht c hc hc0).1)).2
      · exact upd_other h.tree hsd hb hqy hqb
  · by_cases e : c = b
    · subst e
      rw [upd_sd_self h.tree hsd hb] at hx
      have h1 := (hN x).1 hx _ (ht c hc hc0).1
      refine upd_other h.tree hsd hb h1 fun h2 => ?_
      have := h2.post_le h.tree
      have := (ht c hc hc0).2
      omega
    · have hx0 := upd_sd h.tree hsd hb e hx
      by_cases hlo : post b < post c
      · have h1 := h.W c hc hc0 x hx0 (.inl (by omega))
        refine upd_other h.tree hsd hb h1 fun h2 => ?_
        have := h2.post_le h.tree
        have := (ht c hc hc0).2
        omega
      · have hne : post c ≠ post b := fun e2 => e (hinj c b hc hKb e2)
        have hxb : post x < post b := by
          rcases hcur with h1 | h1
          · omega
          · exact h1
        exact upd_low h.tree hsd hb (h.W c hc hc0 x hx0 (.inr (by omega))) (by omega)
end Dom
end Go.Proofs.YtnbkgaofdkkdnaaDoor
