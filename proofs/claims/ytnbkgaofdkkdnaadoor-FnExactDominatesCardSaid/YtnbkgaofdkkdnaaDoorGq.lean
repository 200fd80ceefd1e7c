/- Plain: dominators as a fixpoint: passes, soundness, what holds when nothing changes any more. -/
import Derived.Test.YtnbkgaofdkkdnaaDoorGp
namespace Go.Proofs.YtnbkgaofdkkdnaaDoor
set_option linter.unusedVariables false
set_option linter.unusedSectionVars false

namespace Dom
theorem Inv.restart {post : Nat → Nat} {K : Nat → Prop} {rp : Nat → List Nat} {t : Nat → Nat} {par : Nat → Option Nat} (h : Inv post K rp t par 0) (cur : Nat) : Inv post K rp t par cur :=
  ⟨h.tree, h.all, h.J, fun c hc h0 x hx _ => h.W c hc h0 x hx (.inl (Nat.zero_le _))⟩
theorem Inv.stay {post : Nat → Nat} {K : Nat → Prop} {rp : Nat → List Nat} {t : Nat → Nat} {par : Nat → Option Nat} {a : Nat} (h : Inv post K rp t par (a + 1)) (hK : ∀ c, K c → post c = a → c = 0) : Inv post K rp t par a :=
  ⟨h.tree, h.all, h.J, fun c hc h0 x hx hcur => h.W c hc h0 x hx (by
    rcases hcur with h1 | h1
    · by_cases e : post c = a
      · exact absurd (hK c hc e) h0
      · left; omega
    · right; omega)⟩
/-! ### The first pass: blocks become known one after another. -/
structure Fst (post : Nat → Nat) (K : Nat → Prop) (rp : Nat → List Nat) (t : Nat → Nat) (par : Nat → Option Nat) (cur : Nat) : Prop where
  tree : Tree post par
  known : ∀ c, (par c).isSome ↔ K c ∧ cur ≤ post c
  J : ∀ c, K c → c ≠ 0 → cur ≤ post c → ∀ y, (∀ p ∈ rp c, (par p).isSome → Anc par p y) → SD par c y
  W : ∀ c, K c → c ≠ 0 → cur ≤ post c → ∀ x, SD par c x → Anc par (t c) x
section
variable {par : Nat → Option Nat} {post : Nat → Nat} {b N : Nat}
/-- A new block changes no known chain. -/
theorem new_anc (ht : Tree post par) (hb : par b = none) {x y : Nat} (hx : (par x).isSome) : Anc (upd par b N) x y ↔ Anc par x y := by
  constructor
  · intro h
    induction h with
    | refl => exact .refl _
    | up h0 h1 h2 ih =>
      rename_i x p y
      have hne : x ≠ b := fun e => by subst e; rw [hb] at hx; cases hx
      unfold upd at h1
      rw [if_neg hne] at h1
      exact .up h0 h1 (ih (ht.up _ _ h0 h1).2)
  · intro h
    induction h with
    | refl => exact .refl _
    | up h0 h1 h2 ih =>
      rename_i x p y
      have hne : x ≠ b := fun e => by subst e; rw [hb] at hx; cases hx
      exact .up h0 (by unfold upd; rw [if_neg hne]; exact h1) (ih (ht.up _ _ h0 h1).2)
theorem new_sd (ht : Tree post par) (hb : par b = none) {x y : Nat} (hx0 : x ≠ 0) (hx : (par x).isSome) : SD (upd par b N) x y ↔ SD par x y := by
  have hne : x ≠ b := fun e => by subst e; rw [hb] at hx; cases hx
  have e : upd par b N x = par x := if_neg hne
  unfold SD
  rw [e]
  constructor
  · rintro ⟨p, h1, h2⟩
    exact ⟨p, h1, (new_anc ht hb (ht.up _ _ hx0 h1).2).1 h2⟩
  · rintro ⟨p, h1, h2⟩
    exact ⟨p, h1, (new_anc ht hb (ht.up _ _ hx0 h1).2).2 h2⟩
theorem new_sd_self (ht : Tree post par) (hb : par b = none) (hN : (par N).isSome) {y : Nat} : SD (upd par b N) b y ↔ Anc par N y := by
  unfold SD
  rw [show upd par b N b = some N from if_pos rfl]
  constructor
  · rintro ⟨p, h1, h2⟩
    obtain rfl := Option.some.inj h1
    exact (new_anc ht hb hN).1 h2
  · intro h
    exact ⟨N, rfl, (new_anc ht hb hN).2 h⟩
end
theorem Fst.visit {post : Nat → Nat} {K : Nat → Prop} {rp : Nat → List Nat} {t : Nat → Nat} {par : Nat → Option Nat} {b N : Nat} (hinj : ∀ x y, K x → K y → post x = post y → x = y)
    (ht : ∀ c, K c → c ≠ 0 → K (t c) ∧ t c ∈ rp c ∧ post c < post (t c)) (h : Fst post K rp t par (post b + 1)) (hKb : K b) (hb : b ≠ 0) (hN : ∀ y, Anc par N y ↔ ∀ p ∈ rp b, (par p).isSome → Anc par p y) (hNk : (par N).isSome) :
    Fst post K rp t (upd par b N) (post b) := by
  have hbn : par b = none := by
    cases hp : par b with
    | none => rfl
    | some q =>
      have := (h.known b).1 (by rw [hp]; rfl)
      omega
  have hNp : post b < post N := by have := ((h.known N).1 hNk).2; omega
  have hk : ∀ c, (upd par b N c).isSome ↔ c = b ∨ (par c).isSome := fun c => by
    unfold upd
    split
    · simp_all
    · simp_all
  have htk : ∀ c, K c → c ≠ 0 → post b ≤ post c → (par (t c)).isSome := fun c hc h0 hp => (h.known _).2 ⟨(ht c hc h0).1, by have := (ht c hc h0).2.2; omega⟩
  have hck : ∀ c, K c → c ≠ b → post b ≤ post c → (par c).isSome := fun c hc e hp => (h.known _).2 ⟨hc, by
    have : post c ≠ post b := fun e2 => e (hinj c b hc hKb e2)
    omega⟩
  refine ⟨⟨fun x p hx hp => ?_⟩, fun c => ?_, fun c hc h0 hp y hy => ?_, fun c hc h0 hp x hx => ?_⟩
  · unfold upd at hp
    split at hp
    · rename_i e
      obtain rfl := Option.some.inj hp
      subst e
      exact ⟨hNp, (hk _).2 (.inr hNk)⟩
    · have := h.tree.up x p hx hp
      exact ⟨this.1, (hk _).2 (.inr this.2)⟩
  · rw [hk]
    constructor
    · rintro (rfl | h1)
      · exact ⟨hKb, Nat.le_refl _⟩
      · have := (h.known c).1 h1
        exact ⟨this.1, by omega⟩
    · rintro ⟨h1, h2⟩
      by_cases e : c = b
      · exact .inl e
      · exact .inr (hck c h1 e h2)
  · by_cases e : c = b
    · subst e
      rw [new_sd_self h.tree hbn hNk, hN]
      intro p hp hpk
      exact (new_anc h.tree hbn hpk).1 (hy p hp ((hk p).2 (.inr hpk)))
    · have hcs := hck c hc e hp
      rw [new_sd h.tree hbn h0 hcs]
      refine h.J c hc h0 ((h.known c).1 hcs).2 y fun p hp hpk => ?_
      exact (new_anc h.tree hbn hpk).1 (hy p hp ((hk p).2 (.inr hpk)))
  · rw [new_anc h.tree hbn (htk c hc h0 hp)]
    by_cases e : c = b
    · subst e
      rw [new_sd_self h.tree hbn hNk, hN] at hx
      exact hx _ (ht c hc h0).2.1 (htk c hc h0 hp)
    · have hcs := hck c hc e hp
      rw [new_sd h.tree hbn h0 hcs] at hx
      exact h.W c hc h0 ((h.known c).1 hcs).2 x hx
theorem Fst.done {post : Nat → Nat} {K : Nat → Prop} {rp : Nat → List Nat} {t : Nat → Nat} {par : Nat → Option Nat} (h : Fst post K rp t par 0) (cur : Nat) : Inv post K rp t par cur :=
  ⟨h.tree, fun c hc => (h.known c).2 ⟨hc, Nat.zero_le _⟩, fun c hc h0 y hy => h.J c hc h0 (Nat.zero_le _) y fun p hp _ => hy p hp, fun c hc h0 x hx _ => h.W c hc h0 (Nat.zero_le _) x hx⟩
/-! ### Paths. -/
/-- Paths from block 0 lead to c that do not touch d. -/
inductive RA (succ : Nat → List Nat) (d : Option Nat) : Nat → Prop
  | start : d ≠ some 0 → RA succ d 0
  | step {p c : Nat} : RA succ d p → c ∈ succ p → d ≠ some c → RA succ d c
theorem RA.reach {succ : Nat → List Nat} {d : Option Nat} {c : Nat} (h : RA succ d c) : RA succ none c := by
  induction h with
  | start => exact .start (by simp)
  | step _ h2 _ ih => exact .step ih h2 (by simp)
/-- Every dominator lies on the chain. -/
def Snd (succ : Nat → List Nat) (par : Nat → Option Nat) : Prop := ∀ c d, RA succ none c → (par c).isSome → ¬ RA succ (some d) c → Anc par c d
theorem snd_self {succ : Nat → List Nat} {par : Nat → Option Nat} {rp : Nat → List Nat} {b N d : Nat} (hrp : ∀ p ∈ rp b, RA succ none p ∧ b ∈ succ p) (h : Snd succ par) (hN : ∀ y, Anc par N y ↔ ∀ p ∈ rp b, (par p).isSome → Anc par p y) (hd : ¬ RA succ (some d) b) (hne : b ≠ d) : Anc par N d :=
  (hN d).2 fun p hp hk => h p d (hrp p hp).1 hk fun hr => hd (.step hr (hrp p hp).2 (by simp; exact fun e => hne e.symm))
/-- What dominates a follower of b from above b dominates b. -/
theorem dom_up {succ : Nat → List Nat} {par : Nat → Option Nat} {post : Nat → Nat} {rp : Nat → List Nat} {t : Nat → Nat} {b d : Nat} (hI : Inv post (RA succ none) rp t par (post b + 1)) (ht : ∀ c, RA succ none c → c ≠ 0 → t c ∈ rp c ∧ post c < post (t c))
    (hrp : ∀ c, ∀ p ∈ rp c, RA succ none p ∧ c ∈ succ p) (hb : b ≠ 0) (hd : post b < post d) : ∀ (n c : Nat), post b - post c ≤ n → RA succ none c → Anc par c b → ¬ RA succ (some d) c → ¬ RA succ (some d) b := by
  intro n
  induction n with
  | zero =>
    intro c hn hc hcb hdc
    have := hcb.post_le hI.tree
    have e := hcb.eq_of_post hI.tree (by omega)
    rw [← e]; exact hdc
  | succ n ih =>
    intro c hn hc hcb hdc
    by_cases e : c = b
    · rw [← e]; exact hdc
    · have hc0 : c ≠ 0 := fun e0 => by
        subst e0
        cases hcb with
        | refl => exact hb rfl
        | up h1 => exact h1 rfl
      have hsd : SD par c b := by
        rcases (anc_iff hc0).1 hcb with h1 | h1
        · exact absurd h1 e
        · exact h1
      have h1 := hI.W c hc hc0 b hsd (.inr (by omega))
      have h2 := ht c hc hc0
      have h3 := hrp c _ h2.1
      refine ih (t c) (by omega) h3.1 h1 fun hr => hdc (.step hr h3.2 ?_)
      intro e2
      have e2 : d = c := by simpa using e2
      have := hsd.lt hI.tree hc0
      rw [e2] at hd; omega
theorem Snd.move {succ : Nat → List Nat} {par : Nat → Option Nat} {post : Nat → Nat} {rp : Nat → List Nat} {t : Nat → Nat} {b N : Nat} (hI : Inv post (RA succ none) rp t par (post b + 1)) (ht : ∀ c, RA succ none c → c ≠ 0 → t c ∈ rp c ∧ post c < post (t c))
    (hrp : ∀ c, ∀ p ∈ rp c, RA succ none p ∧ c ∈ succ p) (hsd : SD par b N) (hb : b ≠ 0) (hbr : RA succ none b) (h : Snd succ par)
    (hN : ∀ y, Anc par N y ↔ ∀ p ∈ rp b, Anc par p y) : Snd succ (upd par b N) := by
  have hall := hI.all
  have hN' : ∀ y, Anc par N y ↔ ∀ p ∈ rp b, (par p).isSome → Anc par p y := fun y => (hN y).trans ⟨fun h p hp _ => h p hp, fun h p hp => h p hp (hall p (hrp b p hp).1)⟩
  intro c d hc hk hd
  have h1 := h c d hc (hall c hc) hd
  by_cases hcb : Anc par c b
  · rw [upd_below hI.tree hsd hb hcb]
    refine ⟨h1, ?_⟩
    by_cases hlo : post d ≤ post b
    · exact .inl hlo
    · refine .inr (snd_self (hrp b) h hN' (dom_up hI ht hrp hb (by omega) _ c (Nat.le_refl _) hc hcb hd) fun e => ?_)
      subst e; exact hlo (Nat.le_refl _)
  · exact upd_other hI.tree hsd hb h1 hcb
theorem Snd.fresh {succ : Nat → List Nat} {par : Nat → Option Nat} {post : Nat → Nat} {rp : Nat → List Nat} {b N : Nat} (ht : Tree post par) (hbn : par b = none) (hNk : (par N).isSome) (hb : b ≠ 0) (hrp : ∀ p ∈ rp b, RA succ none p ∧ b ∈ succ p) (h : Snd succ par)
    (hN : ∀ y, Anc par N y ↔ ∀ p ∈ rp b, (par p).isSome → Anc par p y) : Snd succ (upd par b N) := by
  intro c d hc hk hd
  by_cases e : c = b
  · subst e
    by_cases e2 : c = d
    · subst e2; exact .refl _
    · exact (anc_iff hb).2 (.inr ((new_sd_self ht hbn hNk).2 (snd_self hrp h hN hd e2)))
  · have hck : (par c).isSome := by
      unfold upd at hk
      rw [if_neg e] at hk
      exact hk
    exact (new_anc ht hbn hck).2 (h c d hc hck hd)
theorem complete {succ : Nat → List Nat} {par : Nat → Option Nat} {rp : Nat → List Nat} (hrp : ∀ c p, RA succ none p → c ∈ succ p → p ∈ rp c) (hfix : ∀ c, RA succ none c → c ≠ 0 → ∀ y, SD par c y → ∀ p ∈ rp c, Anc par p y) {d c : Nat} (h : RA succ (some d) c) : ¬ Anc par c d := by
  induction h with
  | start h0 =>
    intro h
    cases h with
    | refl => exact h0 rfl
    | up h1 => exact h1 rfl
  | step h1 h2 h3 ih =>
    rename_i p c
    intro h
    by_cases hc : c = 0
    · subst hc
      cases h with
      | refl => exact h3 rfl
      | up h1 => exact h1 rfl
    · rcases (anc_iff hc).1 h with e | hsd
      · exact h3 (by rw [e])
      · exact ih (hfix c (RA.step h1.reach h2 (by simp)) hc d hsd p (hrp c p h1.reach h2))
/-- At the fixpoint the chain holds the dominators and nothing else. -/
theorem exact {succ : Nat → List Nat} {par : Nat → Option Nat} {rp : Nat → List Nat} (hrp : ∀ c p, RA succ none p → c ∈ succ p → p ∈ rp c) (hfix : ∀ c, RA succ none c → c ≠ 0 → ∀ y, SD par c y → ∀ p ∈ rp c, Anc par p y) (hs : Snd succ par) {d c : Nat} (hc : RA succ none c) (hk : (par c).isSome) :
    Anc par c d ↔ ¬ RA succ (some d) c :=
  ⟨fun h hr => complete hrp hfix hr h, fun h => hs c d hc hk h⟩
end Dom
end Go.Proofs.YtnbkgaofdkkdnaaDoor
