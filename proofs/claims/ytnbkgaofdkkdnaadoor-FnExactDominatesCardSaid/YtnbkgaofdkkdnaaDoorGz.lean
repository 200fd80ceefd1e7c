/- Plain: a pass changes something or finds everything as it should be. -/
import Derived.Test.YtnbkgaofdkkdnaaDoorGy
namespace Go.Proofs.YtnbkgaofdkkdnaaDoor
set_option linter.unusedVariables false

namespace Dom
/-- N is what 'nearest' answers at b. -/
def Near (rp : Nat → List Nat) (par : Nat → Option Nat) (b N : Nat) : Prop := (par N).isSome ∧ ∀ y, Anc par N y ↔ ∀ p ∈ rp b, (par p).isSome → Anc par p y
theorem Near.uniq {rp : Nat → List Nat} {post : Nat → Nat} {par : Nat → Option Nat} {b M N : Nat} (ht : Tree post par) (h : Near rp par b M) (k : Near rp par b N) : M = N :=
  meet_uniq ht fun y => (h.2 y).trans (k.2 y).symm
/-- Since par0 the sum has grown, or nothing has changed and all that was visited is as it should be. -/
def Grew (succ : Nat → List Nat) (post : Nat → Nat) (rp : Nat → List Nat) (l : List Nat) (par0 par : Nat → Option Nat) (cur : Nat) : Prop :=
  wsum post par0 l < wsum post par l ∨ par = par0 ∧ ∀ c, RA succ none c → c ≠ 0 → cur ≤ post c → ∃ N, par c = some N ∧ Near rp par c N
theorem Grew.begin {succ : Nat → List Nat} {post : Nat → Nat} {rp : Nat → List Nat} {l : List Nat} {par : Nat → Option Nat} {cur : Nat} (hp : ∀ x, RA succ none x → x ≠ 0 → post x < cur) : Grew succ post rp l par par cur :=
  .inr ⟨rfl, fun c hc h0 h => by have := hp c hc h0; omega⟩
theorem Grew.visit {succ : Nat → List Nat} {post : Nat → Nat} {rp : Nat → List Nat} {l : List Nat} {par0 par : Nat → Option Nat} {b N : Nat} (hinj : ∀ x y, RA succ none x → RA succ none y → post x = post y → x = y) (ht : Tree post par) (hb : RA succ none b) (hbl : b ∈ l)
    (hgrow : par b = none ∧ 0 < post N ∨ SD par b N) (hN : Near rp par b N) (h : Grew succ post rp l par0 par (post b + 1)) : Grew succ post rp l par0 (upd par b N) (post b) := by
  have hw := wsum_upd ht hgrow l
  rcases h with h | ⟨rfl, h⟩
  · left; omega
  · by_cases e : par b = some N
    · right
      have hsame : upd par b N = par := by
        funext x
        unfold upd
        split
        · rename_i ex; rw [ex, e]
        · rfl
      rw [hsame]
      refine ⟨rfl, fun c hc h0 hp => ?_⟩
      by_cases ec : c = b
      · rw [ec]; exact ⟨N, e, hN⟩
      · have : post c ≠ post b := fun e2 => ec (hinj c b hc hb e2)
        exact h c hc h0 (by omega)
    · left; exact hw.2 hbl e
/-- A pass that began with something amiss has made the sum grow. -/
theorem Grew.fin {succ : Nat → List Nat} {post : Nat → Nat} {rp : Nat → List Nat} {l : List Nat} {par0 par : Nat → Option Nat} {b N : Nat} (ht : Tree post par0) (h : Grew succ post rp l par0 par 0) (hb : RA succ none b) (h0 : b ≠ 0) (hN : Near rp par0 b N) (hne : par0 b ≠ some N) : wsum post par0 l < wsum post par l := by
  rcases h with h | ⟨rfl, h⟩
  · exact h
  · obtain ⟨M, h1, h2⟩ := h b hb h0 (Nat.zero_le _)
    exact absurd (by rw [h1, h2.uniq ht hN]) hne
end Dom
end Go.Proofs.YtnbkgaofdkkdnaaDoor
