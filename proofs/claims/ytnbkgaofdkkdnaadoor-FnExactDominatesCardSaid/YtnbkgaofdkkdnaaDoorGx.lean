/- Plain: idom as a list; a visit in any pass. -/
import Derived.Test.YtnbkgaofdkkdnaaDoorGv
namespace Go.Proofs.YtnbkgaofdkkdnaaDoor
set_option linter.unusedVariables false

namespace Dom
def parL (l : List Int) (x : Nat) : Option Nat := match l[x]? with
  | some v => if v < 0 then none else some v.toNat
  | none => none
theorem parL_set {l : List Int} {b N : Nat} (hb : b < l.length) : parL (l.set b (N : Int)) = upd (parL l) b N := by
  funext x
  unfold parL upd
  rw [List.getElem?_set]
  by_cases e : b = x
  · subst e
    rw [if_pos rfl, if_pos rfl, if_pos hb]
    simp
  · rw [if_neg e, if_neg fun h => e h.symm]
/-- Where a pass stands, the first or a later one. -/
def PassSt (succ : Nat → List Nat) (post : Nat → Nat) (rp : Nat → List Nat) (t : Nat → Nat) (par : Nat → Option Nat) (cur : Nat) : Prop :=
  (Fst post (RA succ none) rp t par cur ∨ Inv post (RA succ none) rp t par cur) ∧ Snd succ par
theorem PassSt.tree {succ : Nat → List Nat} {post : Nat → Nat} {rp : Nat → List Nat} {t : Nat → Nat} {par : Nat → Option Nat} {cur : Nat} (h : PassSt succ post rp t par cur) : Tree post par := h.1.elim (·.tree) (·.tree)
/-- What is known so far. -/
theorem PassSt.known {succ : Nat → List Nat} {post : Nat → Nat} {rp : Nat → List Nat} {t : Nat → Nat} {par : Nat → Option Nat} {cur : Nat} (h : PassSt succ post rp t par cur) {c : Nat} (hc : RA succ none c) (hp : cur ≤ post c) : (par c).isSome :=
  h.1.elim (fun h => (h.known c).2 ⟨hc, hp⟩) (fun h => h.all c hc)
theorem PassSt.visit {succ : Nat → List Nat} {post : Nat → Nat} {rp : Nat → List Nat} {t : Nat → Nat} {par : Nat → Option Nat} {b N : Nat} (hinj : ∀ x y, RA succ none x → RA succ none y → post x = post y → x = y)
    (ht : ∀ c, RA succ none c → c ≠ 0 → t c ∈ rp c ∧ post c < post (t c)) (hrp : ∀ c, ∀ p ∈ rp c, RA succ none p ∧ c ∈ succ p) (h : PassSt succ post rp t par (post b + 1)) (hb : RA succ none b) (hb0 : b ≠ 0)
    (hN : ∀ y, Anc par N y ↔ ∀ p ∈ rp b, (par p).isSome → Anc par p y) (hNk : (par N).isSome) :
    PassSt succ post rp t (upd par b N) (post b) ∧ (par b = none ∧ 0 < post N ∨ SD par b N) := by
  obtain ⟨h1 | h1, hs⟩ := h
  · have hbn : par b = none := by
      cases hp : par b with
      | none => rfl
      | some q =>
        have := (h1.known b).1 (by rw [hp]; rfl)
        omega
    have hNp := ((h1.known N).1 hNk).2
    exact ⟨⟨.inl (h1.visit hinj (fun c hc h0 => ⟨(hrp c _ (ht c hc h0).1).1, (ht c hc h0).1, (ht c hc h0).2⟩) hb hb0 hN hNk), hs.fresh h1.tree hbn hNk hb0 (hrp b) hN⟩, .inl ⟨hbn, by omega⟩⟩
  · have hN' : ∀ y, Anc par N y ↔ ∀ p ∈ rp b, Anc par p y := fun y => (hN y).trans ⟨fun h p hp => h p hp (h1.all p (hrp b p hp).1), fun h p hp _ => h p hp⟩
    obtain ⟨h2, h3⟩ := h1.visit hinj ht hb hb0 hN' hNk
    exact ⟨⟨.inr h3, hs.move h1 ht hrp h2 hb0 hb hN'⟩, .inr h2⟩
/-- The end of a pass is the beginning of the next. -/
theorem PassSt.again {succ : Nat → List Nat} {post : Nat → Nat} {rp : Nat → List Nat} {t : Nat → Nat} {par : Nat → Option Nat} (h : PassSt succ post rp t par 0) (cur : Nat) : PassSt succ post rp t par cur :=
  ⟨.inr (h.1.elim (fun h => h.done cur) (fun h => h.restart cur)), h.2⟩
/-- Nothing differs from its nearest: the chains hold the dominators. -/
theorem PassSt.exact {succ : Nat → List Nat} {post : Nat → Nat} {rp : Nat → List Nat} {t : Nat → Nat} {par : Nat → Option Nat} (h : PassSt succ post rp t par 0) (hrp : ∀ c p, RA succ none p → c ∈ succ p → p ∈ rp c) (hrp2 : ∀ c, ∀ p ∈ rp c, RA succ none p ∧ c ∈ succ p)
    (hfix : ∀ b, RA succ none b → b ≠ 0 → ∃ N, par b = some N ∧ ∀ y, Anc par N y ↔ ∀ p ∈ rp b, (par p).isSome → Anc par p y) {c d : Nat} (hc : RA succ none c) : Anc par c d ↔ ¬ RA succ (some d) c := by
  refine Dom.exact hrp (fun b hb h0 y hy p hp => ?_) h.2 hc (h.known hc (Nat.zero_le _))
  obtain ⟨N, hN, hN2⟩ := hfix b hb h0
  obtain ⟨q, h1, h2⟩ := hy
  rw [hN] at h1
  obtain rfl := Option.some.inj h1
  exact (hN2 y).1 h2 p hp (h.known (hrp2 b p hp).1 (Nat.zero_le _))
/-- Where the first pass begins: only block 0 is known. -/
theorem PassSt.first {succ : Nat → List Nat} {post : Nat → Nat} {rp : Nat → List Nat} {t : Nat → Nat} {par : Nat → Option Nat} (h0 : par 0 = some 0) (hn : ∀ x, x ≠ 0 → par x = none) (hp : ∀ x, RA succ none x → x ≠ 0 → post x < post 0) (hr : RA succ none 0) : PassSt succ post rp t par (post 0) := by
  have hk : ∀ c, (par c).isSome ↔ c = 0 := fun c => by
    by_cases e : c = 0
    · subst e; simp [h0]
    · simp [hn c e, e]
  refine ⟨.inl ⟨⟨fun b p hb hbp => by rw [hn b hb] at hbp; cases hbp⟩, fun c => ?_, fun c hc hc0 hpc => ?_, fun c hc hc0 hpc => ?_⟩, fun c d hc hck hd => ?_⟩
  · rw [hk]
    constructor
    · rintro rfl; exact ⟨hr, Nat.le_refl _⟩
    · rintro ⟨h1, h2⟩
      by_cases e : c = 0
      · exact e
      · have := hp c h1 e; omega
  · have := hp c hc hc0; omega
  · have := hp c hc hc0; omega
  · have e := (hk c).1 hck
    subst e
    by_cases e : d = 0
    · subst e; exact .refl _
    · exact absurd (RA.start (by simpa using e)) hd
end Dom
end Go.Proofs.YtnbkgaofdkkdnaaDoor
