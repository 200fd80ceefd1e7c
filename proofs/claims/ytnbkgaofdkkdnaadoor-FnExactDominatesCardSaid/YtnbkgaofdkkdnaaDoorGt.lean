/- Plain: the worklist of spec.l2Reach. -/
import Derived.Test.YtnbkgaofdkkdnaaDoorGs
namespace Go.Proofs.YtnbkgaofdkkdnaaDoor
set_option linter.unusedVariables false

namespace Dom
/-- Where the worklist stands: the first i of 'found' are done, of found[i] the first j followers. -/
structure Wl (succ : Nat → List Nat) (d : Option Nat) (found : List Nat) (seen : List Bool) (i j : Nat) : Prop where
  sound : ∀ x ∈ found, RA succ d x
  seen : ∀ x, Mk seen x ↔ x = 0 ∨ x ∈ found
  start : d ≠ some 0 → 0 ∈ found
  none : d = some 0 → found = []
  done : ∀ (k x : Nat), k < i → found[k]? = some x → ∀ t ∈ succ x, d ≠ some t → t ∈ found
  part : ∀ x, found[i]? = some x → ∀ (l t : Nat), l < j → (succ x)[l]? = some t → d ≠ some t → t ∈ found
  nodup : found.Nodup
theorem Wl.begin (succ : Nat → List Nat) (d : Option Nat) {m : Nat} (hm : 0 < m) : Wl succ d (if d = some 0 then [] else [0]) ((List.replicate m false).set 0 true) 0 0 := by
  have hmk : ∀ x, ¬ Mk (List.replicate m false) x := fun x h => by
    unfold Mk at h
    rw [List.getD_eq_getElem?_getD, List.getElem?_replicate] at h
    split at h <;> simp at h
  refine ⟨fun x hx => ?_, fun x => ?_, fun h => ?_, fun h => ?_, fun k x hk => by omega, fun x _ l t hl => by omega, ?_⟩
  · split at hx
    · simp at hx
    · rename_i h; simp at hx; subst hx; exact .start h
  · rw [mk_set (by simpa using hm)]
    constructor
    · rintro (h | h)
      · exact .inl h
      · exact absurd h (hmk x)
    · rintro (h | h)
      · exact .inl h
      · split at h
        · simp at h
        · simp at h; exact .inl h
  · rw [if_neg h]; simp
  · rw [if_pos h]
  · split <;> simp
/-- A follower that is not taken. -/
theorem Wl.skip {succ : Nat → List Nat} {d : Option Nat} {found : List Nat} {seen : List Bool} {i j x t : Nat} (h : Wl succ d found seen i j) (hx : found[i]? = some x) (ht : (succ x)[j]? = some t) (hn : d = some t ∨ Mk seen t) : Wl succ d found seen i (j + 1) := by
  refine ⟨h.sound, h.seen, h.start, h.none, h.done, fun y hy l u hl hu hd => ?_, h.nodup⟩
  by_cases e : l = j
  · subst e
    rw [hx] at hy
    obtain rfl := Option.some.inj hy
    rw [ht] at hu
    obtain rfl := Option.some.inj hu
    rcases hn with h1 | h1
    · exact absurd h1 hd
    · rcases (h.seen t).1 h1 with h2 | h2
      · subst h2
        exact h.start hd
      · exact h2
  · exact h.part y hy l u (by omega) hu hd
/-- A follower that is taken. -/
theorem Wl.take {succ : Nat → List Nat} {d : Option Nat} {found : List Nat} {seen : List Bool} {i j x t : Nat} (h : Wl succ d found seen i j) (hx : found[i]? = some x) (ht : (succ x)[j]? = some t) (hd : d ≠ some t) (hn : ¬ Mk seen t) (hl : t < seen.length) : Wl succ d (found ++ [t]) (seen.set t true) i (j + 1) := by
  have hi := (List.getElem?_eq_some_iff.1 hx).1
  have hget : ∀ k, k < found.length → (found ++ [t])[k]? = found[k]? := fun k hk => List.getElem?_append_left hk
  refine ⟨fun y hy => ?_, fun y => ?_, fun h0 => by simp [h.start h0], fun h0 => ?_, fun k y hk hy u hu hdu => ?_, fun y hy l u hlj hu hdu => ?_, ?_⟩
  · rcases List.mem_append.1 hy with h1 | h1
    · exact h.sound y h1
    · simp at h1; subst h1
      exact .step (h.sound x (List.mem_of_getElem? hx)) (List.mem_of_getElem? ht) hd
  · rw [mk_set hl, h.seen, List.mem_append, List.mem_singleton]
    constructor
    · rintro (h1 | h1 | h1)
      · exact .inr (.inr h1)
      · exact .inl h1
      · exact .inr (.inl h1)
    · rintro (h1 | h1 | h1)
      · exact .inr (.inl h1)
      · exact .inr (.inr h1)
      · exact .inl h1
  · rw [h.none h0] at hi; simp at hi
  · rw [hget k (by omega)] at hy
    exact List.mem_append_left _ (h.done k y hk hy u hu hdu)
  · rw [hget i hi, hx] at hy
    obtain rfl := Option.some.inj hy
    by_cases e : l = j
    · subst e
      rw [ht] at hu
      obtain rfl := Option.some.inj hu
      simp
    · exact List.mem_append_left _ (h.part x hx l u (by omega) hu hdu)
  · rw [List.nodup_append]
    refine ⟨h.nodup, by simp, fun a ha b hb e => ?_⟩
    simp at hb
    subst hb; subst e
    exact hn ((h.seen a).2 (.inr ha))
theorem Wl.next {succ : Nat → List Nat} {d : Option Nat} {found : List Nat} {seen : List Bool} {i j x : Nat} (h : Wl succ d found seen i j) (hx : found[i]? = some x) (hj : (succ x).length ≤ j) : Wl succ d found seen (i + 1) 0 := by
  refine ⟨h.sound, h.seen, h.start, h.none, fun k y hk hy u hu hd => ?_, fun y _ l t hl => by omega, h.nodup⟩
  by_cases e : k = i
  · subst e
    rw [hx] at hy
    obtain rfl := Option.some.inj hy
    obtain ⟨l, hl⟩ := List.getElem?_of_mem hu
    exact h.part x hx l u (by have := (List.getElem?_eq_some_iff.1 hl).1; omega) hl hd
  · exact h.done k y (by omega) hy u hu hd
theorem Wl.fin {succ : Nat → List Nat} {d : Option Nat} {found : List Nat} {seen : List Bool} {i j : Nat} (h : Wl succ d found seen i j) (hi : found.length ≤ i) (x : Nat) : x ∈ found ↔ RA succ d x := by
  constructor
  · exact h.sound x
  · intro hr
    induction hr with
    | start h0 => exact h.start h0
    | step h1 h2 h3 ih =>
      obtain ⟨k, hk⟩ := List.getElem?_of_mem ih
      exact h.done k _ (by have := (List.getElem?_eq_some_iff.1 hk).1; omega) hk _ h2 h3
theorem Wl.len {succ : Nat → List Nat} {d : Option Nat} {found : List Nat} {seen : List Bool} {i j m : Nat} (h : Wl succ d found seen i j) (hm : seen.length = m) : found.length ≤ m := by
  have : ∀ (l : List Nat) (m : Nat), l.Nodup → (∀ x ∈ l, x < m) → l.length ≤ m := by
    intro l m
    induction m generalizing l with
    | zero =>
      intro _ hl
      cases l with
      | nil => simp
      | cons a l => have := hl a (by simp); omega
    | succ m ih =>
      intro hn hl
      by_cases hmem : m ∈ l
      · have h1 := ih (l.erase m) (hn.erase m) fun x hx => by
          have h2 := hl x (List.mem_of_mem_erase hx)
          have h3 : x ≠ m := fun e => by subst e; exact (List.Nodup.mem_erase_iff hn).1 hx |>.1 rfl
          omega
        have := List.length_erase_of_mem hmem
        have := List.length_pos_of_mem hmem
        omega
      · have := ih l hn fun x hx => by
          have h2 := hl x hx
          have h3 : x ≠ m := fun e => hmem (e ▸ hx)
          omega
        omega
  exact this found m h.nodup fun x hx => by
    have := mk_lt ((h.seen x).2 (.inr hx))
    omega
end Dom
end Go.Proofs.YtnbkgaofdkkdnaaDoor
