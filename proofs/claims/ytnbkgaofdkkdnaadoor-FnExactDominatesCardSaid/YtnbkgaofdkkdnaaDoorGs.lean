/- Plain: the numbering of the reachable blocks; the meet of two chains; the sum that grows. -/
import Derived.Test.YtnbkgaofdkkdnaaDoorGr
namespace Go.Proofs.YtnbkgaofdkkdnaaDoor
set_option linter.unusedVariables false

namespace Dom
theorem idx_app {A B : List Nat} {x q : Nat} (hn : (A ++ q :: B).Nodup) (hx : x ∈ A) : (A ++ q :: B).idxOf x < (A ++ q :: B).idxOf q := by
  have hq : q ∉ A := fun h => by
    rw [List.nodup_append] at hn
    exact hn.2.2 q h q (by simp) rfl
  rw [List.idxOf_append, if_pos hx, List.idxOf_append, if_neg hq]
  have := List.idxOf_lt_length_iff.2 hx
  omega
/-- What the search from block 0 gives. -/
theorem numbering {succ : Nat → List Nat} {m : Nat} (hs : ∀ x t, t ∈ succ x → t < m) (h0 : 0 < m) : ∃ S A, dfs succ m 0 (List.replicate m false, []) = ((dfs succ m 0 (List.replicate m false, [])).1, S) ∧ S = A ++ [0] ∧ S.Nodup ∧ (∀ x, x ∈ S ↔ RA succ none x) ∧ (∀ x, Mk (dfs succ m 0 (List.replicate m false, [])).1 x ↔ RA succ none x) ∧
    (∀ x, RA succ none x → x ≠ 0 → ∃ q, RA succ none q ∧ x ∈ succ q ∧ S.idxOf x < S.idxOf q) ∧ (dfs succ m 0 (List.replicate m false, [])).1.length = m := by
  have hmk : ∀ x, ¬ Mk (List.replicate m false) x := fun x h => by
    unfold Mk at h
    rw [List.getD_eq_getElem?_getD, List.getElem?_replicate] at h
    split at h <;> simp at h
  obtain ⟨S, h⟩ := dfs_went hs m 0 (List.replicate m false, []) (by simp) h0 (hmk 0) (by unfold unm; exact Nat.le_trans (List.length_filter_le _ _) (by simp))
  have hleft : (dfs succ m 0 (List.replicate m false, [])).2 = S := by have := h.left; simpa using this
  have hmem : ∀ x, Mk (dfs succ m 0 (List.replicate m false, [])).1 x ↔ x ∈ S := fun x => by
    rw [h.mem]
    exact ⟨fun hh => hh.resolve_left (hmk x), .inr⟩
  have h0S : 0 ∈ S := (hmem 0).1 (h.heads 0 (by simp))
  have hreach : ∀ x, x ∈ S ↔ RA succ none x := fun x => by
    constructor
    · exact fun hx => h.reach (RA succ none) (fun y t hy ht => .step hy ht (by simp)) (fun y hy => by simp at hy; subst hy; exact .start (by simp)) x hx
    · intro hx
      induction hx with
      | start => exact h0S
      | step _ h2 _ ih => exact (hmem _).1 (h.closed _ ih _ h2)
  have hlast : ∃ A, S = A ++ [0] := by
    cases m with
    | zero => omega
    | succ k =>
      have : S = (dfs succ (k + 1) 0 (List.replicate (k + 1) false, [])).2 := hleft.symm
      rw [this]
      exact ⟨_, rfl⟩
  obtain ⟨A, hA⟩ := hlast
  refine ⟨S, A, by rw [← hleft], hA, h.nodup, hreach, fun x => (hmem x).trans (hreach x), fun x hx hx0 => ?_, by rw [h.len]; simp⟩
  rcases h.par x ((hreach x).2 hx) with h1 | ⟨q, A', B, e, h2, h3⟩
  · simp at h1; exact absurd h1 hx0
  · refine ⟨q, (hreach q).1 (by rw [e]; simp), h3, ?_⟩
    have hn := h.nodup
    rw [e] at hn ⊢
    exact idx_app hn h2
/-! ### The meet. -/
def meetF (par : Nat → Option Nat) (post : Nat → Nat) : Nat → Nat → Nat → Nat
  | 0, a, _ => a
  | n + 1, a, b => if a = b then a else if post a < post b then meetF par post n ((par a).getD 0) b else meetF par post n a ((par b).getD 0)
theorem meetF_spec {post : Nat → Nat} {par : Nat → Option Nat} {P : Nat} (ht : Tree post par) (hinj : ∀ x y, (par x).isSome → (par y).isSome → post x = post y → x = y) (hP : ∀ x, (par x).isSome → x ≠ 0 → post x < P) (hP0 : post 0 = P) :
    ∀ (n a b : Nat), (par a).isSome → (par b).isSome → 2 * P ≤ n + post a + post b → (par (meetF par post n a b)).isSome ∧ ∀ y, Anc par (meetF par post n a b) y ↔ Anc par a y ∧ Anc par b y
  | 0, a, b, ha, hb, hn => by
    have h1 : a = 0 := by
      by_cases e : a = 0
      · exact e
      · have := hP a ha e
        by_cases e2 : b = 0
        · subst e2; omega
        · have := hP b hb e2; omega
    have h2 : b = 0 := by
      by_cases e : b = 0
      · exact e
      · have := hP b hb e; subst h1; omega
    subst h1; subst h2
    exact ⟨ha, fun y => (and_self_iff).symm⟩
  | n + 1, a, b, ha, hb, hn => by
    unfold meetF
    by_cases e : a = b
    · rw [if_pos e]; subst e; exact ⟨ha, fun y => (and_self_iff).symm⟩
    · rw [if_neg e]
      have hne : post a ≠ post b := fun e2 => e (hinj a b ha hb e2)
      by_cases hl : post a < post b
      · rw [if_pos hl]
        have ha0 : a ≠ 0 := fun e0 => by
          subst e0
          have := hP b hb (fun e2 => e e2.symm)
          omega
        obtain ⟨p, hp⟩ := Option.isSome_iff_exists.1 ha
        have hup := ht.up a p ha0 hp
        rw [hp]
        obtain ⟨i1, i2⟩ := meetF_spec ht hinj hP hP0 n p b hup.2 hb (by omega)
        exact ⟨i1, fun y => by rw [show (some p).getD 0 = p from rfl, i2]; exact (meet_step ht ha0 hp hl).symm⟩
      · rw [if_neg hl]
        have hb0 : b ≠ 0 := fun e0 => by
          subst e0
          have := hP a ha e
          omega
        obtain ⟨p, hp⟩ := Option.isSome_iff_exists.1 hb
        have hup := ht.up b p hb0 hp
        rw [hp]
        obtain ⟨i1, i2⟩ := meetF_spec ht hinj hP hP0 n a p ha hup.2 (by omega)
        refine ⟨i1, fun y => ?_⟩
        rw [show (some p).getD 0 = p from rfl, i2, and_comm, and_comm (a := Anc par a y)]
        exact (meet_step ht hb0 hp (by omega)).symm
/-- Two meets of one kind are one. -/
theorem meet_uniq {post : Nat → Nat} {par : Nat → Option Nat} (ht : Tree post par) {M N : Nat} (h : ∀ y, Anc par M y ↔ Anc par N y) : M = N := by
  have h1 := (h N).2 (.refl _)
  have h2 := (h M).1 (.refl _)
  have := h2.post_le ht
  exact h1.eq_of_post ht this
/-! ### The sum that grows. -/
def wt (post : Nat → Nat) (par : Nat → Option Nat) (x : Nat) : Nat := match par x with
  | some p => post p
  | none => 0
theorem wt_upd {post : Nat → Nat} {par : Nat → Option Nat} {b N : Nat} (ht : Tree post par) (h : par b = none ∧ 0 < post N ∨ SD par b N) (x : Nat) : wt post par x ≤ wt post (upd par b N) x ∧ (x = b → par b ≠ some N → wt post par x < wt post (upd par b N) x) := by
  unfold wt upd
  by_cases e : x = b
  · subst e
    rw [if_pos rfl]
    rcases h with ⟨h1, h2⟩ | ⟨p, h1, h2⟩
    · rw [h1]
      exact ⟨Nat.zero_le _, fun _ _ => h2⟩
    · rw [h1]
      refine ⟨h2.post_le ht, fun _ hne => ?_⟩
      have h3 := h2.post_le ht
      show post p < post N
      by_cases e2 : post p < post N
      · exact e2
      · have := h2.eq_of_post ht (by omega)
        exact absurd (by rw [this]) hne
  · rw [if_neg e]
    exact ⟨Nat.le_refl _, fun h => absurd h e⟩
def wsum (post : Nat → Nat) (par : Nat → Option Nat) : List Nat → Nat
  | [] => 0
  | x :: l => wt post par x + wsum post par l
theorem wsum_upd {post : Nat → Nat} {par : Nat → Option Nat} {b N : Nat} (ht : Tree post par) (h : par b = none ∧ 0 < post N ∨ SD par b N) : ∀ (l : List Nat), wsum post par l ≤ wsum post (upd par b N) l ∧ (b ∈ l → par b ≠ some N → wsum post par l < wsum post (upd par b N) l)
  | [] => ⟨Nat.le_refl _, by simp⟩
  | x :: l => by
    have h1 := wt_upd ht h x
    have h2 := wsum_upd ht h l
    unfold wsum
    refine ⟨by omega, fun hb hne => ?_⟩
    rcases List.mem_cons.1 hb with e | hb
    · have := h1.2 e.symm hne; omega
    · have := h2.2 hb hne; omega
theorem wsum_le {post : Nat → Nat} {par : Nat → Option Nat} {P : Nat} (hP : ∀ x, post x ≤ P) : ∀ (l : List Nat), wsum post par l ≤ P * l.length
  | [] => Nat.zero_le _
  | x :: l => by
    have h1 : wt post par x ≤ P := by
      unfold wt
      split
      · exact hP _
      · exact Nat.zero_le _
    have h2 := wsum_le (par := par) hP l
    unfold wsum
    rw [List.length_cons, Nat.mul_succ]
    omega
end Dom
end Go.Proofs.YtnbkgaofdkkdnaaDoor
