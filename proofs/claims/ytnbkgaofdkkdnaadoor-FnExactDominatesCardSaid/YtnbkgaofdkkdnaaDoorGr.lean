/- Plain: a search that numbers blocks in postorder. -/
import Derived.Test.YtnbkgaofdkkdnaaDoorGq
namespace Go.Proofs.YtnbkgaofdkkdnaaDoor
set_option linter.unusedVariables false

namespace Dom
/-- The search: marks, then those that were left, in the order of leaving. -/
def dfs (succ : Nat → List Nat) : Nat → Nat → List Bool × List Nat → List Bool × List Nat
  | 0, _, s => s
  | n + 1, b, s =>
    let s2 := (succ b).foldl (fun s t => if s.1.getD t false then s else dfs succ n t s) (s.1.set b true, s.2)
    (s2.1, s2.2 ++ [b])
def unm (R : List Bool) : Nat := (R.filter fun b => !b).length
def Mk (R : List Bool) (x : Nat) : Prop := R.getD x false = true
theorem mk_lt {R : List Bool} {x : Nat} (h : Mk R x) : x < R.length := by
  unfold Mk at h
  rw [List.getD_eq_getElem?_getD] at h
  by_cases hx : x < R.length
  · exact hx
  · rw [List.getElem?_eq_none (by omega)] at h; simp at h
theorem mk_set {R : List Bool} {b x : Nat} (hb : b < R.length) : Mk (R.set b true) x ↔ x = b ∨ Mk R x := by
  unfold Mk
  rw [List.getD_eq_getElem?_getD, List.getD_eq_getElem?_getD, List.getElem?_set]
  by_cases e : b = x
  · subst e; simp [hb]
  · rw [if_neg e]
    constructor
    · exact .inr
    · rintro (h | h)
      · exact absurd h.symm e
      · exact h
theorem unm_set : ∀ {R : List Bool} {b : Nat}, b < R.length → ¬ Mk R b → unm (R.set b true) + 1 = unm R
  | [], b, h, _ => by simp at h
  | c :: R, 0, _, h => by
    have : c = false := by simpa [Mk] using h
    subst this
    simp [unm]
  | c :: R, b + 1, hb, h => by
    have ih := unm_set (R := R) (b := b) (by simpa using hb) (by simpa [Mk] using h)
    unfold unm at *
    rw [List.set_cons_succ]
    cases c with
    | true => rw [List.filter_cons_of_neg (by simp), List.filter_cons_of_neg (by simp)]; exact ih
    | false => rw [List.filter_cons_of_pos (by simp), List.filter_cons_of_pos (by simp), List.length_cons, List.length_cons]; omega
/-- How a search goes on from s to s': S was left, H are its heads. -/
structure Went (succ : Nat → List Nat) (H : List Nat) (s s' : List Bool × List Nat) (S : List Nat) : Prop where
  len : s'.1.length = s.1.length
  left : s'.2 = s.2 ++ S
  nodup : S.Nodup
  mem : ∀ x, Mk s'.1 x ↔ Mk s.1 x ∨ x ∈ S
  new : ∀ x ∈ S, ¬ Mk s.1 x
  closed : ∀ x ∈ S, ∀ t ∈ succ x, Mk s'.1 t
  par : ∀ x ∈ S, x ∈ H ∨ ∃ q A B, S = A ++ q :: B ∧ x ∈ A ∧ x ∈ succ q
  reach : ∀ P : Nat → Prop, (∀ x t, P x → t ∈ succ x → P t) → (∀ h ∈ H, P h) → ∀ x ∈ S, P x
  unm : unm s'.1 ≤ unm s.1
  heads : ∀ h ∈ H, Mk s'.1 h
theorem Went.refl (succ : Nat → List Nat) (s : List Bool × List Nat) : Went succ [] s s [] :=
  ⟨rfl, by simp, by simp, by simp, by simp, by simp, by simp, by simp, Nat.le_refl _, by simp⟩
theorem Went.trans {succ : Nat → List Nat} {H1 H2 : List Nat} {s1 s2 s3 : List Bool × List Nat} {S1 S2 : List Nat} (h : Went succ H1 s1 s2 S1) (k : Went succ H2 s2 s3 S2) : Went succ (H1 ++ H2) s1 s3 (S1 ++ S2) := by
  refine ⟨k.len.trans h.len, by rw [k.left, h.left, List.append_assoc], ?_, fun x => ?_, fun x hx => ?_, fun x hx t ht => ?_, fun x hx => ?_, fun P hP hH x hx => ?_, Nat.le_trans k.unm h.unm, fun x hx => ?_⟩
  · rw [List.nodup_append]
    refine ⟨h.nodup, k.nodup, fun a ha b hb e => ?_⟩
    subst e
    exact k.new a hb ((h.mem a).2 (.inr ha))
  · rw [k.mem, h.mem, List.mem_append, or_assoc]
  · rcases List.mem_append.1 hx with h1 | h1
    · exact h.new x h1
    · exact fun hm => k.new x h1 ((h.mem x).2 (.inl hm))
  · rcases List.mem_append.1 hx with h1 | h1
    · exact (k.mem t).2 (.inl (h.closed x h1 t ht))
    · exact k.closed x h1 t ht
  · rcases List.mem_append.1 hx with h1 | h1
    · rcases h.par x h1 with h2 | ⟨q, A, B, e, h2, h3⟩
      · exact .inl (by simp [h2])
      · exact .inr ⟨q, A, B ++ S2, by rw [e]; simp, h2, h3⟩
    · rcases k.par x h1 with h2 | ⟨q, A, B, e, h2, h3⟩
      · exact .inl (by simp [h2])
      · exact .inr ⟨q, S1 ++ A, B, by rw [e]; simp, by simp [h2], h3⟩
  · rcases List.mem_append.1 hx with h1 | h1
    · exact h.reach P hP (fun y hy => hH y (by simp [hy])) x h1
    · exact k.reach P hP (fun y hy => hH y (by simp [hy])) x h1
  · rcases List.mem_append.1 hx with h1 | h1
    · exact (k.mem x).2 (.inl (h.heads x h1))
    · exact k.heads x h1
/-- One block's search, given what the searches of its followers do. -/
theorem went_visit {succ : Nat → List Nat} {s s2 : List Bool × List Nat} {b : Nat} {H S : List Nat} (hb : b < s.1.length) (hn : ¬ Mk s.1 b) (hH : ∀ x ∈ H, x ∈ succ b) (h : Went succ H (s.1.set b true, s.2) s2 S) (hall : ∀ t ∈ succ b, Mk s2.1 t) :
    Went succ [b] s (s2.1, s2.2 ++ [b]) (S ++ [b]) := by
  have hm := fun x => mk_set (R := s.1) (b := b) (x := x) hb
  have hbS : b ∉ S := fun hx => h.new b hx ((hm b).2 (.inl rfl))
  have hu := unm_set hb hn
  refine ⟨by rw [h.len]; simp, by rw [h.left]; simp, ?_, fun x => ?_, fun x hx => ?_, fun x hx t ht => ?_, fun x hx => ?_, fun P hP hHb x hx => ?_, by have := h.unm; simp only at *; omega, fun x hx => ?_⟩
  · rw [List.nodup_append]
    refine ⟨h.nodup, by simp, fun a ha c hc e => ?_⟩
    simp at hc
    subst hc
    subst e
    exact hbS ha
  · show Mk s2.1 x ↔ _
    rw [h.mem, List.mem_append, List.mem_singleton]
    show Mk (s.1.set b true) x ∨ x ∈ S ↔ _
    rw [hm]
    constructor
    · rintro ((h1 | h1) | h1)
      · exact .inr (.inr h1)
      · exact .inl h1
      · exact .inr (.inl h1)
    · rintro (h1 | h1 | h1)
      · exact .inl (.inr h1)
      · exact .inr h1
      · exact .inl (.inl h1)
  · rcases List.mem_append.1 hx with h1 | h1
    · exact fun h2 => h.new x h1 ((hm x).2 (.inr h2))
    · simp at h1; subst h1; exact hn
  · rcases List.mem_append.1 hx with h1 | h1
    · exact h.closed x h1 t ht
    · simp at h1; subst h1; exact hall t ht
  · rcases List.mem_append.1 hx with h1 | h1
    · rcases h.par x h1 with h2 | ⟨q, A, B, e, h2, h3⟩
      · exact .inr ⟨b, S, [], rfl, h1, hH x h2⟩
      · exact .inr ⟨q, A, B ++ [b], by rw [e]; simp, h2, h3⟩
    · exact .inl h1
  · have hPb : P b := hHb b (by simp)
    rcases List.mem_append.1 hx with h1 | h1
    · exact h.reach P hP (fun y hy => hP b y hPb (hH y hy)) x h1
    · simp at h1; subst h1; exact hPb
  · simp at hx
    subst hx
    exact (h.mem x).2 (.inl ((hm x).2 (.inl rfl)))
theorem dfs_went {succ : Nat → List Nat} {m : Nat} (hs : ∀ x t, t ∈ succ x → t < m) : ∀ (n b : Nat) (s : List Bool × List Nat), s.1.length = m → b < m → ¬ Mk s.1 b → unm s.1 ≤ n → ∃ S, Went succ [b] s (dfs succ n b s) S
  | 0, b, s, hl, hb, hn, hu => by
    have := unm_set (R := s.1) (b := b) (by omega) hn
    omega
  | n + 1, b, s, hl, hb, hn, hu => by
    have hu1 := unm_set (R := s.1) (b := b) (by omega) hn
    have key : ∀ (ts : List Nat) (s1 : List Bool × List Nat), (∀ t ∈ ts, t < m) → s1.1.length = m → unm s1.1 ≤ n → ∃ H S, (∀ x ∈ H, x ∈ ts) ∧ Went succ H s1 (ts.foldl (fun s t => if s.1.getD t false then s else dfs succ n t s) s1) S ∧ ∀ t ∈ ts, Mk (ts.foldl (fun s t => if s.1.getD t false then s else dfs succ n t s) s1).1 t := by
      intro ts
      induction ts with
      | nil => intro s1 _ _ _; exact ⟨[], [], by simp, Went.refl _ _, by simp⟩
      | cons t ts ih =>
        intro s1 ht hl1 hu1
        rw [List.foldl_cons]
        by_cases hm : s1.1.getD t false = true
        · rw [if_pos hm]
          obtain ⟨H, S, h1, h2, h3⟩ := ih s1 (fun x hx => ht x (by simp [hx])) hl1 hu1
          refine ⟨H, S, fun x hx => by simp [h1 x hx], h2, fun x hx => ?_⟩
          rcases List.mem_cons.1 hx with e | hx
          · rw [e]; exact (h2.mem t).2 (.inl hm)
          · exact h3 x hx
        · rw [if_neg hm]
          obtain ⟨S0, h0⟩ := dfs_went hs n t s1 hl1 (ht t (by simp)) hm hu1
          obtain ⟨H, S, h1, h2, h3⟩ := ih _ (fun x hx => ht x (by simp [hx])) (h0.len.trans hl1) (Nat.le_trans h0.unm hu1)
          refine ⟨[t] ++ H, S0 ++ S, fun x hx => ?_, h0.trans h2, fun x hx => ?_⟩
          · rcases List.mem_append.1 hx with hx | hx
            · simp at hx; simp [hx]
            · simp [h1 x hx]
          · rcases List.mem_cons.1 hx with e | hx
            · rw [e]
              exact (h2.mem t).2 (.inl (h0.heads t (by simp)))
            · exact h3 x hx
    obtain ⟨H, S, h1, h2, h3⟩ := key (succ b) (s.1.set b true, s.2) (fun t ht => hs b t ht) (by simpa using hl) (by show unm (s.1.set b true) ≤ n; omega)
    exact ⟨S ++ [b], went_visit (by omega) hn h1 h2 h3⟩
end Dom
end Go.Proofs.YtnbkgaofdkkdnaaDoor
