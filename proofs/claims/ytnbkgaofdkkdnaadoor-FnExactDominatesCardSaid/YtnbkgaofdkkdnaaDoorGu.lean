/- Plain: depths; the dominator with most dominators is the parent. -/
import Derived.Test.YtnbkgaofdkkdnaaDoorGt
namespace Go.Proofs.YtnbkgaofdkkdnaaDoor
set_option linter.unusedVariables false

namespace Dom
/-- dep counts the steps up to block 0. -/
structure Dep (par : Nat → Option Nat) (dep : Nat → Nat) : Prop where
  zero : dep 0 = 0
  up : ∀ c p, c ≠ 0 → par c = some p → dep c = dep p + 1
variable {par : Nat → Option Nat} {dep : Nat → Nat} {post : Nat → Nat}
theorem Dep.le (hd : Dep par dep) {x y : Nat} (h : Anc par x y) : dep y ≤ dep x := by
  induction h with
  | refl => exact Nat.le_refl _
  | up h0 h1 _ ih => have := hd.up _ _ h0 h1; omega
theorem Dep.eq (hd : Dep par dep) {x y : Nat} (h : Anc par x y) (e : dep x ≤ dep y) : x = y := by
  cases h with
  | refl => rfl
  | up h0 h1 h2 => have := hd.up _ _ h0 h1; have := hd.le h2; omega
/-- A step of 'dominates': the deeper block goes up. -/
theorem Dep.step (hd : Dep par dep) {a b p : Nat} (hb : b ≠ 0) (hp : par b = some p) (hl : dep a < dep b) : Anc par b a ↔ Anc par p a := by
  rw [anc_iff hb]
  constructor
  · rintro (e | ⟨q, h1, h2⟩)
    · subst e; omega
    · rw [hp] at h1; obtain rfl := Option.some.inj h1; exact h2
  · intro h
    exact .inr ⟨p, hp, h⟩
theorem Dep.stop (hd : Dep par dep) {a b : Nat} (hl : dep b ≤ dep a) : Anc par b a ↔ b = a :=
  ⟨fun h => hd.eq h hl, fun e => e ▸ .refl _⟩
theorem filter_one' {p q : Nat → Bool} {a : Nat} : ∀ {l : List Nat}, l.Nodup → a ∈ l → p a = true → q a = false → (∀ r, r ≠ a → p r = q r) → (l.filter p).length = (l.filter q).length + 1
  | [], _, ha, _, _, _ => by simp at ha
  | b :: l, hn, ha, hp, hq, h => by
    rw [List.nodup_cons] at hn
    by_cases e : b = a
    · subst e
      rw [List.filter_cons_of_pos hp, List.filter_cons_of_neg (by simp [hq]), List.length_cons]
      congr 1
      rw [List.filter_congr fun r hr => h r fun e => hn.1 (by rw [← e]; exact hr)]
    · have ha' : a ∈ l := by
        rcases List.mem_cons.1 ha with h1 | h1
        · exact absurd h1.symm e
        · exact h1
      have ih := filter_one' hn.2 ha' hp hq h
      rw [List.filter_cons, List.filter_cons, h b e]
      split
      · rw [List.length_cons, List.length_cons, ih]
      · exact ih
/-- As many dominators as the depth says, and the block itself. -/
theorem count_doms (ht : Tree post par) (hd : Dep par dep) {m : Nat} (hm : ∀ x, (par x).isSome → x < m) (dom : Nat → Nat → Bool) (hdom : ∀ c a, (par c).isSome → (dom c a = true ↔ Anc par c a)) : ∀ (n c : Nat), dep c ≤ n → (par c).isSome → ((List.range m).filter fun a => dom c a).length = dep c + 1 := by
  intro n
  induction n with
  | zero =>
    intro c hn hc
    have hc0 : c = 0 := by
      by_cases e : c = 0
      · exact e
      · obtain ⟨p, hp⟩ := Option.isSome_iff_exists.1 hc
        have := hd.up c p e hp
        omega
    subst hc0
    rw [filter_one' (q := fun _ => false) (a := 0) List.nodup_range (List.mem_range.2 (hm 0 hc)) ((hdom 0 0 hc).2 (.refl _)) rfl fun r hr => ?_, List.filter_eq_nil_iff.2 (by simp), hd.zero]
    · rfl
    · cases e : dom 0 r with
      | false => rfl
      | true =>
        have := (hdom 0 r hc).1 e
        cases this with
        | refl => exact absurd rfl hr
        | up h1 => exact absurd rfl h1
  | succ n ih =>
    intro c hn hc
    by_cases hc0 : c = 0
    · subst hc0
      exact ih 0 (by rw [hd.zero]; omega) hc
    · obtain ⟨p, hp⟩ := Option.isSome_iff_exists.1 hc
      have h1 := hd.up c p hc0 hp
      have hpk := (ht.up c p hc0 hp).2
      rw [h1, ← ih p (by omega) hpk]
      refine filter_one' (a := c) List.nodup_range (List.mem_range.2 (hm c hc)) ((hdom c c hc).2 (.refl _)) ?_ fun r hr => ?_
      · cases e : dom p c with
        | false => rfl
        | true =>
          have := hd.le ((hdom p c hpk).1 e)
          omega
      · rw [Bool.eq_iff_iff, hdom c r hc, hdom p r hpk, anc_iff hc0]
        constructor
        · rintro (e | ⟨q, h2, h3⟩)
          · exact absurd e.symm hr
          · rw [hp] at h2; obtain rfl := Option.some.inj h2; exact h3
        · intro h
          exact .inr ⟨p, hp, h⟩
/-- The scan for the dominator with most dominators (l2Idoms): of a list, the first with the greatest count. -/
def lessD (cnt : Nat → Nat) (a : Nat) : Option Nat → Bool
  | none => true
  | some x => decide (cnt x < cnt a)
def bestD (cnt : Nat → Nat) (b : Nat) : List Nat → Option Nat → Option Nat
  | [], o => o
  | a :: l, o => bestD cnt b l (if a ≠ b ∧ lessD cnt a o = true then some a else o)
theorem bestD_snoc (cnt : Nat → Nat) (b a : Nat) : ∀ (l : List Nat) (o : Option Nat), bestD cnt b (l ++ [a]) o = if a ≠ b ∧ lessD cnt a (bestD cnt b l o) = true then some a else bestD cnt b l o
  | [], o => rfl
  | c :: l, o => by rw [List.cons_append, bestD, bestD_snoc cnt b a l]; rfl
theorem bestD_is {cnt : Nat → Nat} {b : Nat} : ∀ {l : List Nat} {o : Option Nat} {P : Nat}, (∀ a ∈ l, a ≠ b → a = P ∨ cnt a < cnt P) → (o = some P ∨ ((∀ x, o = some x → cnt x < cnt P) ∧ P ∈ l)) → P ≠ b → bestD cnt b l o = some P
  | [], o, P, _, h, _ => by
    rcases h with h | ⟨_, h⟩
    · exact h
    · simp at h
  | a :: l, o, P, hl, h, hPb => by
    rw [bestD]
    refine bestD_is (fun x hx => hl x (by simp [hx])) ?_ hPb
    rcases h with h | ⟨h1, h2⟩
    · left
      subst h
      rw [if_neg]
      · rintro ⟨k1, k2⟩
        have := hl a (by simp) k1
        simp [lessD] at k2
        rcases this with e | e
        · subst e; omega
        · omega
    · by_cases e : a = P
      · left
        subst e
        rw [if_pos]
        refine ⟨hPb, ?_⟩
        cases o with
        | none => rfl
        | some x => exact decide_eq_true (h1 x rfl)
      · right
        refine ⟨fun x hx => ?_, (List.mem_cons.1 h2).resolve_left fun e2 => e e2.symm⟩
        split at hx
        · rename_i hc
          obtain rfl := Option.some.inj hx
          exact (hl a (by simp) hc.1).resolve_left e
        · exact h1 x hx
end Dom
end Go.Proofs.YtnbkgaofdkkdnaaDoor
