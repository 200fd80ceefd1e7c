/- Plain: preorder of the dominator tree. -/
import Derived.Test.YtnbkgaofdkkdnaaDoorGu
namespace Go.Proofs.YtnbkgaofdkkdnaaDoor
set_option linter.unusedVariables false

namespace Dom
/-- Block b and all below it, n steps deep (spec.l2Preorder; impl's visit with fuel). -/
def pre (kids : Nat → List Nat) : Nat → Nat → List Nat
  | 0, b => [b]
  | n + 1, b => b :: (kids b).flatMap (pre kids n)
theorem pre_more {kids : Nat → List Nat} {dep : Nat → Nat} {m : Nat} (hk : ∀ b c, c ∈ kids b → dep c = dep b + 1 ∧ dep c < m) : ∀ (n b : Nat), m ≤ n + dep b + 1 → pre kids (n + 1) b = pre kids n b
  | 0, b, h => by
    have : kids b = [] := by
      cases hb : kids b with
      | nil => rfl
      | cons c l =>
        have := hk b c (by rw [hb]; simp)
        omega
    show b :: (kids b).flatMap (pre kids 0) = [b]
    rw [this]; rfl
  | n + 1, b, h => by
    show b :: (kids b).flatMap (pre kids (n + 1)) = b :: (kids b).flatMap (pre kids n)
    congr 1
    have : ∀ l : List Nat, (∀ c ∈ l, c ∈ kids b) → l.flatMap (pre kids (n + 1)) = l.flatMap (pre kids n) := by
      intro l
      induction l with
      | nil => intro _; rfl
      | cons c l ih =>
        intro hl
        have h1 := hk b c (hl c (by simp))
        rw [List.flatMap_cons, List.flatMap_cons, pre_more hk n c (by omega), ih fun x hx => hl x (by simp [hx])]
    exact this _ fun c hc => hc
theorem pre_enough {kids : Nat → List Nat} {dep : Nat → Nat} {m : Nat} (hk : ∀ b c, c ∈ kids b → dep c = dep b + 1 ∧ dep c < m) (b n : Nat) (h : m ≤ n + dep b + 1) : ∀ d, pre kids (n + d) b = pre kids n b
  | 0 => rfl
  | d + 1 => by rw [← Nat.add_assoc, pre_more hk (n + d) b (by omega), pre_enough hk b n h d]
/-- The children of b, ascending. -/
def kidsOf (m : Nat) (par : Nat → Option Nat) (b : Nat) : List Nat := (List.range m).filter fun c => decide (c ≠ 0 ∧ par c = some b)
theorem kids_dep {m : Nat} {par : Nat → Option Nat} {dep : Nat → Nat} (hd : Dep par dep) (hm : ∀ c, (par c).isSome → dep c < m) (b c : Nat) (h : c ∈ kidsOf m par b) : dep c = dep b + 1 ∧ dep c < m := by
  have h1 := (List.mem_filter.1 h).2
  simp at h1
  exact ⟨hd.up c b h1.1 h1.2, hm c (by rw [h1.2]; rfl)⟩
/-- Depths there are. -/
def depF (par : Nat → Option Nat) : Nat → Nat → Nat
  | 0, _ => 0
  | n + 1, x => if x = 0 then 0 else match par x with
    | some p => depF par n p + 1
    | none => 0
theorem depF_more {par : Nat → Option Nat} {post : Nat → Nat} {P : Nat} (ht : Tree post par) (hP : ∀ x, x ≠ 0 → (par x).isSome → post x < P) : ∀ (n x : Nat), (par x).isSome → P ≤ n + post x → depF par (n + 1) x = depF par n x
  | 0, x, hx, h => by
    have : x = 0 := by
      by_cases e : x = 0
      · exact e
      · have := hP x e hx; omega
    subst this
    rfl
  | n + 1, x, hx, h => by
    rw [depF]
    conv => rhs; rw [depF]
    by_cases e : x = 0
    · rw [if_pos e, if_pos e]
    · rw [if_neg e, if_neg e]
      obtain ⟨p, hp⟩ := Option.isSome_iff_exists.1 hx
      have h1 := ht.up x p e hp
      rw [hp]
      show depF par (n + 1) p + 1 = depF par n p + 1
      rw [depF_more ht hP n p h1.2 (by omega)]
theorem dep_of {par : Nat → Option Nat} {post : Nat → Nat} {P : Nat} (ht : Tree post par) (hP : ∀ x, x ≠ 0 → (par x).isSome → post x < P) : Dep par (depF par P) := by
  refine ⟨by cases P <;> rfl, fun c p hc hp => ?_⟩
  have hck : (par c).isSome := by rw [hp]; rfl
  have h1 := hP c hc hck
  have h2 := ht.up c p hc hp
  obtain ⟨Q, rfl⟩ : ∃ Q, P = Q + 1 := ⟨P - 1, by omega⟩
  have h3 : depF par (Q + 1) c = depF par Q p + 1 := by
    rw [depF, if_neg hc, hp]
  rw [h3, depF_more ht hP Q p h2.2 (by omega)]
end Dom
end Go.Proofs.YtnbkgaofdkkdnaaDoor
