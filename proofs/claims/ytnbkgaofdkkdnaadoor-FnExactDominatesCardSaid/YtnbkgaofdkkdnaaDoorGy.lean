/- Plain: what the numbering's list gives the passes. -/
import Derived.Test.YtnbkgaofdkkdnaaDoorGx
namespace Go.Proofs.YtnbkgaofdkkdnaaDoor
set_option linter.unusedVariables false

namespace Dom
theorem idx_inj {S : List Nat} {x y : Nat} (hx : x ∈ S) (h : S.idxOf x = S.idxOf y) : x = y := by
  have h1 := List.idxOf_lt_length_iff.2 hx
  have h2 : S.idxOf y < S.length := by omega
  have e1 : S[S.idxOf x]? = some x := by rw [List.getElem?_eq_getElem h1, List.getElem_idxOf]
  have e2 : S[S.idxOf y]? = some y := by rw [List.getElem?_eq_getElem h2, List.getElem_idxOf]
  rw [h, e2] at e1
  exact (Option.some.inj e1).symm
theorem idx_last {A : List Nat} (hn : (A ++ [0]).Nodup) : (A ++ [0]).idxOf 0 = A.length := by
  have : 0 ∉ A := fun h => by
    rw [List.nodup_append] at hn
    exact hn.2.2 0 h 0 (by simp) rfl
  rw [List.idxOf_append, if_neg this]; simp
theorem idx_get {S : List Nat} (hn : S.Nodup) {i x : Nat} (h : S[i]? = some x) : S.idxOf x = i := by
  obtain ⟨hi, rfl⟩ := List.getElem?_eq_some_iff.1 h
  exact hn.idxOf_getElem i hi
/-- The DFS parent, chosen. -/
theorem choose_t {succ : Nat → List Nat} {S : List Nat} {rp : Nat → List Nat} (hrp : ∀ c p, RA succ none p → c ∈ succ p → p ∈ rp c) (h : ∀ x, RA succ none x → x ≠ 0 → ∃ q, RA succ none q ∧ x ∈ succ q ∧ S.idxOf x < S.idxOf q) :
    ∃ t : Nat → Nat, ∀ c, RA succ none c → c ≠ 0 → t c ∈ rp c ∧ S.idxOf c < S.idxOf (t c) := by
  have : ∀ c, ∃ q, RA succ none c → c ≠ 0 → q ∈ rp c ∧ S.idxOf c < S.idxOf q := fun c => by
    by_cases hc : RA succ none c ∧ c ≠ 0
    · obtain ⟨q, h1, h2, h3⟩ := h c hc.1 hc.2
      exact ⟨q, fun _ _ => ⟨hrp c q h1 h2, h3⟩⟩
    · exact ⟨0, fun h1 h2 => absurd ⟨h1, h2⟩ hc⟩
  exact ⟨fun c => (this c).choose, fun c => (this c).choose_spec⟩
theorem idx_top {A : List Nat} (hn : (A ++ [0]).Nodup) {x : Nat} (hx : x ∈ A ++ [0]) (h0 : x ≠ 0) : (A ++ [0]).idxOf x < (A ++ [0]).idxOf 0 := by
  rw [idx_last hn]
  have h1 : x ∈ A := by
    rcases List.mem_append.1 hx with h | h
    · exact h
    · simp at h; exact absurd h h0
  rw [List.idxOf_append, if_pos h1]
  exact List.idxOf_lt_length_iff.2 h1
end Dom
end Go.Proofs.YtnbkgaofdkkdnaaDoor
