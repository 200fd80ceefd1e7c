/- Plain: valid moves, the copies of a list of moves. -/
import Derived.Test.YtnnfjjgohhicjaaPq
namespace Go.Proofs.Ytnnfjjgohhicjaa
set_option linter.unusedVariables false

def InRg (m : Move) : Prop := (0 ≤ m.to ∧ m.to < 64) ∧ 0 ≤ m.src ∧ m.src < 64
def GoodP (l : List Move) : Prop := (∀ m ∈ l, InRg m) ∧ DistTo l
def okM (ms : List Move) : Prop := ms.length ≤ 64 ∧ GoodP ms
instance (m : Move) : Decidable (InRg m) := by unfold InRg; exact inferInstance
instance (ms : List Move) : Decidable (okM ms) := by unfold okM GoodP DistTo; exact inferInstance
def live (ms : List Move) : List Move := ms.filter fun m => decide (m.to ≠ m.src)
def seqF (ms : List Move) : List Instr := if okM ms then emitS (2 * (live ms).length) (live ms) else []
theorem goodP_nil : GoodP [] := ⟨by simp, by simp [DistTo]⟩
theorem goodP_snoc {l : List Move} {x : Move} (h : GoodP l) (hx : InRg x) (hd : ∀ m ∈ l, m.to ≠ x.to) : GoodP (l ++ [x]) := by
  refine ⟨fun m hm => ?_, ?_⟩
  · rcases List.mem_append.1 hm with h1 | h1
    · exact h.1 m h1
    · simp at h1; subst h1; exact hx
  · unfold DistTo
    rw [List.pairwise_append]
    exact ⟨h.2, by simp, fun a ha b hb => by simp at hb; subst hb; exact hd a ha⟩
theorem not_okM_rg {ms : List Move} {i : Nat} {x : Move} (h : ms[i]? = some x) (hx : ¬ InRg x) : ¬ okM ms := fun h2 => hx (h2.2.1 x (List.mem_of_getElem? h))
theorem not_okM_eq {ms : List Move} {i j : Nat} {x y : Move} (hij : j < i) (h : ms[i]? = some x) (h2 : ms[j]? = some y) (he : y.to = x.to) : ¬ okM ms := fun h3 => by
  have h4 := h3.2.2
  unfold DistTo at h4
  rw [List.pairwise_iff_getElem] at h4
  obtain ⟨hi, rfl⟩ := List.getElem?_eq_some_iff.1 h
  obtain ⟨hj, rfl⟩ := List.getElem?_eq_some_iff.1 h2
  exact h4 j i hj hi hij he
theorem live_len (ms : List Move) : (live ms).length ≤ ms.length := List.length_filter_le _ _
theorem filter_snoc {α : Type} {xs : List α} {k : Nat} {x : α} (p : α → Bool) (h : xs[k]? = some x) : (xs.take (k + 1)).filter p = (xs.take k).filter p ++ if p x then [x] else [] := by
  rw [List.take_add_one, h, List.filter_append]
  congr 1
  simp [List.filter_cons]
theorem erase_snoc {α : Type} {xs : List α} {k : Nat} {x : α} (i : Nat) (h : xs[k]? = some x) : (xs.take (k + 1)).eraseIdx i = (xs.take k).eraseIdx i ++ if k = i then [] else [x] := by
  have hl : (xs.take k).length = k := List.length_take_of_le (Nat.le_of_lt (List.getElem?_eq_some_iff.1 h).1)
  rw [List.take_add_one, h, Option.toList_some]
  by_cases he : k = i
  · subst he
    rw [if_pos rfl, List.append_nil, List.eraseIdx_append_of_length_le (by omega), hl, Nat.sub_self, List.eraseIdx_of_length_le (l := xs.take k) (by omega)]
    simp
  · rw [if_neg he]
    by_cases h2 : i < k
    · rw [List.eraseIdx_append_of_lt_length (by omega)]
    · rw [List.eraseIdx_append_of_length_le (by omega), hl, List.eraseIdx_of_length_le (l := xs.take k) (by omega), List.eraseIdx_of_length_le (by simp; omega)]
end Go.Proofs.Ytnnfjjgohhicjaa
