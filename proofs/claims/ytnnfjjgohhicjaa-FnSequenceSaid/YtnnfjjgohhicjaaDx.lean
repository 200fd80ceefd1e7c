/- Plain: the moves that are drawn are few and small. -/
import Derived.Test.YtnnfjjgohhicjaaDq
namespace Go.Proofs.Ytnnfjjgohhicjaa
set_option linter.unusedVariables false

def SmM (l : List Move) : Prop := ∀ m ∈ l, (-1 ≤ m.to ∧ m.to ≤ 64) ∧ -1 ≤ m.src ∧ m.src ≤ 64
theorem shufF_mem {α : Type} : ∀ (i : Nat) (s : Src) (l : List α) (x : α), x ∈ (shufF i s l).2 → x ∈ l
  | 0, _, _, _, h => h
  | i + 1, s, l, x, h => by
    rw [shufF] at h
    have h := shufF_mem i _ _ x h
    unfold swapL at h
    split at h
    · rename_i a b ha hb
      rcases List.mem_or_eq_of_mem_set h with h1 | h1
      · rcases List.mem_or_eq_of_mem_set h1 with h2 | h2
        · exact h2
        · exact h2 ▸ List.mem_of_getElem? hb
      · exact h1 ▸ List.mem_of_getElem? ha
    · exact h
theorem mvF_sm {wide lo : Int} {at_ : List Int} (hw : 1 ≤ wide ∧ wide ≤ 64) (ha : ∀ x ∈ at_, 0 ≤ x ∧ x < 64) : ∀ (r i : Nat) (s : Src) (ms : List Move), i + r ≤ 64 → SmM ms → SmM (mvF wide lo at_ r i s ms).2 ∧ (mvF wide lo at_ r i s ms).2.length = ms.length + r
  | 0, _, _, _, _, h => ⟨h, rfl⟩
  | r + 1, i, s, ms, hi, h => by
    have hg : 0 ≤ at_.getD i 0 ∧ at_.getD i 0 < 64 := by
      rw [List.getD_eq_getElem?_getD]
      cases hx : at_[i]? with
      | none => simp
      | some x => exact ha x (List.mem_of_getElem? hx)
    have hs : ∀ (f : Int), 0 ≤ f → f ≤ 64 → SmM (ms ++ [⟨at_.getD i 0, f⟩]) := fun f h0 h1 m hm => by
      rcases List.mem_append.1 hm with h2 | h2
      · exact h m h2
      · simp only [List.mem_singleton] at h2
        subst h2
        exact ⟨⟨by show -1 ≤ at_.getD i 0; omega, by show at_.getD i 0 ≤ 64; omega⟩, by show -1 ≤ f; omega, h1⟩
    have hn : ∀ s : Src, 0 ≤ nextV s wide ∧ nextV s wide ≤ 64 := fun s => by
      have := nextV_rg s wide
      have := this.2 hw.1
      omega
    have hl : ∀ x : Move, (ms ++ [x]).length + r = ms.length + (r + 1) := fun x => by simp; omega
    unfold mvF
    split
    · have := mvF_sm (lo := lo) hw ha r (i + 1) (nextS s wide) _ (by omega) (hs _ (hn s).1 (hn s).2)
      rwa [hl] at this
    · split
      · split
        · have := mvF_sm (lo := lo) hw ha r (i + 1) (nextS (nextS s 6) wide) _ (by omega) (hs _ (hn (nextS s 6)).1 (hn (nextS s 6)).2)
          rwa [hl] at this
        · have := mvF_sm (lo := lo) hw ha r (i + 1) (nextS s 6) _ (by omega) (hs i (by omega) (by omega))
          rwa [hl] at this
      · have := mvF_sm (lo := lo) hw ha r (i + 1) s _ (by omega) (hs i (by omega) (by omega))
        rwa [hl] at this
theorem sm_modify {l : List Move} {i : Nat} {f : Move → Move} (h : SmM l) (hf : ∀ m, ((-1 ≤ m.to ∧ m.to ≤ 64) ∧ -1 ≤ m.src ∧ m.src ≤ 64) → ((-1 ≤ (f m).to ∧ (f m).to ≤ 64) ∧ -1 ≤ (f m).src ∧ (f m).src ≤ 64)) : SmM (l.modify i f) := by
  intro m hm
  obtain ⟨j, hj⟩ := List.getElem?_of_mem hm
  rw [List.getElem?_modify] at hj
  cases hx : l[j]? with
  | none => rw [hx] at hj; simp at hj
  | some x =>
    rw [hx] at hj
    have h1 := h x (List.mem_of_getElem? hx)
    by_cases e : i = j
    · simp [e] at hj; subst hj; exact hf x h1
    · simp [e] at hj; subst hj; exact h1
theorem d8_sm {k : Int} {i : Nat} {s : Src} {ms : List Move} (h : SmM ms) (hl : ms.length ≤ 64) : SmM (d8 k i s ms) ∧ (d8 k i s ms).length ≤ 65 := by
  have hz := nextV_rg s 2
  have hz2 := hz.2 (by omega)
  have ht : -1 ≤ toAt ms 0 ∧ toAt ms 0 ≤ 64 := by
    unfold toAt
    cases hx : ms[0]? with
    | none => simp
    | some x => exact (h x (List.mem_of_getElem? hx)).1
  unfold d8
  split
  · exact ⟨sm_modify h fun m hm => ⟨⟨by show -1 ≤ 64 - nextV s 2; omega, by show 64 - nextV s 2 ≤ 64; omega⟩, hm.2⟩, by simp; omega⟩
  · split
    · exact ⟨sm_modify h fun m hm => ⟨hm.1, by show -1 ≤ 64 - nextV s 2; omega, by show 64 - nextV s 2 ≤ 64; omega⟩, by simp; omega⟩
    · split
      · exact ⟨sm_modify h fun m hm => ⟨ht, hm.2⟩, by simp; omega⟩
      · split
        · exact ⟨sm_modify h fun m hm => ⟨hm.1, by show (-1 : Int) ≤ -1; omega, by show (-1 : Int) ≤ 64; omega⟩, by simp; omega⟩
        · split
          · refine ⟨fun m hm => ?_, by simp; omega⟩
            rcases List.mem_append.1 hm with h1 | h1
            · exact h m h1
            · simp only [List.mem_singleton] at h1; subst h1; exact ⟨⟨by show (-1 : Int) ≤ 63; omega, by show (63 : Int) ≤ 64; omega⟩, by show (-1 : Int) ≤ 0; omega, by show (0 : Int) ≤ 64; omega⟩
          · exact ⟨h, by omega⟩
theorem d4_sm {s : Src} {n wide : Nat} (h0 : 1 ≤ n) (h1 : n ≤ wide) (h2 : wide ≤ 64) : SmM (d4 s n wide) ∧ (d4 s n wide).length ≤ 65 := by
  unfold d4 d5 d6 d7
  have ha : ∀ x ∈ (shufF (wide - 1) s (iota wide)).2, 0 ≤ x ∧ x < 64 := fun x hx => by
    have := shufF_mem _ _ _ x hx
    unfold iota at this
    obtain ⟨j, hj, rfl⟩ := List.mem_map.1 this
    have := List.mem_range.1 hj
    exact ⟨by show (0 : Int) ≤ (j : Int); omega, by show (j : Int) < 64; omega⟩
  obtain ⟨m1, m2⟩ := mvF_sm (wide := (wide : Int)) (lo := nextV (shufF (wide - 1) s (iota wide)).1 3) (by omega) ha n 0 (nextS (shufF (wide - 1) s (iota wide)).1 3) [] (by omega) (fun m hm => by simp at hm)
  refine d8_sm (fun m hm => m1 m (shufF_mem _ _ _ m hm)) ?_
  rw [shufF_len, m2]
  simp; omega
theorem drawSeq_sm (bytes : List UInt8) : SmM (drawSeq bytes) ∧ (drawSeq bytes).length ≤ 65 := by
  have hs := (srcOf_ok bytes).size
  have h1 := nextV_rg (srcOf bytes) (3 + 3 * (srcOf bytes).size)
  have h2 := h1.2 (by omega)
  unfold drawSeq d2
  generalize nextV (srcOf bytes) (3 + 3 * (srcOf bytes).size) = n0 at *
  generalize nextS (srcOf bytes) (3 + 3 * (srcOf bytes).size) = s1 at *
  have h8 := nextV_rg (nextS s1 2) 8
  have h9 := h8.2 (by omega)
  unfold d3
  split
  · split
    · exact d4_sm (by omega) (by omega) (by omega)
    · exact d4_sm (by omega) (by omega) (by omega)
  · split
    · exact d4_sm (by omega) (by omega) (by omega)
    · exact d4_sm (by omega) (by omega) (by omega)
end Go.Proofs.Ytnnfjjgohhicjaa
