/- Plain: counting what is read, striking a source, as a range over the map goes on; the first move that nothing reads. -/
import Derived.Test.YtnnfjjgohhicjaaQm
import Derived.Test.YtnnfjjgohhicjaaQi
namespace Go.Proofs.Ytnnfjjgohhicjaa
open Go.Maps
set_option linter.unusedVariables false
set_option linter.unusedSimpArgs false

theorem seqI_len : ∀ (n : Nat) (L : List Move), (seqI n L).length ≤ n
  | 0, _ => Nat.le_refl _
  | _ + 1, [] => by simp [seqI]
  | n + 1, h :: t => by
    rw [seqI]
    split
    · rename_i m hm; have := seqI_len n ((h :: t).filter fun x => decide (x.to ≠ m.to)); rw [List.length_cons]; omega
    · have := seqI_len n ((h :: t).map (scr h.to)); rw [List.length_cons]; omega
theorem seqM_len (L : List Move) : (seqM L).length ≤ 2 * L.length := Nat.le_trans (seqI_len _ _) (mu_le L)
/-- How many of the moves that have come read x. -/
def cntS (L : List Move) (left : Lit → Bool) (x : Int) : Int := ((L.filter fun m => !left (li m.to) && decide (m.src = x)).length : Int)
theorem cntS_le (L : List Move) (left : Lit → Bool) (x : Int) : 0 ≤ cntS L left x ∧ cntS L left x ≤ L.length := by
  have := List.length_filter_le (fun m : Move => !left (li m.to) && decide (m.src = x)) L
  unfold cntS; omega
theorem has_self {L : List Move} {m : Move} (hm : m ∈ L) : Maps.has (mapD L) (li m.to) = true := by
  rw [has_mapD, List.any_eq_true]; exact ⟨m, hm, by simp⟩
theorem cntS_start (L : List Move) (x : Int) : cntS L (Maps.has (mapD L)) x = 0 := by
  unfold cntS
  rw [show L.filter (fun m => !Maps.has (mapD L) (li m.to) && decide (m.src = x)) = [] from List.filter_eq_nil_iff.2 fun m hm => by simp [has_self hm]]
  rfl
theorem cntS_step : ∀ {L : List Move}, DistTo L → ∀ {left : Lit → Bool} {k c : Int}, left (li k) = true → (⟨k, c⟩ : Move) ∈ L → ∀ x, cntS L (fun z => left z && !z.sameKey (li k)) x = cntS L left x + if c = x then 1 else 0
  | [], _, _, _, _, _, hm, _ => by cases hm
  | y :: r, hd, left, k, c, hl, hm, x => by
    unfold DistTo at hd
    rw [List.pairwise_cons] at hd
    rcases List.mem_cons.1 hm with rfl | hm
    · have h1 : r.filter (fun m => !(left (li m.to) && !(li m.to).sameKey (li k)) && decide (m.src = x)) = r.filter fun m => !left (li m.to) && decide (m.src = x) := List.filter_congr fun m hm => by
        have := hd.1 m hm; rw [sameKey_li]; simp at this; simp [show ¬ m.to = k from fun e => this e.symm]
      unfold cntS
      by_cases hc : c = x
      · rw [List.filter_cons_of_pos (by simp [sameKey_li, hc]), List.filter_cons_of_neg (by simp [hl]), h1, List.length_cons, if_pos hc]; omega
      · rw [List.filter_cons_of_neg (by simp [hc]), List.filter_cons_of_neg (by simp [hl]), h1, if_neg hc]; omega
    · have hne : y.to ≠ k := hd.1 _ hm
      have ih := cntS_step hd.2 hl hm x
      have e1 : (!(left (li y.to) && !(li y.to).sameKey (li k)) && decide (y.src = x)) = (!left (li y.to) && decide (y.src = x)) := by rw [sameKey_li]; simp [hne]
      unfold cntS at *
      dsimp only at ih ⊢
      cases hy : (!left (li y.to) && decide (y.src = x))
      · rw [List.filter_cons_of_neg (by rw [e1, hy]; simp), List.filter_cons_of_neg (by rw [hy]; simp)]; exact ih
      · rw [List.filter_cons_of_pos (by rw [e1, hy]), List.filter_cons_of_pos (by rw [hy]), List.length_cons, List.length_cons, Int.natCast_add, Int.natCast_add, ih]; omega
theorem cntS_end {L : List Move} {left : Lit → Bool} (hl : ∀ kl, left kl = false) (x : Int) : (0 < cntS L left x) ↔ isSrc L x = true := by
  unfold cntS isSrc
  rw [List.any_eq_true]
  constructor
  · intro h
    obtain ⟨m, hm⟩ := List.exists_mem_of_length_pos (l := L.filter fun m => !left (li m.to) && decide (m.src = x)) (by omega)
    obtain ⟨h1, h2⟩ := List.mem_filter.1 hm
    exact ⟨m, h1, by simp at h2; simp [h2.2]⟩
  · rintro ⟨m, hm, h2⟩
    have : 0 < (L.filter fun m => !left (li m.to) && decide (m.src = x)).length := List.length_pos_of_mem (a := m) (List.mem_filter.2 ⟨hm, by simp [hl]; simpa using h2⟩)
    omega
/-- What the map of counts reads as. -/
def RdOK (Dr : DataW Unit) (L : List Move) (left : Lit → Bool) : Prop := Maps.IsMap Dr ∧ ∀ x, Dr.atKey (li x) (.lit (li 0)) = .lit (li (cntS L left x))
theorem rd_start (L : List Move) : RdOK (.map []) L (Maps.has (mapD L)) := ⟨⟨[], rfl⟩, fun x => by rw [cntS_start]; rfl⟩
theorem rd_step {Dr : DataW Unit} {L : List Move} (hs : Srt L) {left : Lit → Bool} {k c : Int} (h : RdOK Dr L left) (hl : left (li k) = true) (hm : (⟨k, c⟩ : Move) ∈ L) (hk : WideAt.IsKeyLit (li c)) :
    RdOK (Dr.put (li c) (.lit (li (cntS L left c + 1)))) L (fun z => left z && !z.sameKey (li k)) := by
  refine ⟨h.1.put _ _, fun x => ?_⟩
  rw [cntS_step (srt_dist hs) hl hm]
  by_cases hx : c = x
  · subst hx
    rw [Maps.atKey_put_same h.1 hk, if_pos rfl]
  · rw [Maps.atKey_put_other (by intro e; injection e with _ e; exact hx e.symm), h.2 x, if_neg hx, Int.add_zero]
/-- The moves while the source r is struck. -/
def scrP (L : List Move) (left : Lit → Bool) (r : Int) : List Move := L.map fun m => if left (li m.to) then m else scr r m
theorem scrP_srt {L : List Move} (hs : Srt L) (left : Lit → Bool) (r : Int) : Srt (scrP L left r) := by
  unfold Srt scrP
  rw [List.pairwise_map]
  refine List.Pairwise.imp (fun h => ?_) hs
  have e : ∀ m : Move, (if left (li m.to) then m else scr r m).to = m.to := fun m => by split <;> simp [scr_to]
  rw [e, e]; exact h
theorem scrP_start (L : List Move) (r : Int) : scrP L (Maps.has (mapD L)) r = L := by
  unfold scrP
  conv => rhs; rw [← List.map_id L]
  exact List.map_congr_left fun m hm => by rw [if_pos (has_self hm)]; rfl
theorem scrP_end {L : List Move} {left : Lit → Bool} (hl : ∀ kl, left kl = false) (r : Int) : scrP L left r = L.map (scr r) := List.map_congr_left fun m _ => by simp [hl]
theorem scrP_mem {L : List Move} {left : Lit → Bool} {r k c : Int} (hl : left (li k) = true) (hm : (⟨k, c⟩ : Move) ∈ scrP L left r) : (⟨k, c⟩ : Move) ∈ L := by
  obtain ⟨m, h1, h2⟩ := List.mem_map.1 hm
  have hk : m.to = k := by
    have := congrArg Move.to h2
    simp only at this
    split at this
    · exact this
    · rw [scr_to] at this; exact this
  rw [hk, hl, if_pos rfl] at h2
  rw [← h2]; exact h1
theorem scrP_hit {L : List Move} (hs : Srt L) {left : Lit → Bool} {r k : Int} (hl : left (li k) = true) (hm : (⟨k, r⟩ : Move) ∈ scrP L left r) : (mapD (scrP L left r)).put (li k) (.lit (li (-1))) = mapD (scrP L (fun z => left z && !z.sameKey (li k)) r) := by
  have hm0 := scrP_mem hl hm
  rw [put_there (m := ⟨k, r⟩) (scrP_srt hs left r) hm]
  congr 1
  unfold scrP
  rw [List.map_map]
  refine List.map_congr_left fun m hmL => ?_
  have e : (if left (li m.to) then m else scr r m).to = m.to := by split <;> simp [scr_to]
  simp only [Function.comp_apply, e, sameKey_li]
  by_cases hk : m.to = k
  · have : m = ⟨k, r⟩ := srt_inj hs m hmL _ hm0 hk
    subst this
    simp [scr]
  · simp [hk]
theorem scrP_miss {L : List Move} (hs : Srt L) {left : Lit → Bool} {r k c : Int} (hl : left (li k) = true) (hm : (⟨k, c⟩ : Move) ∈ scrP L left r) (hc : c ≠ r) : scrP L left r = scrP L (fun z => left z && !z.sameKey (li k)) r := by
  have hm0 := scrP_mem hl hm
  refine List.map_congr_left fun m hmL => ?_
  show (if left (li m.to) then m else scr r m) = if (left (li m.to) && !(li m.to).sameKey (li k)) then m else scr r m
  rw [sameKey_li]
  by_cases hk : m.to = k
  · have : m = ⟨k, c⟩ := srt_inj hs m hmL _ hm0 hk
    subst this
    simp [hl, scr, hc]
  · simp [hk]
theorem find_at {α : Type} {p : α → Bool} : ∀ {L : List α} {k : Nat} {m : α}, (∀ j, j < k → ∀ x, L[j]? = some x → p x = false) → L[k]? = some m → p m = true → L.find? p = some m
  | [], _, _, _, h, _ => by simp at h
  | y :: r, 0, m, _, h, hp => by simp at h; subst h; simp [hp]
  | y :: r, k + 1, m, hn, h, hp => by
    have h0 := hn 0 (by omega) y rfl
    rw [List.find?_cons_of_neg (by simp [h0])]
    exact find_at (k := k) (fun j hj x hx => hn (j + 1) (by omega) x (by simpa using hx)) (by simpa using h) hp
end Go.Proofs.Ytnnfjjgohhicjaa
