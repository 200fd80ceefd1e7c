/- Plain: the law of the copies, as the law reckons it. -/
import Derived.Test.YtnnfjjgohhicjaaDu
namespace Go.Proofs.Ytnnfjjgohhicjaa
set_option linter.unusedVariables false

theorem least {P : Nat → Prop} (h : ∃ n, P n) : ∃ n, P n ∧ ∀ m, m < n → ¬ P m := by
  have : ∀ n, (∃ i, i < n ∧ P i) → ∃ n, P n ∧ ∀ m, m < n → ¬ P m := by
    intro n
    induction n with
    | zero => rintro ⟨i, hi, _⟩; omega
    | succ n ih =>
      rintro ⟨i, hi, h⟩
      by_cases h2 : ∃ i, i < n ∧ P i
      · exact ih h2
      · have : i = n := by
          by_cases e : i = n
          · exact e
          · exact absurd ⟨i, by omega, h⟩ h2
        subst this
        exact ⟨i, h, fun j hj hh => h2 ⟨j, hj, hh⟩⟩
  obtain ⟨n, hn⟩ := h
  exact this (n + 1) ⟨n, by omega, hn⟩
def walkC (s : Int → Int) (r : Int) : Nat → Int → Bool → Int × Bool
  | 0, a, sm => (a, sm)
  | n + 1, a, sm => if a = r then (a, sm) else walkC s r n (s a) (sm && !decide (a < r))
def cycB (s : Int → Int) (r : Int) : Bool := decide ((walkC s r 64 (s r) true).1 = r) && (walkC s r 64 (s r) true).2 && decide (s r ≠ r)
theorem itr_succ (s : Int → Int) (n : Nat) (x : Int) : itr s (n + 1) x = itr s n (s x) := by rw [Nat.add_comm, itr_add]; rfl
theorem walk_out {s : Int → Int} {r : Int} : ∀ (n : Nat) (a : Int) (sm : Bool), (walkC s r n a sm).1 = r → (walkC s r n a sm).2 = true → ∃ j, itr s j a = r ∧ (∀ i, i < j → r ≤ itr s i a) ∧ sm = true
  | 0, a, sm, h1, h2 => ⟨0, h1, by omega, h2⟩
  | n + 1, a, sm, h1, h2 => by
    unfold walkC at h1 h2
    by_cases e : a = r
    · rw [if_pos e] at h1 h2
      exact ⟨0, h1, by omega, h2⟩
    · rw [if_neg e] at h1 h2
      obtain ⟨j, h3, h4, h5⟩ := walk_out n _ _ h1 h2
      simp at h5
      refine ⟨j + 1, by rw [itr_succ]; exact h3, fun i hi => ?_, h5.1⟩
      cases i with
      | zero => exact h5.2
      | succ i => rw [itr_succ]; exact h4 i (by omega)
theorem walk_in {s : Int → Int} {r : Int} : ∀ (j n : Nat) (a : Int), j ≤ n → itr s j a = r → (∀ i, i < j → itr s i a ≠ r ∧ r ≤ itr s i a) → walkC s r n a true = (r, true)
  | 0, n, a, _, h, _ => by
    have h : a = r := h
    cases n with
    | zero => rw [walkC, h]
    | succ n => rw [walkC, if_pos h, h]
  | j + 1, 0, a, hn, _, _ => by omega
  | j + 1, n + 1, a, hn, h, hi => by
    have h0 := hi 0 (by omega)
    have h0 : a ≠ r ∧ r ≤ a := h0
    rw [walkC, if_neg h0.1, show (true && !decide (a < r)) = true by simp; exact h0.2]
    exact walk_in j n _ (by omega) (by rw [← itr_succ]; exact h) fun i hij => by rw [← itr_succ]; exact hi (i + 1) (by omega)
theorem itr_mod {s : Int → Int} {r : Int} {j : Nat} (h : itr s (j + 1) r = r) : ∀ (n : Nat) (i : Nat), i ≤ n → itr s i r = itr s (i % (j + 1)) r
  | 0, i, hi => by
    have : i = 0 := by omega
    subst this; simp
  | n + 1, i, hi => by
    by_cases hl : i < j + 1
    · rw [Nat.mod_eq_of_lt hl]
    · have h1 : i = (j + 1) + (i - (j + 1)) := by omega
      have h2 : itr s i r = itr s (i - (j + 1)) r := by
        conv => lhs; rw [h1]
        rw [itr_add, h]
      rw [h2, itr_mod h n (i - (j + 1)) (by omega), ← Nat.mod_eq_sub_mod (by omega)]
def regs64 : List Int := (List.range 64).map Int.ofNat
theorem mem_regs64 {r : Int} : r ∈ regs64 ↔ 0 ≤ r ∧ r < 64 := by
  unfold regs64
  rw [List.mem_map]
  constructor
  · rintro ⟨n, hn, rfl⟩
    have := List.mem_range.1 hn
    exact ⟨by show (0 : Int) ≤ (n : Int); omega, by show (n : Int) < 64; omega⟩
  · rintro ⟨h0, h1⟩
    obtain ⟨n, rfl⟩ := Int.eq_ofNat_of_zero_le h0
    exact ⟨n, List.mem_range.2 (by omega), rfl⟩
theorem cycB_iff {s : Int → Int} (hs : ∀ r, 0 ≤ r → r < 64 → 0 ≤ s r ∧ s r < 64) {r : Int} (h0 : 0 ≤ r) (h1 : r < 64) : cycB s r = true ↔ CycP s r := by
  unfold cycB
  simp only [Bool.and_eq_true, decide_eq_true_eq]
  constructor
  · rintro ⟨⟨h2, h3⟩, h4⟩
    obtain ⟨j, h5, h6, -⟩ := walk_out 64 _ _ h2 h3
    rw [← itr_succ] at h5
    refine ⟨⟨j, h5⟩, fun i => ?_, h4⟩
    rw [itr_mod h5 i i (Nat.le_refl _)]
    have hm := Nat.mod_lt i (show 0 < j + 1 by omega)
    cases hk : i % (j + 1) with
    | zero => exact Int.le_refl _
    | succ k => rw [itr_succ]; exact h6 k (by omega)
  · rintro ⟨hj, hm, hn⟩
    obtain ⟨j, hj, hmin⟩ := least hj
    have hj64 : j < 64 := by
      by_cases e : j < 64
      · exact e
      · exfalso
        have hc : ∀ x ∈ regs64, s x ∈ regs64 := fun x hx => by
          have := mem_regs64.1 hx
          exact mem_regs64.2 (hs x this.1 this.2)
        have hn : ((List.range 65).map fun i => itr s i r).Nodup := by
          unfold List.Nodup
          rw [List.pairwise_map]
          refine List.Pairwise.imp_of_mem (R := fun a b => a < b) (fun {a b} ha hb hab => ?_) List.pairwise_lt_range
          intro e2
          have hb := List.mem_range.1 hb
          refine hmin (a + j - b) (by omega) ?_
          have h1 : a + j - b + 1 = a + (j + 1 - b) := by omega
          rw [h1, itr_add, e2, ← itr_add, show b + (j + 1 - b) = j + 1 by omega, hj]
        have h2 := len_of_sub hn (l2 := regs64) fun y hy => by
          obtain ⟨i, _, rfl⟩ := List.mem_map.1 hy
          exact itr_mem hc (mem_regs64.2 ⟨h0, h1⟩) i
        rw [List.length_map, List.length_range, regs64, List.length_map, List.length_range] at h2
        omega
    have hw := walk_in (s := s) (r := r) j 64 (s r) (by omega) (by rw [← itr_succ]; exact hj) fun i hi => by
      rw [← itr_succ]
      exact ⟨hmin i hi, hm _⟩
    rw [hw]
    exact ⟨⟨rfl, rfl⟩, hn⟩
theorem nC_count {s : Int → Int} (hs : ∀ r, 0 ≤ r → r < 64 → 0 ≤ s r ∧ s r < 64) : nC s = ((List.range 64).filter fun r : Nat => cycB s (r : Int)).length := by
  unfold nC
  rw [List.filter_congr fun r hr => ?_]
  have := List.mem_range.1 hr
  rw [Bool.eq_iff_iff, cycB_iff hs (by omega) (by omega)]
  exact @decide_eq_true_iff _ (Classical.propDecidable _)

/-! The moves that the law draws. -/
theorem sorted_live {ms : List Move} (hok : okM ms) : ∃ L : List Move, L.Perm (live ms) ∧ Srt L := by
  refine ⟨(live ms).mergeSort fun a b => decide (a.to ≤ b.to), List.mergeSort_perm _ _, ?_⟩
  have h1 := List.pairwise_mergeSort (le := fun a b : Move => decide (a.to ≤ b.to)) (by intro a b c; simp; omega) (by intro a b; simp; omega) (live ms)
  have hd : DistTo ((live ms).mergeSort fun a b => decide (a.to ≤ b.to)) := by
    have h2 : DistTo (live ms) := List.Pairwise.filter _ hok.2.2
    exact ((List.mergeSort_perm _ _).pairwise_iff fun {a b} h => Ne.symm h).2 h2
  exact (h1.and hd).imp fun {a b} h => by
    have := h.1
    have := h.2
    simp at *
    omega
theorem sg_live {ms L : List Move} (hok : okM ms) (hp : L.Perm (live ms)) (hs : Srt L) (r : Int) : sg L r = sg ms r := by
  have hd := hok.2.2
  by_cases hr : r ∈ tgt L
  · obtain ⟨m, hm, rfl⟩ := List.mem_map.1 hr
    rw [sg_of (srt_distTo hs) hm, sg_of hd (List.mem_filter.1 (hp.mem_iff.1 hm)).1]
  · rw [sg_fix hr]
    by_cases hr2 : r ∈ tgt ms
    · obtain ⟨m, hm, rfl⟩ := List.mem_map.1 hr2
      rw [sg_of hd hm]
      by_cases e : m.to = m.src
      · exact e
      · exact absurd (List.mem_map.2 ⟨m, hp.mem_iff.2 (List.mem_filter.2 ⟨hm, by simpa using e⟩), rfl⟩) hr
    · rw [sg_fix hr2]
theorem sg_range {ms : List Move} (hok : okM ms) (r : Int) (h0 : 0 ≤ r) (h1 : r < 64) : 0 ≤ sg ms r ∧ sg ms r < 64 := by
  by_cases hr : r ∈ tgt ms
  · obtain ⟨m, hm, rfl⟩ := List.mem_map.1 hr
    rw [sg_of hok.2.2 hm]
    exact (hok.2.1 m hm).2
  · rw [sg_fix hr]; exact ⟨h0, h1⟩
def init64 : List Int := (List.range 64).map fun r : Nat => 1000 + (r : Int)
theorem init64_getD {r : Nat} (h : r < 64) : init64.getD r 0 = 1000 + (r : Int) := by
  unfold init64
  rw [List.getD_eq_getElem?_getD, List.getElem?_map, List.getElem?_range h]; rfl
/-- The plain law. -/
theorem plain_law {ms : List Move} (hok : okM ms) : (∀ x ∈ seqF ms, Cpy x) ∧ (((seqF ms).foldl stepC (init64, 0)).1.length = 64 ∧ ∀ r : Nat, r < 64 → ((seqF ms).foldl stepC (init64, 0)).1.getD r 0 = 1000 + sg ms r) ∧
    (seqF ms).length = (live ms).length + ((List.range 64).filter fun r : Nat => cycB (sg ms) (r : Int)).length := by
  obtain ⟨L, hp, hs⟩ := sorted_live hok
  have hmem : ∀ m ∈ L, m ∈ ms ∧ m.to ≠ m.src := fun m hm => by
    obtain ⟨h1, h2⟩ := List.mem_filter.1 (hp.mem_iff.1 hm)
    exact ⟨h1, by simpa using h2⟩
  have hin : ∀ m ∈ L, InRg m := fun m hm => hok.2.1 m (hmem m hm).1
  have ho : Okm L := fun m hm => ⟨(hin m hm).1.1, (hmem m hm).2⟩
  have hr : RgL L := fun m hm => ⟨(hin m hm).1, by have := (hin m hm).2.1; omega, (hin m hm).2.2⟩
  have hE : seqF ms = seqM L := by rw [seqF, if_pos hok, emitS_seqM hp.symm hs ho]
  rw [hE]
  refine ⟨seqM_cpy _ L (Nat.le_refl _) ho hr, seqM_run (fun r => 1000 + sg ms r) _ L init64 0 (Nat.le_refl _) hs ho hr ⟨by simp [init64], fun m hm => ?_, fun r hr64 hrt => ?_⟩, ?_⟩
  · have h1 := (hin m hm).2
    rw [if_neg (by omega), init64_getD (by omega)]
    show _ = 1000 + sg ms m.to
    rw [← sg_live hok hp hs, sg_of (srt_distTo hs) hm, Int.toNat_of_nonneg h1.1]
  · rw [init64_getD hr64]
    show _ = 1000 + sg ms r
    rw [← sg_live hok hp hs, sg_fix hrt]
  · rw [seqM_count _ L (Nat.le_refl _) hs ho hr, hp.length_eq, ← nC_count (sg_range hok)]
    congr 2
    exact funext fun r => sg_live hok hp hs r
end Go.Proofs.Ytnnfjjgohhicjaa
