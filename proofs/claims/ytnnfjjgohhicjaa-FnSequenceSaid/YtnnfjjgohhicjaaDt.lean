/- Plain: what the copies of seqM do, and how many they are. -/
import Derived.Test.YtnnfjjgohhicjaaQc
namespace Go.Proofs.Ytnnfjjgohhicjaa
set_option linter.unusedVariables false
open Classical in
section

/-! Lists without repetition. -/
theorem perm_of_sub {α : Type} [DecidableEq α] : ∀ {l1 l2 : List α}, l1.Nodup → (∀ x ∈ l1, x ∈ l2) → l2.length ≤ l1.length → l1.Perm l2
  | [], l2, _, _, hl => by
    have : l2 = [] := List.eq_nil_of_length_eq_zero (by simpa using hl)
    rw [this]
  | a :: l1, l2, hn, hs, hl => by
    have ha := hs a (by simp)
    rw [List.nodup_cons] at hn
    have h1 := List.length_erase_of_mem ha
    have := perm_of_sub (l1 := l1) (l2 := l2.erase a) hn.2 (fun x hx => (List.mem_erase_of_ne (fun e : x = a => hn.1 (by rw [← e]; exact hx))).2 (hs x (by simp [hx]))) (by simp at hl; omega)
    exact (this.cons a).trans (List.perm_cons_erase ha).symm
theorem len_of_sub {α : Type} [DecidableEq α] : ∀ {l1 l2 : List α}, l1.Nodup → (∀ x ∈ l1, x ∈ l2) → l1.length ≤ l2.length
  | [], _, _, _ => Nat.zero_le _
  | a :: l1, l2, hn, hs => by
    have ha := hs a (by simp)
    rw [List.nodup_cons] at hn
    have h1 := List.length_erase_of_mem ha
    have h2 := List.length_pos_of_mem ha
    have := len_of_sub (l1 := l1) (l2 := l2.erase a) hn.2 (fun x hx => (List.mem_erase_of_ne (fun e : x = a => hn.1 (by rw [← e]; exact hx))).2 (hs x (by simp [hx])))
    simp; omega
def tgt (L : List Move) : List Int := L.map (·.to)
def srcs (L : List Move) : List Int := L.map (·.src)
theorem tgt_nodup {L : List Move} (h : DistTo L) : (tgt L).Nodup := by
  unfold tgt List.Nodup
  rw [List.pairwise_map]
  exact h
theorem full_perm {L : List Move} (hd : DistTo L) (hf : ∀ m ∈ L, isSrc L m.to = true) : (tgt L).Perm (srcs L) := by
  refine perm_of_sub (tgt_nodup hd) (fun x hx => ?_) (by simp [tgt, srcs])
  obtain ⟨m, hm, rfl⟩ := List.mem_map.1 hx
  obtain ⟨y, hy, e⟩ := List.any_eq_true.1 (hf m hm)
  exact List.mem_map.2 ⟨y, hy, by simpa using e⟩

theorem dist_inj : ∀ {L : List Move}, DistTo L → ∀ {a b : Move}, a ∈ L → b ∈ L → a.to = b.to → a = b
  | [], _, _, _, ha, _, _ => by simp at ha
  | x :: L, hd, a, b, ha, hb, e => by
    unfold DistTo at hd
    rw [List.pairwise_cons] at hd
    rcases List.mem_cons.1 ha with h1 | h1
    · rcases List.mem_cons.1 hb with h2 | h2
      · rw [h1, h2]
      · exact absurd e (by rw [h1]; exact hd.1 b h2)
    · rcases List.mem_cons.1 hb with h2 | h2
      · exact absurd e.symm (by rw [h2]; exact hd.1 a h1)
      · exact dist_inj hd.2 h1 h2 e
/-! The source of a register. -/
def sg (L : List Move) (r : Int) : Int := match L.find? fun m => decide (m.to = r) with
  | some m => m.src
  | none => r
theorem sg_of {L : List Move} (hd : DistTo L) {m : Move} (hm : m ∈ L) : sg L m.to = m.src := by
  unfold sg
  cases h : L.find? fun x => decide (x.to = m.to) with
  | none => have := List.find?_eq_none.1 h m hm; simp at this
  | some y =>
    have h1 := List.mem_of_find?_eq_some h
    have h2 := List.find?_some h
    have : y = m := by
      exact dist_inj hd h1 hm (by simpa using h2)
    rw [this]
theorem sg_fix {L : List Move} {r : Int} (h : r ∉ tgt L) : sg L r = r := by
  unfold sg
  cases h1 : L.find? fun x => decide (x.to = r) with
  | none => rfl
  | some y => exact absurd (List.mem_map.2 ⟨y, List.mem_of_find?_eq_some h1, by simpa using List.find?_some h1⟩) h
theorem sg_mv {L : List Move} (hd : DistTo L) {m : Move} (hm : m ∈ L) (r : Int) : sg (L.filter fun x => decide (x.to ≠ m.to)) r = if r = m.to then r else sg L r := by
  have hd' : DistTo (L.filter fun x => decide (x.to ≠ m.to)) := List.Pairwise.filter _ hd
  split
  · rename_i e
    refine sg_fix fun hr => ?_
    obtain ⟨x, hx, rfl⟩ := List.mem_map.1 hr
    have := (List.mem_filter.1 hx).2
    simp [e] at this
  · rename_i e
    by_cases hr : r ∈ tgt L
    · obtain ⟨x, hx, rfl⟩ := List.mem_map.1 hr
      rw [sg_of hd hx, sg_of hd' (List.mem_filter.2 ⟨hx, by simpa using e⟩)]
    · rw [sg_fix hr, sg_fix fun h => hr ?_]
      obtain ⟨x, hx, rfl⟩ := List.mem_map.1 h
      exact List.mem_map.2 ⟨x, (List.mem_filter.1 hx).1, rfl⟩
theorem dist_scr {L : List Move} (r : Int) (h : DistTo L) : DistTo (L.map (scr r)) := by
  unfold DistTo at *
  rw [List.pairwise_map]
  exact h.imp fun {a b} hab => by rw [scr_to, scr_to]; exact hab
theorem tgt_scr (L : List Move) (r : Int) : tgt (L.map (scr r)) = tgt L := by
  unfold tgt
  rw [List.map_map]
  exact List.map_congr_left fun m _ => scr_to r m
theorem sg_put {L : List Move} (hd : DistTo L) (r0 r : Int) : sg (L.map (scr r0)) r = if r ∈ tgt L ∧ sg L r = r0 then -1 else sg L r := by
  by_cases hr : r ∈ tgt L
  · obtain ⟨x, hx, rfl⟩ := List.mem_map.1 hr
    have h1 := sg_of (dist_scr r0 hd) (List.mem_map.2 ⟨x, hx, rfl⟩)
    rw [scr_to] at h1
    rw [h1, sg_of hd hx]
    unfold scr
    by_cases e : x.src = r0
    · rw [if_pos e, if_pos ⟨hr, e⟩]
    · rw [if_neg e, if_neg fun h => e h.2]
  · rw [if_neg fun h => hr h.1, sg_fix hr, sg_fix (by rw [tgt_scr]; exact hr)]

/-! Cycles. -/
def itr (s : Int → Int) : Nat → Int → Int
  | 0, x => x
  | n + 1, x => s (itr s n x)
theorem itr_add (s : Int → Int) (a : Nat) : ∀ (b : Nat) (x : Int), itr s (a + b) x = itr s b (itr s a x)
  | 0, _ => rfl
  | b + 1, x => by rw [← Nat.add_assoc, itr, itr_add s a b]; rfl
def CycP (s : Int → Int) (r : Int) : Prop := (∃ j, itr s (j + 1) r = r) ∧ (∀ i, r ≤ itr s i r) ∧ s r ≠ r
theorem cyc_congr {s t : Int → Int} {r : Int} (h : ∀ i, itr t i r = itr s i r) : CycP t r ↔ CycP s r := by
  unfold CycP
  have h1 : t r = s r := h 1
  rw [h1]
  constructor
  · rintro ⟨⟨j, h2⟩, h3, h4⟩; exact ⟨⟨j, by rw [← h]; exact h2⟩, fun i => by rw [← h]; exact h3 i, h4⟩
  · rintro ⟨⟨j, h2⟩, h3, h4⟩; exact ⟨⟨j, by rw [h]; exact h2⟩, fun i => by rw [h]; exact h3 i, h4⟩
theorem itr_same {s t : Int → Int} {r : Int} : ∀ (n : Nat), (∀ i, i < n → t (itr s i r) = s (itr s i r)) → itr t n r = itr s n r
  | 0, _ => rfl
  | n + 1, h => by rw [itr, itr_same n fun i hi => h i (by omega), h n (by omega)]; rfl
noncomputable def nC (s : Int → Int) : Nat := ((List.range 64).filter fun r : Nat => decide (CycP s (r : Int))).length
theorem filter_one {p q : Nat → Bool} {a : Nat} : ∀ {l : List Nat}, l.Nodup → a ∈ l → p a = true → q a = false → (∀ r, r ≠ a → p r = q r) → (l.filter p).length = (l.filter q).length + 1
  | [], _, ha, _, _, _ => by simp at ha
  | b :: l, hn, ha, hp, hq, h => by
    rw [List.nodup_cons] at hn
    by_cases e : b = a
    · subst e
      rw [List.filter_cons_of_pos hp, List.filter_cons_of_neg (by simp [hq]), List.length_cons]
      congr 1
      rw [List.filter_congr fun r hr => h r fun e => hn.1 (by rw [← e]; exact hr)]
    · have ha' : a ∈ l := by
        rcases List.mem_cons.1 ha with h1 | h1
        · exact absurd h1.symm e
        · exact h1
      have ih := filter_one hn.2 ha' hp hq h
      rw [List.filter_cons, List.filter_cons, h b e]
      split
      · rw [List.length_cons, List.length_cons, ih]
      · exact ih
theorem nC_same {s t : Int → Int} (h : ∀ r : Nat, CycP t r ↔ CycP s r) : nC t = nC s := by
  unfold nC
  rw [List.filter_congr fun (r : Nat) _ => (by rw [decide_eq_decide]; exact h r : decide (CycP t (r : Int)) = decide (CycP s (r : Int)))]
theorem nC_id {s : Int → Int} (h : ∀ r, s r = r) : nC s = 0 := by
  unfold nC
  rw [List.filter_eq_nil_iff.2 fun r _ hd => (of_decide_eq_true hd).2.2 (h _)]
  rfl
/-- A register that nothing reads lies on no cycle. -/
theorem nC_mv {s : Int → Int} {t : Int} (h : ∀ q, s q ≠ t) : nC (fun r => if r = t then r else s r) = nC s := by
  refine nC_same fun r => ?_
  by_cases hr : (r : Int) = t
  · constructor
    · intro hc; exact absurd (if_pos hr) hc.2.2
    · rintro ⟨⟨j, hj⟩, _⟩
      exact absurd (hj.trans hr) (h _)
  · refine cyc_congr fun n => itr_same n fun i _ => if_neg ?_
    cases i with
    | zero => exact hr
    | succ i => exact h _
theorem itr_mem {s : Int → Int} {T : List Int} (hc : ∀ r ∈ T, s r ∈ T) {x : Int} (hx : x ∈ T) : ∀ n, itr s n x ∈ T
  | 0 => hx
  | n + 1 => hc _ (itr_mem hc hx n)
theorem itr_cancel {s : Int → Int} {T : List Int} (hc : ∀ r ∈ T, s r ∈ T) (hi : ∀ a ∈ T, ∀ b ∈ T, s a = s b → a = b) {x : Int} (hx : x ∈ T) : ∀ (i d : Nat), itr s i x = itr s (i + d) x → x = itr s d x
  | 0, d, h => by simpa [itr] using h
  | i + 1, d, h => by
    refine itr_cancel hc hi hx i d (hi _ (itr_mem hc hx _) _ (itr_mem hc hx _) ?_)
    have : i + 1 + d = (i + d) + 1 := by omega
    rw [this] at h
    exact h
theorem on_cycle {s : Int → Int} {T : List Int} (hc : ∀ r ∈ T, s r ∈ T) (hi : ∀ a ∈ T, ∀ b ∈ T, s a = s b → a = b) {x : Int} (hx : x ∈ T) : ∃ j, itr s (j + 1) x = x := by
  by_cases h : ∃ j, itr s (j + 1) x = x
  · exact h
  · have hn : ((List.range (T.length + 1)).map fun i => itr s i x).Nodup := by
      unfold List.Nodup
      rw [List.pairwise_map]
      refine List.Pairwise.imp (R := fun a b => a < b) (fun {a b} hab => ?_) List.pairwise_lt_range
      intro e
      refine h ⟨b - a - 1, ?_⟩
      have h2 := itr_cancel hc hi hx a (b - a) (by rw [show a + (b - a) = b by omega]; exact e)
      rw [show b - a - 1 + 1 = b - a by omega]
      exact h2.symm
    have := len_of_sub hn (l2 := T) fun y hy => by
      obtain ⟨i, _, rfl⟩ := List.mem_map.1 hy
      exact itr_mem hc hx i
    simp at this
    omega
/-- The smallest register's cycle is opened. -/
theorem nC_put {s : Int → Int} {T : List Int} {h0 : Nat} (hlt : h0 < 64) (hT : (h0 : Int) ∈ T) (hfix : ∀ r, r ∉ T → s r = r) (hne : s h0 ≠ h0) (hmin : ∀ r ∈ T, (h0 : Int) ≤ r) (hc : ∀ r ∈ T, s r ∈ T) (hi : ∀ a ∈ T, ∀ b ∈ T, s a = s b → a = b) :
    nC s = nC (fun r => if r ∈ T ∧ s r = h0 then -1 else s r) + 1 := by
  have dead : ∀ (r : Int), 0 ≤ r → (∃ i, itr s i r ∈ T ∧ s (itr s i r) = h0) → ¬ CycP (fun r => if r ∈ T ∧ s r = h0 then -1 else s r) r := by
    rintro r hr ⟨i, hi1⟩ hcy
    obtain ⟨k, hk, hmn⟩ : ∃ k, (itr s k r ∈ T ∧ s (itr s k r) = h0) ∧ ∀ j, j < k → ¬ (itr s j r ∈ T ∧ s (itr s j r) = h0) := by
      have : ∀ n, (∃ i, i < n ∧ (itr s i r ∈ T ∧ s (itr s i r) = h0)) → ∃ k, (itr s k r ∈ T ∧ s (itr s k r) = h0) ∧ ∀ j, j < k → ¬ (itr s j r ∈ T ∧ s (itr s j r) = h0) := by
        intro n
        induction n with
        | zero => rintro ⟨i, hi, _⟩; omega
        | succ n ih =>
          rintro ⟨i, hi, h⟩
          by_cases h2 : ∃ i, i < n ∧ (itr s i r ∈ T ∧ s (itr s i r) = h0)
          · exact ih h2
          · have : i = n := by
              by_cases e : i = n
              · exact e
              · exact absurd ⟨i, by omega, h⟩ h2
            subst this
            exact ⟨i, h, fun j hj hh => h2 ⟨j, hj, hh⟩⟩
      exact this (i + 1) ⟨i, by omega, hi1⟩
    have h1 : itr (fun r => if r ∈ T ∧ s r = h0 then -1 else s r) k r = itr s k r := itr_same k fun j hj => if_neg (hmn j hj)
    have h2 := hcy.2.1 (k + 1)
    rw [itr, h1] at h2
    simp only [if_pos hk] at h2
    omega
  unfold nC
  refine filter_one (a := h0) List.nodup_range (by simpa using hlt) ?_ ?_ ?_
  · simp only [decide_eq_true_eq]
    exact ⟨on_cycle hc hi hT, fun i => hmin _ (itr_mem hc hT i), hne⟩
  · simp only [decide_eq_false_iff_not]
    obtain ⟨j, hj⟩ := on_cycle hc hi hT
    exact dead _ (by omega) ⟨j, itr_mem hc hT j, hj⟩
  · intro r hr
    rw [decide_eq_decide]
    by_cases hh : ∃ i, itr s i r ∈ T ∧ s (itr s i r) = h0
    · refine ⟨fun hcy => ?_, fun hcy => absurd hcy (dead _ (by omega) hh)⟩
      obtain ⟨i, hi1, hi2⟩ := hh
      have h1 := hcy.2.1 (i + 1)
      rw [itr, hi2] at h1
      have h2 : (r : Int) ∈ T := by
        by_cases e : (r : Int) ∈ T
        · exact e
        · exact absurd (hfix _ e) hcy.2.2
      have := hmin _ h2
      omega
    · refine (cyc_congr fun n => itr_same n fun i _ => if_neg fun h => hh ⟨i, h⟩).symm
end
end Go.Proofs.Ytnnfjjgohhicjaa
