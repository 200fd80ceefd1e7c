/- Plain: the copies of seqM, counted and run. -/
import Derived.Test.YtnnfjjgohhicjaaDt
namespace Go.Proofs.Ytnnfjjgohhicjaa
set_option linter.unusedVariables false

def RgL (L : List Move) : Prop := ∀ m ∈ L, (0 ≤ m.to ∧ m.to < 64) ∧ -1 ≤ m.src ∧ m.src < 64
theorem srt_distTo {L : List Move} (h : Srt L) : DistTo L := h.imp fun {a b} h => by omega
theorem rg_filter {L : List Move} (p : Move → Bool) (h : RgL L) : RgL (L.filter p) := fun m hm => h m (List.mem_filter.1 hm).1
theorem rg_scr {L : List Move} (r : Int) (h : RgL L) : RgL (L.map (scr r)) := by
  intro m hm
  obtain ⟨x, hx, rfl⟩ := List.mem_map.1 hm
  have h1 := h x hx
  unfold scr
  split
  · exact ⟨h1.1, by show (-1 : Int) ≤ -1; omega, by show (-1 : Int) < 64; omega⟩
  · exact h1
theorem filter_len {L : List Move} (hd : DistTo L) {m : Move} (hm : m ∈ L) : (L.filter fun x => decide (x.to ≠ m.to)).length + 1 = L.length := by
  obtain ⟨i, hi⟩ := List.getElem?_of_mem hm
  have hl := (List.getElem?_eq_some_iff.1 hi).1
  rw [← erase_filter hd hi, List.length_eraseIdx_of_lt hl]
  omega
/-- What stands when no move is free: the sources are the registers that are written. -/
theorem full_facts {h : Move} {t : List Move} (hs : Srt (h :: t)) (hf : ((h :: t).find? fun m => !isSrc (h :: t) m.to) = none) :
    (∀ r ∈ tgt (h :: t), (h.to : Int) ≤ r) ∧ (∀ r ∈ tgt (h :: t), sg (h :: t) r ∈ tgt (h :: t)) ∧ (∀ a ∈ tgt (h :: t), ∀ b ∈ tgt (h :: t), sg (h :: t) a = sg (h :: t) b → a = b) ∧ (∀ m ∈ h :: t, m.src ∈ tgt (h :: t)) := by
  have hd := srt_distTo hs
  have hp := full_perm hd (find_none_src hf)
  have hsrc : ∀ m ∈ h :: t, m.src ∈ tgt (h :: t) := fun m hm => hp.mem_iff.2 (List.mem_map.2 ⟨m, hm, rfl⟩)
  refine ⟨fun r hr => ?_, fun r hr => ?_, ?_, hsrc⟩
  · obtain ⟨m, hm, rfl⟩ := List.mem_map.1 hr
    unfold Srt at hs
    rw [List.pairwise_cons] at hs
    rcases List.mem_cons.1 hm with rfl | hm
    · exact Int.le_refl _
    · have := hs.1 m hm; omega
  · obtain ⟨m, hm, rfl⟩ := List.mem_map.1 hr
    rw [sg_of hd hm]; exact hsrc m hm
  · intro a ha b hb e
    obtain ⟨x, hx, rfl⟩ := List.mem_map.1 ha
    obtain ⟨y, hy, rfl⟩ := List.mem_map.1 hb
    rw [sg_of hd hx, sg_of hd hy] at e
    have hn : (srcs (h :: t)).Nodup := hp.nodup (tgt_nodup hd)
    have : ∀ {l : List Move}, (srcs l).Nodup → ∀ {x y : Move}, x ∈ l → y ∈ l → x.src = y.src → x = y := by
      intro l
      induction l with
      | nil => intro _ x y hx; simp at hx
      | cons z l ih =>
        intro hn x y hx hy e
        unfold srcs at hn
        rw [List.map_cons, List.nodup_cons] at hn
        rcases List.mem_cons.1 hx with h1 | h1
        · rcases List.mem_cons.1 hy with h2 | h2
          · rw [h1, h2]
          · exact absurd (List.mem_map.2 ⟨y, h2, by rw [← e, h1]⟩) hn.1
        · rcases List.mem_cons.1 hy with h2 | h2
          · exact absurd (List.mem_map.2 ⟨x, h1, by rw [e, h2]⟩) hn.1
          · exact ih hn.2 h1 h2 e
    rw [this hn hx hy e]
theorem seqM_count : ∀ (n : Nat) (L : List Move), mu L ≤ n → Srt L → Okm L → RgL L → (seqM L).length = L.length + nC (sg L)
  | n, [], _, _, _, _ => by rw [nC_id fun r => sg_fix (by simp [tgt])]; rfl
  | 0, h :: t, hm, _, _, _ => by simp [mu] at hm
  | n + 1, h :: t, hm, hs, ho, hr => by
    have hd := srt_distTo hs
    cases hf : (h :: t).find? fun m => !isSrc (h :: t) m.to with
    | some m =>
      have hmem := List.mem_of_find?_eq_some hf
      have hfree := List.find?_some hf
      have h1 := mu_drop hmem
      rw [seqM_mv ho hf, List.length_cons, seqM_count n _ (by omega) (srt_filter _ hs) (okm_filter _ ho) (rg_filter _ hr)]
      have h2 := filter_len hd hmem
      have h3 : (fun r => sg ((h :: t).filter fun x => decide (x.to ≠ m.to)) r) = fun r => if r = m.to then r else sg (h :: t) r := funext fun r => sg_mv hd hmem r
      have h4 : nC (fun r => if r = m.to then r else sg (h :: t) r) = nC (sg (h :: t)) := by
        refine nC_mv fun q e => ?_
        by_cases hq : q ∈ tgt (h :: t)
        · obtain ⟨x, hx, rfl⟩ := List.mem_map.1 hq
          rw [sg_of hd hx] at e
          have : isSrc (h :: t) m.to = true := List.any_eq_true.2 ⟨x, hx, by simpa using e⟩
          rw [this] at hfree; simp at hfree
        · rw [sg_fix hq] at e
          exact hq (by rw [e]; exact List.mem_map.2 ⟨m, hmem, rfl⟩)
      have h5 : nC (sg ((h :: t).filter fun x => decide (x.to ≠ m.to))) = nC (sg (h :: t)) := (congrArg nC h3).trans h4
      rw [h5]; omega
    | none =>
      obtain ⟨f1, f2, f3, f4⟩ := full_facts hs hf
      have hrh := hr h (by simp)
      have h1 := mu_put (ho h (by simp)).1 (find_none_src hf h (by simp))
      rw [seqM_put ho hf, List.length_cons, seqM_count n _ (by omega) (srt_scr _ hs) (okm_scr _ ho) (rg_scr _ hr), List.length_map]
      obtain ⟨k, hk⟩ := Int.eq_ofNat_of_zero_le hrh.1.1
      have h3 : (fun r => sg ((h :: t).map (scr h.to)) r) = fun r => if r ∈ tgt (h :: t) ∧ sg (h :: t) r = (k : Int) then -1 else sg (h :: t) r := funext fun r => by rw [sg_put hd, hk]
      have h4 := nC_put (s := sg (h :: t)) (T := tgt (h :: t)) (h0 := k) (by omega) (List.mem_map.2 ⟨h, by simp, hk⟩) (fun r hr => sg_fix hr) (by
        rw [← hk, sg_of hd (by simp)]; exact fun e => (ho h (by simp)).2 e.symm) (fun r hr => by have := f1 r hr; omega) f2 f3
      have h5 : nC (sg ((h :: t).map (scr h.to))) + 1 = nC (sg (h :: t)) := by rw [h4]; exact congrArg (· + 1) (congrArg nC h3)
      omega

/-! Run. -/
def stepC (st : List Int × Int) (x : Instr) : List Int × Int :=
  if x.op = 11 then (st.1.set x.dst.toNat (st.1.getD x.a.toNat 0), st.2) else if x.op = 12 then (st.1, st.1.getD x.a.toNat 0) else (st.1.set x.dst.toNat st.2, st.2)
def Cpy (x : Instr) : Prop := ((0 ≤ x.dst ∧ x.dst < 64) ∧ 0 ≤ x.a ∧ x.a < 64) ∧ (x.op = 11 ∨ x.op = 12 ∨ x.op = 13)
theorem stepC_len (st : List Int × Int) (x : Instr) : (stepC st x).1.length = st.1.length := by
  unfold stepC
  split
  · simp
  · split <;> simp
theorem seqM_cpy : ∀ (n : Nat) (L : List Move), mu L ≤ n → Okm L → RgL L → ∀ x ∈ seqM L, Cpy x
  | n, [], _, _, _ => by simp [seqM_nil]
  | 0, h :: t, hm, _, _ => by simp [mu] at hm
  | n + 1, h :: t, hm, ho, hr => by
    cases hf : (h :: t).find? fun m => !isSrc (h :: t) m.to with
    | some m =>
      have hmem := List.mem_of_find?_eq_some hf
      have h1 := mu_drop hmem
      have h2 := hr m hmem
      rw [seqM_mv ho hf]
      intro x hx
      rcases List.mem_cons.1 hx with rfl | hx
      · unfold mvI
        split
        · exact ⟨⟨h2.1, by show (0 : Int) ≤ 0; omega, by show (0 : Int) < 64; omega⟩, .inr (.inr rfl)⟩
        · exact ⟨⟨h2.1, by show 0 ≤ m.src; omega, h2.2.2⟩, .inl rfl⟩
      · exact seqM_cpy n _ (by omega) (okm_filter _ ho) (rg_filter _ hr) x hx
    | none =>
      have h1 := mu_put (ho h (by simp)).1 (find_none_src hf h (by simp))
      have h2 := hr h (by simp)
      rw [seqM_put ho hf]
      intro x hx
      rcases List.mem_cons.1 hx with rfl | hx
      · exact ⟨⟨⟨by show (0 : Int) ≤ 0; omega, by show (0 : Int) < 64; omega⟩, h2.1⟩, .inr (.inl rfl)⟩
      · exact seqM_cpy n _ (by omega) (okm_scr _ ho) (rg_scr _ hr) x hx
/-- What the pending moves read. -/
def InvC (T : Int → Int) (L : List Move) (rs : List Int) (sc : Int) : Prop := rs.length = 64 ∧ (∀ m ∈ L, (if m.src < 0 then sc else rs.getD m.src.toNat 0) = T m.to) ∧ ∀ r : Nat, r < 64 → (r : Int) ∉ tgt L → rs.getD r 0 = T r
theorem getD_set {rs : List Int} {i j : Nat} {v : Int} (hi : i < rs.length) : (rs.set i v).getD j 0 = if i = j then v else rs.getD j 0 := by
  rw [List.getD_eq_getElem?_getD, List.getD_eq_getElem?_getD, List.getElem?_set]
  by_cases e : i = j
  · subst e; simp [hi]
  · simp [e]
theorem seqM_run (T : Int → Int) : ∀ (n : Nat) (L : List Move) (rs : List Int) (sc : Int), mu L ≤ n → Srt L → Okm L → RgL L → InvC T L rs sc → ((seqM L).foldl stepC (rs, sc)).1.length = 64 ∧ ∀ r : Nat, r < 64 → ((seqM L).foldl stepC (rs, sc)).1.getD r 0 = T r
  | n, [], rs, sc, _, _, _, _, hi => ⟨hi.1, fun r hr => hi.2.2 r hr (by simp [tgt])⟩
  | 0, h :: t, _, _, hm, _, _, _, _ => by simp [mu] at hm
  | n + 1, h :: t, rs, sc, hm, hs, ho, hr, ⟨i1, i2, i3⟩ => by
    have hd := srt_distTo hs
    cases hf : (h :: t).find? fun m => !isSrc (h :: t) m.to with
    | some m =>
      have hmem := List.mem_of_find?_eq_some hf
      have hfree := List.find?_some hf
      have h1 := mu_drop hmem
      have h2 := hr m hmem
      rw [seqM_mv ho hf, List.foldl_cons]
      have hst : stepC (rs, sc) (mvI m) = (rs.set m.to.toNat (T m.to), sc) := by
        have := i2 m hmem
        unfold mvI stepC
        split
        · rename_i e; rw [if_pos e] at this; simp [this]
        · rename_i e; rw [if_neg e] at this; simp only [if_pos]; rw [this]
      rw [hst]
      refine seqM_run T n _ _ _ (by omega) (srt_filter _ hs) (okm_filter _ ho) (rg_filter _ hr) ⟨by simpa using i1, fun x hx => ?_, fun r hr64 hrt => ?_⟩
      · have hx1 := (List.mem_filter.1 hx).1
        have h3 := i2 x hx1
        have h4 := hr x hx1
        split
        · rename_i e; rwa [if_pos e] at h3
        · rename_i e
          rw [if_neg e] at h3
          rw [getD_set (by omega), if_neg, h3]
          intro e2
          have : isSrc (h :: t) m.to = true := List.any_eq_true.2 ⟨x, hx1, by simp; omega⟩
          rw [this] at hfree; simp at hfree
      · rw [getD_set (by omega)]
        split
        · rename_i e; congr 1; omega
        · rename_i e
          refine i3 r hr64 fun h3 => hrt ?_
          obtain ⟨x, hx, hxt⟩ := List.mem_map.1 h3
          exact List.mem_map.2 ⟨x, List.mem_filter.2 ⟨hx, by simp; omega⟩, hxt⟩
    | none =>
      obtain ⟨f1, f2, f3, f4⟩ := full_facts hs hf
      have h1 := mu_put (ho h (by simp)).1 (find_none_src hf h (by simp))
      have h2 := hr h (by simp)
      rw [seqM_put ho hf, List.foldl_cons]
      have hst : stepC (rs, sc) (putI h.to) = (rs, rs.getD h.to.toNat 0) := by simp [stepC, putI]
      rw [hst]
      refine seqM_run T n _ _ _ (by omega) (srt_scr _ hs) (okm_scr _ ho) (rg_scr _ hr) ⟨i1, fun x hx => ?_, fun r hr64 hrt => ?_⟩
      · obtain ⟨y, hy, rfl⟩ := List.mem_map.1 hx
        have h3 := i2 y hy
        have h4 := f1 _ (f4 y hy)
        rw [if_neg (by omega)] at h3
        rw [scr_to]
        unfold scr
        split
        · rename_i e; rw [if_pos (by show (-1 : Int) < 0; omega), ← e]; exact h3
        · rw [if_neg (by omega)]; exact h3
      · rw [tgt_scr] at hrt
        exact i3 r hr64 hrt
end Go.Proofs.Ytnnfjjgohhicjaa
