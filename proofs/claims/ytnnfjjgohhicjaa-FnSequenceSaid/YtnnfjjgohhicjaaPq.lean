/- Plain: parallel copies made one after another, as spec scans a list and as impl empties a map (a list that is sorted by register). -/
import Derived.Test.YtnnfjjgohhicjaaPv
namespace Go.Proofs.Ytnnfjjgohhicjaa
set_option linter.unusedVariables false
structure Move where
  to : Int
  src : Int
deriving DecidableEq
def isSrc (ms : List Move) (r : Int) : Bool := ms.any fun m => decide (m.src = r)
def mvI (m : Move) : Instr := if m.src < 0 then ⟨13, m.to, 0, 0, 0⟩ else ⟨11, m.to, m.src, 0, 0⟩
def putI (r : Int) : Instr := ⟨12, 0, r, 0, 0⟩
def scr (r : Int) (m : Move) : Move := if m.src = r then ⟨m.to, -1⟩ else m
theorem scr_to (r : Int) (m : Move) : (scr r m).to = m.to := by unfold scr; split <;> rfl
/-- As impl does it: L is sorted. -/
def seqI : Nat → List Move → List Instr
  | 0, _ => []
  | _ + 1, [] => []
  | n + 1, h :: t => match (h :: t).find? fun m => !isSrc (h :: t) m.to with
    | some m => mvI m :: seqI n ((h :: t).filter fun x => decide (x.to ≠ m.to))
    | none => putI h.to :: seqI n ((h :: t).map (scr h.to))
def mu (L : List Move) : Nat := L.length + (L.filter fun m => decide (0 ≤ m.src)).length
def Srt (L : List Move) : Prop := L.Pairwise fun a b => a.to < b.to
def Okm (L : List Move) : Prop := ∀ m ∈ L, 0 ≤ m.to ∧ m.to ≠ m.src
theorem okm_scr {L : List Move} (r : Int) (h : Okm L) : Okm (L.map (scr r)) := by
  intro m hm
  obtain ⟨x, hx, rfl⟩ := List.mem_map.1 hm
  obtain ⟨h1, h2⟩ := h x hx
  unfold scr
  split
  · exact ⟨h1, by show x.to ≠ -1; omega⟩
  · exact ⟨h1, h2⟩
theorem okm_filter {L : List Move} (p : Move → Bool) (h : Okm L) : Okm (L.filter p) := fun m hm => h m (List.mem_filter.1 hm).1
theorem srt_scr {L : List Move} (r : Int) (h : Srt L) : Srt (L.map (scr r)) := by
  unfold Srt at *
  rw [List.pairwise_map]
  exact h.imp fun {a b} hab => by rw [scr_to, scr_to]; exact hab
theorem srt_filter {L : List Move} (p : Move → Bool) (h : Srt L) : Srt (L.filter p) := List.Pairwise.filter p h
theorem filter_lt {α : Type} {p : α → Bool} {L : List α} {a : α} (ha : a ∈ L) (hp : p a = false) : (L.filter p).length < L.length := by
  rw [List.length_filter_lt_length_iff_exists]
  exact ⟨a, ha, by simp [hp]⟩
theorem mu_drop {L : List Move} {m : Move} (hm : m ∈ L) : mu (L.filter fun x => decide (x.to ≠ m.to)) < mu L := by
  have h1 : (L.filter fun x => decide (x.to ≠ m.to)).length < L.length := filter_lt hm (by simp)
  have h2 : ((L.filter fun x => decide (x.to ≠ m.to)).filter fun m => decide (0 ≤ m.src)).length ≤ (L.filter fun m => decide (0 ≤ m.src)).length := by
    rw [List.filter_filter, show (fun a : Move => (decide (0 ≤ a.src) && decide (a.to ≠ m.to))) = fun a => (decide (a.to ≠ m.to) && decide (0 ≤ a.src)) from funext fun a => Bool.and_comm _ _, ← List.filter_filter]
    exact List.length_filter_le _ _
  unfold mu; omega
theorem filter_scr_le {r : Int} : ∀ (L : List Move), ((L.map (scr r)).filter fun m => decide (0 ≤ m.src)).length ≤ (L.filter fun m => decide (0 ≤ m.src)).length
  | [] => Nat.le_refl _
  | m :: L => by
    have ih := filter_scr_le (r := r) L
    simp only [List.map_cons, List.filter_cons]
    by_cases h : m.src = r
    · rw [show scr r m = ⟨m.to, -1⟩ from if_pos h]
      simp only [show ¬ (0 : Int) ≤ -1 by omega, decide_false, Bool.false_eq_true, if_false]
      split <;> simp <;> omega
    · rw [show scr r m = m from if_neg h]
      split <;> simp <;> omega
theorem filter_scr_lt {r : Int} (h0 : 0 ≤ r) : ∀ {L : List Move}, isSrc L r = true → ((L.map (scr r)).filter fun m => decide (0 ≤ m.src)).length < (L.filter fun m => decide (0 ≤ m.src)).length
  | [], h => by simp [isSrc] at h
  | m :: L, h => by
    simp only [List.map_cons, List.filter_cons]
    by_cases hr : m.src = r
    · have ih := filter_scr_le (r := r) L
      rw [show scr r m = ⟨m.to, -1⟩ from if_pos hr]
      simp only [show ¬ (0 : Int) ≤ -1 by omega, decide_false, Bool.false_eq_true, if_false, show 0 ≤ m.src by omega, decide_true, if_true, List.length_cons]
      omega
    · have ih := filter_scr_lt h0 (L := L) (by simpa [isSrc, hr] using h)
      rw [show scr r m = m from if_neg hr]
      split <;> simp <;> omega
theorem mu_put {L : List Move} {r : Int} (h0 : 0 ≤ r) (h : isSrc L r = true) : mu (L.map (scr r)) < mu L := by
  have := filter_scr_lt h0 h
  unfold mu
  rw [List.length_map]
  omega
theorem find_none_src {L : List Move} (h : (L.find? fun m => !isSrc L m.to) = none) : ∀ m ∈ L, isSrc L m.to = true := fun m hm => by
  have := List.find?_eq_none.1 h m hm
  simpa using this
/-- Enough steps are enough. -/
theorem seqI_more : ∀ (n : Nat) (L : List Move), Okm L → mu L ≤ n → seqI (n + 1) L = seqI n L
  | 0, L, _, h => by
    have : L = [] := List.eq_nil_of_length_eq_zero (by unfold mu at h; omega)
    subst this; rfl
  | n + 1, [], _, _ => rfl
  | n + 1, h :: t, ho, hm => by
    rw [seqI, seqI]
    cases hf : (h :: t).find? fun m => !isSrc (h :: t) m.to with
    | some m =>
      have h1 := mu_drop (List.mem_of_find?_eq_some hf)
      simp only
      rw [seqI_more n _ (okm_filter _ ho) (by omega)]
    | none =>
      have h1 := mu_put (ho h (by simp)).1 (find_none_src hf h (by simp))
      simp only
      rw [seqI_more n _ (okm_scr _ ho) (by omega)]
theorem seqI_enough {L : List Move} (ho : Okm L) : ∀ (d : Nat), seqI (mu L + d) L = seqI (mu L) L
  | 0 => rfl
  | d + 1 => by rw [← Nat.add_assoc, seqI_more _ _ ho (by omega), seqI_enough ho d]
def seqM (L : List Move) : List Instr := seqI (mu L) L
theorem seqM_of {L : List Move} {n : Nat} (ho : Okm L) (h : mu L ≤ n) : seqI n L = seqM L := by
  rw [show n = mu L + (n - mu L) by omega]; exact seqI_enough ho _
theorem seqM_nil : seqM [] = [] := rfl
theorem seqM_mv {L : List Move} {m : Move} (ho : Okm L) (hf : (L.find? fun m => !isSrc L m.to) = some m) : seqM L = mvI m :: seqM (L.filter fun x => decide (x.to ≠ m.to)) := by
  have h1 := mu_drop (List.mem_of_find?_eq_some hf)
  cases L with
  | nil => simp at hf
  | cons h t =>
    rw [← seqM_of ho (n := mu (h :: t) - 1 + 1) (by omega), seqI, hf]
    simp only
    rw [seqM_of (okm_filter _ ho) (by omega)]
theorem seqM_put {h : Move} {t : List Move} (ho : Okm (h :: t)) (hf : ((h :: t).find? fun m => !isSrc (h :: t) m.to) = none) : seqM (h :: t) = putI h.to :: seqM ((h :: t).map (scr h.to)) := by
  have h1 := mu_put (ho h (by simp)).1 (find_none_src hf h (by simp))
  rw [← seqM_of ho (n := mu (h :: t) - 1 + 1) (by omega), seqI, hf]
  simp only
  rw [seqM_of (okm_scr _ ho) (by omega)]
/-! As spec scans. -/
def isRd (ms : List Move) (but : Nat) (r : Int) : Bool := (List.range ms.length).any fun j => decide (j ≠ but) && decide ((ms[j]?.map (·.src)) = some r)
theorem isRd_src {ms : List Move} {i : Nat} {m : Move} (ho : Okm ms) (hi : ms[i]? = some m) : isRd ms i m.to = isSrc ms m.to := by
  rw [Bool.eq_iff_iff]
  simp only [isRd, isSrc, List.any_eq_true, List.mem_range, Bool.and_eq_true, decide_eq_true_eq]
  constructor
  · rintro ⟨j, hj, hne, he⟩
    obtain ⟨x, hx, hxs⟩ := Option.map_eq_some_iff.1 he
    exact ⟨x, List.mem_of_getElem? hx, hxs⟩
  · rintro ⟨x, hx, hxs⟩
    obtain ⟨j, hj⟩ := List.getElem?_of_mem hx
    refine ⟨j, (List.getElem?_eq_some_iff.1 hj).1, ?_, by rw [hj]; simp [hxs]⟩
    rintro rfl
    rw [hi] at hj
    obtain rfl := Option.some.inj hj
    exact (ho m hx).2 hxs.symm
def toAt (ms : List Move) (i : Nat) : Int := (ms[i]?.map (·.to)).getD 0
theorem toAt_of {ms : List Move} {i : Nat} {m : Move} (h : ms[i]? = some m) : toAt ms i = m.to := by simp [toAt, h]
def lowF (ms : List Move) : Nat → Nat
  | 0 => 0
  | k + 1 => if toAt ms k < toAt ms (lowF ms k) then k else lowF ms k
def bestF (ms : List Move) : Nat → Int
  | 0 => -1
  | k + 1 => if isRd ms k (toAt ms k) = false ∧ (bestF ms k < 0 ∨ toAt ms k < toAt ms (bestF ms k).toNat) then k else bestF ms k
theorem lowF_le (ms : List Move) : ∀ k, lowF ms k ≤ k - 1
  | 0 => Nat.le_refl _
  | k + 1 => by have := lowF_le ms k; unfold lowF; split <;> omega
theorem lowF_min (ms : List Move) : ∀ k j, j < k → toAt ms (lowF ms k) ≤ toAt ms j
  | 0, _, h => by omega
  | k + 1, j, h => by
    unfold lowF
    rcases Nat.lt_or_eq_of_le (Nat.le_of_lt_succ h) with h1 | rfl
    · have := lowF_min ms k j h1
      split <;> omega
    · split <;> omega
theorem bestF_is (ms : List Move) : ∀ k, (bestF ms k = -1 ∧ ∀ j, j < k → isRd ms j (toAt ms j) = true) ∨
    ∃ i, i < k ∧ bestF ms k = (i : Int) ∧ isRd ms i (toAt ms i) = false ∧ ∀ j, j < k → isRd ms j (toAt ms j) = false → toAt ms i ≤ toAt ms j
  | 0 => .inl ⟨rfl, by omega⟩
  | k + 1 => by
    have ih := bestF_is ms k
    unfold bestF
    cases hr : isRd ms k (toAt ms k)
    · rcases ih with ⟨hb, hall⟩ | ⟨i, hi, hb, hir, hmin⟩
      · rw [if_pos ⟨rfl, .inl (by omega)⟩]
        refine .inr ⟨k, by omega, rfl, hr, fun j hj hjr => ?_⟩
        rcases Nat.lt_or_eq_of_le (Nat.le_of_lt_succ hj) with h1 | rfl
        · rw [hall j h1] at hjr; cases hjr
        · exact Int.le_refl _
      · rw [hb]
        by_cases hlt : toAt ms k < toAt ms i
        · rw [if_pos ⟨rfl, .inr (by simpa using hlt)⟩]
          refine .inr ⟨k, by omega, rfl, hr, fun j hj hjr => ?_⟩
          rcases Nat.lt_or_eq_of_le (Nat.le_of_lt_succ hj) with h1 | rfl
          · have := hmin j h1 hjr; omega
          · exact Int.le_refl _
        · rw [if_neg (by simp; omega)]
          refine .inr ⟨i, by omega, rfl, hir, fun j hj hjr => ?_⟩
          rcases Nat.lt_or_eq_of_le (Nat.le_of_lt_succ hj) with h1 | rfl
          · exact hmin j h1 hjr
          · omega
    · rw [if_neg (by simp)]
      rcases ih with ⟨hb, hall⟩ | ⟨i, hi, hb, hir, hmin⟩
      · refine .inl ⟨hb, fun j hj => ?_⟩
        rcases Nat.lt_or_eq_of_le (Nat.le_of_lt_succ hj) with h1 | rfl
        · exact hall j h1
        · exact hr
      · refine .inr ⟨i, by omega, hb, hir, fun j hj hjr => ?_⟩
        rcases Nat.lt_or_eq_of_le (Nat.le_of_lt_succ hj) with h1 | rfl
        · exact hmin j h1 hjr
        · rw [hr] at hjr; cases hjr
def emitS : Nat → List Move → List Instr
  | 0, _ => []
  | n + 1, ms => if ms = [] then [] else
    if bestF ms ms.length < 0 then putI (toAt ms (lowF ms ms.length)) :: emitS n (ms.map (scr (toAt ms (lowF ms ms.length))))
    else ((ms[(bestF ms ms.length).toNat]?.map mvI).toList) ++ emitS n (ms.eraseIdx (bestF ms ms.length).toNat)
def Inj (ms : List Move) : Prop := ∀ a ∈ ms, ∀ b ∈ ms, a.to = b.to → a = b
theorem srt_inj {L : List Move} (h : Srt L) : Inj L := by
  induction L with
  | nil => intro a ha; simp at ha
  | cons x L ih =>
    unfold Srt at h
    rw [List.pairwise_cons] at h
    intro a ha b hb e
    rcases List.mem_cons.1 ha with h1 | h1
    · rcases List.mem_cons.1 hb with h2 | h2
      · rw [h1, h2]
      · have := h.1 b h2; subst h1; omega
    · rcases List.mem_cons.1 hb with h2 | h2
      · have := h.1 a h1; subst h2; omega
      · exact ih h.2 a h1 b h2 e
def DistTo (ms : List Move) : Prop := ms.Pairwise fun a b => a.to ≠ b.to
theorem erase_filter : ∀ {ms : List Move} {i : Nat} {m : Move}, DistTo ms → ms[i]? = some m → ms.eraseIdx i = ms.filter fun x => decide (x.to ≠ m.to)
  | [], _, _, _, h => by simp at h
  | x :: ms, 0, m, hd, h => by
    simp at h; subst h
    unfold DistTo at hd
    rw [List.pairwise_cons] at hd
    rw [List.eraseIdx_cons_zero, List.filter_cons_of_neg (by simp)]
    exact (List.filter_eq_self.2 fun y hy => by simpa using fun e => hd.1 y hy e.symm).symm
  | x :: ms, i + 1, m, hd, h => by
    unfold DistTo at hd
    rw [List.pairwise_cons] at hd
    have hm : ms[i]? = some m := by simpa using h
    rw [List.eraseIdx_cons_succ, erase_filter hd.2 hm, List.filter_cons_of_pos (by simpa using hd.1 m (List.mem_of_getElem? hm))]
theorem distTo_perm {ms L : List Move} (h : ms.Perm L) (hL : Srt L) : DistTo ms := by
  have : DistTo L := hL.imp fun {a b} h => by omega
  exact (h.pairwise_iff fun {a b} h => Ne.symm h).2 this
theorem isSrc_perm {ms L : List Move} (h : ms.Perm L) (r : Int) : isSrc ms r = isSrc L r := by
  unfold isSrc
  rw [Bool.eq_iff_iff, List.any_eq_true, List.any_eq_true]
  exact ⟨fun ⟨x, hx, e⟩ => ⟨x, h.mem_iff.1 hx, e⟩, fun ⟨x, hx, e⟩ => ⟨x, h.mem_iff.2 hx, e⟩⟩
theorem find_min {p : Move → Bool} : ∀ {L : List Move} {m x : Move}, Srt L → L.find? p = some m → x ∈ L → p x = true → m.to ≤ x.to
  | [], _, _, _, h, _, _ => by simp at h
  | y :: L, m, x, hs, h, hx, hp => by
    unfold Srt at hs
    rw [List.pairwise_cons] at hs
    rw [List.find?_cons] at h
    cases hy : p y with
    | true =>
      rw [hy] at h
      obtain rfl := Option.some.inj h
      rcases List.mem_cons.1 hx with rfl | hx
      · exact Int.le_refl _
      · have := hs.1 x hx; omega
    | false =>
      rw [hy] at h
      rcases List.mem_cons.1 hx with rfl | hx
      · rw [hy] at hp; cases hp
      · exact find_min hs.2 h hx hp
theorem emitS_seqI : ∀ (n : Nat) (ms L : List Move), ms.Perm L → Srt L → Okm L → emitS n ms = seqI n L
  | 0, _, _, _, _, _ => rfl
  | n + 1, ms, L, hp, hs, ho => by
    have hoM : Okm ms := fun m hm => ho m (hp.mem_iff.1 hm)
    cases L with
    | nil =>
      have : ms = [] := by have := hp.length_eq; exact List.eq_nil_of_length_eq_zero (by simpa using this)
      subst this; simp [emitS, seqI]
    | cons h t =>
      have hne : ms ≠ [] := fun e => by subst e; have := hp.length_eq; simp at this
      have hlen : 0 < ms.length := List.length_pos_iff.2 hne
      rw [emitS, if_neg hne, seqI]
      rcases bestF_is ms ms.length with ⟨hb, hall⟩ | ⟨i, hi, hb, hir, hmin⟩
      · rw [if_pos (by omega)]
        have hfind : ((h :: t).find? fun m => !isSrc (h :: t) m.to) = none := by
          rw [List.find?_eq_none]
          intro m hm
          obtain ⟨j, hj⟩ := List.getElem?_of_mem (hp.mem_iff.2 hm)
          have h1 := hall j (List.getElem?_eq_some_iff.1 hj).1
          rw [toAt_of hj, isRd_src hoM hj, isSrc_perm hp] at h1
          simp [h1]
        have hlow : toAt ms (lowF ms ms.length) = h.to := by
          have hl := lowF_le ms ms.length
          obtain ⟨m, hm⟩ : ∃ m, ms[lowF ms ms.length]? = some m := ⟨_, List.getElem?_eq_getElem (by omega)⟩
          rw [toAt_of hm]
          have hmL := hp.mem_iff.1 (List.mem_of_getElem? hm)
          obtain ⟨j, hj⟩ := List.getElem?_of_mem (hp.mem_iff.2 (show h ∈ h :: t by simp))
          have h1 := lowF_min ms ms.length j (List.getElem?_eq_some_iff.1 hj).1
          rw [toAt_of hm, toAt_of hj] at h1
          unfold Srt at hs
          rw [List.pairwise_cons] at hs
          rcases List.mem_cons.1 hmL with rfl | hmL
          · rfl
          · have := hs.1 m hmL; omega
        rw [hfind, hlow]
        simp only
        rw [emitS_seqI n _ _ (hp.map _) (srt_scr _ hs) (okm_scr _ ho)]
      · rw [if_neg (by omega)]
        obtain ⟨x, hx⟩ : ∃ m, ms[i]? = some m := ⟨_, List.getElem?_eq_getElem hi⟩
        rw [hb, Int.toNat_natCast, hx]
        rw [toAt_of hx, isRd_src hoM hx, isSrc_perm hp] at hir
        have hxL := hp.mem_iff.1 (List.mem_of_getElem? hx)
        cases hf : (h :: t).find? fun m => !isSrc (h :: t) m.to with
        | none =>
          have := List.find?_eq_none.1 hf x hxL
          simp [hir] at this
        | some m =>
          have hm := List.mem_of_find?_eq_some hf
          have h1 := find_min hs hf hxL (by simp [hir])
          obtain ⟨j, hj⟩ := List.getElem?_of_mem (hp.mem_iff.2 hm)
          have h2 := hmin j (List.getElem?_eq_some_iff.1 hj).1 (by rw [toAt_of hj, isRd_src hoM hj, isSrc_perm hp]; simpa using List.find?_some hf)
          rw [toAt_of hx, toAt_of hj] at h2
          have he : x = m := srt_inj hs x hxL m hm (by omega)
          subst he
          simp only [Option.map_some, Option.toList_some, List.singleton_append]
          rw [erase_filter (distTo_perm hp hs) hx, emitS_seqI n _ _ (hp.filter _) (srt_filter _ hs) (okm_filter _ ho)]
theorem mu_le (L : List Move) : mu L ≤ 2 * L.length := by have := List.length_filter_le (fun m : Move => decide (0 ≤ m.src)) L; unfold mu; omega
theorem emitS_seqM {ms L : List Move} (hp : ms.Perm L) (hs : Srt L) (ho : Okm L) : emitS (2 * ms.length) ms = seqM L := by
  rw [emitS_seqI _ _ _ hp hs ho, seqM_of ho (by rw [hp.length_eq]; exact mu_le L)]
end Go.Proofs.Ytnnfjjgohhicjaa
