/- Plain: a valid function whole; the phis at an edge. -/
import Derived.Test.YtnnfjjgohhicjaaDoorRp
import Derived.Test.YtnnfjjgohhicjaaDoorPw
namespace Go.Proofs.YtnnfjjgohhicjaaDoor
open Go.RowKit
set_option linter.unusedVariables false

/-- All that validity says. -/
structure VF (m : Func) : Prop where
  vals : 0 ≤ m.values ∧ m.values ≤ 2000
  len : 1 ≤ m.blocks.length ∧ m.blocks.length ≤ 1000
  size : sizeF m.blocks ≤ 4000
  ins : ∀ (k : Nat) b, m.blocks[k]? = some b → ∀ (i : Nat) x, b.instrs[i]? = some x → GoodInstr x m.values 10
  term : ∀ (k : Nat) b, m.blocks[k]? = some b → GoodTerm b.term m.values 1 m.blocks.length
  ends : ∀ (k : Nat) b, m.blocks[k]? = some b → sameEnds b.term = false
  dst : ∀ (k : Nat) b, m.blocks[k]? = some b → ∀ (i : Nat) p, b.phis[i]? = some p → 0 ≤ p.dst ∧ p.dst < m.values
  args : ∀ (k : Nat) b, m.blocks[k]? = some b → ∀ (i : Nat) p, b.phis[i]? = some p → p.args.length = (preds m.blocks k).length ∧ 1 ≤ p.args.length ∧ ∀ a ∈ p.args, 0 ≤ a ∧ a < m.values
  perm : (defs m.blocks).Perm (nums m.values.toNat)
theorem validF_VF {m : Func} (h : validF m = true) : VF m := by
  have hm := validF_iff.1 h
  obtain ⟨h1, h2, h3, h4, h5, h6⟩ := hm
  have hp := (defsOK_perm h1.1).1 h6
  have hr := ((defsOK_count h1.1).1 h6).1
  refine ⟨h1, h2, h3, fun k b hb i x hx => ?_, fun k b hb => ?_, fun k b hb => ?_, fun k b hb i p hpp => ?_, fun k b hb i p hpp => ?_, hp⟩
  · have := h4 k b hb
    simp only [blkOK, Bool.and_eq_true] at this
    exact (goodInstr_iff _ _ _).1 (List.all_eq_true.1 this.1 x (List.mem_of_getElem? hx))
  · have := h4 k b hb
    simp only [blkOK, Bool.and_eq_true] at this
    exact (goodTerm_iff _ _ _ _).1 this.2.1
  · have := h4 k b hb
    simp only [blkOK, Bool.and_eq_true, Bool.not_eq_true'] at this
    exact this.2.2
  · exact hr _ (mem_defs hb (by rw [defsB]; exact List.mem_append_left _ (List.mem_map.2 ⟨p, List.mem_of_getElem? hpp, rfl⟩)))
  · have := h5 k b hb i p hpp
    simp only [phiOK, Bool.and_eq_true, decide_eq_true_eq, List.all_eq_true, inR_iff] at this
    exact ⟨this.1.2, this.1.1, this.2⟩
theorem sizeB_le_sizeF {bs : List Block} {k : Nat} {b : Block} (hb : bs[k]? = some b) : sizeB b ≤ sizeF bs := by
  have h := sum_take_le sizeB bs (k + 1)
  have h2 := sizeF_snoc hb
  unfold sizeF at *
  omega
theorem len_le_sizePhis (ps : List Phi) : ps.length ≤ sizePhis ps := by
  unfold sizePhis
  induction ps with
  | nil => simp
  | cons p ps ih => simp only [List.length_cons, List.map_cons, List.sum_cons]; omega
theorem args_le_sizePhis {ps : List Phi} {i : Nat} {p : Phi} (h : ps[i]? = some p) : p.args.length ≤ sizePhis ps := by
  have h1 := sum_take_le (fun p : Phi => 1 + p.args.length) ps (i + 1)
  have h2 := sizePhis_snoc h
  unfold sizePhis at *
  omega
theorem VF.lens {m : Func} (h : VF m) {k : Nat} {b : Block} (hb : m.blocks[k]? = some b) : b.instrs.length ≤ 4000 ∧ b.phis.length ≤ 4000 ∧ ∀ (i : Nat) p, b.phis[i]? = some p → p.args.length ≤ 4000 := by
  have h1 := sizeB_le_sizeF hb
  have h2 := h.size
  have h3 := len_le_sizePhis b.phis
  unfold sizeB at h1
  exact ⟨by omega, by omega, fun i p hp => by have := args_le_sizePhis hp; omega⟩
/-! Predecessors. -/
theorem predsN_mem {b q : Int} : ∀ {bs : List Block} {i : Nat}, q ∈ predsN b bs i ↔ ∃ (k : Nat) (x : Block), bs[k]? = some x ∧ isPred x.term b = true ∧ q = ((i + k : Nat) : Int)
  | [], i => by simp [predsN]
  | x :: xs, i => by
    rw [predsN, List.mem_append, predsN_mem]
    constructor
    · rintro (h | ⟨k, y, h1, h2, h3⟩)
      · split at h
        · rename_i hp; simp at h; exact ⟨0, x, rfl, hp, by simp [h]⟩
        · simp at h
      · exact ⟨k + 1, y, by simpa using h1, h2, by rw [h3]; omega⟩
    · rintro ⟨k, y, h1, h2, h3⟩
      cases k with
      | zero => left; simp at h1; subst h1; rw [if_pos h2]; simpa using h3
      | succ k => right; exact ⟨k, y, by simpa using h1, h2, by rw [h3]; omega⟩
theorem preds_mem {bs : List Block} {b q : Int} : q ∈ preds bs b ↔ ∃ (k : Nat) (x : Block), bs[k]? = some x ∧ isPred x.term b = true ∧ q = (k : Int) := by
  unfold preds; rw [predsN_mem]; simp
theorem predsN_sorted (b : Int) : ∀ (bs : List Block) (i : Nat), (predsN b bs i).Pairwise (· < ·)
  | [], _ => by simp [predsN]
  | x :: xs, i => by
    rw [predsN, List.pairwise_append]
    refine ⟨by split <;> simp, predsN_sorted b xs (i + 1), fun a ha c hc => ?_⟩
    obtain ⟨k, y, -, -, rfl⟩ := predsN_mem.1 hc
    split at ha <;> simp at ha
    omega
theorem preds_sorted (bs : List Block) (b : Int) : (preds bs b).Pairwise (· < ·) := predsN_sorted b bs 0
theorem preds_inj {bs : List Block} {b p : Int} {i j : Nat} (h1 : (preds bs b)[i]? = some p) (h2 : (preds bs b)[j]? = some p) : i = j := by
  have hs := List.pairwise_iff_getElem.1 (preds_sorted bs b)
  obtain ⟨hi, e1⟩ := List.getElem?_eq_some_iff.1 h1
  obtain ⟨hj, e2⟩ := List.getElem?_eq_some_iff.1 h2
  rcases Nat.lt_trichotomy i j with h | h | h
  · have := hs i j hi hj h; omega
  · exact h
  · have := hs j i hj hi h; omega
theorem preds_range {bs : List Block} {b q : Int} (h : q ∈ preds bs b) : 0 ≤ q ∧ q < bs.length := by
  obtain ⟨k, x, h1, -, rfl⟩ := preds_mem.1 h
  have := (List.getElem?_eq_some_iff.1 h1).1
  omega
theorem isPred_targets (t : Term) (b : Int) : isPred t b = true ↔ b ∈ targets t := by
  unfold isPred targets
  by_cases h1 : t.kind = 1
  · simp [h1]; exact eq_comm
  · by_cases h2 : t.kind = 2
    · simp [h2]; rw [eq_comm, @eq_comm _ t.els]
    · simp [h1, h2]
theorem VF.predM {m : Func} (h : VF m) (k : Nat) : predM k m.blocks 0 = preds m.blocks k :=
  predM_preds k 0 fun b hb => by
    obtain ⟨i, hi⟩ := List.getElem?_of_mem hb
    exact ⟨(goodTerm_iff _ _ _ _).2 (h.term i b hi), h.ends i b hi⟩
/-! The phis at an edge. -/
def phisOf (m : Func) (b : Int) : List Phi := match m.blocks[b.toNat]? with
  | some x => x.phis
  | none => []
def phiSets (k : Nat) (old : List Int) (ps : List Phi) (c : List Int) : List Int := ps.foldl (fun c p => setI c p.dst (getI old (p.args.getD k 0))) c
theorem phiSets_snoc {k : Nat} {old c : List Int} {ps : List Phi} {j : Nat} {p : Phi} (h : ps[j]? = some p) : phiSets k old (ps.take (j + 1)) c = setI (phiSets k old (ps.take j) c) p.dst (getI old (p.args.getD k 0)) := by
  unfold phiSets; rw [List.take_add_one, h, List.foldl_append]; rfl
theorem phiSets_len (k : Nat) (old : List Int) : ∀ (ps : List Phi) (c : List Int), (phiSets k old ps c).length = c.length
  | [], _ => rfl
  | p :: ps, c => by unfold phiSets; rw [List.foldl_cons]; exact (phiSets_len k old ps _).trans (setI_len _ _ _)
def edgeAt (m : Func) (p b : Int) : Nat := (preds m.blocks b).idxOf p
def enterP (m : Func) (p b : Int) (s : Wd) : Wd := { s with cells := phiSets (edgeAt m p b) s.cells (phisOf m b) s.cells }
theorem edgeAt_get {m : Func} {p b : Int} (h : p ∈ preds m.blocks b) : (preds m.blocks b)[edgeAt m p b]? = some p := by
  unfold edgeAt
  have hl := List.idxOf_lt_length_of_mem h
  rw [List.getElem?_eq_getElem hl]
  simp
theorem edgeAt_eq {m : Func} {p b : Int} {j : Nat} (h : (preds m.blocks b)[j]? = some p) : edgeAt m p b = j := preds_inj (edgeAt_get (List.mem_of_getElem? h)) h
theorem edge_mem {m : Func} {p : Nat} {b : Int} {x : Block} (hx : m.blocks[p]? = some x) (ht : b ∈ targets x.term) : (p : Int) ∈ preds m.blocks b := preds_mem.2 ⟨p, x, hx, (isPred_targets _ _).2 ht, rfl⟩
end Go.Proofs.YtnnfjjgohhicjaaDoor
