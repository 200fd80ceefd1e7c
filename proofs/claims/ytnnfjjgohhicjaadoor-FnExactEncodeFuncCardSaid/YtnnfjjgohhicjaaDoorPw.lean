/- Plain: validity of functions, as spec says it and as impl counts it. -/
import Derived.Test.YtnnfjjgohhicjaaDoorPg
import Derived.Test.YtnnfjjgohhicjaaDoorPf
namespace Go.Proofs.YtnnfjjgohhicjaaDoor
set_option linter.unusedVariables false
def inR (n a : Int) : Bool := decide (0 ≤ a ∧ a < n)
theorem inR_iff {n a : Int} : inR n a = true ↔ 0 ≤ a ∧ a < n := by simp [inR]
theorem inR_not {n a : Int} : inR n a = false ↔ ¬ (0 ≤ a ∧ a < n) := by simp [inR]
def sameEnds (t : Term) : Bool := decide (t.kind = 2) && decide (t.to = t.els)
def blkOK (m : Func) (b : Block) : Bool := (b.instrs.all fun x => goodInstr x m.values 10) && (goodTerm b.term m.values 1 m.blocks.length && !sameEnds b.term)
def phiOK (n : Int) (np : Nat) (p : Phi) : Bool := decide (1 ≤ p.args.length ∧ p.args.length = np) && p.args.all (inR n)
def phisFrom (m : Func) : List Block → Nat → Bool
  | [], _ => true
  | b :: bs, i => b.phis.all (phiOK m.values (preds m.blocks i).length) && phisFrom m bs (i + 1)
def defsOK (L : List Int) (n : Int) : Bool := decide ((L.length : Int) = n) && (List.range n.toNat).all fun v => decide ((v : Int) ∈ L)
def validF (m : Func) : Bool :=
  (decide (0 ≤ m.values ∧ m.values ≤ 2000) && decide (1 ≤ m.blocks.length ∧ m.blocks.length ≤ 1000)) && (decide (sizeF m.blocks ≤ 4000) && (m.blocks.all (blkOK m) && (phisFrom m m.blocks 0 && defsOK (defs m.blocks) m.values)))
theorem phisFrom_iff (m : Func) : ∀ (bs : List Block) (i : Nat), phisFrom m bs i = true ↔ ∀ (j : Nat) b, bs[j]? = some b → b.phis.all (phiOK m.values (preds m.blocks (i + j : Nat)).length) = true
  | [], i => by simp [phisFrom]
  | b :: bs, i => by
    rw [phisFrom, Bool.and_eq_true, phisFrom_iff m bs (i + 1)]
    constructor
    · rintro ⟨h1, h2⟩ j c hc
      cases j with
      | zero => simp at hc; subst hc; simpa using h1
      | succ j => have := h2 j c (by simpa using hc); rwa [show i + 1 + j = i + (j + 1) by omega] at this
    · intro h
      exact ⟨by simpa using h 0 b rfl, fun j c hc => by have := h (j + 1) c (by simpa using hc); rwa [show i + (j + 1) = i + 1 + j by omega] at this⟩
theorem validF_iff {m : Func} : validF m = true ↔ (0 ≤ m.values ∧ m.values ≤ 2000) ∧ (1 ≤ m.blocks.length ∧ m.blocks.length ≤ 1000) ∧ sizeF m.blocks ≤ 4000 ∧ (∀ (j : Nat) b, m.blocks[j]? = some b → blkOK m b = true) ∧
    (∀ (j : Nat) b, m.blocks[j]? = some b → ∀ (i : Nat) p, b.phis[i]? = some p → phiOK m.values (preds m.blocks j).length p = true) ∧ defsOK (defs m.blocks) m.values = true := by
  have e1 : m.blocks.all (blkOK m) = true ↔ (∀ (j : Nat) b, m.blocks[j]? = some b → blkOK m b = true) := by
    rw [List.all_eq_true]
    exact ⟨fun h j b hb => h b (List.mem_of_getElem? hb), fun h b hb => by obtain ⟨j, hj⟩ := List.getElem?_of_mem hb; exact h j b hj⟩
  have e2 : phisFrom m m.blocks 0 = true ↔ (∀ (j : Nat) b, m.blocks[j]? = some b → ∀ (i : Nat) p, b.phis[i]? = some p → phiOK m.values (preds m.blocks j).length p = true) := by
    rw [phisFrom_iff]
    simp only [Nat.zero_add]
    refine forall_congr' fun j => forall_congr' fun b => imp_congr_right fun _ => ?_
    rw [List.all_eq_true]
    exact ⟨fun h i p hp => h p (List.mem_of_getElem? hp), fun h p hp => by obtain ⟨i, hi⟩ := List.getElem?_of_mem hp; exact h i p hi⟩
  simp only [validF, Bool.and_eq_true, decide_eq_true_eq, e1, e2]
  constructor
  · rintro ⟨⟨a, b⟩, c, d, e, f⟩; exact ⟨a, b, c, d, e, f⟩
  · rintro ⟨a, b, c, d, e, f⟩; exact ⟨⟨a, b⟩, c, d, e, f⟩
theorem vf_not {m : Func} (h : validF m = true → False) : validF m = false := by
  cases hv : validF m
  · rfl
  · exact (h hv).elim
theorem vf_values {m : Func} (h : ¬ (0 ≤ m.values ∧ m.values ≤ 2000)) : validF m = false := vf_not fun g => h (validF_iff.1 g).1
theorem vf_n {m : Func} (h : ¬ (1 ≤ m.blocks.length ∧ m.blocks.length ≤ 1000)) : validF m = false := vf_not fun g => h (validF_iff.1 g).2.1
theorem vf_size {m : Func} (h : 4000 < sizeF m.blocks) : validF m = false := vf_not fun g => by have := (validF_iff.1 g).2.2.1; omega
theorem vf_size' {m : Func} {k : Nat} {n : Nat} (h : 4000 < n) (h2 : n ≤ sizeF (m.blocks.take k)) : validF m = false := vf_size (by have := sum_take_le sizeB m.blocks k; unfold sizeF at *; omega)
theorem vf_blk {m : Func} {k : Nat} {b : Block} (hb : m.blocks[k]? = some b) (h : blkOK m b = false) : validF m = false := vf_not fun g => by have := (validF_iff.1 g).2.2.2.1 k b hb; rw [h] at this; cases this
theorem vf_instr {m : Func} {k i : Nat} {b : Block} {x : Instr} (hb : m.blocks[k]? = some b) (hx : b.instrs[i]? = some x) (h : goodInstr x m.values 10 = false) : validF m = false :=
  vf_blk hb (by rw [blkOK, List.all_eq_false.2 ⟨x, List.mem_of_getElem? hx, by simp [h]⟩, Bool.false_and])
theorem vf_term {m : Func} {k : Nat} {b : Block} (hb : m.blocks[k]? = some b) (h : goodTerm b.term m.values 1 m.blocks.length = false) : validF m = false := vf_blk hb (by simp [blkOK, h])
theorem vf_same {m : Func} {k : Nat} {b : Block} (hb : m.blocks[k]? = some b) (h1 : b.term.kind = 2) (h2 : b.term.to = b.term.els) : validF m = false := vf_blk hb (by simp [blkOK, sameEnds, h1, h2])
theorem vf_phi {m : Func} {k i : Nat} {b : Block} {p : Phi} (hb : m.blocks[k]? = some b) (hp : b.phis[i]? = some p) (h : phiOK m.values (preds m.blocks k).length p = false) : validF m = false := vf_not fun g => by have := (validF_iff.1 g).2.2.2.2.1 k b hb i p hp; rw [h] at this; cases this
theorem vf_defs {m : Func} (h : defsOK (defs m.blocks) m.values = false) : validF m = false := vf_not fun g => by have := (validF_iff.1 g).2.2.2.2.2; rw [h] at this; cases this
theorem phi_arg {n : Int} {np i : Nat} {p : Phi} {a : Int} (h : p.args[i]? = some a) (hr : inR n a = false) : phiOK n np p = false := by
  rw [phiOK, List.all_eq_false.2 ⟨a, List.mem_of_getElem? h, by simp [hr]⟩, Bool.and_false]
theorem phi_len {n : Int} {np : Nat} {p : Phi} (h : ¬ (1 ≤ p.args.length ∧ p.args.length = np)) : phiOK n np p = false := by rw [phiOK, decide_eq_false h, Bool.false_and]
theorem phi_ok {n : Int} {np : Nat} {p : Phi} (h : 1 ≤ p.args.length ∧ p.args.length = np) (ha : p.args.all (inR n) = true) : phiOK n np p = true := by rw [phiOK, decide_eq_true h, ha]; rfl
/-- Numbers below n, each once. -/
def nums (n : Nat) : List Int := (List.range n).map Int.ofNat
theorem nums_mem {n : Nat} {a : Int} : a ∈ nums n ↔ 0 ≤ a ∧ a < n := by
  simp only [nums, List.mem_map, List.mem_range]
  exact ⟨by rintro ⟨v, hv, rfl⟩; simp only [Int.ofNat_eq_natCast]; omega, fun h => ⟨a.toNat, by omega, by simp only [Int.ofNat_eq_natCast]; omega⟩⟩
theorem nums_nodup (n : Nat) : (nums n).Nodup := List.Pairwise.map _ (fun a b h e => h (Int.ofNat.inj e)) List.nodup_range
theorem perm_of_sub : ∀ {R L : List Int}, R.Nodup → (∀ a ∈ R, a ∈ L) → L.length = R.length → L.Perm R
  | [], L, _, _, h => by rw [List.eq_nil_of_length_eq_zero h]
  | r :: R, L, hn, hs, h => by
    have hr : r ∈ L := hs r (by simp)
    have h1 := List.perm_cons_erase hr
    rw [List.nodup_cons] at hn
    refine h1.trans (List.Perm.cons r (perm_of_sub hn.2 (fun a ha => ?_) (by rw [List.length_erase_of_mem hr, h]; simp)))
    have hne : a ≠ r := fun e => hn.1 (e ▸ ha)
    exact (List.mem_erase_of_ne hne).2 (hs a (by simp [ha]))
theorem defsOK_perm {L : List Int} {n : Int} (h0 : 0 ≤ n) : defsOK L n = true ↔ L.Perm (nums n.toNat) := by
  have hl : (nums n.toNat).length = n.toNat := by simp [nums]
  simp only [defsOK, Bool.and_eq_true, decide_eq_true_eq, List.all_eq_true, List.mem_range]
  constructor
  · rintro ⟨h1, h2⟩
    refine perm_of_sub (nums_nodup _) (fun a ha => ?_) (by omega)
    have := nums_mem.1 ha
    have := h2 a.toNat (by omega)
    rwa [show (a.toNat : Int) = a by omega] at this
  · intro h
    refine ⟨by have := h.length_eq; omega, fun v hv => h.mem_iff.2 (nums_mem.2 (by omega))⟩
theorem defsOK_count {L : List Int} {n : Int} (h0 : 0 ≤ n) : defsOK L n = true ↔ (∀ a ∈ L, 0 ≤ a ∧ a < n) ∧ ∀ v : Nat, v < n → L.count (v : Int) = 1 := by
  rw [defsOK_perm h0]
  constructor
  · intro h
    refine ⟨fun a ha => by have := nums_mem.1 (h.mem_iff.1 ha); omega, fun v hv => ?_⟩
    rw [h.count_eq, (nums_nodup n.toNat).count, if_pos (nums_mem.2 (by omega))]
  · rintro ⟨h1, h2⟩
    rw [List.perm_iff_count]
    intro a
    rw [(nums_nodup n.toNat).count]
    by_cases ha : a ∈ nums n.toNat
    · have := nums_mem.1 ha
      have h3 := h2 a.toNat (by omega)
      rw [show (a.toNat : Int) = a by omega] at h3
      rw [if_pos ha, h3]
    · rw [if_neg ha, List.count_eq_zero]
      exact fun hm => ha (nums_mem.2 (by have := h1 a hm; omega))
theorem mem_defs {bs : List Block} {k : Nat} {b : Block} {a : Int} (hb : bs[k]? = some b) (ha : a ∈ defsB b) : a ∈ defs bs := List.mem_flatMap.2 ⟨b, List.mem_of_getElem? hb, ha⟩
theorem vf_dst {m : Func} {k i : Nat} {b : Block} {p : Phi} (hb : m.blocks[k]? = some b) (hp : b.phis[i]? = some p) (h : inR m.values p.dst = false) : validF m = false := vf_not fun g => by
  have h1 := validF_iff.1 g
  have h2 := ((defsOK_count h1.1.1).1 h1.2.2.2.2.2).1 p.dst (mem_defs hb (List.mem_append_left _ (List.mem_map.2 ⟨p, List.mem_of_getElem? hp, rfl⟩)))
  exact inR_not.1 h h2
theorem vf_count {m : Func} {v : Nat} (hv : (v : Int) < m.values) (h : (defs m.blocks).count (v : Int) ≠ 1) : validF m = false := vf_not fun g => by
  have h1 := validF_iff.1 g
  exact h (((defsOK_count h1.1.1).1 h1.2.2.2.2.2).2 v hv)
theorem rep_pred {t : Term} {n low N : Int} (hg : goodTerm t n low N = true) (hs : sameEnds t = false) (v : Nat) (b : Int) : rep (targets t) v b = if isPred t v then [b] else [] := by
  obtain ⟨k, a, to, els⟩ := t
  rw [goodTerm_iff] at hg
  simp only [GoodTerm] at hg
  simp only [sameEnds, Bool.and_eq_false_iff, decide_eq_false_iff_not] at hs
  rcases hg with ⟨rfl, _⟩ | ⟨rfl, _⟩ | ⟨rfl, _⟩
  · by_cases h : to = (v : Int) <;> simp [rep, targets, isPred, h]
  · have hne : to ≠ els := by omega
    by_cases h : to = (v : Int) <;> by_cases h2 : els = (v : Int) <;> simp [rep, targets, isPred, h, h2]
    omega
  · simp [rep, targets, isPred]
theorem predM_preds {bs : List Block} {n low N : Int} (v : Nat) : ∀ (i : Nat), (∀ b ∈ bs, goodTerm b.term n low N = true ∧ sameEnds b.term = false) → predM v bs i = predsN (v : Int) bs i := by
  induction bs with
  | nil => intro i _; rfl
  | cons b bs ih =>
    intro i h
    have h0 := h b (by simp)
    rw [predM, predsN, rep_pred h0.1 h0.2, ih (i + 1) fun c hc => h c (by simp [hc])]
theorem vf_true {m : Func} (h1 : 0 ≤ m.values ∧ m.values ≤ 2000) (h2 : 1 ≤ m.blocks.length ∧ m.blocks.length ≤ 1000) (h3 : sizeF m.blocks ≤ 4000) (h4 : ∀ (j : Nat) b, m.blocks[j]? = some b → goodTerm b.term m.values 1 m.blocks.length = true ∧ sameEnds b.term = false)
    (h5 : ∀ (j : Nat) b, m.blocks[j]? = some b → ∀ (i : Nat) x, b.instrs[i]? = some x → goodInstr x m.values 10 = true)
    (h6 : ∀ (j : Nat) b, m.blocks[j]? = some b → ∀ (i : Nat) p, b.phis[i]? = some p → phiOK m.values (preds m.blocks j).length p = true) (h7 : defsOK (defs m.blocks) m.values = true) : validF m = true := by
  refine validF_iff.2 ⟨h1, h2, h3, fun j b hb => ?_, h6, h7⟩
  obtain ⟨g1, g2⟩ := h4 j b hb
  have : (b.instrs.all fun x => goodInstr x m.values 10) = true := List.all_eq_true.2 fun x hx => by obtain ⟨i, hi⟩ := List.getElem?_of_mem hx; exact h5 j b hb i x hi
  rw [blkOK, this, g1, g2]; rfl
theorem used_range {x : Instr} {n most : Int} (h : goodInstr x n most = true) (hd : usedD x.op = true) : 0 ≤ x.dst ∧ x.dst < n := by
  rw [goodInstr_iff] at h
  obtain ⟨_, _, h3, _⟩ := h
  rcases h3 with h3 | h3
  · exact h3.2
  · rw [hd] at h3; exact absurd h3.1 (by simp)
theorem defs_range {bs : List Block} {n : Int} (hp : ∀ (j : Nat) b, bs[j]? = some b → ∀ (i : Nat) p, b.phis[i]? = some p → 0 ≤ p.dst ∧ p.dst < n) (hi : ∀ (j : Nat) b, bs[j]? = some b → ∀ (i : Nat) x, b.instrs[i]? = some x → goodInstr x n 10 = true) : ∀ a ∈ defs bs, 0 ≤ a ∧ a < n := by
  intro a ha
  obtain ⟨b, hb, ha⟩ := List.mem_flatMap.1 ha
  obtain ⟨j, hj⟩ := List.getElem?_of_mem hb
  rcases List.mem_append.1 ha with ha | ha
  · obtain ⟨p, hpm, rfl⟩ := List.mem_map.1 ha
    obtain ⟨i, hi'⟩ := List.getElem?_of_mem hpm
    exact hp j b hj i p hi'
  · obtain ⟨x, hx, rfl⟩ := List.mem_map.1 ha
    rw [List.mem_filter] at hx
    obtain ⟨i, hi'⟩ := List.getElem?_of_mem hx.1
    exact used_range (hi j b hj i x hi') (by simpa using hx.2)
end Go.Proofs.YtnnfjjgohhicjaaDoor
