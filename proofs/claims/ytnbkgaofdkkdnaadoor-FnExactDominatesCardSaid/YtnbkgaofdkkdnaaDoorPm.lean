/- Plain facts on validity of machine programs. -/
import Derived.Test.YtnbkgaofdkkdnaaDoorPv
namespace Go.Proofs.YtnbkgaofdkkdnaaDoor
def lens (bs : List MBlock) : Nat := (bs.map fun b => b.instrs.length).sum
theorem lens_snoc {bs : List MBlock} {k : Nat} {b : MBlock} (h : bs[k]? = some b) : lens (bs.take (k + 1)) = lens (bs.take k) + b.instrs.length := by
  unfold lens; rw [List.take_add_one, h]; simp
theorem lens_le (bs : List MBlock) (k : Nat) : lens (bs.take k) ≤ lens bs := by
  have h := List.take_append_drop k bs
  have : lens bs = lens (bs.take k) + lens (bs.drop k) := by
    unfold lens
    rw [← List.sum_append, ← List.map_append, h]
  omega
theorem machSize_eq (m : Mach) : machSize m = m.blocks.length + lens m.blocks := rfl
theorem vm_regs {m : Mach} (h : ¬ (1 ≤ m.regs ∧ m.regs ≤ 64)) : validMach m = false := by simp only [validMach, h, decide_false, Bool.false_and]
theorem vm_n {m : Mach} (h : ¬ (1 ≤ m.blocks.length ∧ m.blocks.length ≤ 3000)) : validMach m = false := by simp only [validMach, h, decide_false, Bool.false_and, Bool.and_false]
theorem vm_size {m : Mach} (h : 20000 < machSize m) : validMach m = false := by simp [validMach, show ¬ machSize m ≤ 20000 by omega]
theorem vm_block {m : Mach} {k : Nat} {b : MBlock} (hb : m.blocks[k]? = some b) (h : ((b.instrs.all fun x => goodInstr x m.regs 13) && goodTerm b.term m.regs 0 m.blocks.length) = false) : validMach m = false := by
  have : m.blocks.all (fun b => (b.instrs.all fun x => goodInstr x m.regs 13) && goodTerm b.term m.regs 0 m.blocks.length) = false := List.all_eq_false.2 ⟨b, List.mem_of_getElem? hb, by simp [h]⟩
  rw [validMach, this, Bool.and_false]
theorem vm_term {m : Mach} {k : Nat} {b : MBlock} (hb : m.blocks[k]? = some b) (h : goodTerm b.term m.regs 0 m.blocks.length = false) : validMach m = false := vm_block hb (by rw [h, Bool.and_false])
theorem vm_instr {m : Mach} {k j : Nat} {b : MBlock} {x : Instr} (hb : m.blocks[k]? = some b) (hx : b.instrs[j]? = some x) (h : goodInstr x m.regs 13 = false) : validMach m = false :=
  vm_block hb (by rw [List.all_eq_false.2 ⟨x, List.mem_of_getElem? hx, by simp [h]⟩, Bool.false_and])
theorem vm_true {m : Mach} (h1 : 1 ≤ m.regs ∧ m.regs ≤ 64) (h2 : 1 ≤ m.blocks.length ∧ m.blocks.length ≤ 3000) (h3 : machSize m ≤ 20000) (h4 : m.blocks.all (fun b => b.instrs.all fun x => goodInstr x m.regs 13) = true)
    (h5 : m.blocks.all (fun b => goodTerm b.term m.regs 0 m.blocks.length) = true) : validMach m = true := by
  simp only [validMach, Bool.and_eq_true, decide_eq_true_eq]
  refine ⟨⟨⟨h1, h2⟩, h3⟩, ?_⟩
  rw [List.all_eq_true] at *
  intro b hb
  rw [Bool.and_eq_true]
  exact ⟨h4 b hb, h5 b hb⟩
theorem all_snoc {α : Type} {p : α → Bool} {xs : List α} {k : Nat} {x : α} (h : xs[k]? = some x) (h1 : (xs.take k).all p = true) (h2 : p x = true) : (xs.take (k + 1)).all p = true := by
  rw [List.take_add_one, h]; simp_all
def targets (t : Term) : List Int := if t.kind = 1 then [t.to] else if t.kind = 2 then [t.to, t.els] else []
theorem targets_len (t : Term) : (targets t).length ≤ 2 := by unfold targets; split <;> (try split) <;> simp
end Go.Proofs.YtnbkgaofdkkdnaaDoor
