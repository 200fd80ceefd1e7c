/- Contract: spec.EncodeMach. -/
import Derived.Test.YtnnfjjgohhicjaaDoorEd
import Derived.Test.YtnnfjjgohhicjaaDoorKo
import Derived.Test.YtnnfjjgohhicjaaDoorRi
namespace Go.Proofs.YtnnfjjgohhicjaaDoor
open Go.RowKit
set_option linter.unusedSimpArgs false
set_option linter.unusedVariables false
set_option maxRecDepth 100000

abbrev blockW : List UInt8 := [98, 108, 111, 99, 107]
def mblockL (b : MBlock) : List UInt8 := lineB blockW [] ++ (b.instrs.flatMap instrL ++ termL b.term)
def machL (m : Mach) : List UInt8 := lineB [109, 97, 99, 104] [m.regs] ++ m.blocks.flatMap mblockL
def encMach (m : Mach) : List UInt8 := if validMach m then machL m else []
theorem small_fld {u : Bool} {x n : Int} (h : Fld u x n) (hn : n ≤ 4000) : -4611686018427387904 ≤ x ∧ x ≤ 4611686018427387904 := by
  rcases h with ⟨_, h1, h2⟩ | ⟨_, h⟩ <;> omega
theorem small_instr {x : Instr} {n most : Int} (h : GoodInstr x n most) (hn : n ≤ 4000) : Small [x.dst, x.a, x.b, x.imm] := by
  obtain ⟨_, _, h3, h4, h5, h6⟩ := h
  intro v hv
  simp only [List.mem_cons, List.not_mem_nil, or_false] at hv
  rcases hv with rfl | rfl | rfl | rfl
  · exact small_fld h3 hn
  · exact small_fld h4 hn
  · exact small_fld h5 hn
  · rcases h6 with h | h | h <;> omega
theorem small_term {t : Term} {n low N : Int} (h : GoodTerm t n low N) (hn : n ≤ 4000) (hN : N ≤ 4000) (hl : 0 ≤ low) : Small [t.a, t.to, t.els] ∧ 1 ≤ t.kind ∧ t.kind ≤ 3 := by
  refine ⟨fun v hv => ?_, by rcases h with h | h | h <;> omega, by rcases h with h | h | h <;> omega⟩
  simp only [List.mem_cons, List.not_mem_nil, or_false] at hv
  rcases hv with rfl | rfl | rfl <;> rcases h with h | h | h <;> omega
theorem line_len {word : List UInt8} {v : List Int} (h : Small v) : (lineB word v).length ≤ word.length + 22 * v.length + 1 := by
  have := flat_len h v.length
  rw [List.take_length] at this
  simp only [lineB, List.length_append, List.length_cons, List.length_nil]
  omega
theorem instrL_len {x : Instr} (h : Small [x.dst, x.a, x.b, x.imm]) : (instrL x).length ≤ 72 := by
  have h1 := wordL_len x.op
  have h2 := useL_len x.op
  have h3 : Small (fieldsL x) := fun n hn => by
    obtain ⟨c, hc, rfl⟩ := List.mem_map.1 hn
    rcases useL_mem hc with rfl | rfl | rfl | rfl <;> exact h _ (by simp [fld])
  have h4 : (fieldsL x).length ≤ 3 := by rw [fieldsL, List.length_map]; exact h2
  have := line_len (word := wordL x.op) h3
  unfold instrL
  omega
theorem termL_len {t : Term} (h : Small [t.a, t.to, t.els]) : (termL t).length ≤ 73 := by
  have ha : Small [t.a] := fun n hn => h n (by simp at hn ⊢; omega)
  have ht : Small [t.to] := fun n hn => h n (by simp at hn ⊢; omega)
  unfold termL
  split
  · have := line_len (word := [106, 117, 109, 112]) ht; simp only [List.length_cons, List.length_nil] at this; omega
  · split
    · have := line_len (word := [114, 101, 116]) ha; simp only [List.length_cons, List.length_nil] at this; omega
    · have := line_len (word := [98, 114, 97, 110, 99, 104]) h; simp only [List.length_cons, List.length_nil] at this; omega
theorem flatMap_len {α : Type} {f : α → List UInt8} {L : Nat} : ∀ {xs : List α}, (∀ x ∈ xs, (f x).length ≤ L) → (xs.flatMap f).length ≤ xs.length * L
  | [], _ => by simp
  | x :: xs, h => by
    have h1 := h x (by simp)
    have h2 := flatMap_len (xs := xs) fun y hy => h y (by simp [hy])
    rw [List.flatMap_cons, List.length_append, List.length_cons, Nat.succ_mul]
    omega
theorem flatMap_snoc {α : Type} {f : α → List UInt8} {xs : List α} {k : Nat} {x : α} (h : xs[k]? = some x) : (xs.take (k + 1)).flatMap f = (xs.take k).flatMap f ++ f x := by
  rw [take_snoc h, List.flatMap_append]; simp
theorem AppB.ext {W w1 w' : World} {fp : List Nat} (hb : Below W.heap.size W w1) (hf : ∀ b ∈ fp, W.heap.size ≤ b) (hc : Chg (fun k => k ∈ fp ∨ w1.heap.size ≤ k) w1 w') : Below W.heap.size W w' :=
  hb.trans (hc.below hb.size fun k hk => hk.elim (hf k) fun h => Nat.le_trans hb.size h)
/-- Bytes are the answer. -/
def RetB (w : World) (l : List UInt8) (e : Ending) (w' : World) : Prop := ∃ A c fp, e = .returned (.slice A l.length c) ∧ Row 5 kU8 w' (.slice A l.length c) l fp ∧ (∀ b ∈ fp, w.heap.size ≤ b) ∧ Below w.heap.size w w'
/-- A valid machine program for the text. -/
structure MT (m : Mach) : Prop where
  len : m.blocks.length ≤ 3000
  regs : Small [m.regs]
  ins : ∀ (k : Nat) b, m.blocks[k]? = some b → ∀ (i : Nat) x, b.instrs[i]? = some x → Small [x.dst, x.a, x.b, x.imm] ∧ 1 ≤ x.op ∧ x.op ≤ 13
  term : ∀ (k : Nat) b, m.blocks[k]? = some b → Small [b.term.a, b.term.to, b.term.els] ∧ 1 ≤ b.term.kind ∧ b.term.kind ≤ 3
  il : ∀ (k : Nat) b, m.blocks[k]? = some b → b.instrs.length ≤ 20000
theorem validMach_MT {m : Mach} (h : validMach m = true) : MT m := by
  obtain ⟨h1, h2, h3⟩ := validMach_parts h
  have hs : machSize m ≤ 20000 := by simp only [validMach, Bool.and_eq_true, decide_eq_true_eq] at h; exact h.1.2
  refine ⟨h2.2, fun n hn => by simp at hn; omega, fun k b hb i x hx => ?_, fun k b hb => small_term (h3 k b hb).2 (by omega) (by omega) (by omega), fun k b hb => ?_⟩
  · have hg := (h3 k b hb).1 i x hx
    exact ⟨small_instr hg (by omega), hg.1, hg.2.1⟩
  · have h4 := lens_snoc hb
    have h5 := lens_le m.blocks (k + 1)
    rw [machSize_eq] at hs
    omega
theorem MT.blk {m : Mach} (h : MT m) {k : Nat} {b : MBlock} (hb : m.blocks[k]? = some b) : (mblockL b).length ≤ 2000000 := by
  have h1 := flatMap_len (f := instrL) (L := 72) (xs := b.instrs) fun x hx => by obtain ⟨i, hi⟩ := List.getElem?_of_mem hx; exact instrL_len (h.ins k b hb i x hi).1
  have h2 := termL_len (h.term k b hb).1
  have h3 := h.il k b hb
  have h4 := line_len (word := blockW) (v := []) (fun n hn => by simp at hn)
  simp only [List.length_cons, List.length_nil] at h4
  have h5 : b.instrs.length * 72 ≤ 20000 * 72 := Nat.mul_le_mul_right _ h3
  simp only [mblockL, List.length_append]
  omega
theorem MT.upto {m : Mach} (h : MT m) (k : Nat) : ((m.blocks.take k).flatMap mblockL).length ≤ 3000 * 2000000 := by
  have h1 := flatMap_len (f := mblockL) (L := 2000000) (xs := m.blocks.take k) fun b hb => by obtain ⟨i, hi⟩ := List.getElem?_of_mem (List.mem_of_mem_take hb); exact h.blk hi
  have h2 : (m.blocks.take k).length ≤ 3000 := Nat.le_trans (by rw [List.length_take]; omega) h.len
  exact Nat.le_trans h1 (Nat.mul_le_mul_right _ h2)
end Go.Proofs.YtnnfjjgohhicjaaDoor
