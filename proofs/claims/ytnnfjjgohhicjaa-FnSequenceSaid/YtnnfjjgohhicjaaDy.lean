/- Arrays of one call's own: slices with their own block, known whole. -/
import Derived.Test.YtnnfjjgohhicjaaQa
namespace Go.Proofs.Ytnnfjjgohhicjaa
open Go.RowKit
set_option linter.unusedSimpArgs false
set_option linter.unusedVariables false
set_option maxRecDepth 100000

theorem wpList_make_row {α : Type} (d : Kd α) (z : α) (zc : List Value) {P : Program} (w : World) {ops : Array Oper} {rest : List Oper} {o : Oper} {a : Act} {Q : Exit → Act → World → Prop}
    (hg : o.guard = none) (l c : Operand) (t : TypeId) (hop : o.op = Op.makeSlice t l c) (e : TypeId) (i : TypeInfo) (zv : Value) (h1 : P.underlying t = some (.slice e)) (h2 : P.info? e = some i) (h3 : i.zero = some zv) (h4 : i.size = d.sz)
    (hzc : zv.cells = zc.toArray) (h0 : 0 < d.sz) (hz : ∀ w', d.O w' z zc [])
    (L : Int) (n : Nat) (hl : a.eval l = .int .i64 L) (hc : a.eval c = .int .i64 L) (hL : L = (n : Int)) (b2 : i.bytes * n ≤ 281474976710656) (b3 : n ≤ maxLen)
    (hK : ∀ w', Row e d w' (.slice (some ⟨w.heap.size, 0, none⟩) n n) (List.replicate n z) [w.heap.size] → Below w.heap.size w w' → w.heap.size < w'.heap.size → wpList P ops Q rest (a.put o.dst (.slice (some ⟨w.heap.size, 0, none⟩) n n)) w') :
    wpList P ops Q (o :: rest) a w := by
  refine wpList_make_full w hg l c t hop 0 e i zv d.sz h1 h2 h3 h4 .i64 .i64 L L n hl hc hL hL b2 b3 (Nat.zero_le _) ?_
  intro w' ho hgr
  rw [hzc] at ho
  have hr := Row.made (d := d) (z := z) (zc := zc) ho h0 (hz w')
  exact hK w' hr ((Below.refl _ w).grown hgr (Nat.le_refl _) (by simp)) (hr.lt _ (by simp))
/-- Elements of one cell. -/
def kF1 {α : Type} (e : α → Value) (h : ∀ x, (e x).oneCell' = true) : Kd α := kFlat 1 (fun x => [e x]) (fun _ => rfl) (by intro x u hu; simp at hu; subst hu; exact h x)
structure Arr {α : Type} (T : TypeId) (e : α → Value) (g n : Nat) (xs : List α) (w : World) : Prop where
  row : ∃ h fp, Row T (kF1 e h) w (.slice (some ⟨g, 0, none⟩) n n) xs fp ∧ ∀ q ∈ fp, q = g
  len : xs.length = n
namespace Arr
variable {α : Type} {T : TypeId} {e : α → Value} {g n : Nat} {xs : List α} {w w' : World}
theorem made {h : ∀ x, (e x).oneCell' = true} {z : α} (hr : Row T (kF1 e h) w (.slice (some ⟨g, 0, none⟩) n n) (List.replicate n z) [g]) : Arr T e g n (List.replicate n z) w := ⟨⟨h, _, hr, by simp⟩, by simp⟩
theorem cell (h : Arr T e g n xs w) {i : Nat} {x : α} (hx : xs[i]? = some x) : w.cell? ⟨g, i, none⟩ = some (e x) := by
  obtain ⟨⟨h1, fp, hr, hf⟩, hl⟩ := h
  obtain ⟨_, rfl, hc, _⟩ := hr.cellsAt hl hx
  have := ha1 hc
  rwa [show i * (kF1 e h1).sz = i from Nat.mul_one i] at this
theorem at' (h : Arr T e g n xs w) {i : Nat} (hi : i < n) (z : α) : w.cell? ⟨g, i, none⟩ = some (e (xs.getD i z)) := by
  have hl := h.len
  refine h.cell ?_
  rw [List.getD_eq_getElem?_getD, List.getElem?_eq_getElem (by omega)]; rfl
theorem frozen (h : Arr T e g n xs w) (hn : 0 < n) (o : Nat) : w.frozen? ⟨g, o, none⟩ = false := by
  obtain ⟨⟨h1, fp, hr, hf⟩, hl⟩ := h
  obtain ⟨x, hx⟩ := get_of_lt (xs := xs) (k := 0) (by omega)
  obtain ⟨_, rfl, _, hz⟩ := hr.cellsAt hl hx
  exact hz o
theorem lt (h : Arr T e g n xs w) (hn : 0 < n) : g < w.heap.size := World.block_lt_of_cell? (a := ⟨g, 0, none⟩) w (h.cell (List.getElem?_eq_getElem (by rw [h.len]; exact hn)))
theorem set (h : Arr T e g n xs w) {i : Nat} (hi : i < n) (y : α) : Arr T e g n (xs.set i y) (w.setCell ⟨g, i, none⟩ (e y)) ∧ Chg (fun q => q = g) w (w.setCell ⟨g, i, none⟩ (e y)) := by
  obtain ⟨⟨h1, fp, hr, hf⟩, hl⟩ := h
  obtain ⟨f1, hr1, hf1, hc1⟩ := hr.set hl hi (y := y) (cs := [e y]) (f := []) ⟨rfl, rfl⟩ (by simp)
  rw [show i * (kF1 e h1).sz = i from Nat.mul_one i, setCells1] at hr1 hc1
  exact ⟨⟨⟨h1, f1, hr1, fun q hq => hf q (by have := hf1 q hq; simpa using this)⟩, by rw [List.length_set]; exact hl⟩, hc1⟩
theorem chg {S : Nat → Prop} (h : Arr T e g n xs w) (hc : Chg S w w') (hS : ¬ S g) : Arr T e g n xs w' := by
  obtain ⟨⟨h1, fp, hr, hf⟩, hl⟩ := h
  exact ⟨⟨h1, fp, hr.chg hc fun q hq => by rw [hf q hq]; exact hS, hf⟩, hl⟩
end Arr
end Go.Proofs.Ytnnfjjgohhicjaa
