/- make([]T, n) as an owned row; steps of extended worlds. -/
import Derived.Test.YtnnfjjgohhicjaaDoorKx
namespace Go.Proofs.YtnnfjjgohhicjaaDoor
open Go.RowKit
set_option linter.unusedSimpArgs false
set_option linter.unusedVariables false
set_option maxRecDepth 100000

theorem wpList_make_row {α : Type} (d : Kd α) (z : α) (zc : List Value) {P : Program} (w : World) {ops : Array Oper} {rest : List Oper} {o : Oper} {a : Act} {Q : Exit → Act → World → Prop}
    (hg : o.guard = none) (l c : Operand) (t : TypeId) (hop : o.op = Op.makeSlice t l c) (e : TypeId) (i : TypeInfo) (zv : Value) (h1 : P.underlying t = some (.slice e)) (h2 : P.info? e = some i) (h3 : i.zero = some zv) (h4 : i.size = d.sz)
    (hzc : zv.cells = zc.toArray) (h0 : 0 < d.sz) (hz : ∀ w', d.O w' z zc [])
    (L : Int) (n : Nat) (hl : a.eval l = .int .i64 L) (hc : a.eval c = .int .i64 L) (hL : L = (n : Int)) (b2 : i.bytes * n ≤ 281474976710656) (b3 : n ≤ maxLen)
    (hK : ∀ w', Row e d w' (.slice (some ⟨w.heap.size, 0, none⟩) n n) (List.replicate n z) [w.heap.size] → Below w.heap.size w w' → w.heap.size < w'.heap.size → wpList P ops Q rest (a.put o.dst (.slice (some ⟨w.heap.size, 0, none⟩) n n)) w') :
    wpList P ops Q (o :: rest) a w := by
  refine wpList_make_full w hg l c t hop 0 e i zv d.sz h1 h2 h3 h4 .i64 .i64 L L n hl hc hL hL b2 b3 (Nat.zero_le _) ?_
  intro w' ho hgr
  rw [hzc] at ho
  have hr := Row.made (d := d) (z := z) (zc := zc) ho h0 (hz w')
  exact hK w' hr ((Below.refl _ w).grown hgr (Nat.le_refl _) (by simp)) (hr.lt _ (by simp))
theorem bat {B b o : Nat} {w w' : World} {v : Value} (hb : Below B w w') (h : w.cell? ⟨b, o, none⟩ = some v) (hlt : b < B) : w'.cell? ⟨b, o, none⟩ = some v := (hb.cell (p := ⟨b, o, none⟩) hlt).trans h
theorem new_cell (w : World) (cs : Array Value) (T : TypeId) (j : Nat) (v : Value) (h : cs[j]? = some v) : (w.alloc (.cells cs T)).cell? ⟨w.heap.size, j, none⟩ = some v := by
  have := box_cell w cs T (Ext.self _) j
  rw [h] at this
  exact this
theorem Chg.at {S : Nat → Prop} {b o : Nat} {w w' : World} {v : Value} (hb : Chg S w w') (h : w.cell? ⟨b, o, none⟩ = some v) (hS : ¬ S b) : w'.cell? ⟨b, o, none⟩ = some v := (World.cell?_of_block (hb.block b (World.block_lt_of_cell? w _ h) hS)).trans h
def Ext.step {W : World} (v : Ext W) {w' : World} (h : Below v.w.heap.size v.w w') : Ext W := ⟨w', v.hb.trans (h.mono v.hb.size)⟩
def Ext.chg {W : World} (v : Ext W) {w' : World} {S : Nat → Prop} (h : Chg S v.w w') (hS : ∀ k, S k → W.heap.size ≤ k) : Ext W := ⟨w', v.hb.trans (h.below v.hb.size hS)⟩
end Go.Proofs.YtnnfjjgohhicjaaDoor
