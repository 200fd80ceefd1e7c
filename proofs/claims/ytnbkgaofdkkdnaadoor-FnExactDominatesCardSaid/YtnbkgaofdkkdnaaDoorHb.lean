/- Blocks known whole; arrays of one call's own. -/
import Derived.Test.YtnbkgaofdkkdnaaDoorKg2
import Derived.Test.YtnbkgaofdkkdnaaDoorHc
namespace Go.Proofs.YtnbkgaofdkkdnaaDoor
open Go.RowKit
set_option linter.unusedSimpArgs false
set_option linter.unusedVariables false
set_option maxRecDepth 100000

theorem row_int_fp {e : TypeId} {q : IntKind} {w : World} {v : Value} {xs : List Int} {fp : List Nat} (h : Row e (kInt q) w v xs fp) : fp = v.ownBlock.toList := by
  obtain ⟨css, fps, ho, hall, rfl, hn⟩ := h
  have : fps.flatten = [] := List.eq_nil_iff_forall_not_mem.2 fun b hb => by
    obtain ⟨f, hf, hbf⟩ := List.mem_flatten.1 hb
    obtain ⟨i, hi⟩ := List.getElem?_of_mem hf
    have hil := (List.getElem?_eq_some_iff.1 hi).1
    obtain ⟨x, hx⟩ := get_of_lt (show i < xs.length by rw [← hall.len3]; exact hil)
    obtain ⟨_, c, _, hc, hO⟩ := hall.get hx
    rw [hi] at hc
    obtain rfl := Option.some.inj hc
    rw [hO.2] at hbf
    simp at hbf
  rw [this, List.append_nil]
theorem row_int_set {e : TypeId} {q : IntKind} {w : World} {g n cap : Nat} {xs : List Int} (h : Row e (kInt q) w (.slice (some ⟨g, 0, none⟩) n cap) xs [g]) (hn : xs.length = n) {i : Nat} (hi : i < n) (y : Int) :
    Row e (kInt q) (w.setCell ⟨g, i, none⟩ (.int q y)) (.slice (some ⟨g, 0, none⟩) n cap) (xs.set i y) [g] ∧ Chg (fun k => k = g) w (w.setCell ⟨g, i, none⟩ (.int q y)) := by
  obtain ⟨fp', hr, hf, hC⟩ := h.set hn hi (y := y) (cs := [.int q y]) (f := []) ⟨rfl, rfl⟩ (by simp)
  rw [show i * (kInt q).sz = i from Nat.mul_one i, setCells1] at hr hC
  obtain rfl := row_int_fp hr
  exact ⟨hr, hC⟩
theorem row_int_cell {e : TypeId} {q : IntKind} {w : World} {g n cap : Nat} {xs : List Int} {fp : List Nat} (h : Row e (kInt q) w (.slice (some ⟨g, 0, none⟩) n cap) xs fp) (hn : xs.length = n) {i : Nat} {x : Int} (hx : xs[i]? = some x) :
    w.cell? ⟨g, i, none⟩ = some (.int q x) ∧ w.frozen? ⟨g, i, none⟩ = false := by
  obtain ⟨_, rfl, hq, hf⟩ := h.cellsAt hn hx
  have q0 := ha1 (n := i * 1) hq
  rw [Nat.mul_one] at q0
  exact ⟨q0, hf i⟩
/-- A block of cells, whole. -/
def Bk (B : Nat) (T : TypeId) (l : List Value) (w : World) : Prop := w.heap[B]? = some (.cells l.toArray T (0, 0))
namespace Bk
variable {B : Nat} {T : TypeId} {l : List Value} {w w' : World}
theorem lt (h : Bk B T l w) : B < w.heap.size := (Array.getElem?_eq_some_iff.1 h).1
theorem cell (h : Bk B T l w) (i : Nat) {v : Value} (hv : l[i]? = some v) : w.cell? ⟨B, i, none⟩ = some v := by
  rw [cell_of_row w B i l.toArray T (0, 0) h]; simpa using hv
theorem frozen (h : Bk B T l w) (i : Nat) : w.frozen? ⟨B, i, none⟩ = false := by
  unfold World.frozen?; rw [show w.heap[B]? = _ from h]; simp
theorem keep (h : Bk B T l w) (hb : w'.heap[B]? = w.heap[B]?) : Bk B T l w' := hb.trans h
theorem below (h : Bk B T l w) (hb : Below w.heap.size w w') : Bk B T l w' := h.keep (hb.block B h.lt)
theorem chg {S : Nat → Prop} (h : Bk B T l w) (hc : Chg S w w') (hs : ¬ S B) : Bk B T l w' := h.keep (hc.block B h.lt hs)
theorem set (h : Bk B T l w) (i : Nat) (v : Value) : Bk B T (l.set i v) (w.setCell ⟨B, i, none⟩ v) ∧ Chg (fun k => k = B) w (w.setCell ⟨B, i, none⟩ v) := by
  refine ⟨?_, (Chg.refl (fun k => k = B) w).setCell (p := ⟨B, i, none⟩) (.inl rfl) v⟩
  have hl := h.lt
  unfold Bk at *
  have h' : w.heap[B] = .cells l.toArray T (0, 0) := Option.some.inj ((Array.getElem?_eq_getElem hl).symm.trans h)
  simp [World.setCell, Array.getElem?_modify, Array.getElem_modify, h', hl]
theorem made (w : World) (T : TypeId) (l : List Value) : Bk w.heap.size T l (w.alloc (.cells l.toArray T)) := heap_alloc_new w _
end Bk
theorem row_of_bk {e : TypeId} {q : IntKind} {g : Nat} {xs : List Int} {w : World} (h : Bk g e (xs.map (Value.int q)) w) (hl : xs.length ≤ maxLen) : Row e (kInt q) w (.slice (some ⟨g, 0, none⟩) xs.length xs.length) xs [g] := by
  have hf : ∀ ys : List Int, (ys.map fun x => [Value.int q x]).flatten = ys.map (Value.int q) := fun ys => by induction ys with
    | nil => rfl
    | cons y ys ih => simp [ih]
  refine ⟨xs.map fun x => [.int q x], xs.map fun _ => [], ?_, ?_, ?_, by simp⟩
  · rw [hf]
    exact ⟨by simp [kInt], .inr ⟨g, xs.length, (xs.map (Value.int q)).toArray, rfl, Nat.zero_le _, h, Nat.le_refl _, hl, by simp [kInt], by rw [show xs.length * (kInt q).sz = (xs.map (Value.int q)).length by simp [kInt]]; exact List.take_length⟩⟩
  · clear h hl
    induction xs with
    | nil => exact .nil
    | cons x xs ih => exact .cons ⟨rfl, rfl⟩ ih
  · have : (xs.map fun _ => ([] : List Nat)).flatten = [] := List.flatten_eq_nil_iff.2 fun c hc => by simp at hc; exact hc.2
    rw [this]; rfl
theorem bk_old {g : Nat} {T : TypeId} {l : List Value} {w : World} {o : Obj} (h : Bk g T l w) : Bk g T l (w.alloc o) := h.below ((Below.refl _ _).alloc (Nat.le_refl _) _)
theorem bk_drew {g : Nat} {T : TypeId} {l : List Value} {w : World} (h : Bk g T l w) : Bk g T l w.drew := h
theorem bk_newl {g : Nat} {T : TypeId} {l : List Value} {w : World} (h : g = w.heap.size) : Bk g T l (w.alloc (.cells l.toArray T)) := by subst h; exact heap_alloc_new w _
theorem two {n : Nat} {T : TypeId} {a b : Value} {w : World} (h : Bk n T [a, b] w) : w.cell? ⟨n, 0, none⟩ = some a ∧ w.cell? ⟨n, 1, none⟩ = some b := ⟨h.cell 0 rfl, h.cell 1 rfl⟩
theorem wi64 {n : Int} (h0 : -9223372036854775808 ≤ n) (h1 : n < 9223372036854775808) : IntKind.i64.wrap n = n := by simp [IntKind.wrap, IntKind.bits, IntKind.signed]; omega
theorem wpQuiet_cons {P : Program} {ops : Array Oper} {C : World → Prop} {Q : Act → Prop} {o : Oper} {rest : List Oper} {a : Act} : wpQuiet P ops C Q (o :: rest) a = if Region.wanted o (yielded ops a.tmps) then o.quiet P a C (wpQuiet P ops C Q rest) else wpQuiet P ops C Q rest (a.put o.dst undef) := rfl
theorem yield_undef : yielded.match_1 (fun _ => Option Bool) (some undef) (fun b => some b) (fun _ => none) = none := rfl
theorem wpQuiet_nil' {P : Program} {ops : Array Oper} {C : World → Prop} {Q : Act → Prop} {a : Act} : wpQuiet P ops C Q [] a = Q a := rfl
theorem wpList_make_row {α : Type} (d : Kd α) (z : α) (zc : List Value) {P : Program} (w : World) {ops : Array Oper} {rest : List Oper} {o : Oper} {a : Act} {Q : Exit → Act → World → Prop}
    (hg : o.guard = none) (l c : Operand) (t : TypeId) (hop : o.op = Op.makeSlice t l c) (e : TypeId) (i : TypeInfo) (zv : Value) (h1 : P.underlying t = some (.slice e)) (h2 : P.info? e = some i) (h3 : i.zero = some zv) (h4 : i.size = d.sz)
    (hzc : zv.cells = zc.toArray) (h0 : 0 < d.sz) (hz : ∀ w', d.O w' z zc [])
    (L : Int) (n : Nat) (hl : a.eval l = .int .i64 L) (hc : a.eval c = .int .i64 L) (hL : L = (n : Int)) (b2 : i.bytes * n ≤ 281474976710656) (b3 : n ≤ maxLen)
    (hK : ∀ w', Row e d w' (.slice (some ⟨w.heap.size, 0, none⟩) n n) (List.replicate n z) [w.heap.size] → Below w.heap.size w w' → w.heap.size < w'.heap.size → wpList P ops Q rest (a.put o.dst (.slice (some ⟨w.heap.size, 0, none⟩) n n)) w') :
    wpList P ops Q (o :: rest) a w := by
  refine wpList_make_full w hg l c t hop 0 e i zv d.sz h1 h2 h3 h4 .i64 .i64 L L n hl hc hL hL b2 b3 (Nat.zero_le _) ?_
  intro w' ho hgr
  rw [hzc] at ho
  have hr := Row.made (d := d) (z := z) (zc := zc) ho h0 (hz w')
  exact hK w' hr ((Below.refl _ w).grown hgr (Nat.le_refl _) (by simp)) (hr.lt _ (by simp))
/-- Elements of one cell. -/
def kF1 {α : Type} (e : α → Value) (h : ∀ x, (e x).oneCell' = true) : Kd α := kFlat 1 (fun x => [e x]) (fun _ => rfl) (by intro x u hu; simp at hu; subst hu; exact h x)
structure Arr {α : Type} (T : TypeId) (e : α → Value) (g n : Nat) (xs : List α) (w : World) : Prop where
  row : ∃ h fp, Row T (kF1 e h) w (.slice (some ⟨g, 0, none⟩) n n) xs fp ∧ ∀ q ∈ fp, q = g
  len : xs.length = n
namespace Arr
variable {α : Type} {T : TypeId} {e : α → Value} {g n : Nat} {xs : List α} {w w' : World}
theorem made {h : ∀ x, (e x).oneCell' = true} {z : α} (hr : Row T (kF1 e h) w (.slice (some ⟨g, 0, none⟩) n n) (List.replicate n z) [g]) : Arr T e g n (List.replicate n z) w := ⟨⟨h, _, hr, by simp⟩, by simp⟩
theorem cell (h : Arr T e g n xs w) {i : Nat} {x : α} (hx : xs[i]? = some x) : w.cell? ⟨g, i, none⟩ = some (e x) := by
  obtain ⟨⟨h1, fp, hr, hf⟩, hl⟩ := h
  obtain ⟨_, rfl, hc, _⟩ := hr.cellsAt hl hx
  have := ha1 hc
  rwa [show i * (kF1 e h1).sz = i from Nat.mul_one i] at this
theorem at' (h : Arr T e g n xs w) {i : Nat} (hi : i < n) (z : α) : w.cell? ⟨g, i, none⟩ = some (e (xs.getD i z)) := by
  have hl := h.len
  refine h.cell ?_
  rw [List.getD_eq_getElem?_getD, List.getElem?_eq_getElem (by omega)]; rfl
theorem frozen (h : Arr T e g n xs w) (hn : 0 < n) (o : Nat) : w.frozen? ⟨g, o, none⟩ = false := by
  obtain ⟨⟨h1, fp, hr, hf⟩, hl⟩ := h
  obtain ⟨x, hx⟩ := get_of_lt (xs := xs) (k := 0) (by omega)
  obtain ⟨_, rfl, _, hz⟩ := hr.cellsAt hl hx
  exact hz o
theorem lt (h : Arr T e g n xs w) (hn : 0 < n) : g < w.heap.size := World.block_lt_of_cell? (a := ⟨g, 0, none⟩) w (h.cell (List.getElem?_eq_getElem (by rw [h.len]; exact hn)))
theorem set (h : Arr T e g n xs w) {i : Nat} (hi : i < n) (y : α) : Arr T e g n (xs.set i y) (w.setCell ⟨g, i, none⟩ (e y)) ∧ Chg (fun q => q = g) w (w.setCell ⟨g, i, none⟩ (e y)) := by
  obtain ⟨⟨h1, fp, hr, hf⟩, hl⟩ := h
  obtain ⟨f1, hr1, hf1, hc1⟩ := hr.set hl hi (y := y) (cs := [e y]) (f := []) ⟨rfl, rfl⟩ (by simp)
  rw [show i * (kF1 e h1).sz = i from Nat.mul_one i, setCells1] at hr1 hc1
  exact ⟨⟨⟨h1, f1, hr1, fun q hq => hf q (by have := hf1 q hq; simpa using this)⟩, by rw [List.length_set]; exact hl⟩, hc1⟩
theorem chg {S : Nat → Prop} (h : Arr T e g n xs w) (hc : Chg S w w') (hS : ¬ S g) : Arr T e g n xs w' := by
  obtain ⟨⟨h1, fp, hr, hf⟩, hl⟩ := h
  exact ⟨⟨h1, fp, hr.chg hc fun q hq => by rw [hf q hq]; exact hS, hf⟩, hl⟩
end Arr
end Go.Proofs.YtnbkgaofdkkdnaaDoor
