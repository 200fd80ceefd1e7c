/- Memory: the rows of a run (registers, heap, trace); the block that holds a run's state. -/
import Derived.Test.YtnnfjjgohhicjaaDoorKi2
import Derived.Test.YtnnfjjgohhicjaaDoorRp
namespace Go.Proofs.YtnnfjjgohhicjaaDoor
open Go.RowKit
set_option linter.unusedSimpArgs false
set_option linter.unusedVariables false
set_option maxRecDepth 100000

def Rws (N : Nat) (X : List Nat) (D cD G cG : Nat) (vt : Value) (s : Wd) (w : World) : Prop :=
  Row 2 kI64 w (.slice (some ⟨D, 0, none⟩) s.cells.length cD) s.cells [D] ∧ Row 2 kI64 w (.slice (some ⟨G, 0, none⟩) 32 cG) s.heap [G] ∧ s.heap.length = 32 ∧
  D ≠ G ∧ N ≤ D ∧ N ≤ G ∧ D ∉ X ∧ G ∉ X ∧ ∃ ft, Row 2 kI64 w vt s.trace ft ∧ ∀ b ∈ ft, N ≤ b ∧ b ≠ D ∧ b ≠ G ∧ b ∉ X
theorem row_int_fp {e : TypeId} {q : IntKind} {w : World} {v : Value} {xs : List Int} {fp : List Nat} (h : Row e (kInt q) w v xs fp) : fp = v.ownBlock.toList := by
  obtain ⟨css, fps, ho, hall, rfl, hn⟩ := h
  have : fps.flatten = [] := List.eq_nil_iff_forall_not_mem.2 fun b hb => by
    obtain ⟨f, hf, hbf⟩ := List.mem_flatten.1 hb
    obtain ⟨i, hi⟩ := List.getElem?_of_mem hf
    have hil := (List.getElem?_eq_some_iff.1 hi).1
    obtain ⟨x, hx⟩ := get_of_lt (show i < xs.length by rw [← hall.len3]; exact hil)
    obtain ⟨_, c, _, hc, hO⟩ := hall.get hx
    rw [hi] at hc
    obtain rfl := Option.some.inj hc
    rw [hO.2] at hbf
    simp at hbf
  rw [this, List.append_nil]
theorem row_int_set {e : TypeId} {q : IntKind} {w : World} {g n cap : Nat} {xs : List Int} (h : Row e (kInt q) w (.slice (some ⟨g, 0, none⟩) n cap) xs [g]) (hn : xs.length = n) {i : Nat} (hi : i < n) (y : Int) :
    Row e (kInt q) (w.setCell ⟨g, i, none⟩ (.int q y)) (.slice (some ⟨g, 0, none⟩) n cap) (xs.set i y) [g] ∧ Chg (fun k => k = g) w (w.setCell ⟨g, i, none⟩ (.int q y)) := by
  obtain ⟨fp', hr, hf, hC⟩ := h.set hn hi (y := y) (cs := [.int q y]) (f := []) ⟨rfl, rfl⟩ (by simp)
  rw [show i * (kInt q).sz = i from Nat.mul_one i, setCells1] at hr hC
  obtain rfl := row_int_fp hr
  exact ⟨hr, hC⟩
theorem row_int_cell {e : TypeId} {q : IntKind} {w : World} {g n cap : Nat} {xs : List Int} {fp : List Nat} (h : Row e (kInt q) w (.slice (some ⟨g, 0, none⟩) n cap) xs fp) (hn : xs.length = n) {i : Nat} {x : Int} (hx : xs[i]? = some x) :
    w.cell? ⟨g, i, none⟩ = some (.int q x) ∧ w.frozen? ⟨g, i, none⟩ = false := by
  obtain ⟨_, rfl, hq, hf⟩ := h.cellsAt hn hx
  have q0 := ha1 (n := i * 1) hq
  rw [Nat.mul_one] at q0
  exact ⟨q0, hf i⟩
namespace Rws
variable {N : Nat} {X : List Nat} {D cD G cG : Nat} {vt : Value} {s : Wd} {w w' : World}
theorem chg (h : Rws N X D cD G cG vt s w) (hc : Chg (fun k => k ∈ X) w w') : Rws N X D cD G cG vt s w' := by
  obtain ⟨h1, h2, h3, h4, h5, h6, h7, h8, ft, h9, h10⟩ := h
  exact ⟨h1.chg hc (by simpa using h7), h2.chg hc (by simpa using h8), h3, h4, h5, h6, h7, h8, ft, h9.chg hc fun b hb => (h10 b hb).2.2.2, h10⟩
theorem below (h : Rws N X D cD G cG vt s w) (hb : Below w.heap.size w w') : Rws N X D cD G cG vt s w' := h.chg ((chg_of hb).mono fun _ _ h => h.elim)
theorem lt (h : Rws N X D cD G cG vt s w) : D < w.heap.size ∧ G < w.heap.size := ⟨h.1.lt D (by simp), h.2.1.lt G (by simp)⟩
theorem reg (h : Rws N X D cD G cG vt s w) {r : Int} (hr : r.toNat < s.cells.length) : w.cell? ⟨D, r.toNat, none⟩ = some (.int .i64 (getI s.cells r)) ∧ w.frozen? ⟨D, r.toNat, none⟩ = false := row_int_cell h.1 rfl (getI_get hr)
theorem hp (h : Rws N X D cD G cG vt s w) {r : Int} (hr : r.toNat < 32) : w.cell? ⟨G, r.toNat, none⟩ = some (.int .i64 (getI s.heap r)) ∧ w.frozen? ⟨G, r.toNat, none⟩ = false := row_int_cell h.2.1 h.2.2.1 (getI_get (by rw [h.2.2.1]; exact hr))
theorem setReg (h : Rws N X D cD G cG vt s w) {r : Int} (hr : r.toNat < s.cells.length) (v : Int) : Rws N X D cD G cG vt { s with cells := setI s.cells r v } (w.setCell ⟨D, r.toNat, none⟩ (.int .i64 v)) ∧ Chg (fun k => k = D) w (w.setCell ⟨D, r.toNat, none⟩ (.int .i64 v)) := by
  obtain ⟨h1, h2, h3, h4, h5, h6, h7, h8, ft, h9, h10⟩ := h
  obtain ⟨hr', hC⟩ := row_int_set h1 rfl hr v
  exact ⟨⟨by rw [setI_len]; exact hr', h2.chg hC (by simpa using fun e => h4 e.symm), h3, h4, h5, h6, h7, h8, ft, h9.chg hC fun b hb => (h10 b hb).2.1, h10⟩, hC⟩
theorem setHp (h : Rws N X D cD G cG vt s w) {r : Int} (hr : r.toNat < 32) (v : Int) : Rws N X D cD G cG vt { s with heap := setI s.heap r v } (w.setCell ⟨G, r.toNat, none⟩ (.int .i64 v)) ∧ Chg (fun k => k = G) w (w.setCell ⟨G, r.toNat, none⟩ (.int .i64 v)) := by
  obtain ⟨h1, h2, h3, h4, h5, h6, h7, h8, ft, h9, h10⟩ := h
  obtain ⟨hr', hC⟩ := row_int_set h2 h3 hr v
  exact ⟨⟨h1.chg hC (by simpa using h4), hr', by rw [setI_len]; exact h3, h4, h5, h6, h7, h8, ft, h9.chg hC fun b hb => (h10 b hb).2.2.1, h10⟩, hC⟩
theorem tr (h : Rws N X D cD G cG vt s w) : ∃ ft, Row 2 kI64 w vt s.trace ft ∧ (∀ b ∈ ft, N ≤ b ∧ b ≠ D ∧ b ≠ G ∧ b ∉ X) := h.2.2.2.2.2.2.2.2
theorem app (h : Rws N X D cD G cG vt s w) (hw : N ≤ w.heap.size) (hX : ∀ x ∈ X, x < w.heap.size) {ft ft' : List Nat} {vt' : Value} {v : Int} (hf : ∀ b ∈ ft, N ≤ b ∧ b ≠ D ∧ b ≠ G ∧ b ∉ X) (hC : Chg (fun k => k ∈ ft) w w') (hr : Row 2 kI64 w' vt' (s.trace ++ [v]) ft') (hf' : ∀ b ∈ ft', b ∈ ft ∨ w.heap.size ≤ b) :
    Rws N X D cD G cG vt' { s with trace := s.trace ++ [v] } w' := by
  have hl := h.lt
  obtain ⟨h1, h2, h3, h4, h5, h6, h7, h8, _⟩ := h
  exact ⟨h1.chg hC (by simp; exact fun hm => (hf _ hm).2.1 rfl), h2.chg hC (by simp; exact fun hm => (hf _ hm).2.2.1 rfl), h3, h4, h5, h6, h7, h8, ft', hr, fun b hb => by
    rcases hf' b hb with h | h
    · exact hf b h
    · exact ⟨by omega, by omega, by omega, fun hm => by have := hX b hm; omega⟩⟩
end Rws
/-- A block of cells, whole. -/
def Bk (B : Nat) (T : TypeId) (l : List Value) (w : World) : Prop := w.heap[B]? = some (.cells l.toArray T (0, 0))
namespace Bk
variable {B : Nat} {T : TypeId} {l : List Value} {w w' : World}
theorem lt (h : Bk B T l w) : B < w.heap.size := (Array.getElem?_eq_some_iff.1 h).1
theorem cell (h : Bk B T l w) (i : Nat) {v : Value} (hv : l[i]? = some v) : w.cell? ⟨B, i, none⟩ = some v := by
  rw [cell_of_row w B i l.toArray T (0, 0) h]; simpa using hv
theorem frozen (h : Bk B T l w) (i : Nat) : w.frozen? ⟨B, i, none⟩ = false := by
  unfold World.frozen?; rw [show w.heap[B]? = _ from h]; simp
theorem keep (h : Bk B T l w) (hb : w'.heap[B]? = w.heap[B]?) : Bk B T l w' := hb.trans h
theorem below (h : Bk B T l w) (hb : Below w.heap.size w w') : Bk B T l w' := h.keep (hb.block B h.lt)
theorem chg {S : Nat → Prop} (h : Bk B T l w) (hc : Chg S w w') (hs : ¬ S B) : Bk B T l w' := h.keep (hc.block B h.lt hs)
theorem set (h : Bk B T l w) (i : Nat) (v : Value) : Bk B T (l.set i v) (w.setCell ⟨B, i, none⟩ v) ∧ Chg (fun k => k = B) w (w.setCell ⟨B, i, none⟩ v) := by
  refine ⟨?_, (Chg.refl (fun k => k = B) w).setCell (p := ⟨B, i, none⟩) (.inl rfl) v⟩
  have hl := h.lt
  unfold Bk at *
  have h' : w.heap[B] = .cells l.toArray T (0, 0) := Option.some.inj ((Array.getElem?_eq_getElem hl).symm.trans h)
  simp [World.setCell, Array.getElem?_modify, Array.getElem_modify, h', hl]
theorem made (w : World) (T : TypeId) (l : List Value) : Bk w.heap.size T l (w.alloc (.cells l.toArray T)) := heap_alloc_new w _
end Bk
end Go.Proofs.YtnnfjjgohhicjaaDoor
