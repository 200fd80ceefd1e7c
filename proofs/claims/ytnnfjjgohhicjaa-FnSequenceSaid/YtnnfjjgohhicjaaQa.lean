/- Base of this seat: general lemmas on rows, blocks, bounds. No condition. -/
import Derived.Test.YtnnfjjgohhicjaaKt
import Derived.Test.YtnnfjjgohhicjaaKx
import Derived.Test.YtnnfjjgohhicjaaPq
import Derived.Test.YtnnfjjgohhicjaaPm
import Derived.WalkArith
namespace Go.Proofs.Ytnnfjjgohhicjaa
open Go.RowKit
set_option linter.unusedSimpArgs false
set_option linter.unusedVariables false
set_option maxRecDepth 100000

theorem box_news {W : World} {T : TypeId} {l : List Value} {b : Nat} (hb : b = W.heap.size) : ∀ (j : Nat) u, l[j]? = some u → (W.alloc (.cells l.toArray T)).cell? ((⟨b, 0, none⟩ : Addr).add j) = some u := by
  subst hb
  intro j u hu
  rw [add_plain, Nat.zero_add]
  have h := box_cell W l.toArray T (Ext.self _) j
  simp only [Ext.self] at h
  rw [h]
  simpa using hu
theorem Row.empty0 {α : Type} {e : TypeId} {d : Kd α} {W : World} {b : Nat} (hb : b = W.heap.size) : Row e d (W.alloc (.cells #[] e)) (.slice (some ⟨b, 0, none⟩) 0 0) ([] : List α) [b] := by
  subst hb
  exact Row.empty (heap_alloc_new W _)
theorem Ext.app {W0 W w3 : World} {fp : List Nat} (u : Ext W0) (h1 : Below u.w.heap.size u.w W) (h2 : Chg (fun k => k ∈ fp) W w3) (hf : ∀ q ∈ fp, W0.heap.size ≤ q) : ∃ u3 : Ext W0, w3 = u3.w :=
  ⟨⟨w3, u.hb.trans ((h1.mono u.hb.size).trans (h2.below (Nat.le_trans u.hb.size h1.size) hf))⟩, rfl⟩
theorem row_int_fp {e : TypeId} {q : IntKind} {w : World} {v : Value} {xs : List Int} {fp : List Nat} (h : Row e (kInt q) w v xs fp) : fp = v.ownBlock.toList := by
  obtain ⟨css, fps, ho, hall, rfl, hn⟩ := h
  have : fps.flatten = [] := List.eq_nil_iff_forall_not_mem.2 fun b hb => by
    obtain ⟨f, hf, hbf⟩ := List.mem_flatten.1 hb
    obtain ⟨i, hi⟩ := List.getElem?_of_mem hf
    have hil := (List.getElem?_eq_some_iff.1 hi).1
    obtain ⟨x, hx⟩ := get_of_lt (show i < xs.length by rw [← hall.len3]; exact hil)
    obtain ⟨_, c, _, hc, hO⟩ := hall.get hx
    rw [hi] at hc
    obtain rfl := Option.some.inj hc
    rw [hO.2] at hbf
    simp at hbf
  rw [this, List.append_nil]
theorem row_int_set {e : TypeId} {q : IntKind} {w : World} {g n cap : Nat} {xs : List Int} (h : Row e (kInt q) w (.slice (some ⟨g, 0, none⟩) n cap) xs [g]) (hn : xs.length = n) {i : Nat} (hi : i < n) (y : Int) :
    Row e (kInt q) (w.setCell ⟨g, i, none⟩ (.int q y)) (.slice (some ⟨g, 0, none⟩) n cap) (xs.set i y) [g] ∧ Chg (fun k => k = g) w (w.setCell ⟨g, i, none⟩ (.int q y)) := by
  obtain ⟨fp', hr, hf, hC⟩ := h.set hn hi (y := y) (cs := [.int q y]) (f := []) ⟨rfl, rfl⟩ (by simp)
  rw [show i * (kInt q).sz = i from Nat.mul_one i, setCells1] at hr hC
  obtain rfl := row_int_fp hr
  exact ⟨hr, hC⟩
theorem row_int_cell {e : TypeId} {q : IntKind} {w : World} {g n cap : Nat} {xs : List Int} {fp : List Nat} (h : Row e (kInt q) w (.slice (some ⟨g, 0, none⟩) n cap) xs fp) (hn : xs.length = n) {i : Nat} {x : Int} (hx : xs[i]? = some x) :
    w.cell? ⟨g, i, none⟩ = some (.int q x) ∧ w.frozen? ⟨g, i, none⟩ = false := by
  obtain ⟨_, rfl, hq, hf⟩ := h.cellsAt hn hx
  have q0 := ha1 (n := i * 1) hq
  rw [Nat.mul_one] at q0
  exact ⟨q0, hf i⟩
/-- A block of cells, whole. -/
def Bk (B : Nat) (T : TypeId) (l : List Value) (w : World) : Prop := w.heap[B]? = some (.cells l.toArray T (0, 0))
namespace Bk
variable {B : Nat} {T : TypeId} {l : List Value} {w w' : World}
theorem lt (h : Bk B T l w) : B < w.heap.size := (Array.getElem?_eq_some_iff.1 h).1
theorem cell (h : Bk B T l w) (i : Nat) {v : Value} (hv : l[i]? = some v) : w.cell? ⟨B, i, none⟩ = some v := by
  rw [cell_of_row w B i l.toArray T (0, 0) h]; simpa using hv
theorem frozen (h : Bk B T l w) (i : Nat) : w.frozen? ⟨B, i, none⟩ = false := by
  unfold World.frozen?; rw [show w.heap[B]? = _ from h]; simp
theorem keep (h : Bk B T l w) (hb : w'.heap[B]? = w.heap[B]?) : Bk B T l w' := hb.trans h
theorem below (h : Bk B T l w) (hb : Below w.heap.size w w') : Bk B T l w' := h.keep (hb.block B h.lt)
theorem chg {S : Nat → Prop} (h : Bk B T l w) (hc : Chg S w w') (hs : ¬ S B) : Bk B T l w' := h.keep (hc.block B h.lt hs)
theorem set (h : Bk B T l w) (i : Nat) (v : Value) : Bk B T (l.set i v) (w.setCell ⟨B, i, none⟩ v) ∧ Chg (fun k => k = B) w (w.setCell ⟨B, i, none⟩ v) := by
  refine ⟨?_, (Chg.refl (fun k => k = B) w).setCell (p := ⟨B, i, none⟩) (.inl rfl) v⟩
  have hl := h.lt
  unfold Bk at *
  have h' : w.heap[B] = .cells l.toArray T (0, 0) := Option.some.inj ((Array.getElem?_eq_getElem hl).symm.trans h)
  simp [World.setCell, Array.getElem?_modify, Array.getElem_modify, h', hl]
theorem made (w : World) (T : TypeId) (l : List Value) : Bk w.heap.size T l (w.alloc (.cells l.toArray T)) := heap_alloc_new w _
end Bk
theorem row_of_bk {e : TypeId} {q : IntKind} {g : Nat} {xs : List Int} {w : World} (h : Bk g e (xs.map (Value.int q)) w) (hl : xs.length ≤ maxLen) : Row e (kInt q) w (.slice (some ⟨g, 0, none⟩) xs.length xs.length) xs [g] := by
  have hf : ∀ ys : List Int, (ys.map fun x => [Value.int q x]).flatten = ys.map (Value.int q) := fun ys => by induction ys with
    | nil => rfl
    | cons y ys ih => simp [ih]
  refine ⟨xs.map fun x => [.int q x], xs.map fun _ => [], ?_, ?_, ?_, by simp⟩
  · rw [hf]
    exact ⟨by simp [kInt], .inr ⟨g, xs.length, (xs.map (Value.int q)).toArray, rfl, Nat.zero_le _, h, Nat.le_refl _, hl, by simp [kInt], by rw [show xs.length * (kInt q).sz = (xs.map (Value.int q)).length by simp [kInt]]; exact List.take_length⟩⟩
  · clear h hl
    induction xs with
    | nil => exact .nil
    | cons x xs ih => exact .cons ⟨rfl, rfl⟩ ih
  · have : (xs.map fun _ => ([] : List Nat)).flatten = [] := List.flatten_eq_nil_iff.2 fun c hc => by simp at hc; exact hc.2
    rw [this]; rfl
theorem bk_old {g : Nat} {T : TypeId} {l : List Value} {w : World} {o : Obj} (h : Bk g T l w) : Bk g T l (w.alloc o) := h.below ((Below.refl _ _).alloc (Nat.le_refl _) _)
theorem bk_drew {g : Nat} {T : TypeId} {l : List Value} {w : World} (h : Bk g T l w) : Bk g T l w.drew := h
theorem bk_newl {g : Nat} {T : TypeId} {l : List Value} {w : World} (h : g = w.heap.size) : Bk g T l (w.alloc (.cells l.toArray T)) := by subst h; exact heap_alloc_new w _
theorem within_c (x lo hi : Int) (w : World) : Calls Try.prog 19 #[.int .i64 x, .int .i64 lo, .int .i64 hi] w fun e w' => e = .returned (.bool (decide (lo ≤ x ∧ x ≤ hi))) ∧ w = w' := by
  go_enter Try.func19, Try.ntmps19
  go_wp2
  all_goals go_ret
  all_goals go_light
  all_goals exact ⟨ret_bool (by simp; omega), rfl⟩
theorem info_i64 : (Try.prog.info? 2).map (fun i => (i.zero, i.size, i.bytes)) = some (some (.int .i64 0), 1, 8) := by kernel_rfl
theorem info_instr : (Try.prog.info? 41).map (fun i => (i.zero, i.size, i.bytes)) = some (some (.agg #[.int .i64 0, .int .i64 0, .int .i64 0, .int .i64 0, .int .i64 0]), 5, 40) := by kernel_rfl
theorem slot_k {α β : Type} {xs : List α} {ys : List β} {k : Nat} {z : β} (h : k < xs.length) (hy : ys.length = k) : (ys ++ List.replicate (xs.length - k) z)[k]? = some z := by
  rw [List.getElem?_append_right (by omega), List.getElem?_replicate, if_pos (by omega)]
theorem slot_set {α : Type} {xs : List α} {k : Nat} {z x : α} (h : k < xs.length) (hx : xs[k]? = some x) : (xs.take k ++ List.replicate (xs.length - k) z).set k x = xs.take (k + 1) ++ List.replicate (xs.length - (k + 1)) z := by
  have hl : (xs.take k).length = k := List.length_take_of_le (by omega)
  rw [List.set_append_right _ _ (by omega), hl, Nat.sub_self, show xs.length - k = (xs.length - (k + 1)) + 1 by omega, List.replicate_succ, List.set_cons_zero, take_snoc hx]
  simp
theorem slot_len {α : Type} {xs : List α} {k : Nat} {z : α} (h : k ≤ xs.length) : (xs.take k ++ List.replicate (xs.length - k) z).length = xs.length := by simp; omega
def InR (f : List Nat) (lo hi : Nat) : Prop := ∀ b ∈ f, lo ≤ b ∧ b < hi
theorem Row.inR {α : Type} {e : TypeId} {d : Kd α} {w : World} {v : Value} {xs : List α} {fp : List Nat} {lo : Nat} (h : Row e d w v xs fp) (hl : ∀ b ∈ fp, lo ≤ b) : InR fp lo w.heap.size := fun b hb => ⟨hl b hb, h.lt b hb⟩
theorem two {n : Nat} {T : TypeId} {a b : Value} {w : World} (h : Bk n T [a, b] w) : w.cell? ⟨n, 0, none⟩ = some a ∧ w.cell? ⟨n, 1, none⟩ = some b := ⟨h.cell 0 rfl, h.cell 1 rfl⟩
/-- A marked row: as long as before, in the same blocks. -/
def MarkRow {α : Type} (e : TypeId) (d : Kd α) (v : Value) (n : Nat) (k : Int) (top : Int) (fp : List Nat) (w : World) (en : Ending) (w' : World) : Prop :=
  ∃ (k' : Int) (ys : List α) (fp' : List Nat), en = .returned (.int .i64 k') ∧ k ≤ k' ∧ k' ≤ k + top ∧ ys.length = n ∧ Row e d w' v ys fp' ∧ (∀ b ∈ fp', b ∈ fp) ∧ Chg (fun b => b ∈ fp) w w'
theorem eqInstr_c (x y : Instr) (w : World) : Calls Try.prog 21 #[x.v, y.v] w fun e w' => e = .returned (.bool (decide (x = y))) ∧ Below w.heap.size w w' := by
  obtain ⟨a0, a1, a2, a3, a4⟩ := x
  obtain ⟨b0, b1, b2, b3, b4⟩ := y
  simp only [Instr.v]
  go_enter Try.func21, Try.ntmps21
  go_wp2
  all_goals go_ret
  all_goals go_light
  all_goals exact ⟨by simp_all, by repeat (first | (with_reducible first | exact Below.refl _ _ | assumption | exact ext_box _) | (with_reducible apply Below.drew) | ((with_reducible refine Below.setCell ?_ ?hs _); (case hs => first | (simp; done) | (simp; omega) | omega)) | ((with_reducible refine Below.alloc ?_ ?hs _); (case hs => first | (simp; done) | (simp; omega) | omega)))⟩
theorem wi64 {n : Int} (h0 : -9223372036854775808 ≤ n) (h1 : n < 9223372036854775808) : IntKind.i64.wrap n = n := by simp [IntKind.wrap, IntKind.bits, IntKind.signed]; omega
theorem wpQuiet_cons {P : Program} {ops : Array Oper} {C : World → Prop} {Q : Act → Prop} {o : Oper} {rest : List Oper} {a : Act} : wpQuiet P ops C Q (o :: rest) a = if Region.wanted o (yielded ops a.tmps) then o.quiet P a C (wpQuiet P ops C Q rest) else wpQuiet P ops C Q rest (a.put o.dst undef) := rfl
theorem yield_undef : yielded.match_1 (fun _ => Option Bool) (some undef) (fun b => some b) (fun _ => none) = none := rfl
theorem wpQuiet_nil' {P : Program} {ops : Array Oper} {C : World → Prop} {Q : Act → Prop} {a : Act} : wpQuiet P ops C Q [] a = Q a := rfl
def kMove : Kd Move := kFlat 2 (fun x => [.int .i64 x.to, .int .i64 x.src]) (fun _ => rfl) (by intro x u hu; simp at hu; rcases hu with rfl | rfl <;> rfl)
def Move.v (x : Move) : Value := .agg #[.int .i64 x.to, .int .i64 x.src]
theorem info_move : (Try.prog.info? 39).map (fun i => (i.zero, i.size, i.bytes)) = some (some (.agg #[.int .i64 0, .int .i64 0]), 2, 16) := by kernel_rfl
end Go.Proofs.Ytnnfjjgohhicjaa
