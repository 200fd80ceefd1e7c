/- Contract: impl's (*world).block. -/
import Derived.Test.YtnnfjjgohhicjaaDoorMr4
import Derived.Test.YtnnfjjgohhicjaaDoorMr1
import Derived.StillTailTactics
import Derived.Deep.RegionLaw
import Derived.Deep.AppendLies
import Derived.Deep.RegionHeldLaw
import Derived.Deep.RegionHeld3
namespace Go.Proofs.YtnnfjjgohhicjaaDoor
open Go.RowKit
set_option linter.unusedSimpArgs false
set_option linter.unusedVariables false
set_option maxRecDepth 100000

def Rws (N : Nat) (X : List Nat) (D cD G cG : Nat) (vt : Value) (s : Wd) (w : World) : Prop :=
  Row 2 kI64 w (.slice (some ⟨D, 0, none⟩) s.cells.length cD) s.cells [D] ∧ Row 2 kI64 w (.slice (some ⟨G, 0, none⟩) 32 cG) s.heap [G] ∧ s.heap.length = 32 ∧
  D ≠ G ∧ N ≤ D ∧ N ≤ G ∧ D ∉ X ∧ G ∉ X ∧ ∃ ft, Row 2 kI64 w vt s.trace ft ∧ ∀ b ∈ ft, N ≤ b ∧ b ≠ D ∧ b ≠ G ∧ b ∉ X
theorem row_int_fp {e : TypeId} {q : IntKind} {w : World} {v : Value} {xs : List Int} {fp : List Nat} (h : Row e (kInt q) w v xs fp) : fp = v.ownBlock.toList := by
  obtain ⟨css, fps, ho, hall, rfl, hn⟩ := h
  have : fps.flatten = [] := List.eq_nil_iff_forall_not_mem.2 fun b hb => by
    obtain ⟨f, hf, hbf⟩ := List.mem_flatten.1 hb
    obtain ⟨i, hi⟩ := List.getElem?_of_mem hf
    have hil := (List.getElem?_eq_some_iff.1 hi).1
    obtain ⟨x, hx⟩ := get_of_lt (show i < xs.length by rw [← hall.len3]; exact hil)
    obtain ⟨_, c, _, hc, hO⟩ := hall.get hx
    rw [hi] at hc
    obtain rfl := Option.some.inj hc
    rw [hO.2] at hbf
    simp at hbf
  rw [this, List.append_nil]
theorem row_int_set {e : TypeId} {q : IntKind} {w : World} {g n cap : Nat} {xs : List Int} (h : Row e (kInt q) w (.slice (some ⟨g, 0, none⟩) n cap) xs [g]) (hn : xs.length = n) {i : Nat} (hi : i < n) (y : Int) :
    Row e (kInt q) (w.setCell ⟨g, i, none⟩ (.int q y)) (.slice (some ⟨g, 0, none⟩) n cap) (xs.set i y) [g] ∧ Chg (fun k => k = g) w (w.setCell ⟨g, i, none⟩ (.int q y)) := by
  obtain ⟨fp', hr, hf, hC⟩ := h.set hn hi (y := y) (cs := [.int q y]) (f := []) ⟨rfl, rfl⟩ (by simp)
  rw [show i * (kInt q).sz = i from Nat.mul_one i, setCells1] at hr hC
  obtain rfl := row_int_fp hr
  exact ⟨hr, hC⟩
theorem row_int_cell {e : TypeId} {q : IntKind} {w : World} {g n cap : Nat} {xs : List Int} {fp : List Nat} (h : Row e (kInt q) w (.slice (some ⟨g, 0, none⟩) n cap) xs fp) (hn : xs.length = n) {i : Nat} {x : Int} (hx : xs[i]? = some x) :
    w.cell? ⟨g, i, none⟩ = some (.int q x) ∧ w.frozen? ⟨g, i, none⟩ = false := by
  obtain ⟨_, rfl, hq, hf⟩ := h.cellsAt hn hx
  have q0 := ha1 (n := i * 1) hq
  rw [Nat.mul_one] at q0
  exact ⟨q0, hf i⟩
namespace Rws
variable {N : Nat} {X : List Nat} {D cD G cG : Nat} {vt : Value} {s : Wd} {w w' : World}
theorem chg (h : Rws N X D cD G cG vt s w) (hc : Chg (fun k => k ∈ X) w w') : Rws N X D cD G cG vt s w' := by
  obtain ⟨h1, h2, h3, h4, h5, h6, h7, h8, ft, h9, h10⟩ := h
  exact ⟨h1.chg hc (by simpa using h7), h2.chg hc (by simpa using h8), h3, h4, h5, h6, h7, h8, ft, h9.chg hc fun b hb => (h10 b hb).2.2.2, h10⟩
theorem below (h : Rws N X D cD G cG vt s w) (hb : Below w.heap.size w w') : Rws N X D cD G cG vt s w' := h.chg ((chg_of hb).mono fun _ _ h => h.elim)
theorem lt (h : Rws N X D cD G cG vt s w) : D < w.heap.size ∧ G < w.heap.size := ⟨h.1.lt D (by simp), h.2.1.lt G (by simp)⟩
theorem reg (h : Rws N X D cD G cG vt s w) {r : Int} (hr : r.toNat < s.cells.length) : w.cell? ⟨D, r.toNat, none⟩ = some (.int .i64 (getI s.cells r)) ∧ w.frozen? ⟨D, r.toNat, none⟩ = false := row_int_cell h.1 rfl (getI_get hr)
theorem hp (h : Rws N X D cD G cG vt s w) {r : Int} (hr : r.toNat < 32) : w.cell? ⟨G, r.toNat, none⟩ = some (.int .i64 (getI s.heap r)) ∧ w.frozen? ⟨G, r.toNat, none⟩ = false := row_int_cell h.2.1 h.2.2.1 (getI_get (by rw [h.2.2.1]; exact hr))
theorem setReg (h : Rws N X D cD G cG vt s w) {r : Int} (hr : r.toNat < s.cells.length) (v : Int) : Rws N X D cD G cG vt { s with cells := setI s.cells r v } (w.setCell ⟨D, r.toNat, none⟩ (.int .i64 v)) ∧ Chg (fun k => k = D) w (w.setCell ⟨D, r.toNat, none⟩ (.int .i64 v)) := by
  obtain ⟨h1, h2, h3, h4, h5, h6, h7, h8, ft, h9, h10⟩ := h
  obtain ⟨hr', hC⟩ := row_int_set h1 rfl hr v
  exact ⟨⟨by rw [setI_len]; exact hr', h2.chg hC (by simpa using fun e => h4 e.symm), h3, h4, h5, h6, h7, h8, ft, h9.chg hC fun b hb => (h10 b hb).2.1, h10⟩, hC⟩
theorem setHp (h : Rws N X D cD G cG vt s w) {r : Int} (hr : r.toNat < 32) (v : Int) : Rws N X D cD G cG vt { s with heap := setI s.heap r v } (w.setCell ⟨G, r.toNat, none⟩ (.int .i64 v)) ∧ Chg (fun k => k = G) w (w.setCell ⟨G, r.toNat, none⟩ (.int .i64 v)) := by
  obtain ⟨h1, h2, h3, h4, h5, h6, h7, h8, ft, h9, h10⟩ := h
  obtain ⟨hr', hC⟩ := row_int_set h2 h3 hr v
  exact ⟨⟨h1.chg hC (by simpa using h4), hr', by rw [setI_len]; exact h3, h4, h5, h6, h7, h8, ft, h9.chg hC fun b hb => (h10 b hb).2.2.1, h10⟩, hC⟩
theorem tr (h : Rws N X D cD G cG vt s w) : ∃ ft, Row 2 kI64 w vt s.trace ft ∧ (∀ b ∈ ft, N ≤ b ∧ b ≠ D ∧ b ≠ G ∧ b ∉ X) := h.2.2.2.2.2.2.2.2
theorem app (h : Rws N X D cD G cG vt s w) (hw : N ≤ w.heap.size) (hX : ∀ x ∈ X, x < w.heap.size) {ft ft' : List Nat} {vt' : Value} {v : Int} (hf : ∀ b ∈ ft, N ≤ b ∧ b ≠ D ∧ b ≠ G ∧ b ∉ X) (hC : Chg (fun k => k ∈ ft) w w') (hr : Row 2 kI64 w' vt' (s.trace ++ [v]) ft') (hf' : ∀ b ∈ ft', b ∈ ft ∨ w.heap.size ≤ b) :
    Rws N X D cD G cG vt' { s with trace := s.trace ++ [v] } w' := by
  have hl := h.lt
  obtain ⟨h1, h2, h3, h4, h5, h6, h7, h8, _⟩ := h
  exact ⟨h1.chg hC (by simp; exact fun hm => (hf _ hm).2.1 rfl), h2.chg hC (by simp; exact fun hm => (hf _ hm).2.2.1 rfl), h3, h4, h5, h6, h7, h8, ft', hr, fun b hb => by
    rcases hf' b hb with h | h
    · exact hf b h
    · exact ⟨by omega, by omega, by omega, fun hm => by have := hX b hm; omega⟩⟩
end Rws
/-- A block of cells, whole. -/
def Bk (B : Nat) (T : TypeId) (l : List Value) (w : World) : Prop := w.heap[B]? = some (.cells l.toArray T (0, 0))
namespace Bk
variable {B : Nat} {T : TypeId} {l : List Value} {w w' : World}
theorem lt (h : Bk B T l w) : B < w.heap.size := (Array.getElem?_eq_some_iff.1 h).1
theorem cell (h : Bk B T l w) (i : Nat) {v : Value} (hv : l[i]? = some v) : w.cell? ⟨B, i, none⟩ = some v := by
  rw [cell_of_row w B i l.toArray T (0, 0) h]; simpa using hv
theorem frozen (h : Bk B T l w) (i : Nat) : w.frozen? ⟨B, i, none⟩ = false := by
  unfold World.frozen?; rw [show w.heap[B]? = _ from h]; simp
theorem keep (h : Bk B T l w) (hb : w'.heap[B]? = w.heap[B]?) : Bk B T l w' := hb.trans h
theorem below (h : Bk B T l w) (hb : Below w.heap.size w w') : Bk B T l w' := h.keep (hb.block B h.lt)
theorem chg {S : Nat → Prop} (h : Bk B T l w) (hc : Chg S w w') (hs : ¬ S B) : Bk B T l w' := h.keep (hc.block B h.lt hs)
theorem set (h : Bk B T l w) (i : Nat) (v : Value) : Bk B T (l.set i v) (w.setCell ⟨B, i, none⟩ v) ∧ Chg (fun k => k = B) w (w.setCell ⟨B, i, none⟩ v) := by
  refine ⟨?_, (Chg.refl (fun k => k = B) w).setCell (p := ⟨B, i, none⟩) (.inl rfl) v⟩
  have hl := h.lt
  unfold Bk at *
  have h' : w.heap[B] = .cells l.toArray T (0, 0) := Option.some.inj ((Array.getElem?_eq_getElem hl).symm.trans h)
  simp [World.setCell, Array.getElem?_modify, Array.getElem_modify, h', hl]
theorem made (w : World) (T : TypeId) (l : List Value) : Bk w.heap.size T l (w.alloc (.cells l.toArray T)) := heap_alloc_new w _
end Bk
end Go.Proofs.YtnnfjjgohhicjaaDoor
namespace Go.Proofs.YtnnfjjgohhicjaaDoor
open Go.RowKit
set_option linter.unusedSimpArgs false
set_option linter.unusedVariables false
set_option maxRecDepth 100000

theorem arithI_c (op a b : Int) (w : World) (h1 : 3 ≤ op) (h2 : op ≤ 7) (h : op = 6 → b ≠ 0) : Calls Tryd.prog 112 #[.int .i64 op, .int .i64 a, .int .i64 b] w fun e w' => e = .returned (.int .i64 (arithP op a b)) ∧ w = w' := by
  rcases (by omega : op = 3 ∨ op = 4 ∨ op = 5 ∨ op = 6 ∨ op = 7) with rfl | rfl | rfl | rfl | rfl
  · go_enter Tryd.func112, Tryd.ntmps112
    go_wp2
    go_ret
    exact ⟨rfl, rfl⟩
  · go_enter Tryd.func112, Tryd.ntmps112
    go_wp2
    go_ret
    exact ⟨rfl, rfl⟩
  · go_enter Tryd.func112, Tryd.ntmps112
    go_wp2
    go_ret
    exact ⟨rfl, rfl⟩
  · have hb := h rfl
    clear h h1 h2
    go_enter Tryd.func112, Tryd.ntmps112
    go_wp2
    go_ret
    exact ⟨rfl, rfl⟩
  · by_cases hl : a < b
    · go_enter Tryd.func112, Tryd.ntmps112
      go_wp2
      go_ret
      exact ⟨ret_int (by simp [arithP, hl]), rfl⟩
    · go_enter Tryd.func112, Tryd.ntmps112
      go_wp2
      go_ret
      exact ⟨ret_int (by simp [arithP, hl]), rfl⟩
theorem arithS_c (op a b : Int) (w : World) (h1 : 3 ≤ op) (h2 : op ≤ 7) (h : op = 6 → b ≠ 0) : Calls Tryd.prog 95 #[.int .i64 op, .int .i64 a, .int .i64 b] w fun e w' => e = .returned (.int .i64 (arithP op a b)) ∧ w = w' := by
  rcases (by omega : op = 3 ∨ op = 4 ∨ op = 5 ∨ op = 6 ∨ op = 7) with rfl | rfl | rfl | rfl | rfl
  · go_enter Tryd.func95, Tryd.ntmps95
    go_wp2
    go_ret
    exact ⟨rfl, rfl⟩
  · go_enter Tryd.func95, Tryd.ntmps95
    go_wp2
    go_ret
    exact ⟨rfl, rfl⟩
  · go_enter Tryd.func95, Tryd.ntmps95
    go_wp2
    go_ret
    exact ⟨rfl, rfl⟩
  · have hb := h rfl
    clear h h1 h2
    by_cases h1 : b = -1
    · have HB := Lib.hid h1
      have h1' : (b == -1) = true := by simp [h1]
      clear h1
      go_enter Tryd.func95, Tryd.ntmps95
      go_wp2
      go_ret
      exact ⟨ret_int (by rw [HB.out]; simp [arithP]), rfl⟩
    · have h1' : (b == -1) = false := by simp [h1]
      go_enter Tryd.func95, Tryd.ntmps95
      go_wp2
      go_ret
      exact ⟨rfl, rfl⟩
  · by_cases hl : a < b
    · go_enter Tryd.func95, Tryd.ntmps95
      go_wp2
      go_ret
      exact ⟨ret_int (by simp [arithP, hl]), rfl⟩
    · go_enter Tryd.func95, Tryd.ntmps95
      go_wp2
      go_ret
      exact ⟨ret_int (by simp [arithP, hl]), rfl⟩
theorem cellS_c (a : Int) (w : World) : Calls Tryd.prog 94 #[.int .i64 a] w fun e w' => e = .returned (.int .i64 (a % 32)) ∧ w = w' := by
  have h1 := Int.tmod_eq_emod (a := a) (b := 32)
  have h2 : -32 < a.tmod 32 ∧ a.tmod 32 < 32 := by split at h1 <;> omega
  have h3 := mod32 a
  by_cases h0 : a.tmod 32 < 0
  · have HE := Lib.hid (show a.tmod 32 + 32 = a % 32 by split at h1 <;> omega)
    clear h1
    obtain ⟨h4, h5⟩ := h2
    go_enter Tryd.func94, Tryd.ntmps94
    go_wp2
    go_ret
    exact ⟨ret_int HE.out, rfl⟩
  · have HE := Lib.hid (show a.tmod 32 = a % 32 by split at h1 <;> omega)
    clear h1
    obtain ⟨h4, h5⟩ := h2
    go_enter Tryd.func94, Tryd.ntmps94
    go_wp2
    go_ret
    exact ⟨ret_int HE.out, rfl⟩
theorem argOf_c (A : Option Addr) (c : Nat) (xs : List Int) (i : Int) (w : World) (hx : C kI64 w A xs) (h0 : 0 ≤ i) (h8 : i < 8) (hn : xs.length ≤ 1048576) : Calls Tryd.prog 93 #[.slice A xs.length c, .int .i64 i] w fun e w' => e = .returned (.int .i64 (getI xs i)) ∧ w = w' := by
  obtain ⟨k, rfl⟩ : ∃ k : Nat, i = k := ⟨i.toNat, by omega⟩
  by_cases hlt : k < xs.length
  · obtain ⟨y, ey⟩ := get_of_lt hlt
    obtain ⟨a, _, rfl, rfl, hc⟩ := hx.at ey
    have p0 := hc1 (n := k * 1) hc
    rw [Nat.mul_one] at p0
    have HY := Lib.hid (show y = getI xs (k : Int) by have := getI_get (l := xs) (i := k) (by simpa using hlt); simp at this; rw [this] at ey; exact (Option.some.inj ey).symm)
    clear hc ey
    go_enter Tryd.func93, Tryd.ntmps93
    go_wp2
    go_ret
    exact ⟨ret_int HY.out, rfl⟩
  · have HY := Lib.hid (show getI xs (k : Int) = 0 by unfold getI; rw [List.getD_eq_getElem?_getD, List.getElem?_eq_none (by simp; omega)]; rfl)
    go_enter Tryd.func93, Tryd.ntmps93
    go_wp2
    go_ret
    exact ⟨ret_int HY.out.symm, rfl⟩
def runOK (a h : Nat) (f : Int) : Bool := decide (a ≤ 8) && decide (h ≤ 32) && decide (0 ≤ f ∧ f ≤ 60000)
theorem runOK_iff {a h : Nat} {f : Int} : runOK a h f = true ↔ a ≤ 8 ∧ h ≤ 32 ∧ 0 ≤ f ∧ f ≤ 60000 := by simp [runOK, and_assoc]
theorem runOK_not {a h : Nat} {f : Int} : runOK a h f = false ↔ ¬ (a ≤ 8 ∧ h ≤ 32 ∧ 0 ≤ f ∧ f ≤ 60000) := by rw [← runOK_iff]; simp
theorem badRun_c (A H : Option Addr) (a h ca ch : Nat) (f : Int) (w : World) (ha : a ≤ 1048576) (hh : h ≤ 1048576) : Calls Tryd.prog 63 #[.slice A a ca, .slice H h ch, .int .i64 f] w fun e w' => e = .returned (.bool (!runOK a h f)) ∧ w = w' := by
  by_cases h1 : a ≤ 8
  · by_cases h2 : h ≤ 32
    · by_cases h3 : 0 ≤ f
      · by_cases h4 : f ≤ 60000
        · have HR := Lib.hid (runOK_iff.2 ⟨h1, h2, h3, h4⟩)
          go_enter Tryd.func63, Tryd.ntmps63
          go_wp2
          go_ret
          exact ⟨ret_bool (by rw [HR.out]; first | rfl | (simp; omega)), rfl⟩
        · have HR := Lib.hid (runOK_not.2 (fun (hh : a ≤ 8 ∧ h ≤ 32 ∧ 0 ≤ f ∧ f ≤ 60000) => h4 hh.2.2.2))
          go_enter Tryd.func63, Tryd.ntmps63
          go_wp2
          go_ret
          exact ⟨ret_bool (by rw [HR.out]; rfl), rfl⟩
      · have HR := Lib.hid (runOK_not.2 (fun (hh : a ≤ 8 ∧ h ≤ 32 ∧ 0 ≤ f ∧ f ≤ 60000) => h3 hh.2.2.1))
        go_enter Tryd.func63, Tryd.ntmps63
        go_wp2
        go_ret
        exact ⟨ret_bool (by rw [HR.out]; rfl), rfl⟩
    · have HR := Lib.hid (runOK_not.2 (fun (hh : a ≤ 8 ∧ h ≤ 32 ∧ 0 ≤ f ∧ f ≤ 60000) => h2 hh.2.1))
      go_enter Tryd.func63, Tryd.ntmps63
      go_wp2
      go_ret
      exact ⟨ret_bool (by rw [HR.out]; rfl), rfl⟩
  · have HR := Lib.hid (runOK_not.2 (fun (hh : a ≤ 8 ∧ h ≤ 32 ∧ 0 ≤ f ∧ f ≤ 60000) => h1 hh.1))
    go_enter Tryd.func63, Tryd.ntmps63
    go_wp2
    go_ret
    exact ⟨ret_bool (by rw [HR.out]; rfl), rfl⟩
theorem runnable_c (A H : Option Addr) (a h ca ch : Nat) (f : Int) (w : World) (ha : a ≤ 1048576) (hh : h ≤ 1048576) : Calls Tryd.prog 66 #[.slice A a ca, .slice H h ch, .int .i64 f] w fun e w' => e = .returned (.bool (runOK a h f)) ∧ w = w' := by
  by_cases h1 : a ≤ 8
  · by_cases h2 : h ≤ 32
    · have HR := Lib.hid (show runOK a h f = decide (0 ≤ f ∧ f ≤ 60000) by simp [runOK, h1, h2])
      go_enter Tryd.func66, Tryd.ntmps66
      go_wp2_with (go_at_call 43; (with_reducible refine (within_c _ _ _ _).mono ?_); rintro e w1 ⟨rfl, rfl⟩)
      go_ret
      exact ⟨ret_bool (by rw [HR.out]; simp), rfl⟩
    · have HR := Lib.hid (runOK_not.2 (fun (hh : a ≤ 8 ∧ h ≤ 32 ∧ 0 ≤ f ∧ f ≤ 60000) => h2 hh.2.1))
      go_enter Tryd.func66, Tryd.ntmps66
      go_wp2
      go_ret
      exact ⟨ret_bool (by rw [HR.out]), rfl⟩
  · have HR := Lib.hid (runOK_not.2 (fun (hh : a ≤ 8 ∧ h ≤ 32 ∧ 0 ≤ f ∧ f ≤ 60000) => h1 hh.1))
    go_enter Tryd.func66, Tryd.ntmps66
    go_wp2
    go_ret
    exact ⟨ret_bool (by rw [HR.out]), rfl⟩
end Go.Proofs.YtnnfjjgohhicjaaDoor
namespace Go.Proofs.YtnnfjjgohhicjaaDoor
open Go.RowKit
set_option linter.unusedSimpArgs false
set_option linter.unusedVariables false
set_option maxRecDepth 100000

/-- The seven cells of a state, and what lies behind them. -/
def wl (va vh vt vc : Value) (s : Wd) (ex : List Value) : List Value := va :: vh :: vt :: .int .i64 s.fuel :: .int .i64 s.steps :: vc :: .int .i64 s.scratch :: ex
theorem at_c (B G cG : Nat) (x : Int) (w : World) (h1 : w.cell? ⟨B, 1, none⟩ = some (.slice (some ⟨G, 0, none⟩) 32 cG)) :
    Calls Tryd.prog 113 #[.pointer (some ⟨B, 0, none⟩), .int .i64 x] w fun e w' => e = .returned (.pointer (some ⟨G, (x % 32).toNat, none⟩)) ∧ w = w' := by
  have hr := rem32 x
  have h3 := mod32 x
  have h4 : -32 < x.tmod 32 ∧ x.tmod 32 < 32 := by have h1 := Int.tmod_eq_emod (a := x) (b := 32); split at h1 <;> omega
  obtain ⟨h5, h6⟩ := h4
  obtain ⟨h7, h8⟩ := h3
  go_enter Tryd.func113, Tryd.ntmps113
  go_wp2
  go_ret
  exact ⟨rfl, rfl⟩
theorem step_yes (B : Nat) (T : TypeId) (va vh vt vc : Value) (s : Wd) (ex : List Value) (w : World) (h : Bk B T (wl va vh vt vc s ex) w) (hs : 0 ≤ s.steps) (hf : s.steps < s.fuel) (hm : s.fuel ≤ 60000) :
    Calls Tryd.prog 98 #[.pointer (some ⟨B, 0, none⟩)] w fun e w' => e = .returned (.bool true) ∧ Bk B T (wl va vh vt vc (step s) ex) w' ∧ Chg (fun k => k = B) w w' := by
  have c3 := h.cell 3 (v := .int .i64 s.fuel) rfl
  have c4 := h.cell 4 (v := .int .i64 s.steps) rfl
  have f4 := h.frozen 4
  have hb : (s.steps == s.fuel) = false := by simp; omega
  go_enter Tryd.func98, Tryd.ntmps98
  go_wp2
  go_quiet (fail)
  go_wp2
  go_ret
  obtain ⟨b1, k1⟩ := (h.keep (w' := w.drewN nq) rfl).set 4 (.int .i64 (s.steps + 1))
  exact ⟨rfl, b1, ((Chg.refl (fun k => k = B) w).drewN nq).trans k1⟩
theorem step_no (B : Nat) (T : TypeId) (va vh vt vc : Value) (s : Wd) (ex : List Value) (w : World) (h : Bk B T (wl va vh vt vc s ex) w) (hs : s.steps = s.fuel) :
    Calls Tryd.prog 98 #[.pointer (some ⟨B, 0, none⟩)] w fun e w' => e = .returned (.bool false) ∧ Below w.heap.size w w' := by
  have c3 := h.cell 3 (v := .int .i64 s.fuel) rfl
  have c4 := h.cell 4 (v := .int .i64 s.steps) rfl
  have hb : (s.steps == s.fuel) = true := by simp [hs]
  clear hs
  go_enter Tryd.func98, Tryd.ntmps98
  go_wp2
  go_quiet (fail)
  go_wp2
  go_ret
  exact ⟨rfl, below_drewN (Below.refl _ _) _⟩
def wov (code value : Int) (s : Wd) (vh vt : Value) : Value := .agg #[.int .i64 code, .int .i64 value, .int .i64 s.steps, vt, vh]
def wol (code value : Int) (s : Wd) (vh vt : Value) : List Value := [.int .i64 code, .int .i64 value, .int .i64 s.steps, vt, vh]
theorem outcome_c (B : Nat) (T : TypeId) (va vc : Value) (At Ah : Option Addr) (lt ct lh ch : Nat) (s : Wd) (ex : List Value) (w : World) (code value : Int) (h : Bk B T (wl va (.slice Ah lh ch) (.slice At lt ct) vc s ex) w) :
    Calls Tryd.prog 97 #[.pointer (some ⟨B, 0, none⟩), .int .i64 code, .int .i64 value] w fun e w' => e = .returned (wov code value s (.slice Ah lh ch) (.slice At lt ct)) ∧ Below w.heap.size w w' := by
  have hz := h.lt
  have c1 := h.cell 1 (v := .slice Ah lh ch) rfl
  have c2 := h.cell 2 (v := .slice At lt ct) rfl
  have c4 := h.cell 4 (v := .int .i64 s.steps) rfl
  go_enter Tryd.func97, Tryd.ntmps97
  go_wp2
  refine wp_region_still_tail 15 (by kernel_rfl) (by kernel_rfl) ?_; simp only [List.take_succ_cons, List.take_zero, List.drop_succ_cons, List.drop_zero]; change wpStill _ _ (World.drew _) _ _ _
  repeat still_step
  refine wpStill_nil ?_
  change wpList _ _ _ _ _ (World.drew _)
  go_wp2
  exact bodyPost_ret (v := wov code value s (.slice Ah lh ch) (.slice At lt ct)) (by simp [results, Tryd.results97, go_sem, wov]) rfl ⟨rfl, (by repeat (first | (with_reducible first | exact Below.refl _ _ | assumption | exact ext_box _) | (with_reducible apply Below.drew) | ((with_reducible refine Below.setCell ?_ ?hs _); (case hs => first | (simp; done) | (simp; omega) | omega)) | ((with_reducible refine Below.alloc ?_ ?hs _); (case hs => first | (simp; done) | (simp; omega) | omega))))⟩
/-- An outcome that a pointer leads to. -/
def OutAt (W : World) (code value : Int) (s : Wd) (vh vt : Value) (en : Ending) (w' : World) : Prop :=
  ∃ o, en = .returned (.tuple #[.int .i64 0, .pointer (some ⟨o, 0, none⟩)]) ∧ Bk o 51 (wol code value s vh vt) w' ∧ W.heap.size ≤ o ∧ Below W.heap.size W w'
theorem end_c (B : Nat) (T : TypeId) (va vc : Value) (At Ah : Option Addr) (lt ct lh ch : Nat) (s : Wd) (ex : List Value) (w : World) (code value : Int) (p : Addr) (h : Bk B T (wl va (.slice Ah lh ch) (.slice At lt ct) vc s ex) w) (hp : w.cell? p = some (.pointer (some ⟨B, 0, none⟩))) :
    Calls Tryd.prog 96 #[.int .i64 code, .int .i64 value, .pointer (some p)] w (OutAt w code value s (.slice Ah lh ch) (.slice At lt ct)) := by
  have HO := Lib.hid (fun W (h : Bk B T (wl va (.slice Ah lh ch) (.slice At lt ct) vc s ex) W) => outcome_c B T va vc At Ah lt ct lh ch s ex W code value h)
  go_enter Tryd.func96, Tryd.ntmps96
  go_wp2_with (go_at_call 97; refine (HO.out _ (h.below (by repeat (first | (with_reducible first | exact Below.refl _ _ | assumption | exact ext_box _) | (with_reducible apply Below.drew) | ((with_reducible refine Below.setCell ?_ ?hs _); (case hs => first | (simp; done) | (simp; omega) | omega)) | ((with_reducible refine Below.alloc ?_ ?hs _); (case hs => first | (simp; done) | (simp; omega) | omega)))))).mono ?_; rintro e w1 ⟨rfl, hb1⟩; have HB1 := Below.then_ (w := w) (by repeat (first | (with_reducible first | exact Below.refl _ _ | assumption | exact ext_box _) | (with_reducible apply Below.drew) | ((with_reducible refine Below.setCell ?_ ?hs _); (case hs => first | (simp; done) | (simp; omega) | omega)) | ((with_reducible refine Below.alloc ?_ ?hs _); (case hs => first | (simp; done) | (simp; omega) | omega)))) hb1; unfold wov)
  have z1 := HB1.size
  exact bodyPost_ret (v := .tuple #[.int .i64 0, .pointer (some ⟨w1.heap.size, 0, none⟩)]) (by simp [results, Tryd.results96, go_sem]) rfl ⟨w1.heap.size, rfl, Bk.made _ _ _, HB1.size, (by repeat (first | (with_reducible first | exact Below.refl _ _ | assumption | exact ext_box _) | (with_reducible apply Below.drew) | ((with_reducible refine Below.setCell ?_ ?hs _); (case hs => first | (simp; done) | (simp; omega) | omega)) | ((with_reducible refine Below.alloc ?_ ?hs _); (case hs => first | (simp; done) | (simp; omega) | omega))))⟩
end Go.Proofs.YtnnfjjgohhicjaaDoor
namespace Go.Proofs.YtnnfjjgohhicjaaDoor
open Go.RowKit
set_option linter.unusedSimpArgs false
set_option linter.unusedVariables false
set_option maxRecDepth 100000

inductive Node where
  | cst (d n : Int)
  | ari (op d a b : Int)
  | hp (ld : Bool) (d a b : Int)
  | out (a : Int)
  | cpy (op d a : Int)
def Node.v : Node → Value
  | .cst d n => .iface 178 (.agg #[.int .i64 d, .int .i64 n])
  | .ari op d a b => .iface 180 (.agg #[.int .i64 op, .int .i64 d, .int .i64 a, .int .i64 b])
  | .hp l d a b => .iface 182 (.agg #[.bool l, .int .i64 d, .int .i64 a, .int .i64 b])
  | .out a => .iface 186 (.agg #[.int .i64 a])
  | .cpy op d a => .iface 188 (.agg #[.int .i64 op, .int .i64 d, .int .i64 a])
def nodeP (args : List Int) (x : Instr) : Node :=
  if x.op = 1 then .cst x.dst x.imm else if x.op = 2 then .cst x.dst (getI args x.imm) else if x.op = 8 then .hp true x.dst x.a 0 else if x.op = 9 then .hp false 0 x.a x.b
  else if x.op = 10 then .out x.a else if x.op = 11 ∨ x.op = 12 ∨ x.op = 13 then .cpy x.op x.dst x.a else .ari x.op x.dst x.a x.b
def doP : Node → Wd → Option Wd
  | .cst d n, s => some { s with cells := setI s.cells d n }
  | .ari op d a b, s => if op = 6 ∧ getI s.cells b = 0 then none else some { s with cells := setI s.cells d (arithP op (getI s.cells a) (getI s.cells b)) }
  | .hp true d a _, s => some { s with cells := setI s.cells d (getI s.heap (getI s.cells a % 32)) }
  | .hp false _ a b, s => some { s with heap := setI s.heap (getI s.cells a % 32) (getI s.cells b) }
  | .out a, s => some { s with trace := s.trace ++ [getI s.cells a] }
  | .cpy op d a, s => if op = 11 then some { s with cells := setI s.cells d (getI s.cells a) } else if op = 12 then some { s with scratch := getI s.cells a } else some { s with cells := setI s.cells d s.scratch }
theorem doP_exec (x : Instr) (s : Wd) (h1 : 1 ≤ x.op) (h2 : x.op ≤ 13) : doP (nodeP s.args x) s = exec x s := by
  unfold nodeP exec
  rcases (by omega : x.op = 1 ∨ x.op = 2 ∨ x.op = 8 ∨ x.op = 9 ∨ x.op = 10 ∨ x.op = 11 ∨ x.op = 12 ∨ x.op = 13 ∨ (x.op ≠ 1 ∧ x.op ≠ 2 ∧ x.op ≠ 8 ∧ x.op ≠ 9 ∧ x.op ≠ 10 ∧ x.op ≠ 11 ∧ x.op ≠ 12 ∧ x.op ≠ 13)) with h | h | h | h | h | h | h | h | h
  · simp [h, doP]
  · simp [h, doP]
  · simp [h, doP]
  · simp [h, doP]
  · simp [h, doP]
  · simp [h, doP]
  · simp [h, doP]
  · simp [h, doP]
  · obtain ⟨g1, g2, g3, g4, g5, g6, g7, g8⟩ := h
    simp [g1, g2, g3, g4, g5, g6, g7, g8, doP]
set_option maxHeartbeats 2000000 in
theorem nodeOf_c (B : Nat) (A : Option Addr) (ca : Nat) (s : Wd) (x : Instr) (w : World) (hc : w.cell? ⟨B, 0, none⟩ = some (.slice A s.args.length ca)) (hB : B < w.heap.size) (hA : C kI64 w A s.args) (hl : s.args.length ≤ 8) (h1 : 1 ≤ x.op) (h2 : x.op ≤ 13) (hi : x.op = 2 → 0 ≤ x.imm ∧ x.imm < 8) :
    Calls Tryd.prog 100 #[.pointer (some ⟨B, 0, none⟩), x.v] w fun e w' => e = .returned (nodeP s.args x).v ∧ Below w.heap.size w w' := by
  obtain ⟨op, dst, a, b, imm⟩ := x
  dsimp only at *
  have hg : ∀ v, nodeP s.args ⟨op, dst, a, b, imm⟩ = v → nodeP s.args ⟨op, dst, a, b, imm⟩ = v := fun _ h => h
  simp only [Instr.v]
  rcases (by omega : op = 1 ∨ op = 2 ∨ op = 8 ∨ op = 9 ∨ op = 10 ∨ op = 11 ∨ op = 12 ∨ op = 13 ∨ op = 3 ∨ op = 4 ∨ op = 5 ∨ op = 6 ∨ op = 7) with rfl | rfl | rfl | rfl | rfl | rfl | rfl | rfl | rfl | rfl | rfl | rfl | rfl
  case inr.inl =>
    obtain ⟨i1, i2⟩ := hi rfl
    clear hg hi
    obtain ⟨k, rfl⟩ : ∃ k : Nat, imm = k := ⟨imm.toNat, by omega⟩
    by_cases hlt : k < s.args.length
    · obtain ⟨y, ey⟩ := get_of_lt hlt
      obtain ⟨a', _, rfl, rfl, hcc⟩ := hA.at ey
      have p0 := hc1 (n := k * 1) hcc
      rw [Nat.mul_one] at p0
      have HY := Lib.hid (show y = getI s.args (k : Int) by have := getI_get (l := s.args) (i := k) (by simpa using hlt); simp at this; rw [this] at ey; exact (Option.some.inj ey).symm)
      have p1 : (w.alloc (.cells #[.int .i64 2, .int .i64 dst, .int .i64 a, .int .i64 b, .int .i64 k] 72)).cell? (a'.add k) = some (.int .i64 y) := (((Below.refl _ w).alloc (Nat.le_refl _) _).cell (World.block_lt_of_cell? w _ p0)).trans p0
      clear hcc ey
      go_enter Tryd.func100, Tryd.ntmps100
      go_wp2
      go_quiet (fail)
      go_wp2
      go_quiet (fail)
      go_wp2
      go_ret
      exact ⟨by rw [HY.out]; simp [nodeP, Node.v], below_drewN ((Below.refl _ w).alloc (Nat.le_refl _) _) _⟩
    · have HY := Lib.hid (show getI s.args (k : Int) = 0 by unfold getI; rw [List.getD_eq_getElem?_getD, List.getElem?_eq_none (by simp; omega)]; rfl)
      go_enter Tryd.func100, Tryd.ntmps100
      go_wp2
      go_quiet (fail)
      go_wp2
      go_ret
      exact ⟨by simp [nodeP, Node.v, HY.out], below_drewN ((Below.refl _ w).alloc (Nat.le_refl _) _) _⟩
  all_goals
    clear hg hi
    go_enter Tryd.func100, Tryd.ntmps100
    go_wp2
    go_ret
    exact ⟨by simp [nodeP, Node.v], (by repeat (first | (with_reducible first | exact Below.refl _ _ | assumption | exact ext_box _) | (with_reducible apply Below.drew) | ((with_reducible refine Below.setCell ?_ ?hs _); (case hs => first | (simp; done) | (simp; omega) | omega)) | ((with_reducible refine Below.alloc ?_ ?hs _); (case hs => first | (simp; done) | (simp; omega) | omega))))⟩

/-- The state in memory: block B (W0: the world before it was made; X: blocks that no row of the state lies in, B among them). -/
def St (W0 : World) (X : List Nat) (B : Nat) (T : TypeId) (ex : List Value) (A : Option Addr) (ca D cD G cG : Nat) (s : Wd) (w : World) : Prop :=
  ∃ At ct, Bk B T (wl (.slice A s.args.length ca) (.slice (some ⟨G, 0, none⟩) 32 cG) (.slice At s.trace.length ct) (.slice (some ⟨D, 0, none⟩) s.cells.length cD) s ex) w ∧ Rws W0.heap.size X D cD G cG (.slice At s.trace.length ct) s w ∧ W0.heap.size ≤ B ∧ Below W0.heap.size W0 w ∧ B ∈ X ∧ ∀ x ∈ X, x < w.heap.size
/-- What a step may turn: B, and what is no block of X. -/
def Tn (X : List Nat) (B : Nat) (k : Nat) : Prop := k = B ∨ k ∉ X
def DoPost (W0 : World) (X : List Nat) (B : Nat) (T : TypeId) (ex : List Value) (A : Option Addr) (ca D cD G cG : Nat) (s : Wd) (w : World) (r : Option Wd) (e : Ending) (w' : World) : Prop :=
  Chg (Tn X B) w w' ∧ match r with
  | none => e = .returned (.bool false) ∧ St W0 X B T ex A ca D cD G cG s w'
  | some s' => e = .returned (.bool true) ∧ St W0 X B T ex A ca D cD G cG s' w'
namespace St
variable {W0 : World} {X : List Nat} {B : Nat} {T : TypeId} {ex : List Value} {A : Option Addr} {ca D cD G cG : Nat} {s : Wd} {w w' : World}
theorem below (h : St W0 X B T ex A ca D cD G cG s w) (hb : Below w.heap.size w w') : St W0 X B T ex A ca D cD G cG s w' := by
  obtain ⟨At, ct, h1, h2, h3, h4, h5, h6⟩ := h
  exact ⟨At, ct, h1.below hb, h2.below hb, h3, h4.trans (hb.mono h4.size), h5, fun x hx => Nat.lt_of_lt_of_le (h6 x hx) hb.size⟩
theorem more (h : St W0 X B T ex A ca D cD G cG s w) (hb : Below w.heap.size w w') (Y : List Nat) (hY : ∀ y ∈ Y, w.heap.size ≤ y ∧ y < w'.heap.size) : St W0 (Y ++ X) B T ex A ca D cD G cG s w' := by
  obtain ⟨At, ct, h1, ⟨r1, r2, r3, r4, r5, r6, r7, r8, ft, r9, r10⟩, h3, h4, h5, h6⟩ := h
  have l1 := r1.lt D (by simp)
  have l2 := r2.lt G (by simp)
  have app : ∀ b, b < w.heap.size → b ∉ X → b ∉ Y ++ X := fun b hb1 hb2 hm => by
    rcases List.mem_append.1 hm with e | e
    · have := (hY b e).1; omega
    · exact hb2 e
  have hr : Rws W0.heap.size (Y ++ X) D cD G cG (.slice At s.trace.length ct) s w := ⟨r1, r2, r3, r4, r5, r6, app D l1 r7, app G l2 r8, ft, r9, fun b hb => ⟨(r10 b hb).1, (r10 b hb).2.1, (r10 b hb).2.2.1, app b (r9.lt b hb) (r10 b hb).2.2.2⟩⟩
  exact ⟨At, ct, h1.below hb, hr.below hb, h3, h4.trans (hb.mono h4.size), List.mem_append_right _ h5, fun x hx => by rcases List.mem_append.1 hx with e | e; exact (hY x e).2; exact Nat.lt_of_lt_of_le (h6 x e) hb.size⟩
theorem less (h : St W0 X B T ex A ca D cD G cG s w) {X' : List Nat} (hX : ∀ x ∈ X', x ∈ X) (hB : B ∈ X') : St W0 X' B T ex A ca D cD G cG s w := by
  obtain ⟨At, ct, h1, ⟨r1, r2, r3, r4, r5, r6, r7, r8, ft, r9, r10⟩, h3, h4, h5, h6⟩ := h
  exact ⟨At, ct, h1, ⟨r1, r2, r3, r4, r5, r6, fun hm => r7 (hX _ hm), fun hm => r8 (hX _ hm), ft, r9, fun b hb => ⟨(r10 b hb).1, (r10 b hb).2.1, (r10 b hb).2.2.1, fun hm => (r10 b hb).2.2.2 (hX _ hm)⟩⟩, h3, h4, hB, fun x hx => h6 x (hX x hx)⟩
theorem setReg (h : St W0 X B T ex A ca D cD G cG s w) {r : Int} (hr : r.toNat < s.cells.length) (v : Int) :
    St W0 X B T ex A ca D cD G cG { s with cells := setI s.cells r v } (w.setCell ⟨D, r.toNat, none⟩ (.int .i64 v)) ∧ Chg (Tn X B) w (w.setCell ⟨D, r.toNat, none⟩ (.int .i64 v)) := by
  obtain ⟨At, ct, h1, h2, h3, h4, h5, h6⟩ := h
  obtain ⟨k1, k2⟩ := h2.setReg hr v
  have hD := h2.2.2.2.2.1
  have hX : ¬ B = D := fun e => h2.2.2.2.2.2.2.1 (e ▸ h5)
  exact ⟨⟨At, ct, by simp only [setI_len]; exact h1.chg k2 hX, k1, h3, h4.trans (k2.below h4.size fun k hk => by subst hk; exact hD), h5, fun x hx => Nat.lt_of_lt_of_le (h6 x hx) k2.size⟩, k2.mono fun k _ e => .inr (e ▸ h2.2.2.2.2.2.2.1)⟩
theorem setHp (h : St W0 X B T ex A ca D cD G cG s w) {r : Int} (hr : r.toNat < 32) (v : Int) :
    St W0 X B T ex A ca D cD G cG { s with heap := setI s.heap r v } (w.setCell ⟨G, r.toNat, none⟩ (.int .i64 v)) ∧ Chg (Tn X B) w (w.setCell ⟨G, r.toNat, none⟩ (.int .i64 v)) := by
  obtain ⟨At, ct, h1, h2, h3, h4, h5, h6⟩ := h
  obtain ⟨k1, k2⟩ := h2.setHp hr v
  have hG := h2.2.2.2.2.2.1
  have hX : ¬ B = G := fun e => h2.2.2.2.2.2.2.2.1 (e ▸ h5)
  exact ⟨⟨At, ct, h1.chg k2 hX, k1, h3, h4.trans (k2.below h4.size fun k hk => by subst hk; exact hG), h5, fun x hx => Nat.lt_of_lt_of_le (h6 x hx) k2.size⟩, k2.mono fun k _ e => .inr (e ▸ h2.2.2.2.2.2.2.2.1)⟩
theorem setScr (h : St W0 X B T ex A ca D cD G cG s w) (v : Int) :
    St W0 X B T ex A ca D cD G cG { s with scratch := v } (w.setCell ⟨B, 6, none⟩ (.int .i64 v)) ∧ Chg (Tn X B) w (w.setCell ⟨B, 6, none⟩ (.int .i64 v)) := by
  obtain ⟨At, ct, h1, h2, h3, h4, h5, h6⟩ := h
  obtain ⟨k1, k2⟩ := h1.set 6 (.int .i64 v)
  exact ⟨⟨At, ct, k1, h2.chg (k2.mono fun k _ e => e ▸ h5), h3, h4.trans (k2.below h4.size fun k hk => by subst hk; exact h3), h5, fun x hx => Nat.lt_of_lt_of_le (h6 x hx) k2.size⟩, k2.mono fun k _ e => .inl e⟩
theorem step (h : St W0 X B T ex A ca D cD G cG s w)
    (hk : ∀ At ct, Bk B T (wl (.slice A s.args.length ca) (.slice (some ⟨G, 0, none⟩) 32 cG) (.slice At s.trace.length ct) (.slice (some ⟨D, 0, none⟩) s.cells.length cD) s ex) w → Bk B T (wl (.slice A s.args.length ca) (.slice (some ⟨G, 0, none⟩) 32 cG) (.slice At s.trace.length ct) (.slice (some ⟨D, 0, none⟩) s.cells.length cD) (Go.Proofs.YtnnfjjgohhicjaaDoor.step s) ex) w') (hc : Chg (fun k => k = B) w w') : St W0 X B T ex A ca D cD G cG (Go.Proofs.YtnnfjjgohhicjaaDoor.step s) w' := by
  obtain ⟨At, ct, h1, h2, h3, h4, h5, h6⟩ := h
  exact ⟨At, ct, hk _ _ h1, (h2.chg (hc.mono fun k _ e => e ▸ h5)), h3, h4.trans (hc.below h4.size fun k hk => by subst hk; exact h3), h5, fun x hx => Nat.lt_of_lt_of_le (h6 x hx) hc.size⟩
end St
theorem asY (X : TypeId) (hX : X = 178 ∨ X = 180 ∨ X = 182 ∨ X = 186 ∨ X = 188) (v : Value) (w : World) :
    (Go.Instr.typeAssert (.iface X v) 166 X true).run Tryd.prog w = .ok (.tuple #[v, .bool true]) w := by
  rcases hX with rfl | rfl | rfl | rfl | rfl <;> kernel_rfl
theorem as1 (X : TypeId) (hX : X = 180 ∨ X = 182 ∨ X = 186 ∨ X = 188) (v : Value) (w : World) :
    (Go.Instr.typeAssert (.iface X v) 166 178 true).run Tryd.prog w = .ok (.tuple #[.agg #[.int .i64 0, .int .i64 0], .bool false]) w := by
  rcases hX with rfl | rfl | rfl | rfl <;> kernel_rfl
theorem as2 (X : TypeId) (hX : X = 182 ∨ X = 186 ∨ X = 188) (v : Value) (w : World) :
    (Go.Instr.typeAssert (.iface X v) 166 180 true).run Tryd.prog w = .ok (.tuple #[.agg #[.int .i64 0, .int .i64 0, .int .i64 0, .int .i64 0], .bool false]) w := by
  rcases hX with rfl | rfl | rfl <;> kernel_rfl
theorem as3 (X : TypeId) (hX : X = 186 ∨ X = 188) (v : Value) (w : World) :
    (Go.Instr.typeAssert (.iface X v) 166 182 true).run Tryd.prog w = .ok (.tuple #[.agg #[.bool false, .int .i64 0, .int .i64 0, .int .i64 0], .bool false]) w := by
  rcases hX with rfl | rfl <;> kernel_rfl
theorem as4 (v : Value) (w : World) : (Go.Instr.typeAssert (.iface 188 v) 166 186 true).run Tryd.prog w = .ok (.tuple #[.agg #[.int .i64 0], .bool false]) w := by kernel_rfl
end Go.Proofs.YtnnfjjgohhicjaaDoor
namespace Go.Proofs.YtnnfjjgohhicjaaDoor
open Go.RowKit
set_option linter.unusedSimpArgs false
set_option linter.unusedVariables false
set_option maxRecDepth 100000

section
variable {W0 : World} {X : List Nat} {B : Nat} {T : TypeId} {ex : List Value} {A : Option Addr} {ca D cD G cG : Nat} {s s' : Wd} {e : Ending} {w w1 w' : World}
/-- .. behind blocks of its own and draws. -/
theorem DoPost.some (h : e = .returned (.bool true)) (hs : St W0 X B T ex A ca D cD G cG s' w1 ∧ Chg (Tn X B) w w1) (hb : Below w1.heap.size w1 w') : DoPost W0 X B T ex A ca D cD G cG s w (.some s') e w' := ⟨hs.2.call hb, h, hs.1.below hb⟩
theorem DoPost.none (h : e = .returned (.bool false)) (hs : St W0 X B T ex A ca D cD G cG s w) (hb : Below w.heap.size w w') : DoPost W0 X B T ex A ca D cD G cG s w .none e w' := ⟨(Chg.refl _ _).call hb, h, hs.below hb⟩
theorem DoPost.some' (h : e = .returned (.bool true)) (hb : Below w.heap.size w w1) (hs : St W0 X B T ex A ca D cD G cG s' w' ∧ Chg (Tn X B) w1 w') : DoPost W0 X B T ex A ca D cD G cG s w (.some s') e w' := ⟨((Chg.refl _ _).call hb).trans hs.2, h, hs.1⟩
end
theorem still_of {P : Program} {f : FuncId} {args : Array Value} {w : World} {v : Value} (h : Calls P f args w fun e w' => e = .returned v ∧ w = w') : Calls P f args w fun e w' => e = .returned v ∧ w' = w := h.mono fun _ _ h => ⟨h.1, h.2.symm⟩
section
variable (W0 : World) (X : List Nat) (B : Nat) (T : TypeId) (ex : List Value) (A : Option Addr) (ca D cD G cG : Nat) (s : Wd) (w : World)
theorem do_cst (d n : Int) (h : St W0 X B T ex A ca D cD G cG s w) (hd : 0 ≤ d ∧ d < s.cells.length) :
    Calls Tryd.prog 99 #[.pointer (some ⟨B, 0, none⟩), (Node.cst d n).v] w (DoPost W0 X B T ex A ca D cD G cG s w (doP (.cst d n) s)) := by
  obtain ⟨At, ct, h1, h2, h3, h4, h5, h6⟩ := id h
  obtain ⟨r, rfl⟩ : ∃ r : Nat, d = r := ⟨d.toNat, by omega⟩
  obtain ⟨d1, d2⟩ := hd
  have c5 := h1.cell 5 (v := .slice (some ⟨D, 0, none⟩) s.cells.length cD) rfl
  have zB := h1.lt
  obtain ⟨q1, q2⟩ := h2.reg (r := r) (by omega)
  have zD := h2.lt.1
  rw [Int.toNat_natCast] at q1 q2
  have t1 := asY 178 (.inl rfl)
  simp only [Node.v]
  clear h1 h2 h4 h5 h6
  go_enter Tryd.func99, Tryd.ntmps99
  go_wp2
  refine wp_region_still_tail 8 (by kernel_rfl) (by kernel_rfl) ?_; simp only [List.take_succ_cons, List.take_zero, List.drop_succ_cons, List.drop_zero]; change wpStill _ _ (World.drew _) _ _ _
  repeat still_step
  refine wpStill_nil ?_
  change wpList _ _ _ _ _ (World.drew _)
  go_wp2
  go_ret
  exact DoPost.some rfl (h.setReg (r := r) (by omega) n) (((Below.refl _ _).alloc (Nat.le_refl _) _).drew)
theorem do_put (d a : Int) (h : St W0 X B T ex A ca D cD G cG s w) (ha : 0 ≤ a ∧ a < s.cells.length) :
    Calls Tryd.prog 99 #[.pointer (some ⟨B, 0, none⟩), (Node.cpy 12 d a).v] w (DoPost W0 X B T ex A ca D cD G cG s w (doP (.cpy 12 d a) s)) := by
  obtain ⟨At, ct, h1, h2, h3, h4, h5, h6⟩ := id h
  obtain ⟨r, rfl⟩ : ∃ r : Nat, a = r := ⟨a.toNat, by omega⟩
  obtain ⟨d1, d2⟩ := ha
  have c5 := h1.cell 5 (v := .slice (some ⟨D, 0, none⟩) s.cells.length cD) rfl
  have c6 := h1.cell 6 (v := .int .i64 s.scratch) rfl
  have f6 := h1.frozen 6
  have zB := h1.lt
  obtain ⟨q1, q2⟩ := h2.reg (r := r) (by omega)
  have zD := h2.lt.1
  rw [Int.toNat_natCast] at q1 q2
  have t0 := asY 188 (by simp)
  have t1 := as1 188 (by simp)
  have t2 := as2 188 (by simp)
  have t3 := as3 188 (by simp)
  have t4 := as4
  simp only [Node.v]
  clear h1 h2 h4 h5 h6
  go_enter Tryd.func99, Tryd.ntmps99
  go_wp2
  refine wp_region_still_tail 9 (by kernel_rfl) (by kernel_rfl) ?_; simp only [List.take_succ_cons, List.take_zero, List.drop_succ_cons, List.drop_zero]; change wpStill _ _ (World.drew _) _ _ _
  repeat still_step
  refine wpStill_nil ?_
  change wpList _ _ _ _ _ (World.drew _)
  go_wp2
  go_ret
  exact DoPost.some rfl (h.setScr (getI s.cells r)) (((Below.refl _ _).alloc (Nat.le_refl _) _).drew)
theorem do_get (d a : Int) (h : St W0 X B T ex A ca D cD G cG s w) (hd : 0 ≤ d ∧ d < s.cells.length) :
    Calls Tryd.prog 99 #[.pointer (some ⟨B, 0, none⟩), (Node.cpy 13 d a).v] w (DoPost W0 X B T ex A ca D cD G cG s w (doP (.cpy 13 d a) s)) := by
  obtain ⟨At, ct, h1, h2, h3, h4, h5, h6⟩ := id h
  obtain ⟨r, rfl⟩ : ∃ r : Nat, d = r := ⟨d.toNat, by omega⟩
  obtain ⟨d1, d2⟩ := hd
  have c5 := h1.cell 5 (v := .slice (some ⟨D, 0, none⟩) s.cells.length cD) rfl
  have c6 := h1.cell 6 (v := .int .i64 s.scratch) rfl
  have zB := h1.lt
  obtain ⟨q1, q2⟩ := h2.reg (r := r) (by omega)
  have zD := h2.lt.1
  rw [Int.toNat_natCast] at q1 q2
  have t0 := asY 188 (by simp)
  have t1 := as1 188 (by simp)
  have t2 := as2 188 (by simp)
  have t3 := as3 188 (by simp)
  have t4 := as4
  simp only [Node.v]
  clear h1 h2 h4 h5 h6
  go_enter Tryd.func99, Tryd.ntmps99
  go_wp2
  refine wp_region_still_tail 10 (by kernel_rfl) (by kernel_rfl) ?_; simp only [List.take_succ_cons, List.take_zero, List.drop_succ_cons, List.drop_zero]; change wpStill _ _ (World.drew _) _ _ _
  repeat still_step
  refine wpStill_nil ?_
  change wpList _ _ _ _ _ (World.drew _)
  go_wp2
  go_ret
  exact DoPost.some rfl (h.setReg (r := r) (by omega) s.scratch) (((Below.refl _ _).alloc (Nat.le_refl _) _).drew)
theorem do_mov (d a : Int) (h : St W0 X B T ex A ca D cD G cG s w) (hd : 0 ≤ d ∧ d < s.cells.length) (ha : 0 ≤ a ∧ a < s.cells.length) :
    Calls Tryd.prog 99 #[.pointer (some ⟨B, 0, none⟩), (Node.cpy 11 d a).v] w (DoPost W0 X B T ex A ca D cD G cG s w (doP (.cpy 11 d a) s)) := by
  obtain ⟨At, ct, h1, h2, h3, h4, h5, h6⟩ := id h
  obtain ⟨r, rfl⟩ : ∃ r : Nat, d = r := ⟨d.toNat, by omega⟩
  obtain ⟨k, rfl⟩ : ∃ k : Nat, a = k := ⟨a.toNat, by omega⟩
  obtain ⟨d1, d2⟩ := hd
  obtain ⟨a1, a2⟩ := ha
  have c5 := h1.cell 5 (v := .slice (some ⟨D, 0, none⟩) s.cells.length cD) rfl
  have zB := h1.lt
  obtain ⟨q1, q2⟩ := h2.reg (r := r) (by omega)
  obtain ⟨p1, -⟩ := h2.reg (r := k) (by omega)
  have zD := h2.lt.1
  rw [Int.toNat_natCast] at q1 q2 p1
  have t0 := asY 188 (by simp)
  have t1 := as1 188 (by simp)
  have t2 := as2 188 (by simp)
  have t3 := as3 188 (by simp)
  have t4 := as4
  simp only [Node.v]
  clear h1 h2 h4 h5 h6
  go_enter Tryd.func99, Tryd.ntmps99
  go_wp2
  refine wp_region_still_tail 14 (by kernel_rfl) (by kernel_rfl) ?_; simp only [List.take_succ_cons, List.take_zero, List.drop_succ_cons, List.drop_zero]; change wpStill _ _ (World.drew _) _ _ _
  repeat still_step
  refine wpStill_nil ?_
  change wpList _ _ _ _ _ (World.drew _)
  go_wp2
  go_ret
  exact DoPost.some rfl (h.setReg (r := r) (by omega) (getI s.cells k)) (((Below.refl _ _).alloc (Nat.le_refl _) _).drew)
set_option maxHeartbeats 2000000 in
theorem do_ld (d a b : Int) (h : St W0 X B T ex A ca D cD G cG s w) (hd : 0 ≤ d ∧ d < s.cells.length) (ha : 0 ≤ a ∧ a < s.cells.length) :
    Calls Tryd.prog 99 #[.pointer (some ⟨B, 0, none⟩), (Node.hp true d a b).v] w (DoPost W0 X B T ex A ca D cD G cG s w (doP (.hp true d a b) s)) := by
  obtain ⟨At, ct, h1, h2, h3, h4, h5, h6⟩ := id h
  obtain ⟨r, rfl⟩ : ∃ r : Nat, d = r := ⟨d.toNat, by omega⟩
  obtain ⟨k, rfl⟩ : ∃ k : Nat, a = k := ⟨a.toNat, by omega⟩
  obtain ⟨d1, d2⟩ := hd
  obtain ⟨a1, a2⟩ := ha
  have c1 := h1.cell 1 (v := .slice (some ⟨G, 0, none⟩) 32 cG) rfl
  have c5 := h1.cell 5 (v := .slice (some ⟨D, 0, none⟩) s.cells.length cD) rfl
  have zB := h1.lt
  obtain ⟨q1, q2⟩ := h2.reg (r := r) (by omega)
  obtain ⟨p1, -⟩ := h2.reg (r := k) (by omega)
  have hm := mod32 (getI s.cells k)
  obtain ⟨g1, -⟩ := h2.hp (r := getI s.cells k % 32) (by omega)
  obtain ⟨zD, zG⟩ := h2.lt
  rw [Int.toNat_natCast] at q1 q2 p1
  have t0 := asY 182 (by simp)
  have t1 := as1 182 (by simp)
  have t2 := as2 182 (by simp)
  simp only [Node.v]
  clear h1 h2 h4 h5 h6 hm
  have HAT := fun W h => still_of (at_c B G cG (getI s.cells k) W h)
  go_enter Tryd.func99, Tryd.ntmps99
  go_wp2
  refine wp_region_still_tail 18 (by kernel_rfl) (by kernel_rfl) ?_; simp only [List.take_succ_cons, List.take_zero, List.drop_succ_cons, List.drop_zero]; change wpStill _ _ (World.drew _) _ _ _
  repeat (first | still_step | still_call (HAT _ ((((Below.refl _ w).alloc (Nat.le_refl _) _).cell (p := ⟨B, 1, none⟩) zB).trans c1)))
  refine wpStill_nil ?_
  change wpList _ _ _ _ _ (World.drew _)
  go_wp2
  go_ret
  exact DoPost.some rfl (h.setReg (r := r) (by omega) _) (((Below.refl _ _).alloc (Nat.le_refl _) _).drew)
set_option maxHeartbeats 2000000 in
theorem do_st (d a b : Int) (h : St W0 X B T ex A ca D cD G cG s w) (ha : 0 ≤ a ∧ a < s.cells.length) (hb : 0 ≤ b ∧ b < s.cells.length) :
    Calls Tryd.prog 99 #[.pointer (some ⟨B, 0, none⟩), (Node.hp false d a b).v] w (DoPost W0 X B T ex A ca D cD G cG s w (doP (.hp false d a b) s)) := by
  obtain ⟨At, ct, h1, h2, h3, h4, h5, h6⟩ := id h
  obtain ⟨k, rfl⟩ : ∃ k : Nat, a = k := ⟨a.toNat, by omega⟩
  obtain ⟨l, rfl⟩ : ∃ l : Nat, b = l := ⟨b.toNat, by omega⟩
  obtain ⟨a1, a2⟩ := ha
  obtain ⟨b1, b2⟩ := hb
  have c1 := h1.cell 1 (v := .slice (some ⟨G, 0, none⟩) 32 cG) rfl
  have c5 := h1.cell 5 (v := .slice (some ⟨D, 0, none⟩) s.cells.length cD) rfl
  have zB := h1.lt
  obtain ⟨p1, -⟩ := h2.reg (r := k) (by omega)
  obtain ⟨p2, -⟩ := h2.reg (r := l) (by omega)
  have hm := mod32 (getI s.cells k)
  obtain ⟨g1, g2⟩ := h2.hp (r := getI s.cells k % 32) (by omega)
  obtain ⟨zD, zG⟩ := h2.lt
  rw [Int.toNat_natCast] at p1 p2
  have t0 := asY 182 (by simp)
  have t1 := as1 182 (by simp)
  have t2 := as2 182 (by simp)
  have HS := Lib.hid (h.setHp (r := getI s.cells k % 32) (by omega) (getI s.cells l))
  simp only [Node.v]
  clear h1 h2 h4 h5 h6 hm
  have HAT := fun W h => still_of (at_c B G cG (getI s.cells k) W h)
  go_enter Tryd.func99, Tryd.ntmps99
  go_wp2
  refine wp_region_still_tail 18 (by kernel_rfl) (by kernel_rfl) ?_; simp only [List.take_succ_cons, List.take_zero, List.drop_succ_cons, List.drop_zero]; change wpStill _ _ (World.drew _) _ _ _
  repeat (first | still_step | still_call (HAT _ ((((Below.refl _ w).alloc (Nat.le_refl _) _).cell (p := ⟨B, 1, none⟩) zB).trans c1)))
  refine wpStill_nil ?_
  change wpList _ _ _ _ _ (World.drew _)
  go_wp2
  go_ret
  exact DoPost.some rfl HS.out (((Below.refl _ _).alloc (Nat.le_refl _) _).drew)
set_option maxHeartbeats 2000000 in
theorem do_ari (op d a b : Int) (h : St W0 X B T ex A ca D cD G cG s w) (hop : 3 ≤ op ∧ op ≤ 7) (hd : 0 ≤ d ∧ d < s.cells.length) (ha : 0 ≤ a ∧ a < s.cells.length) (hb : 0 ≤ b ∧ b < s.cells.length) :
    Calls Tryd.prog 99 #[.pointer (some ⟨B, 0, none⟩), (Node.ari op d a b).v] w (DoPost W0 X B T ex A ca D cD G cG s w (doP (.ari op d a b) s)) := by
  obtain ⟨At, ct, h1, h2, h3, h4, h5, h6⟩ := id h
  obtain ⟨r, rfl⟩ : ∃ r : Nat, d = r := ⟨d.toNat, by omega⟩
  obtain ⟨k, rfl⟩ : ∃ k : Nat, a = k := ⟨a.toNat, by omega⟩
  obtain ⟨l, rfl⟩ : ∃ l : Nat, b = l := ⟨b.toNat, by omega⟩
  obtain ⟨d1, d2⟩ := hd
  obtain ⟨a1, a2⟩ := ha
  obtain ⟨b1, b2⟩ := hb
  have c5 := h1.cell 5 (v := .slice (some ⟨D, 0, none⟩) s.cells.length cD) rfl
  have zB := h1.lt
  obtain ⟨q1, q2⟩ := h2.reg (r := r) (by omega)
  obtain ⟨p1, -⟩ := h2.reg (r := k) (by omega)
  obtain ⟨p2, -⟩ := h2.reg (r := l) (by omega)
  have zD := h2.lt.1
  rw [Int.toNat_natCast] at q1 q2 p1 p2
  have t0 := asY 180 (by simp)
  have t1 := as1 180 (by simp)
  simp only [Node.v]
  clear h1 h2 h4 h5 h6
  by_cases h6 : op = 6 ∧ getI s.cells l = 0
  · have HE := Lib.hid (show doP (.ari op r k l) s = none by simp [doP, h6])
    obtain ⟨e1, e2⟩ := h6
    have e3 : (op == 6) = true := by simp [e1]
    have e4 : (getI s.cells l == 0) = true := by simp [e2]
    clear e1 e2 hop
    go_enter Tryd.func99, Tryd.ntmps99
    go_wp2
    go_quiet (fail)
    go_wp2
    go_ret
    rw [HE.out]
    exact DoPost.none rfl h (below_drewN ((Below.refl _ _).alloc (Nat.le_refl _) _) _)
  · have HE := Lib.hid (show doP (.ari op r k l) s = some { s with cells := setI s.cells r (arithP op (getI s.cells k) (getI s.cells l)) } by simp only [doP, h6, if_false])
    have HAR := fun W => still_of (arithI_c op (getI s.cells k) (getI s.cells l) W hop.1 hop.2 (fun e1 e2 => h6 ⟨e1, e2⟩))
    by_cases h7 : op = 6
    · have e4 : (getI s.cells l == 0) = false := by simp; exact fun e => h6 ⟨h7, e⟩
      have e3 : (op == 6) = true := by simp [h7]
      clear h6 h7 hop
      go_enter Tryd.func99, Tryd.ntmps99
      go_wp2
      go_quiet (fail)
      go_wp2
      refine wp_region_still_tail 25 (by kernel_rfl) (by kernel_rfl) ?_; simp only [List.take_succ_cons, List.take_zero, List.drop_succ_cons, List.drop_zero]; change wpStill _ _ (World.drew _) _ _ _
      repeat (first | still_step | still_call (HAR _))
      refine wpStill_nil ?_
      change wpList _ _ _ _ _ (World.drew _)
      go_wp2
      go_ret
      rw [HE.out]
      exact DoPost.some' rfl (below_drewN ((Below.refl _ _).alloc (Nat.le_refl _) _) _) ((h.below (below_drewN ((Below.refl _ _).alloc (Nat.le_refl _) _) _)).setReg (r := r) (by omega) _)
    · have e3 : (op == 6) = false := by simp [h7]
      clear h6 h7 hop
      go_enter Tryd.func99, Tryd.ntmps99
      go_wp2
      go_quiet (fail)
      go_wp2
      refine wp_region_still_tail 25 (by kernel_rfl) (by kernel_rfl) ?_; simp only [List.take_succ_cons, List.take_zero, List.drop_succ_cons, List.drop_zero]; change wpStill _ _ (World.drew _) _ _ _
      repeat (first | still_step | still_call (HAR _))
      refine wpStill_nil ?_
      change wpList _ _ _ _ _ (World.drew _)
      go_wp2
      go_ret
      rw [HE.out]
      exact DoPost.some' rfl (below_drewN ((Below.refl _ _).alloc (Nat.le_refl _) _) _) ((h.below (below_drewN ((Below.refl _ _).alloc (Nat.le_refl _) _) _)).setReg (r := r) (by omega) _)
end
end Go.Proofs.YtnnfjjgohhicjaaDoor
namespace Go.Proofs.YtnnfjjgohhicjaaDoor
open Go.RowKit
set_option linter.unusedSimpArgs false
set_option linter.unusedVariables false
set_option maxRecDepth 100000

theorem step_append_row {P : Program} {ops : Array Oper} {o : Oper} {a : Act} {K : Act → World → Prop} {Q : Exit → Act → World → Prop} {E : Prop} {w : World} {α : Type} (d : Kd α) (hgd : o.guard = none) (s x : Operand) (t : TypeId)
    (ho : o.op = .call { callee := .builtin .append, args := #[s, x], argTypes := #[t, t] })
    (e : TypeId) (i : TypeInfo) (z : Value) (bytes : Nat) (ht : P.underlying t = some (.slice e)) (hi : P.info? e = some i) (hz : i.zero = some z)
    (hsize : i.size = d.sz) (hby : i.bytes = bytes) (hzs : z.cells.size = d.sz) (hsz : 0 < d.sz)
    (v : Value) (xs : List α) (fp : List Nat) (hs : a.eval s = v) (hrow : Row e d w v xs fp)
    (ad : Addr) (c : Nat) (news : List Value) (y : α) (f : List Nat) (hx : a.eval x = .slice (some ad) 1 c) (hO : d.O w y news f) (hf : ∀ b ∈ f, b ∉ fp) (hnews : ∀ (j : Nat) u, news[j]? = some u → w.cell? (ad.add j) = some u)
    (h63 : xs.length + 1 ≤ maxLen) (hbytes : (xs.length + 1) * bytes ≤ 140737488355328)
    (h : ∀ g cap w' fp', Row e d w' (.slice (some ⟨g, 0, none⟩) (xs.length + 1) cap) (xs ++ [y]) fp' → (∀ b ∈ fp', b ∈ fp ∨ b ∈ f ∨ b = w.heap.size) → Chg (fun k => k ∈ fp) w w' → K (a.put o.dst (.slice (some ⟨g, 0, none⟩) (xs.length + 1) cap)) w') : if Region.wanted o (yielded ops a.tmps) = true then Oper.wp P o a w K Q else E := by
  obtain ⟨css, fps, how, ha, rfl, hn⟩ := hrow
  refine step_append_lies w hgd s x t ho 0 e i z d.sz bytes ht hi hz hsize hby hzs hsz v xs.length css.flatten hs how ad 1 c news hx (by rw [Nat.one_mul]; exact d.len (d.read hO)) hnews (d.one (d.read hO)) (by omega) h63 hbytes (Nat.zero_le _) w.heap.size rfl ?_
  intro g cap w' h2 h3 h4 _
  have hc := Chg.of_grown h3
  refine h g cap w' _ (Row.snoc how ha hn hO hf h2 hc h4) ?_ (hc.mono fun k _ hk => by simp [hk])
  intro b hb
  rcases List.mem_cons.1 hb with rfl | hb
  · rcases h4 with h4 | h4
    · exact .inl (by simp [h4])
    · exact .inr (.inr h4)
  · rcases List.mem_append.1 hb with hb | hb
    · exact .inl (List.mem_append_right _ hb)
    · exact .inr (.inl hb)
theorem St.app {W0 : World} {X : List Nat} {B : Nat} {T : TypeId} {ex : List Value} {A : Option Addr} {ca D cD G cG : Nat} {s : Wd} {w Wb w3 : World} {At : Option Addr} {ct : Nat} {ft : List Nat}
    (h1 : Bk B T (wl (.slice A s.args.length ca) (.slice (some ⟨G, 0, none⟩) 32 cG) (.slice At s.trace.length ct) (.slice (some ⟨D, 0, none⟩) s.cells.length cD) s ex) w) (h2 : Rws W0.heap.size X D cD G cG (.slice At s.trace.length ct) s w) (h3 : W0.heap.size ≤ B) (h4 : Below W0.heap.size W0 w) (h5 : B ∈ X) (h6 : ∀ x ∈ X, x < w.heap.size)
    (hfo : ∀ b ∈ ft, W0.heap.size ≤ b ∧ b ≠ D ∧ b ≠ G ∧ b ∉ X) (hb : Below w.heap.size w Wb) (hC : Chg (fun k => k ∈ ft) Wb w3) {x : Int} {g cap : Nat} {fp3 : List Nat} (hr3 : Row 2 kI64 w3 (.slice (some ⟨g, 0, none⟩) (s.trace.length + 1) cap) (s.trace ++ [x]) fp3)
    (hf3 : ∀ b ∈ fp3, b ∈ ft ∨ Wb.heap.size ≤ b) : St W0 X B T ex A ca D cD G cG { s with trace := s.trace ++ [x] } (w3.setCell ⟨B, 2, none⟩ (.slice (some ⟨g, 0, none⟩) (s.trace.length + 1) cap)) ∧ Chg (Tn X B) Wb (w3.setCell ⟨B, 2, none⟩ (.slice (some ⟨g, 0, none⟩) (s.trace.length + 1) cap)) := by
  have hs4 := h4.size
  have hsb := hb.size
  have hBl := h1.lt
  have nB : ¬ B ∈ ft := fun hm => (hfo B hm).2.2.2 h5
  have k1 := (h2.below hb).app (by omega) (fun x hx => by have := h6 x hx; omega) hfo hC hr3 hf3
  obtain ⟨k2, k3⟩ := ((h1.below hb).chg hC nB).set 2 (.slice (some ⟨g, 0, none⟩) (s.trace.length + 1) cap)
  refine ⟨⟨some ⟨g, 0, none⟩, cap, ?_, ?_, h3, ?_, h5, fun x hx => Nat.lt_of_lt_of_le (Nat.lt_of_lt_of_le (h6 x hx) hsb) (Nat.le_trans hC.size k3.size)⟩, (hC.mono fun k _ hm => .inr (hfo k hm).2.2.2).trans (k3.mono fun k _ e => .inl e)⟩
  · rw [List.length_append]; exact k2
  · rw [List.length_append]; exact k1.chg (k3.mono fun k _ e => e ▸ h5)
  · exact (h4.trans (hb.mono hs4)).trans ((hC.below (by omega) fun b hm => (hfo b hm).1).trans (k3.below (by have := hC.size; omega) fun k e => by subst e; exact h3))
section
variable (W0 : World) (X : List Nat) (B : Nat) (T : TypeId) (ex : List Value) (A : Option Addr) (ca D cD G cG : Nat) (s : Wd) (w : World)
set_option maxHeartbeats 4000000 in
theorem do_out (a : Int) (h : St W0 X B T ex A ca D cD G cG s w) (ha : 0 ≤ a ∧ a < s.cells.length) (hl : s.trace.length ≤ 1048576) :
    Calls Tryd.prog 99 #[.pointer (some ⟨B, 0, none⟩), (Node.out a).v] w (DoPost W0 X B T ex A ca D cD G cG s w (doP (.out a) s)) := by
  obtain ⟨At, ct, h1, h2, h3, h4, h5, h6⟩ := id h
  obtain ⟨i0, hi, hz0, hz1, hz2⟩ := info_parts info_i64
  obtain ⟨r, rfl⟩ : ∃ r : Nat, a = r := ⟨a.toNat, by omega⟩
  obtain ⟨d1, d2⟩ := ha
  have c2 := h1.cell 2 (v := .slice At s.trace.length ct) rfl
  have c5 := h1.cell 5 (v := .slice (some ⟨D, 0, none⟩) s.cells.length cD) rfl
  have f2 := h1.frozen 2
  have zB := h1.lt
  obtain ⟨q1, -⟩ := h2.reg (r := r) (by omega)
  have zD := h2.lt.1
  rw [Int.toNat_natCast] at q1
  obtain ⟨ft, hft, hfo⟩ := h2.tr
  have HR := Lib.hid hft
  have HF := Lib.hid hfo
  have HFIN := Lib.hid (fun (Wb w3 : World) (hb : Below w.heap.size w Wb) (hC : Chg (fun k => k ∈ ft) Wb w3) (g cap : Nat) (fp3 : List Nat) (hr3 : Row 2 kI64 w3 (.slice (some ⟨g, 0, none⟩) (s.trace.length + 1) cap) (s.trace ++ [getI s.cells r]) fp3) (hf3 : ∀ b ∈ fp3, b ∈ ft ∨ Wb.heap.size ≤ b) => St.app h1 h2 h3 h4 h5 h6 hfo hb hC hr3 hf3)
  have t0 := asY 186 (by simp)
  have t1 := as1 186 (by simp)
  have t2 := as2 186 (by simp)
  have t3 := as3 186 (by simp)
  obtain ⟨W1, hW1⟩ : ∃ W1, w.alloc (.cells #[.int .i64 r] 186) = W1 := ⟨_, rfl⟩
  have KS := Lib.hid (fun w' (hc : Chg (fun k => k ∈ ft) W1 w') => show w'.cell? ⟨B, 2, none⟩ = some (.slice At s.trace.length ct) ∧ w'.cell? ⟨B, 5, none⟩ = some (.slice (some ⟨D, 0, none⟩) s.cells.length cD) ∧ w'.cell? ⟨D, r, none⟩ = some (.int .i64 (getI s.cells r)) ∧ w'.cell? ⟨w.heap.size, 0, none⟩ = some (.int .i64 r) ∧ w'.frozen? ⟨B, 2, none⟩ = false by
    subst hW1
    have hb : Below w.heap.size w (w.alloc (.cells #[.int .i64 r] 186)) := (Below.refl _ _).alloc (Nat.le_refl _) _
    have nB : ¬ B ∈ ft := fun hm => (hfo B hm).2.2.2 h5
    have nD : ¬ D ∈ ft := fun hm => (hfo D hm).2.1 rfl
    have nN : ¬ w.heap.size ∈ ft := fun hm => Nat.lt_irrefl _ (hft.lt _ hm)
    exact ⟨(hc.cell (p := ⟨B, 2, none⟩) (by simp; omega) nB).trans ((hb.cell zB).trans c2), (hc.cell (p := ⟨B, 5, none⟩) (by simp; omega) nB).trans ((hb.cell zB).trans c5), (hc.cell (p := ⟨D, r, none⟩) (by simp; omega) nD).trans ((hb.cell zD).trans q1), (hc.cell (p := ⟨w.heap.size, 0, none⟩) (by simp) nN).trans (by simp), (frozen_of_block (hc.block B (by simp; omega) nB) 2).trans ((hb.frozen (p := ⟨B, 2, none⟩) zB).trans f2)⟩)
  simp only [Node.v]
  clear h1 h2 h4 hft hfo h5 h6
  go_enter Tryd.func99, Tryd.ntmps99
  go_wp2
  have HW1 := Lib.hid hW1
  clear hW1
  obtain ⟨k2, k5, kD, kN, kf⟩ := KS.out W1 (Chg.refl _ _)
  obtain ⟨zB1, zD1, zN1⟩ : B < W1.heap.size ∧ D < W1.heap.size ∧ w.heap.size < W1.heap.size := by rw [← HW1.out]; simp; omega
  have HB1 := Lib.hid (show Below w.heap.size w W1 by rw [← HW1.out]; exact (Below.refl _ _).alloc (Nat.le_refl _) _)
  have KS' := Lib.hid (fun w' (hc : Chg (fun k => k ∈ ft) W1 w') => (KS.out w' hc).2.2.2.2)
  go_region_law
    (first
      | (refine step_append_row kI64 rfl _ _ 49 rfl 2 i0 _ 8 Tryd.underlying49 hi hz0 hz1 hz2 rfl (by decide) _ s.trace ft rfl (HR.out.chg (S := fun _ => False) (Chg.drew (Chg.alloc (chg_of (HB1.out)) _)) (by simp)) _ _ [.int .i64 (getI s.cells r)] (getI s.cells r) [] rfl ⟨rfl, rfl⟩ (by simp) (box_news (by simp)) (by simp [maxLen]; omega) (by omega) ?_; intro g cap w3 fp3 hr3 hf3 hC3; have HC3 : Chg (fun k => k ∈ ft) W1 w3 := Chg.trans (by (repeat (first | (with_reducible first | exact Chg.refl _ _ | assumption) | (with_reducible refine Chg.drew ?_) | ((with_reducible refine Chg.setCell ?_ ?hs _); (case hs => first | (simp; done) | (simp; omega) | omega)) | (with_reducible refine Chg.alloc ?_ _)))) hC3; obtain ⟨y2, y5, yD, yN, yf⟩ := KS.out w3 HC3))
  all_goals
    go_wp2
    go_ret
    exact DoPost.some' rfl (HB1.out.trans ((((Below.refl _ W1).alloc (by omega) _).drew))) (HFIN.out _ _ (HB1.out.trans ((((Below.refl _ W1).alloc (by omega) _).drew))) hC3 _ _ _ hr3 (fun b hb => by rcases hf3 b hb with h | h | h; exact .inl h; simp at h; exact .inr (by rw [h]; exact Nat.le_refl _)))
end
end Go.Proofs.YtnnfjjgohhicjaaDoor
namespace Go.Proofs.YtnnfjjgohhicjaaDoor
open Go.RowKit
set_option linter.unusedSimpArgs false
set_option linter.unusedVariables false
set_option maxRecDepth 100000

theorem fld_t {u : Bool} {x n : Int} (h : Fld u x n) (hu : u = true) : 0 ≤ x ∧ x < n := by
  rcases h with ⟨_, h1, h2⟩ | ⟨h1, _⟩
  · exact ⟨h1, h2⟩
  · rw [hu] at h1; cases h1
section
variable (W0 : World) (X : List Nat) (B : Nat) (T : TypeId) (ex : List Value) (A : Option Addr) (ca D cD G cG : Nat) (s : Wd) (w : World)
theorem do_any (x : Instr) (n : Int) (h : St W0 X B T ex A ca D cD G cG s w) (hg : GoodInstr x n 13) (hn : (s.cells.length : Int) = n) (hl : s.trace.length ≤ 1048576) :
    Calls Tryd.prog 99 #[.pointer (some ⟨B, 0, none⟩), (nodeP s.args x).v] w (DoPost W0 X B T ex A ca D cD G cG s w (exec x s)) := by
  obtain ⟨g1, g2, g3, g4, g5, g6⟩ := hg
  rw [← doP_exec x s g1 g2]
  obtain ⟨op, dst, a, b, imm⟩ := x
  dsimp only at *
  subst hn
  rcases (by omega : op = 1 ∨ op = 2 ∨ op = 8 ∨ op = 9 ∨ op = 10 ∨ op = 11 ∨ op = 12 ∨ op = 13 ∨ op = 3 ∨ op = 4 ∨ op = 5 ∨ op = 6 ∨ op = 7) with rfl | rfl | rfl | rfl | rfl | rfl | rfl | rfl | rfl | rfl | rfl | rfl | rfl
  · exact do_cst W0 X B T ex A ca D cD G cG s w _ _ h (fld_t g3 (by decide))
  · exact do_cst W0 X B T ex A ca D cD G cG s w _ _ h (fld_t g3 (by decide))
  · exact do_ld W0 X B T ex A ca D cD G cG s w _ _ _ h (fld_t g3 (by decide)) (fld_t g4 (by decide))
  · exact do_st W0 X B T ex A ca D cD G cG s w _ _ _ h (fld_t g4 (by decide)) (fld_t g5 (by decide))
  · exact do_out W0 X B T ex A ca D cD G cG s w _ h (fld_t g4 (by decide)) hl
  · exact do_mov W0 X B T ex A ca D cD G cG s w _ _ h (fld_t g3 (by decide)) (fld_t g4 (by decide))
  · exact do_put W0 X B T ex A ca D cD G cG s w _ _ h (fld_t g4 (by decide))
  · exact do_get W0 X B T ex A ca D cD G cG s w _ _ h (fld_t g3 (by decide))
  all_goals exact do_ari W0 X B T ex A ca D cD G cG s w _ _ _ _ h ⟨by dsimp only; omega, by dsimp only; omega⟩ (fld_t g3 (by decide)) (fld_t g4 (by decide)) (fld_t g5 (by decide))
end
/-- What stays as it was in a run, and its bounds. -/
structure Ok (s0 s : Wd) : Prop where
  args : s.args = s0.args
  fuel : s.fuel = s0.fuel
  cells : s.cells.length = s0.cells.length
  lo : s0.steps ≤ s.steps
  pos : 0 ≤ s0.steps
  hi : s.steps ≤ s.fuel
  max : s.fuel ≤ 60000
  tr : (s.trace.length : Int) ≤ s.steps
  nargs : s.args.length ≤ 8
theorem Ok.go {s0 s s' : Wd} {x : Instr} (h : Ok s0 s) (hl : s.steps < s.fuel) (he : exec x (step s) = some s') : Ok s0 s' := by
  obtain ⟨e1, e2, e3, e4, e5, e6⟩ := exec_same he
  obtain ⟨h1, h2, h3, h4, h5, h6, h7, h8, h9⟩ := h
  simp only [step] at *
  exact ⟨by rw [e1, h1], by rw [e2, h2], by rw [e4, h3], by omega, h5, by omega, by omega, by omega, by rw [e1]; exact h9⟩
theorem Ok.step {s0 s : Wd} (h : Ok s0 s) (hl : s.steps < s.fuel) : Ok s0 (step s) := by
  obtain ⟨h1, h2, h3, h4, h5, h6, h7, h8, h9⟩ := h
  exact ⟨h1, h2, h3, by simp only [Go.Proofs.YtnnfjjgohhicjaaDoor.step]; omega, h5, by simp only [Go.Proofs.YtnnfjjgohhicjaaDoor.step]; omega, h7, by simp only [Go.Proofs.YtnnfjjgohhicjaaDoor.step]; omega, h9⟩
section
variable {Bf : Int → List Instr × Term} {E : Int → Int → Wd → Wd} {b : Int} {j : Nat} {s s' : Wd}
abbrev lft (s : Wd) : Nat := (s.fuel - s.steps).toNat
theorem runS_no (h : s.steps = s.fuel) : runS Bf E (lft s) b j s = fin 3 0 s := by rw [show lft s = 0 by unfold lft; omega]; rfl
theorem runS_trap {x : Instr} (h : s.steps < s.fuel) (hx : (Bf b).1[j]? = some x) (he : exec x (step s) = none) : runS Bf E (lft s) b j s = fin 2 0 (step s) := by
  rw [show lft s = (s.fuel - s.steps - 1).toNat + 1 by unfold lft; omega, runS, hx]; simp only [he]
theorem runS_go {x : Instr} (h : s.steps < s.fuel) (hx : (Bf b).1[j]? = some x) (he : exec x (step s) = some s') : runS Bf E (lft s) b j s = runS Bf E (lft s') b (j + 1) s' := by
  obtain ⟨e1, e2, e3, e4, e5, e6⟩ := exec_same he
  simp only [step] at e2 e3
  rw [show lft s = (s.fuel - s.steps - 1).toNat + 1 by unfold lft; omega, runS, hx, show lft s' = (s.fuel - s.steps - 1).toNat by unfold lft; rw [e2, e3]; omega]; simp only [he]
theorem runS_ret (h : s.steps < s.fuel) (hx : (Bf b).1[j]? = none) (hk : (Bf b).2.kind = 3) : runS Bf E (lft s) b j s = fin 1 (getI s.cells (Bf b).2.a) (step s) := by
  rw [show lft s = (s.fuel - s.steps - 1).toNat + 1 by unfold lft; omega, runS, hx]; simp only [hk, if_true]
theorem runS_next (h : s.steps < s.fuel) (hx : (Bf b).1[j]? = none) (hk : (Bf b).2.kind ≠ 3) : runS Bf E (lft s) b j s = runS Bf E (lft (step s)) (nextB (Bf b).2 s) 0 (E b (nextB (Bf b).2 s) (step s)) := by
  rw [show lft s = (s.fuel - s.steps - 1).toNat + 1 by unfold lft; omega, runS, hx, show lft (step s) = (s.fuel - s.steps - 1).toNat by unfold lft; simp only [step]; omega]; simp only [hk, if_false]
end
/-- The rows that an outcome leads to. -/
def OutRows (W0 : World) (R : Outc) (vh vt : Value) (w : World) : Prop := ∃ fh ft, Row 2 kI64 w vh R.heap fh ∧ Row 2 kI64 w vt R.trace ft ∧ (∀ b ∈ fh, W0.heap.size ≤ b) ∧ (∀ b ∈ ft, W0.heap.size ≤ b ∧ b ∉ fh)
def wolR (R : Outc) (vh vt : Value) : List Value := [.int .i64 R.code, .int .i64 R.value, .int .i64 R.steps, vt, vh]
theorem St.out {W0 : World} {X : List Nat} {D cD G cG : Nat} {s : Wd} {w : World} {vt : Value} (code value : Int) (h : Rws W0.heap.size X D cD G cG vt s w) :
    OutRows W0 (fin code value s) (.slice (some ⟨G, 0, none⟩) 32 cG) vt w := by
  obtain ⟨h1, h2, h3, h4, h5, h6, h7, h8, ft, h9, h10⟩ := h
  exact ⟨[G], ft, h2, h9, by simpa using h6, fun b hb => ⟨(h10 b hb).1, by simpa using (h10 b hb).2.2.1⟩⟩
theorem OutRows.below {W0 : World} {R : Outc} {vh vt : Value} {w w' : World} (h : OutRows W0 R vh vt w) (hb : Below w.heap.size w w') : OutRows W0 R vh vt w' := by
  obtain ⟨fh, ft, h1, h2, h3⟩ := h
  exact ⟨fh, ft, h1.chg (chg_of hb) (by simp), h2.chg (chg_of hb) (by simp), h3⟩
def BlkPost (W0 : World) (X : List Nat) (B : Nat) (T : TypeId) (ex : List Value) (A : Option Addr) (ca D cD G cG : Nat) (Bf : Int → List Instr × Term) (E : Int → Int → Wd → Wd) (b : Int) (s0 : Wd) (R : Outc) (e : Ending) (w' : World) : Prop :=
  (∃ next s', e = .returned (.tuple #[.int .i64 next, .pointer none]) ∧ St W0 X B T ex A ca D cD G cG s' w' ∧ Ok s0 s' ∧ s0.steps < s'.steps ∧ R = runS Bf E (lft s') next 0 (E b next s') ∧ next ∈ targets (Bf b).2) ∨
  (∃ o vh vt, e = .returned (.tuple #[.int .i64 0, .pointer (some ⟨o, 0, none⟩)]) ∧ Bk o 51 (wolR R vh vt) w' ∧ OutRows W0 R vh vt w' ∧ Below W0.heap.size W0 w' ∧ W0.heap.size ≤ o)
end Go.Proofs.YtnnfjjgohhicjaaDoor
