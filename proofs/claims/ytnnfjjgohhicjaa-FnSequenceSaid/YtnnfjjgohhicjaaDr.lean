/- Contract: spec.DrawSequence. -/
import Derived.Test.YtnnfjjgohhicjaaDs
import Derived.Test.YtnnfjjgohhicjaaDq
import Derived.Deep.DeepCutAuto
import Derived.Deep.CutBlock
namespace Go.Proofs.Ytnnfjjgohhicjaa
open Go.RowKit
set_option linter.unusedSimpArgs false
set_option linter.unusedVariables false
set_option maxRecDepth 100000

/-- Where the drawing stands: the source, the call's own memory. -/
def At1 (S : Nat) (Ac : Option Addr) (cc : Nat) (w w1 : World) (s : Src) (wr : World) : Prop := SrcB S s Ac cc wr ∧ s.ok ∧ Below w.heap.size w wr ∧ w1.heap.size ≤ wr.heap.size
theorem At1.next {S : Nat} {Ac : Option Addr} {cc : Nat} {w w1 wr w2 : World} {s : Src} (h : At1 S Ac cc w w1 s wr) (hS : w.heap.size ≤ S) {n : Int} (h2 : SrcB S (nextS s n) Ac cc w2) (hc : Chg (fun q => q = S) wr w2) : At1 S Ac cc w w1 (nextS s n) w2 :=
  ⟨h2, nextS_ok h.2.1 n, h.2.2.1.trans (hc.below h.2.2.1.size fun q hq => by omega), Nat.le_trans h.2.2.2 hc.size⟩
theorem At1.up {Q : Nat → Prop} {S : Nat} {Ac : Option Addr} {cc : Nat} {w w1 wr w2 : World} {s : Src} (h : At1 S Ac cc w w1 s wr) (hl : SrcLow S Ac w1.heap.size) (hN : w.heap.size ≤ w1.heap.size) (hc : Chg Q wr w2) (hQ : ∀ q, Q q → w1.heap.size ≤ q) : At1 S Ac cc w w1 s w2 :=
  ⟨h.1.up hl hc hQ, h.2.1, h.2.2.1.trans (hc.below h.2.2.1.size fun q hq => Nat.le_trans hN (hQ q hq)), Nat.le_trans h.2.2.2 hc.size⟩
def NextPost (S : Nat) (Ac : Option Addr) (cc : Nat) (w w1 : World) (s : Src) (n : Int) (wr : World) (e : Ending) (w2 : World) : Prop := e = .returned (.int .i64 (nextV s n)) ∧ At1 S Ac cc w w1 (nextS s n) w2 ∧ Chg (fun q => q = S) wr w2
theorem At1.call {S : Nat} {Ac : Option Addr} {cc : Nat} {w w1 wr : World} {s : Src} (h : At1 S Ac cc w w1 s wr) (hS : w.heap.size ≤ S) (n : Int) (hn : n ≤ 1000000) :
    Calls Try.prog 24 #[.pointer (some ⟨S, 0, none⟩), .int .i64 n] wr (NextPost S Ac cc w w1 s n wr) :=
  (next_c S s Ac cc n wr h.1 h.2.1 hn).mono fun _ _ ⟨h1, h2, h3⟩ => ⟨h1, h.next hS h2 h3, h3⟩
/-- Two elements of a row of integers change their places. -/
theorem swap_ints {g k cv : Nat} {l : List Int} {fp : List Nat} {w : World} (h : Row 2 (kInt .i64) w (.slice (some ⟨g, 0, none⟩) k cv) l fp) (hl : l.length = k) {i j : Nat} (hi : i < k) (hj : j < k) :
    ∃ x y, w.cell? ⟨g, i, none⟩ = some (.int .i64 x) ∧ w.cell? ⟨g, j, none⟩ = some (.int .i64 y) ∧ (∀ o, w.frozen? ⟨g, o, none⟩ = false) ∧ g < w.heap.size ∧ g ∈ fp ∧ (w.setCell ⟨g, i, none⟩ (.int .i64 y)).cell? ⟨g, j, none⟩ = some (.int .i64 y) ∧
      ∃ fp', Row 2 (kInt .i64) ((w.setCell ⟨g, i, none⟩ (.int .i64 y)).setCell ⟨g, j, none⟩ (.int .i64 x)) (.slice (some ⟨g, 0, none⟩) k cv) (swapL l i j) fp' ∧ (∀ b ∈ fp', b ∈ fp) ∧ Chg (fun q => q = g) w ((w.setCell ⟨g, i, none⟩ (.int .i64 y)).setCell ⟨g, j, none⟩ (.int .i64 x)) := by
  obtain ⟨x, hx⟩ := get_of_lt (xs := l) (k := i) (by omega)
  obtain ⟨y, hy⟩ := get_of_lt (xs := l) (k := j) (by omega)
  obtain ⟨_, rfl, hcx, hfz⟩ := h.cellsAt hl hx
  obtain ⟨_, rfl, hcy, _⟩ := h.cellsAt hl hy
  have v0 := ha1 hcx
  have v1 := ha1 hcy
  rw [show i * (kInt .i64).sz = i from Nat.mul_one i] at v0
  rw [show j * (kInt .i64).sz = j from Nat.mul_one j] at v1
  have hg : g ∈ fp := by
    rcases h.form' with ⟨h1, _⟩ | ⟨g', _, h1, h2, _⟩
    · injection h1 with h1; cases h1
    · injection h1 with h1; injection h1 with h1; injection h1 with h1; subst h1; exact h2
  obtain ⟨f1, hr1, hf1, hc1⟩ := h.set hl hi (y := y) (cs := [.int .i64 y]) (f := []) ⟨rfl, rfl⟩ (by simp)
  obtain ⟨_, rfl, hcz, _⟩ := hr1.cellsAt (by rw [List.length_set]; exact hl) (i := j) (x := y) (by
    rw [List.getElem?_set]
    by_cases e : i = j
    · rw [if_pos e, if_pos (by omega)]
    · rw [if_neg e]; exact hy)
  have v2 := ha1 hcz
  rw [show i * (kInt .i64).sz = i from Nat.mul_one i, show j * (kInt .i64).sz = j from Nat.mul_one j, setCells1] at v2
  obtain ⟨f2, hr2, hf2, hc2⟩ := hr1.set (by rw [List.length_set]; exact hl) hj (y := x) (cs := [.int .i64 x]) (f := []) ⟨rfl, rfl⟩ (by simp)
  rw [show i * (kInt .i64).sz = i from Nat.mul_one i, show j * (kInt .i64).sz = j from Nat.mul_one j, setCells1, setCells1] at hr2 hc2
  rw [show i * (kInt .i64).sz = i from Nat.mul_one i, setCells1] at hc1
  refine ⟨x, y, v0, v1, hfz, h.lt g hg, hg, v2, f2, by rw [swapL_of hx hy]; exact hr2, fun b hb => ?_, hc1.trans hc2⟩
  rcases hf2 b hb with h1 | h1
  · rcases hf1 b h1 with h2 | h2
    · exact h2
    · simp at h2
  · simp at h1
theorem cell_over {w : World} {b o p : Nat} {u v : Value} (h0 : w.cell? ⟨b, o, none⟩ = some v) (h1 : w.cell? ⟨b, p, none⟩ = some u) : (w.setCell ⟨b, o, none⟩ u).cell? ⟨b, p, none⟩ = some u := by
  by_cases e : o = p
  · subst e; exact World.cell?_setCell_same' _ _ _ (by rw [h0]; rfl)
  · rw [World.cell?_setCell_other _ _ _ _ (by intro h; injection h with _ h; exact e h), h1]
theorem cell_past {w : World} {b o p : Nat} {v : Value} (h : o ≠ p) : (w.setCell ⟨b, o, none⟩ v).cell? ⟨b, p, none⟩ = w.cell? ⟨b, p, none⟩ :=
  World.cell?_setCell_other _ _ _ _ (by intro e; injection e with _ e; exact h e)
theorem setCell_self {w : World} {b o : Nat} {v : Value} (h : w.cell? ⟨b, o, none⟩ = some v) : w.setCell ⟨b, o, none⟩ v = w := by
  have hh : (w.setCell ⟨b, o, none⟩ v).heap = w.heap := by
    unfold World.setCell
    apply Array.ext_getElem?
    intro i
    rw [Array.getElem?_modify]
    split
    · rename_i e
      simp only at e
      subst e
      unfold World.cell? at h
      simp only at h
      split at h
      · rename_i c _ _ hc
        rw [hc]
        simp at h
        simp
        apply Array.ext_getElem?
        intro j
        rw [Array.getElem?_setIfInBounds]
        split
        · rename_i e; subst e; rw [h]; simp; exact (Array.getElem?_eq_some_iff.1 h).1
        · rfl
      · cases h
    · rfl
  have h2 : w.setCell ⟨b, o, none⟩ v = { w with heap := (w.setCell ⟨b, o, none⟩ v).heap } := rfl
  rw [h2, hh]
theorem modify_of {α : Type} {l : List α} {m : Nat} {x : α} (hx : l[m]? = some x) (f : α → α) : l.modify m f = l.set m (f x) := by
  apply List.ext_getElem?
  intro i
  rw [List.getElem?_modify, List.getElem?_set]
  obtain ⟨hm, hx2⟩ := List.getElem?_eq_some_iff.1 hx
  by_cases e : m = i
  · subst e; simp [hm, hx2]
  · simp [e]
theorem move_field {g k cv : Nat} {l : List Move} {fp : List Nat} {w : World} (h : Row 39 kMove w (.slice (some ⟨g, 0, none⟩) k cv) l fp) (hl : l.length = k) {m : Nat} {x : Move} (hx : l[m]? = some x) (v : Int) :
    (w.cell? ⟨g, m * 2, none⟩ = some (.int .i64 x.to) ∧ w.cell? ⟨g, m * 2 + 1, none⟩ = some (.int .i64 x.src)) ∧ g < w.heap.size ∧ g ∈ fp ∧ (∀ o, w.frozen? ⟨g, o, none⟩ = false) ∧
      (∃ fp', Row 39 kMove (w.setCell ⟨g, m * 2, none⟩ (.int .i64 v)) (.slice (some ⟨g, 0, none⟩) k cv) (l.modify m fun x => ⟨v, x.src⟩) fp' ∧ (∀ b ∈ fp', b ∈ fp) ∧ Chg (fun q => q = g) w (w.setCell ⟨g, m * 2, none⟩ (.int .i64 v))) ∧
      (∃ fp', Row 39 kMove (w.setCell ⟨g, m * 2 + 1, none⟩ (.int .i64 v)) (.slice (some ⟨g, 0, none⟩) k cv) (l.modify m fun x => ⟨x.to, v⟩) fp' ∧ (∀ b ∈ fp', b ∈ fp) ∧ Chg (fun q => q = g) w (w.setCell ⟨g, m * 2 + 1, none⟩ (.int .i64 v))) := by
  obtain ⟨_, rfl, hcx, hfz⟩ := h.cellsAt hl hx
  have v0 := ha2 hcx
  rw [show m * kMove.sz = m * 2 from rfl] at v0
  have hm := (List.getElem?_eq_some_iff.1 hx).1
  have hg : g ∈ fp := by
    rcases h.form' with ⟨h1, _⟩ | ⟨g', _, h1, h2, _⟩
    · injection h1 with h1; cases h1
    · injection h1 with h1; injection h1 with h1; injection h1 with h1; subst h1; exact h2
  refine ⟨v0, h.lt g hg, hg, hfz, ?_, ?_⟩
  · obtain ⟨f1, hr1, hf1, hc1⟩ := h.set hl (i := m) (by omega) (y := ⟨v, x.src⟩) (cs := [.int .i64 v, .int .i64 x.src]) (f := []) ⟨rfl, rfl⟩ (by simp)
    rw [show m * kMove.sz = m * 2 from rfl, setCells2, setCell_self (w := w.setCell ⟨g, m * 2, none⟩ (.int .i64 v)) (by rw [cell_past (by omega)]; exact v0.2)] at hr1 hc1
    exact ⟨f1, by rw [modify_of hx]; exact hr1, fun b hb => by have := hf1 b hb; simpa using this, hc1⟩
  · obtain ⟨f1, hr1, hf1, hc1⟩ := h.set hl (i := m) (by omega) (y := ⟨x.to, v⟩) (cs := [.int .i64 x.to, .int .i64 v]) (f := []) ⟨rfl, rfl⟩ (by simp)
    rw [show m * kMove.sz = m * 2 from rfl, setCells2, setCell_self v0.1] at hr1 hc1
    exact ⟨f1, by rw [modify_of hx]; exact hr1, fun b hb => by have := hf1 b hb; simpa using this, hc1⟩
/-- The world when two elements have changed their places. -/
abbrev swapW (w : World) (g i j : Nat) (x y : Move) : World := (((((w.setCell ⟨g, i * 2, none⟩ (.int .i64 y.to)).setCell ⟨g, i * 2 + 1, none⟩ (.int .i64 y.src)).setCell ⟨g, j * 2, none⟩ (.int .i64 x.to)).setCell ⟨g, j * 2 + 1, none⟩ (.int .i64 x.src)).alloc (.cells #[.int .i64 x.to, .int .i64 x.src] 39))
theorem swap_moves {g k cv : Nat} {l : List Move} {fp : List Nat} {w : World} (h : Row 39 kMove w (.slice (some ⟨g, 0, none⟩) k cv) l fp) (hl : l.length = k) {i j : Nat} (hi : i < k) (hj : j < k) :
    ∃ x y : Move, (w.cell? ⟨g, i * 2, none⟩ = some (.int .i64 x.to) ∧ w.cell? ⟨g, i * 2 + 1, none⟩ = some (.int .i64 x.src)) ∧ (w.cell? ⟨g, j * 2, none⟩ = some (.int .i64 y.to) ∧ w.cell? ⟨g, j * 2 + 1, none⟩ = some (.int .i64 y.src)) ∧ g < w.heap.size ∧ g ∈ fp ∧
      (∀ o, w.frozen? ⟨g, o, none⟩ = false) ∧ ((w.setCell ⟨g, i * 2, none⟩ (.int .i64 y.to)).cell? ⟨g, j * 2, none⟩ = some (.int .i64 y.to) ∧ ((w.setCell ⟨g, i * 2, none⟩ (.int .i64 y.to)).setCell ⟨g, i * 2 + 1, none⟩ (.int .i64 y.src)).cell? ⟨g, j * 2 + 1, none⟩ = some (.int .i64 y.src)) ∧
      ∃ fp', Row 39 kMove (swapW w g i j x y) (.slice (some ⟨g, 0, none⟩) k cv) (swapL l i j) fp' ∧ (∀ b ∈ fp', b ∈ fp) ∧ Chg (fun q => q = g) w (swapW w g i j x y) := by
  obtain ⟨x, hx⟩ := get_of_lt (xs := l) (k := i) (by omega)
  obtain ⟨y, hy⟩ := get_of_lt (xs := l) (k := j) (by omega)
  obtain ⟨_, rfl, hcx, hfz⟩ := h.cellsAt hl hx
  obtain ⟨_, rfl, hcy, _⟩ := h.cellsAt hl hy
  have v0 := ha2 hcx
  have v1 := ha2 hcy
  rw [show i * kMove.sz = i * 2 from rfl] at v0
  rw [show j * kMove.sz = j * 2 from rfl] at v1
  have hg : g ∈ fp := by
    rcases h.form' with ⟨h1, _⟩ | ⟨g', _, h1, h2, _⟩
    · injection h1 with h1; cases h1
    · injection h1 with h1; injection h1 with h1; injection h1 with h1; subst h1; exact h2
  obtain ⟨f1, hr1, hf1, hc1⟩ := h.set hl hi (y := y) (cs := [.int .i64 y.to, .int .i64 y.src]) (f := []) ⟨rfl, rfl⟩ (by simp)
  obtain ⟨f2, hr2, hf2, hc2⟩ := hr1.set (by rw [List.length_set]; exact hl) hj (y := x) (cs := [.int .i64 x.to, .int .i64 x.src]) (f := []) ⟨rfl, rfl⟩ (by simp)
  rw [show i * kMove.sz = i * 2 from rfl, show j * kMove.sz = j * 2 from rfl, setCells2, setCells2] at hr2 hc2
  rw [show i * kMove.sz = i * 2 from rfl, setCells2] at hc1
  have hc3 : Chg (fun _ => False) ((((w.setCell ⟨g, i * 2, none⟩ (.int .i64 y.to)).setCell ⟨g, i * 2 + 1, none⟩ (.int .i64 y.src)).setCell ⟨g, j * 2, none⟩ (.int .i64 x.to)).setCell ⟨g, j * 2 + 1, none⟩ (.int .i64 x.src)) (swapW w g i j x y) := by (repeat (first | (with_reducible first | exact Chg.refl _ _ | assumption) | (with_reducible refine Chg.drew ?_) | ((with_reducible refine Chg.setCell ?_ ?hs _); (case hs => first | (simp; done) | (simp; omega) | omega)) | (with_reducible refine Chg.alloc ?_ _)))
  refine ⟨x, y, v0, v1, h.lt g hg, hg, hfz, ⟨cell_over v0.1 v1.1, cell_over (v := .int .i64 x.src) (by rw [cell_past (by omega)]; exact v0.2) (by rw [cell_past (by omega)]; exact v1.2)⟩, f2, by rw [swapL_of hx hy]; exact hr2.chg hc3 (by simp), fun b hb => ?_, (hc1.trans hc2).trans (hc3.mono fun _ _ h => h.elim)⟩
  rcases hf2 b hb with h1 | h1
  · rcases hf1 b h1 with h2 | h2
    · exact h2
    · simp at h2
  · simp at h1
set_option maxHeartbeats 4000000 in
theorem drawSequence_c (A : Option Addr) (c : Nat) (bytes : List UInt8) (w : World) (hx : C kB w A bytes) (hl : bytes.length ≤ 1048576) :
    Calls Try.prog 15 #[.slice A bytes.length c] w (RetRow 39 kMove w (drawSeq bytes)) := by
  obtain ⟨i0, hi, hz0, hz1, hz2⟩ := info_parts info_i64
  obtain ⟨j0, hj, hjz0, hjz1, hjz2⟩ := info_parts info_move
  have HSO := Lib.hid (source_c A c bytes w hx hl)
  have HDR := Lib.hid (show d2 (nextS (srcOf bytes) (3 + 3 * (srcOf bytes).size)) (1 + nextV (srcOf bytes) (3 + 3 * (srcOf bytes).size)) = drawSeq bytes from rfl)
  obtain ⟨R, hR⟩ : ∃ x, x = drawSeq bytes := ⟨_, rfl⟩
  rw [← hR] at HDR ⊢
  clear hR
  go_enter Try.func15, Try.ntmps15
  go_upto_region 2 with (go_at_call 23; refine HSO.out.mono ?_; rintro e w1 ⟨S, Ac, cc, rfl, hsb, hS, hb⟩)
  have HLOW := Lib.hid hsb.low
  have hsz := (srcOf_ok bytes).size
  have k3 := hsb.box.cell 3 rfl
  have HA := Lib.hid (show At1 S Ac cc w w1 (srcOf bytes) w1 from ⟨hsb, srcOf_ok bytes, hb, Nat.le_refl _⟩)
  have hN1 : w.heap.size ≤ w1.heap.size := hb.size
  obtain ⟨s0, hs0⟩ : ∃ x, x = srcOf bytes := ⟨_, rfl⟩
  rw [← hs0] at HA HDR k3 hsz
  clear hs0 hsb hb HSO
  obtain ⟨zz, hzz⟩ : ∃ x, x = s0.size := ⟨_, rfl⟩
  rw [← hzz] at k3 hsz HDR
  clear hzz
  obtain ⟨hz3, hz4⟩ := hsz
  have hw1 : wrap64 (3 * zz) = 3 * zz := by unfold wrap64; omega
  have hw2 : wrap64 (3 + 3 * zz) = 3 + 3 * zz := by unfold wrap64; omega
  have nv := nextV_rg s0 (3 + 3 * zz)
  have hn0 := nv.1
  have hn1 := nv.2 (by omega)
  have HCA := Lib.hid (HA.out.call hS (3 + 3 * zz) (by omega))
  obtain ⟨s1, hs1⟩ : ∃ x, x = nextS s0 (3 + 3 * zz) := ⟨_, rfl⟩
  obtain ⟨n0, hn⟩ : ∃ x, x = nextV s0 (3 + 3 * zz) := ⟨_, rfl⟩
  clear nv
  unfold NextPost at HCA
  rw [← hn] at hn0 hn1 HDR HCA
  rw [← hs1] at HDR HCA
  have hw3 : wrap64 (1 + n0) = 1 + n0 := by unfold wrap64; omega
  clear hn hs1
  go_upto_region 4 with (go_at_call 24; (with_reducible refine HCA.out.mono ?_); rintro e w2 ⟨rfl, ha2, hc2⟩)
  have HA2 := Lib.hid ha2
  clear ha2 hc2 HCA HA k3
  have hv := (nextV_rg s1 2).1
  have hv8 := nextV_rg (nextS s1 2) 8
  have hv80 := hv8.1
  have hv81 := hv8.2 (by omega)
  clear hv8
  have HCA := Lib.hid (HA2.out.call hS 2 (by omega))
  go_upto_if 34 with (go_at_call 24; (with_reducible refine HCA.out.mono ?_); rintro e w3 ⟨rfl, ha3, hc3⟩)
  have HA3 := Lib.hid ha3
  have HCA3 := Lib.hid (ha3.call hS 8 (by omega))
  clear ha3 hc3 HA2 HCA
  go_cut [5] (fun s5 wc => ∃ (wd : Int) (s : Src), s5 = .int .i64 wd ∧ At1 S Ac cc w w1 s wc ∧ 1 + n0 ≤ wd ∧ wd ≤ 8 + n0 ∧ d3 s (1 + n0) wd = R)
  case first =>
    by_cases h0 : nextV s1 2 = 0
    · have H0 := Lib.hid h0
      have hb0 : (nextV s1 2 == 0) = true := by simp [h0]
      clear h0
      go_wp2_with (go_at_call 24; (with_reducible refine HCA3.out.mono ?_); rintro e w4 ⟨rfl, ha4, hc4⟩; have hw4 : wrap64 (1 + n0 + nextV (nextS s1 2) 8) = 1 + n0 + nextV (nextS s1 2) 8 := by unfold wrap64; omega)
      go_meet
      exact ⟨_, _, rfl, ha4, by omega, by omega, by rw [← HDR.out, d2, if_pos H0.out]⟩
    · have H0 := Lib.hid h0
      have hb0 : (nextV s1 2 == 0) = false := by simp [h0]
      clear h0
      go_wp2
      go_meet
      exact ⟨_, _, rfl, HA3.out, by omega, by omega, by rw [← HDR.out, d2, if_neg H0.out]⟩
  case rest =>
    clear HCA3 HA3 HDR hv hv80 hv81 hw1 hw2
    obtain ⟨wd, s2, rfl, ha4, hwd0, hwd1, hR⟩ := hcut
    have HDR := Lib.hid hR
    have HA4 := Lib.hid ha4
    have HCA := Lib.hid (ha4.call hS 10 (by omega))
    clear ha4 hR
    go_upto_if 41 with (go_at_call 24; (with_reducible refine HCA.out.mono ?_); rintro e w5 ⟨rfl, ha5, hc5⟩)
    have HA5 := Lib.hid ha5
    clear ha5 hc5 HA4 HCA
    go_cut [4, 5] (fun s4 s5 wx => ∃ (n wid : Nat) (s : Src), s4 = .int .i64 n ∧ s5 = .int .i64 wid ∧ At1 S Ac cc w w1 s wx ∧ 1 ≤ n ∧ n ≤ wid ∧ wid ≤ 64 ∧ d4 s n wid = R)
    case first =>
      by_cases h0 : nextV s2 10 = 0
      · have H0 := Lib.hid h0
        have hb0 : (nextV s2 10 == 0) = true := by simp [h0]
        clear h0
        go_wp2
        go_meet
        exact ⟨64, 64, _, rfl, rfl, HA5.out, by omega, by omega, by omega, by rw [← HDR.out, d3, if_pos H0.out]⟩
      · have H0 := Lib.hid h0
        have hb0 : (nextV s2 10 == 0) = false := by simp [h0]
        clear h0
        go_wp2
        go_meet
        exact ⟨(1 + n0).toNat, wd.toNat, _, by rw [Int.toNat_of_nonneg (by omega)], by rw [Int.toNat_of_nonneg (by omega)], HA5.out, by omega, by omega, by omega, by rw [← HDR.out, d3, if_neg H0.out]⟩
    case rest =>
      clear HA5 HDR hn0 hn1 hw3 hz3 hz4 hwd0 hwd1
      obtain ⟨n, wid, s3, rfl, rfl, ha6, hn1, hn2, hn3, hR⟩ := hcut
      have HDR := Lib.hid hR
      have HA := Lib.hid ha6
      have HB0 := Lib.hid ha6.2.2.1
      have hM := ha6.2.2.1.size
      clear ha6 hR
      go_wp2
      have HS0 := Lib.hid (HA.out.up HLOW.out hN1 (w2 := wc.alloc (.cells #[] 2)) (Q := fun _ => False) (by (repeat (first | (with_reducible first | exact Chg.refl _ _ | assumption) | (with_reducible refine Chg.drew ?_) | ((with_reducible refine Chg.setCell ?_ ?hs _); (case hs => first | (simp; done) | (simp; omega) | omega)) | (with_reducible refine Chg.alloc ?_ _)))) fun _ h => h.elim)
      have hW := HA.out.2.2.2
      go_loopw [6, 7] (fun t6 t7 wr => ∃ (k : Nat) (fp : List Nat), k ≤ wid ∧ t7 = .int .i64 k ∧ Row 2 (kInt .i64) wr t6 (iota k) fp ∧ (∀ q ∈ fp, w1.heap.size ≤ q) ∧ At1 S Ac cc w w1 s3 wr) (fun _ t7 _ => wid - (intOf t7).toNat)
      case atStart => exact ⟨0, [wc.heap.size], by omega, rfl, Row.empty0 rfl, fun q hq => by simp at hq; subst hq; exact hW, HS0.out⟩
      case round =>
        clear HS0 HA HB0 hM hW
        obtain ⟨k, fp, hk, rfl, hr, hf, ha⟩ := hrel
        have HR := Lib.hid hr
        have HF := Lib.hid hf
        have HA := Lib.hid ha
        have hW := ha.2.2.2
        obtain ⟨Av, cv, rfl, hvl⟩ := hr.form
        rw [iota_len] at hvl HR
        (try simp only [iota_len])
        have hkl : (iota k).length ≤ 64 := by rw [iota_len]; omega
        clear hr hf ha
        obtain ⟨ys, hys⟩ : ∃ ys, ys = iota k := ⟨_, rfl⟩
        have HL := Lib.hid (show k = ys.length by rw [hys, iota_len])
        rw [← hys] at HR hkl
        have HYS := Lib.hid (show iota (k + 1) = ys ++ [(k : Int)] by rw [iota_snoc, hys])
        have HY := Lib.hid hys
        clear hys
        by_cases hlt : k < wid
        · have HRR := Lib.hid (show Row 2 (kInt .i64) (wr.alloc (.cells #[.int .i64 (k : Int)] 2)) (.slice Av ys.length cv) ys fp by rw [← HL.out]; exact HR.out.chg (S := fun _ => False) (by (repeat (first | (with_reducible first | exact Chg.refl _ _ | assumption) | (with_reducible refine Chg.drew ?_) | ((with_reducible refine Chg.setCell ?_ ?hs _); (case hs => first | (simp; done) | (simp; omega) | omega)) | (with_reducible refine Chg.alloc ?_ _)))) (by simp))
          go_wp2_with (at_builtin; refine wpList_append_row (kInt .i64) rfl _ _ 36 rfl 2 i0 _ 8 Try.underlying36 hi hz0 hz1 hz2 rfl (by decide) _ ys fp rfl (HR.out.chg (S := fun _ => False) (by (repeat (first | (with_reducible first | exact Chg.refl _ _ | assumption) | (with_reducible refine Chg.drew ?_) | ((with_reducible refine Chg.setCell ?_ ?hs _); (case hs => first | (simp; done) | (simp; omega) | omega)) | (with_reducible refine Chg.alloc ?_ _)))) (by simp)) _ _ [.int .i64 (k : Int)] (k : Int) [] rfl ⟨rfl, rfl⟩ (by simp) (box_news (by simp)) (by simp [maxLen]; omega) (by omega) ?_; intro g cap w3 fp3 hr3 hf3 hC3)
          have hA3 := HA.out.up HLOW.out hN1 (Q := fun q => q ∈ fp) (w2 := w3) (Chg.trans (by (repeat (first | (with_reducible first | exact Chg.refl _ _ | assumption) | (with_reducible refine Chg.drew ?_) | ((with_reducible refine Chg.setCell ?_ ?hs _); (case hs => first | (simp; done) | (simp; omega) | omega)) | (with_reducible refine Chg.alloc ?_ _)))) hC3) HF.out
          rw [← HYS.out] at hr3
          rw [← HL.out] at hr3 ⊢
          refine ⟨⟨k + 1, fp3, hlt, ?_, hr3, fun q hq => ?_, hA3⟩, ?_⟩
          · show Value.int .i64 ((k : Int) + 1) = .int .i64 ((k + 1 : Nat) : Int)
            rw [Int.natCast_add]; rfl
          · rcases hf3 q hq with h | h | h
            · exact HF.out q h
            · simp at h
            · simp at h; omega
          · show wid - ((k : Int) + 1).toNat < wid - (k : Int).toNat
            omega
        · have hkw : k = wid := by omega
          have HW0 := Lib.hid (show d5 n wid (shufF (wid - 1) s3 ys) = R by rw [HY.out, hkw]; exact HDR.out)
          have HLW := Lib.hid (show ys.length = wid by rw [← HL.out, hkw])
          subst hkw
          obtain ⟨g, rfl⟩ : ∃ g, Av = some ⟨g, 0, none⟩ := by
            rcases HR.out.form' with ⟨h1, h2, _⟩ | ⟨g, cap, h1, _⟩
            · injection h1 with _ h1 _; omega
            · injection h1 with h1; exact ⟨g, h1⟩
          clear hlt hk hvl hkl
          go_wp2
          go_loopw [8] (fun t8 wr => ∃ (i : Nat) (s : Src) (at_ : List Int) (fp2 : List Nat), t8 = .int .i64 i ∧ i < k ∧ at_.length = k ∧ Row 2 (kInt .i64) wr (.slice (some ⟨g, 0, none⟩) k cv) at_ fp2 ∧ (∀ q ∈ fp2, w1.heap.size ≤ q) ∧ At1 S Ac cc w w1 s wr ∧ d5 n k (shufF i s at_) = R) (fun t8 _ => (intOf t8).toNat)
          case atStart => exact ⟨k - 1, _, ys, fp, congrArg (Value.int .i64) (by omega), by omega, HLW.out, HR.out, HF.out, HA.out, HW0.out⟩
          case round =>
            have hgN := HF.out g (by rcases HR.out.form' with ⟨h1, _⟩ | ⟨g', _, h1, h2, _⟩; (injection h1 with h1; cases h1); (injection h1 with h1; injection h1 with h1; injection h1 with h1; subst h1; exact h2))
            clear HR HF HA hW HL HYS HY HDR HW0 HLW
            obtain ⟨i, s, at_, fp2, rfl, hik, hatl, hr, hf, ha, hd⟩ := hrel
            have HR := Lib.hid hr
            have HF := Lib.hid hf
            have HA := Lib.hid ha
            have HD := Lib.hid hd
            have HTL := Lib.hid hatl
            have hW := ha.2.2.2
            clear hd hr hf ha hatl
            by_cases hi0 : 0 < i
            · have nv := nextV_rg s ((i : Int) + 1)
              obtain ⟨j, hj0⟩ := Int.eq_ofNat_of_zero_le nv.1
              have hj1 := nv.2 (by omega)
              rw [hj0] at hj1
              have HCA := HA.out.call hS ((i : Int) + 1) (by omega)
              unfold NextPost at HCA
              rw [hj0] at HCA
              replace HCA := Lib.hid HCA
              have HJ := Lib.hid hj0
              have hji : j ≤ i := by omega
              clear nv hj0 hj1
              go_upto_region 18 with (go_at_call 24; (with_reducible refine HCA.out.mono ?_); rintro e w5 ⟨rfl, ha5, hc5⟩)
              obtain ⟨x, y, v0, v1, hfz, hglt, hgm, v2, fp3, hr3, hf3, hc3⟩ := swap_ints (HR.out.chg hc5 (fun q hq e => by have := HF.out q hq; have := HLOW.out.1; omega)) HTL.out hik (show j < k by omega)
              have HR3 := Lib.hid hr3
              have HC3 := Lib.hid hc3
              have HF3 := Lib.hid hf3
              have HA5 := Lib.hid ha5
              clear hr3 hc3 hf3 ha5 hc5 HCA
              go_wp2
              refine ⟨⟨i - 1, _, _, fp3, congrArg (Value.int .i64) (by omega), by omega, by rw [swapL_len]; exact HTL.out, HR3.out, fun q hq => HF.out q (HF3.out q hq), HA5.out.up HLOW.out hN1 HC3.out fun q hq => by rw [hq]; exact hgN, ?_⟩, ?_⟩
              · rw [← HD.out, shufF_pos (k := i) (by omega), HJ.out]; rfl
              · show ((i : Int) - 1).toNat < (i : Int).toNat
                omega
            · have h0 : i = 0 := by omega
              subst h0
              have HD2 := Lib.hid (show d6 (mvF k (nextV s 3) at_ n 0 (nextS s 3) []) = R from HD.out)
              clear HD hi0 hik
              obtain ⟨wv, hwv⟩ : ∃ x, x = wr := ⟨_, rfl⟩
              subst hwv
              have HA0 := Lib.hid (HA.out.up HLOW.out hN1 (Q := fun _ => False) (w2 := wv.alloc (.cells #[] 39)) (by (repeat (first | (with_reducible first | exact Chg.refl _ _ | assumption) | (with_reducible refine Chg.drew ?_) | ((with_reducible refine Chg.setCell ?_ ?hs _); (case hs => first | (simp; done) | (simp; omega) | omega)) | (with_reducible refine Chg.alloc ?_ _)))) fun _ h => h.elim)
              have HCA := Lib.hid (HA0.out.call hS 3 (by omega))
              have nv := nextV_rg s 3
              have hlo0 := nv.1
              have hlo1 := nv.2 (by omega)
              obtain ⟨lo, hlo⟩ : ∃ x, x = nextV s 3 := ⟨_, rfl⟩
              unfold NextPost at HCA
              rw [← hlo] at HCA HD2 hlo0 hlo1
              clear nv hlo
              go_upto_region 23 with (go_at_call 24; (with_reducible refine HCA.out.mono ?_); rintro e w5 ⟨rfl, ha5, hc5⟩)
              have hC5 : Chg (fun q => q = S) wv w5 := Chg.trans (by (repeat (first | (with_reducible first | exact Chg.refl _ _ | assumption) | (with_reducible refine Chg.drew ?_) | ((with_reducible refine Chg.setCell ?_ ?hs _); (case hs => first | (simp; done) | (simp; omega) | omega)) | (with_reducible refine Chg.alloc ?_ _)))) hc5
              have HRM := Lib.hid ((Row.empty0 (d := kMove) (e := 39) (W := wv) rfl).chg hc5 fun q hq => by simp at hq; subst hq; have := HA.out.1.box.lt; omega)
              have HRA := Lib.hid (HR.out.chg hC5 fun q hq e => by have := HF.out q hq; have := HLOW.out.1; omega)
              have HGL := Lib.hid HR.out.lt
              have hC5s := hC5.size
              have HA5 := Lib.hid ha5
              clear HA HR HA0 ha5 hc5 hC5 HCA
              go_wp2
              go_loopw [11, 13] (fun t11 t13 wr => ∃ (i : Nat) (s : Src) (ms : List Move) (fp : List Nat), t13 = .int .i64 i ∧ i ≤ n ∧ ms.length = i ∧ Row 39 kMove wr t11 ms fp ∧ (∀ q ∈ fp, wv.heap.size ≤ q) ∧ Row 2 (kInt .i64) wr (.slice (some ⟨g, 0, none⟩) k cv) at_ fp2 ∧ At1 S Ac cc w w1 s wr ∧ wv.heap.size ≤ wr.heap.size ∧ d6 (mvF k lo at_ (n - i) i s ms) = R) (fun _ t13 _ => n - (intOf t13).toNat)
              case atStart => exact ⟨0, _, [], [wv.heap.size], rfl, by omega, rfl, HRM.out, by simp, HRA.out, HA5.out, hC5s, HD2.out⟩
              case round =>
                clear HRM HRA HA5 HD2 hgN
                obtain ⟨i, s, ms, fp, rfl, hin, hml, hr, hf, hra, ha, hWv, hd⟩ := hrel
                have HR := Lib.hid hr
                have HRA := Lib.hid hra
                have HFM := Lib.hid hf
                have HA := Lib.hid ha
                have HD := Lib.hid hd
                obtain ⟨Am, cm, rfl, hml2⟩ := hr.form
                rw [hml] at hml2 HR
                (try simp only [hml])
                have hmL : ms.length ≤ 64 := by omega
                have HML := Lib.hid hml.symm
                clear hr hf hra ha hd hml
                by_cases hlt : i < n
                · obtain ⟨x, ex⟩ := get_of_lt (xs := at_) (k := i) (by rw [HTL.out]; omega)
                  have hcells : ∀ W, Row 2 (kInt .i64) W (.slice (some ⟨g, 0, none⟩) k cv) at_ fp2 → W.cell? ⟨g, i, none⟩ = some (.int .i64 x) := fun W h => by
                    obtain ⟨_, rfl, hcx, _⟩ := h.cellsAt HTL.out ex
                    have v0 := ha1 hcx
                    rwa [show i * (kInt .i64).sz = i from Nat.mul_one i] at v0
                  have HCE := Lib.hid hcells
                  have HGX := Lib.hid (show at_.getD i 0 = x by rw [List.getD_eq_getElem?_getD, ex]; rfl)
                  have HNI := Lib.hid (show n - i = n - (i + 1) + 1 by omega)
                  have hgv := HGL.out g (by rcases HRA.out.form' with ⟨h1, _⟩ | ⟨g', _, h1, h2, _⟩; (injection h1 with h1; cases h1); (injection h1 with h1; injection h1 with h1; injection h1 with h1; subst h1; exact h2))
                  clear hcells ex
                  have hlc : lo = 0 ∨ (lo = 1 ∧ nextV s 6 = 0) ∨ (lo = 1 ∧ ¬ nextV s 6 = 0) ∨ lo = 2 := by omega
                  rcases hlc with hl0 | ⟨hl0, hl6⟩ | ⟨hl0, hl6⟩ | hl0
                  · have HDD := Lib.hid (show d6 (mvF k lo at_ (n - (i + 1)) (i + 1) (nextS s k) (ms ++ [⟨x, nextV s k⟩])) = R by rw [← HD.out, HNI.out, mvF, if_pos hl0, HGX.out])
                    subst hl0
                    have HCA := Lib.hid (HA.out.call hS k (by omega))
                    unfold NextPost at HCA
                    clear HD HA hlo0 hlo1
                    go_upto_region 29 with (go_at_call 24; (with_reducible refine HCA.out.mono ?_); rintro e w6 ⟨rfl, ha6, hc6⟩)
                    have HA6 := Lib.hid ha6
                    have HC6 := Lib.hid hc6
                    clear ha6 hc6 HCA
                    have hRM := HR.out.chg HC6.out (fun q hq e => by have := HFM.out q hq; have := HLOW.out.1; omega)
                    have hRA := HRA.out.chg HC6.out (fun q hq e => by have := HF.out q hq; have := HLOW.out.1; omega)
                    have v0 := HCE.out _ hRA
                    have hcz := HC6.out.size
                    have zg : g < w6.heap.size := by omega
                    have HRM := Lib.hid hRM
                    have HRA6 := Lib.hid hRA
                    clear hRM hRA HR HRA HCE
                    go_wp2_with (at_builtin; refine wpList_append_row kMove rfl _ _ 27 rfl 39 j0 _ 16 Try.underlying27 hj hjz0 hjz1 hjz2 rfl (by decide) _ ms fp rfl (HRM.out.chg (S := fun _ => False) (by (repeat (first | (with_reducible first | exact Chg.refl _ _ | assumption) | (with_reducible refine Chg.drew ?_) | ((with_reducible refine Chg.setCell ?_ ?hs _); (case hs => first | (simp; done) | (simp; omega) | omega)) | (with_reducible refine Chg.alloc ?_ _)))) (by simp)) _ _ [.int .i64 x, .int .i64 (nextV s k)] (⟨x, (nextV s k)⟩ : Move) [] rfl ⟨rfl, rfl⟩ (by simp) (box_news (by simp)) (by simp [maxLen]; omega) (by omega) ?_; intro g7 cap7 w7 fp7 hr7 hf7 hC7)
                    have hC67 : Chg (fun q => q ∈ fp) w6 w7 := Chg.trans (by (repeat (first | (with_reducible first | exact Chg.refl _ _ | assumption) | (with_reducible refine Chg.drew ?_) | ((with_reducible refine Chg.setCell ?_ ?hs _); (case hs => first | (simp; done) | (simp; omega) | omega)) | (with_reducible refine Chg.alloc ?_ _)))) hC7
                    have hcz7 := hC67.size
                    rw [← HML.out] at hr7 ⊢
                    have e1 : (ms ++ [(⟨x, (nextV s k)⟩ : Move)]).length = i + 1 := by rw [List.length_append, ← HML.out]; rfl
                    have e2 := HRA6.out.chg hC67 (fun q hq hm => by have := HFM.out q hm; have := HGL.out q hq; omega)
                    have e3 := HA6.out.up HLOW.out hN1 hC67 (fun q hq => by have := HFM.out q hq; omega)
                    have e4 : wv.heap.size ≤ w7.heap.size := by omega
                    have e5 := HDD.out
                    refine ⟨⟨i + 1, nextS s k, ms ++ [⟨x, (nextV s k)⟩], fp7, ?_, hlt, e1, ?_, fun q hq => ?_, e2, e3, e4, ?_⟩, ?_⟩
                    · show Value.int .i64 ((i : Int) + 1) = .int .i64 ((i + 1 : Nat) : Int)
                      rw [Int.natCast_add]; rfl
                    · with_reducible exact hr7
                    · rcases hf7 q hq with h | h | h
                      · exact HFM.out q h
                      · simp at h
                      · simp at h; omega
                    · with_reducible exact e5
                    · show n - ((i : Int) + 1).toNat < n - (i : Int).toNat
                      omega
                  · have HDD := Lib.hid (show d6 (mvF k lo at_ (n - (i + 1)) (i + 1) (nextS (nextS s 6) k) (ms ++ [⟨x, nextV (nextS s 6) k⟩])) = R by rw [← HD.out, HNI.out, mvF, if_neg (by omega), if_pos hl0, if_pos hl6, HGX.out])
                    subst hl0
                    have HCA := Lib.hid (HA.out.call hS 6 (by omega))
                    unfold NextPost at HCA
                    rw [hl6] at HCA
                    clear HD HA hlo0 hlo1 hl6
                    go_upto_region 29 with (first
                      | (go_at_call 24; (with_reducible refine HCA.out.mono ?_); rintro e w5a ⟨rfl, ha5a, hc5a⟩; have HCA2 := Lib.hid (ha5a.call hS k (by omega)); unfold NextPost at HCA2; have HC5a := Lib.hid hc5a; clear ha5a hc5a)
                      | (go_at_call 24; (with_reducible refine HCA2.out.mono ?_); rintro e w6 ⟨rfl, ha6, hc6⟩))
                    have HA6 := Lib.hid ha6
                    have HC6 := Lib.hid (HC5a.out.trans hc6)
                    clear ha6 hc6 HCA HCA2 HC5a
                    have hRM := HR.out.chg HC6.out (fun q hq e => by have := HFM.out q hq; have := HLOW.out.1; omega)
                    have hRA := HRA.out.chg HC6.out (fun q hq e => by have := HF.out q hq; have := HLOW.out.1; omega)
                    have v0 := HCE.out _ hRA
                    have hcz := HC6.out.size
                    have zg : g < w6.heap.size := by omega
                    have HRM := Lib.hid hRM
                    have HRA6 := Lib.hid hRA
                    clear hRM hRA HR HRA HCE
                    go_wp2_with (at_builtin; refine wpList_append_row kMove rfl _ _ 27 rfl 39 j0 _ 16 Try.underlying27 hj hjz0 hjz1 hjz2 rfl (by decide) _ ms fp rfl (HRM.out.chg (S := fun _ => False) (by (repeat (first | (with_reducible first | exact Chg.refl _ _ | assumption) | (with_reducible refine Chg.drew ?_) | ((with_reducible refine Chg.setCell ?_ ?hs _); (case hs => first | (simp; done) | (simp; omega) | omega)) | (with_reducible refine Chg.alloc ?_ _)))) (by simp)) _ _ [.int .i64 x, .int .i64 (nextV (nextS s 6) k)] (⟨x, (nextV (nextS s 6) k)⟩ : Move) [] rfl ⟨rfl, rfl⟩ (by simp) (box_news (by simp)) (by simp [maxLen]; omega) (by omega) ?_; intro g7 cap7 w7 fp7 hr7 hf7 hC7)
                    have hC67 : Chg (fun q => q ∈ fp) w6 w7 := Chg.trans (by (repeat (first | (with_reducible first | exact Chg.refl _ _ | assumption) | (with_reducible refine Chg.drew ?_) | ((with_reducible refine Chg.setCell ?_ ?hs _); (case hs => first | (simp; done) | (simp; omega) | omega)) | (with_reducible refine Chg.alloc ?_ _)))) hC7
                    have hcz7 := hC67.size
                    rw [← HML.out] at hr7 ⊢
                    have e1 : (ms ++ [(⟨x, (nextV (nextS s 6) k)⟩ : Move)]).length = i + 1 := by rw [List.length_append, ← HML.out]; rfl
                    have e2 := HRA6.out.chg hC67 (fun q hq hm => by have := HFM.out q hm; have := HGL.out q hq; omega)
                    have e3 := HA6.out.up HLOW.out hN1 hC67 (fun q hq => by have := HFM.out q hq; omega)
                    have e4 : wv.heap.size ≤ w7.heap.size := by omega
                    have e5 := HDD.out
                    refine ⟨⟨i + 1, nextS (nextS s 6) k, ms ++ [⟨x, (nextV (nextS s 6) k)⟩], fp7, ?_, hlt, e1, ?_, fun q hq => ?_, e2, e3, e4, ?_⟩, ?_⟩
                    · show Value.int .i64 ((i : Int) + 1) = .int .i64 ((i + 1 : Nat) : Int)
                      rw [Int.natCast_add]; rfl
                    · with_reducible exact hr7
                    · rcases hf7 q hq with h | h | h
                      · exact HFM.out q h
                      · simp at h
                      · simp at h; omega
                    · with_reducible exact e5
                    · show n - ((i : Int) + 1).toNat < n - (i : Int).toNat
                      omega
                  · have HDD := Lib.hid (show d6 (mvF k lo at_ (n - (i + 1)) (i + 1) (nextS s 6) (ms ++ [⟨x, i⟩])) = R by rw [← HD.out, HNI.out, mvF, if_neg (by omega), if_pos hl0, if_neg hl6, HGX.out])
                    subst hl0
                    have HCA := Lib.hid (HA.out.call hS 6 (by omega))
                    unfold NextPost at HCA
                    have hb6 : (nextV s 6 == 0) = false := by simp [hl6]
                    clear HD HA hlo0 hlo1 hl6
                    go_upto_region 29 with (go_at_call 24; (with_reducible refine HCA.out.mono ?_); rintro e w6 ⟨rfl, ha6, hc6⟩)
                    have HA6 := Lib.hid ha6
                    have HC6 := Lib.hid hc6
                    clear ha6 hc6 HCA
                    have hRM := HR.out.chg HC6.out (fun q hq e => by have := HFM.out q hq; have := HLOW.out.1; omega)
                    have hRA := HRA.out.chg HC6.out (fun q hq e => by have := HF.out q hq; have := HLOW.out.1; omega)
                    have v0 := HCE.out _ hRA
                    have hcz := HC6.out.size
                    have zg : g < w6.heap.size := by omega
                    have HRM := Lib.hid hRM
                    have HRA6 := Lib.hid hRA
                    clear hRM hRA HR HRA HCE
                    go_wp2_with (at_builtin; refine wpList_append_row kMove rfl _ _ 27 rfl 39 j0 _ 16 Try.underlying27 hj hjz0 hjz1 hjz2 rfl (by decide) _ ms fp rfl (HRM.out.chg (S := fun _ => False) (by (repeat (first | (with_reducible first | exact Chg.refl _ _ | assumption) | (with_reducible refine Chg.drew ?_) | ((with_reducible refine Chg.setCell ?_ ?hs _); (case hs => first | (simp; done) | (simp; omega) | omega)) | (with_reducible refine Chg.alloc ?_ _)))) (by simp)) _ _ [.int .i64 x, .int .i64 (i : Int)] (⟨x, (i : Int)⟩ : Move) [] rfl ⟨rfl, rfl⟩ (by simp) (box_news (by simp)) (by simp [maxLen]; omega) (by omega) ?_; intro g7 cap7 w7 fp7 hr7 hf7 hC7)
                    have hC67 : Chg (fun q => q ∈ fp) w6 w7 := Chg.trans (by (repeat (first | (with_reducible first | exact Chg.refl _ _ | assumption) | (with_reducible refine Chg.drew ?_) | ((with_reducible refine Chg.setCell ?_ ?hs _); (case hs => first | (simp; done) | (simp; omega) | omega)) | (with_reducible refine Chg.alloc ?_ _)))) hC7
                    have hcz7 := hC67.size
                    rw [← HML.out] at hr7 ⊢
                    have e1 : (ms ++ [(⟨x, (i : Int)⟩ : Move)]).length = i + 1 := by rw [List.length_append, ← HML.out]; rfl
                    have e2 := HRA6.out.chg hC67 (fun q hq hm => by have := HFM.out q hm; have := HGL.out q hq; omega)
                    have e3 := HA6.out.up HLOW.out hN1 hC67 (fun q hq => by have := HFM.out q hq; omega)
                    have e4 : wv.heap.size ≤ w7.heap.size := by omega
                    have e5 := HDD.out
                    refine ⟨⟨i + 1, nextS s 6, ms ++ [⟨x, (i : Int)⟩], fp7, ?_, hlt, e1, ?_, fun q hq => ?_, e2, e3, e4, ?_⟩, ?_⟩
                    · show Value.int .i64 ((i : Int) + 1) = .int .i64 ((i + 1 : Nat) : Int)
                      rw [Int.natCast_add]; rfl
                    · with_reducible exact hr7
                    · rcases hf7 q hq with h | h | h
                      · exact HFM.out q h
                      · simp at h
                      · simp at h; omega
                    · with_reducible exact e5
                    · show n - ((i : Int) + 1).toNat < n - (i : Int).toNat
                      omega
                  · have HDD := Lib.hid (show d6 (mvF k lo at_ (n - (i + 1)) (i + 1) s (ms ++ [⟨x, i⟩])) = R by rw [← HD.out, HNI.out, mvF, if_neg (by omega), if_neg (by omega), HGX.out])
                    subst hl0
                    clear HD hlo0 hlo1
                    go_upto_region 29 with (fail)
                    have HA6 := HA
                    have HC6 := Lib.hid (Chg.refl (fun q => q = S) wr)
                    clear HA
                    have hRM := HR.out.chg HC6.out (fun q hq e => by have := HFM.out q hq; have := HLOW.out.1; omega)
                    have hRA := HRA.out.chg HC6.out (fun q hq e => by have := HF.out q hq; have := HLOW.out.1; omega)
                    have v0 := HCE.out _ hRA
                    have hcz := HC6.out.size
                    have zg : g < wr.heap.size := by omega
                    have HRM := Lib.hid hRM
                    have HRA6 := Lib.hid hRA
                    clear hRM hRA HR HRA HCE
                    go_wp2_with (at_builtin; refine wpList_append_row kMove rfl _ _ 27 rfl 39 j0 _ 16 Try.underlying27 hj hjz0 hjz1 hjz2 rfl (by decide) _ ms fp rfl (HRM.out.chg (S := fun _ => False) (by (repeat (first | (with_reducible first | exact Chg.refl _ _ | assumption) | (with_reducible refine Chg.drew ?_) | ((with_reducible refine Chg.setCell ?_ ?hs _); (case hs => first | (simp; done) | (simp; omega) | omega)) | (with_reducible refine Chg.alloc ?_ _)))) (by simp)) _ _ [.int .i64 x, .int .i64 (i : Int)] (⟨x, (i : Int)⟩ : Move) [] rfl ⟨rfl, rfl⟩ (by simp) (box_news (by simp)) (by simp [maxLen]; omega) (by omega) ?_; intro g7 cap7 w7 fp7 hr7 hf7 hC7)
                    have hC67 : Chg (fun q => q ∈ fp) wr w7 := Chg.trans (by (repeat (first | (with_reducible first | exact Chg.refl _ _ | assumption) | (with_reducible refine Chg.drew ?_) | ((with_reducible refine Chg.setCell ?_ ?hs _); (case hs => first | (simp; done) | (simp; omega) | omega)) | (with_reducible refine Chg.alloc ?_ _)))) hC7
                    have hcz7 := hC67.size
                    rw [← HML.out] at hr7 ⊢
                    have e1 : (ms ++ [(⟨x, (i : Int)⟩ : Move)]).length = i + 1 := by rw [List.length_append, ← HML.out]; rfl
                    have e2 := HRA6.out.chg hC67 (fun q hq hm => by have := HFM.out q hm; have := HGL.out q hq; omega)
                    have e3 := HA6.out.up HLOW.out hN1 hC67 (fun q hq => by have := HFM.out q hq; omega)
                    have e4 : wv.heap.size ≤ w7.heap.size := by omega
                    have e5 := HDD.out
                    refine ⟨⟨i + 1, s, ms ++ [⟨x, (i : Int)⟩], fp7, ?_, hlt, e1, ?_, fun q hq => ?_, e2, e3, e4, ?_⟩, ?_⟩
                    · show Value.int .i64 ((i : Int) + 1) = .int .i64 ((i + 1 : Nat) : Int)
                      rw [Int.natCast_add]; rfl
                    · with_reducible exact hr7
                    · rcases hf7 q hq with h | h | h
                      · exact HFM.out q h
                      · simp at h
                      · simp at h; omega
                    · with_reducible exact e5
                    · show n - ((i : Int) + 1).toNat < n - (i : Int).toNat
                      omega
                · have hin2 : i = n := by omega
                  subst hin2
                  have HD3 := Lib.hid (show d7 (shufF (i - 1) s ms) = R by rw [← HD.out, Nat.sub_self, mvF, d6, ← HML.out])
                  obtain ⟨gm, rfl⟩ : ∃ g, Am = some ⟨g, 0, none⟩ := by
                    rcases HR.out.form' with ⟨_, h2, _⟩ | ⟨g, cap, h1, _⟩
                    · rw [h2] at HML; have := HML.out; simp at this; omega
                    · injection h1 with h1; exact ⟨g, h1⟩
                  obtain ⟨wq, hwq⟩ : ∃ x, x = wr := ⟨_, rfl⟩
                  subst hwq
                  have hwqN : w1.heap.size ≤ wq.heap.size := by omega
                  clear HD HRA HTL HGL hlt hlo0 hlo1 hml2
                  go_wp2
                  go_loopw [15] (fun t15 wr => ∃ (j : Nat) (s : Src) (ns : List Move) (fp2 : List Nat), t15 = .int .i64 j ∧ j < i ∧ ns.length = i ∧ Row 39 kMove wr (.slice (some ⟨gm, 0, none⟩) i cm) ns fp2 ∧ (∀ q ∈ fp2, w1.heap.size ≤ q) ∧ At1 S Ac cc w w1 s wr ∧ d7 (shufF j s ns) = R) (fun t15 _ => (intOf t15).toNat)
                  case atStart => exact ⟨i - 1, _, ms, fp, congrArg (Value.int .i64) (by omega), by omega, HML.out.symm, HR.out, fun q hq => by have := HFM.out q hq; omega, HA.out, HD3.out⟩
                  case round =>
                    have hgN := HFM.out gm (by rcases HR.out.form' with ⟨h1, _⟩ | ⟨g', _, h1, h2, _⟩; (injection h1 with h1; cases h1); (injection h1 with h1; injection h1 with h1; injection h1 with h1; subst h1; exact h2))
                    clear HR HF HFM HA HML HD3 hwqN
                    obtain ⟨j, s, ns, fp2, rfl, hjn, hnl, hr, hf, ha, hd⟩ := hrel
                    have HR := Lib.hid hr
                    have HF := Lib.hid hf
                    have HA := Lib.hid ha
                    have HD := Lib.hid hd
                    have HNL := Lib.hid hnl
                    clear hr hf ha hd hnl
                    by_cases hj0 : 0 < j
                    · have nv := nextV_rg s ((j : Int) + 1)
                      obtain ⟨l, hl0⟩ := Int.eq_ofNat_of_zero_le nv.1
                      have hl1 := nv.2 (by omega)
                      rw [hl0] at hl1
                      have HCA := HA.out.call hS ((j : Int) + 1) (by omega)
                      unfold NextPost at HCA
                      rw [hl0] at HCA
                      replace HCA := Lib.hid HCA
                      have HJ := Lib.hid hl0
                      have hji : l ≤ j := by omega
                      clear nv hl0 hl1
                      go_upto_region 34 with (go_at_call 24; (with_reducible refine HCA.out.mono ?_); rintro e w5 ⟨rfl, ha5, hc5⟩)
                      obtain ⟨x, y, v0, v1, hglt, hgm, hfz, ⟨v2, v3⟩, fp3, hr3, hf3, hc3⟩ := swap_moves ((HR.out.chg hc5 (fun q hq e => by have := HF.out q hq; have := HLOW.out.1; omega))) HNL.out hjn (show l < i by omega)
                      have HR3 := Lib.hid hr3
                      have HC3 := Lib.hid hc3
                      have HF3 := Lib.hid hf3
                      have HA5 := Lib.hid ha5
                      clear hr3 hc3 hf3 ha5 hc5 HCA
                      obtain ⟨v00, v01⟩ := v0
                      obtain ⟨v10, v11⟩ := v1
                      go_wp2
                      refine ⟨⟨j - 1, _, _, fp3, congrArg (Value.int .i64) (by omega), by omega, by rw [swapL_len]; exact HNL.out, HR3.out, fun q hq => HF.out q (HF3.out q hq), HA5.out.up HLOW.out hN1 HC3.out fun q hq => by rw [hq]; omega, ?_⟩, ?_⟩
                      · rw [← HD.out, shufF_pos (k := j) (by omega), HJ.out]; rfl
                      · show ((j : Int) - 1).toNat < (j : Int).toNat
                        omega
                    · have h0 : j = 0 := by omega
                      subst h0
                      have HD4 := Lib.hid (show d8 (nextV s 20) (nextV (nextS s 20) i).toNat (nextS (nextS s 20) i) ns = R by rw [← HD.out, shufF, d7, HNL.out])
                      obtain ⟨wp, hwp⟩ : ∃ x, x = wr := ⟨_, rfl⟩
                      subst hwp
                      clear HD hj0 hjn
                      have HCA := Lib.hid (HA.out.call hS 20 (by omega))
                      unfold NextPost at HCA
                      have nk := nextV_rg s 20
                      have hk0 := nk.1
                      have hk1 := nk.2 (by omega)
                      obtain ⟨kk, hkk⟩ : ∃ x, x = nextV s 20 := ⟨_, rfl⟩
                      obtain ⟨s5, hs5⟩ : ∃ x, x = nextS s 20 := ⟨_, rfl⟩
                      rw [← hkk] at HCA hk0 hk1 HD4
                      rw [← hs5] at HCA HD4
                      have ni := nextV_rg s5 i
                      obtain ⟨m, hm0⟩ := Int.eq_ofNat_of_zero_le ni.1
                      have hm1 := ni.2 (by omega)
                      rw [hm0] at hm1 HD4
                      have HM0 := Lib.hid hm0
                      clear nk ni hkk hs5 hm0
                      obtain ⟨s6, hs6⟩ : ∃ x, x = nextS s5 i := ⟨_, rfl⟩
                      rw [← hs6] at HD4
                      have HS6 := Lib.hid hs6
                      have hmi : m < i := by omega
                      clear hs6 hm1
                      go_upto_region 39 with (first
                        | (go_at_call 24; (with_reducible refine HCA.out.mono ?_); rintro e w5 ⟨rfl, ha5, hc5⟩; have HCA2 := Lib.hid (ha5.call hS i (by omega)); unfold NextPost at HCA2; rw [HM0.out, ← HS6.out] at HCA2; have HC5 := Lib.hid hc5; clear ha5 hc5)
                        | (go_at_call 24; (with_reducible refine HCA2.out.mono ?_); rintro e w6 ⟨rfl, ha6, hc6⟩))
                      have HA6 := Lib.hid ha6
                      have HC6 := Lib.hid (HC5.out.trans hc6)
                      have HR6 := Lib.hid (HR.out.chg HC6.out (fun q hq e => by have := HF.out q hq; have := HLOW.out.1; omega))
                      clear ha6 hc6 HCA HCA2 HC5 HR HA HM0 HS6
                      obtain ⟨x, ex⟩ := get_of_lt (xs := ns) (k := m) (by rw [HNL.out]; omega)
                      obtain ⟨x0, ex0⟩ := get_of_lt (xs := ns) (k := 0) (by rw [HNL.out]; omega)
                      have HX := Lib.hid ex
                      have HX0 := Lib.hid ex0
                      clear ex ex0
                      have nz := nextV_rg s6 2
                      have hz0 := nz.1
                      have hz1 := nz.2 (by omega)
                      obtain ⟨z, hz⟩ : ∃ x, x = nextV s6 2 := ⟨_, rfl⟩
                      have HCA := Lib.hid (HA6.out.call hS 2 (by omega))
                      unfold NextPost at HCA
                      rw [← hz] at HCA hz0 hz1
                      have HZ := Lib.hid hz
                      clear nz hz
                      have hkc : kk = 0 ∨ kk = 1 ∨ kk = 2 ∨ kk = 3 ∨ kk = 4 ∨ 5 ≤ kk := by omega
                      rcases hkc with hk | hk | hk | hk | hk | hk
                      · have HD5 := Lib.hid (show (ns.modify m fun x => ⟨64 - z, x.src⟩) = R by rw [← HD4.out, d8, if_pos hk, HZ.out]; rfl)
                        subst hk
                        clear HD4 hk0 hk1
                        go_wp2_with (go_at_call 24; (with_reducible refine HCA.out.mono ?_); rintro e w7 ⟨rfl, ha7, hc7⟩; obtain ⟨⟨v0, v1⟩, hglt, hgm, hfz, ⟨fp3, hr3, hf3, hc3⟩, _⟩ := move_field (HR6.out.chg hc7 (fun q hq e => by have := HF.out q hq; have := HLOW.out.1; omega)) HNL.out HX.out (64 - z); have HR3 := Lib.hid hr3; have HC3 := Lib.hid hc3; have HA7 := Lib.hid ha7; clear hr3 hc3 ha7)
                        go_ret
                        exact ⟨_, fp3, rfl, by rw [← HD5.out]; exact HR3.out, fun q hq => Nat.le_trans hN1 (HF.out q (hf3 q hq)), (HA7.out.up HLOW.out hN1 HC3.out fun q hq => by rw [hq]; omega).2.2.1⟩
                      · have HD5 := Lib.hid (show (ns.modify m fun x => ⟨x.to, 64 - z⟩) = R by rw [← HD4.out, d8, if_neg (by omega), if_pos hk, HZ.out]; rfl)
                        subst hk
                        clear HD4 hk0 hk1
                        go_wp2_with (go_at_call 24; (with_reducible refine HCA.out.mono ?_); rintro e w7 ⟨rfl, ha7, hc7⟩; obtain ⟨⟨v0, v1⟩, hglt, hgm, hfz, _, ⟨fp3, hr3, hf3, hc3⟩⟩ := move_field (HR6.out.chg hc7 (fun q hq e => by have := HF.out q hq; have := HLOW.out.1; omega)) HNL.out HX.out (64 - z); have HR3 := Lib.hid hr3; have HC3 := Lib.hid hc3; have HA7 := Lib.hid ha7; clear hr3 hc3 ha7)
                        go_ret
                        exact ⟨_, fp3, rfl, by rw [← HD5.out]; exact HR3.out, fun q hq => Nat.le_trans hN1 (HF.out q (hf3 q hq)), (HA7.out.up HLOW.out hN1 HC3.out fun q hq => by rw [hq]; omega).2.2.1⟩
                      · have HD5 := Lib.hid (show (ns.modify m fun x => ⟨x0.to, x.src⟩) = R by rw [← HD4.out, d8, if_neg (by omega), if_neg (by omega), if_pos hk, toAt_of HX0.out]; rfl)
                        subst hk
                        clear HD4 hk0 hk1
                        obtain ⟨⟨v00, _⟩, _⟩ := move_field HR6.out HNL.out HX0.out 0
                        rw [Nat.zero_mul] at v00
                        obtain ⟨⟨v0, v1⟩, hglt, hgm, hfz, ⟨fp3, hr3, hf3, hc3⟩, _⟩ := move_field HR6.out HNL.out HX.out x0.to
                        have HR3 := Lib.hid hr3
                        have HC3 := Lib.hid hc3
                        clear hr3 hc3
                        go_wp2
                        go_ret
                        exact ⟨_, fp3, rfl, by rw [← HD5.out]; exact HR3.out, fun q hq => Nat.le_trans hN1 (HF.out q (hf3 q hq)), (HA6.out.up HLOW.out hN1 HC3.out fun q hq => by rw [hq]; omega).2.2.1⟩
                      · have HD5 := Lib.hid (show (ns.modify m fun x => ⟨x.to, -1⟩) = R by rw [← HD4.out, d8, if_neg (by omega), if_neg (by omega), if_neg (by omega), if_pos hk]; rfl)
                        subst hk
                        clear HD4 hk0 hk1
                        obtain ⟨⟨v0, v1⟩, hglt, hgm, hfz, _, ⟨fp3, hr3, hf3, hc3⟩⟩ := move_field HR6.out HNL.out HX.out (-1)
                        have HR3 := Lib.hid hr3
                        have HC3 := Lib.hid hc3
                        clear hr3 hc3
                        go_wp2
                        go_ret
                        exact ⟨_, fp3, rfl, by rw [← HD5.out]; exact HR3.out, fun q hq => Nat.le_trans hN1 (HF.out q (hf3 q hq)), (HA6.out.up HLOW.out hN1 HC3.out fun q hq => by rw [hq]; omega).2.2.1⟩
                      · have HD5 := Lib.hid (show ns ++ [(⟨63, 0⟩ : Move)] = R by rw [← HD4.out, d8, if_neg (by omega), if_neg (by omega), if_neg (by omega), if_neg (by omega), if_pos hk])
                        subst hk
                        clear HD4 hk0 hk1
                        have hnl := HNL.out
                        have hnl2 : ns.length ≤ 64 := by omega
                        clear hnl
                        have z6 := HA6.out.2.2.2
                        go_wp2_with (at_builtin; refine wpList_append_row kMove rfl _ _ 27 rfl 39 j0 _ 16 Try.underlying27 hj hjz0 hjz1 hjz2 rfl (by decide) _ ns fp2 rfl (HR6.out.chg (S := fun _ => False) (by (repeat (first | (with_reducible first | exact Chg.refl _ _ | assumption) | (with_reducible refine Chg.drew ?_) | ((with_reducible refine Chg.setCell ?_ ?hs _); (case hs => first | (simp; done) | (simp; omega) | omega)) | (with_reducible refine Chg.alloc ?_ _)))) (by simp)) _ _ [.int .i64 63, .int .i64 0] (⟨63, 0⟩ : Move) [] rfl ⟨rfl, rfl⟩ (by simp) (box_news (by simp)) (by simp [maxLen]; omega) (by omega) ?_; intro g7 cap7 w7 fp7 hr7 hf7 hC7)
                        have hC67 : Chg (fun q => q ∈ fp2) w6 w7 := Chg.trans (by (repeat (first | (with_reducible first | exact Chg.refl _ _ | assumption) | (with_reducible refine Chg.drew ?_) | ((with_reducible refine Chg.setCell ?_ ?hs _); (case hs => first | (simp; done) | (simp; omega) | omega)) | (with_reducible refine Chg.alloc ?_ _)))) hC7
                        go_ret
                        refine ⟨_, fp7, rfl, by rw [← HD5.out]; exact hr7, fun q hq => ?_, (HA6.out.up HLOW.out hN1 hC67 HF.out).2.2.1⟩
                        rcases hf7 q hq with h | h | h
                        · exact Nat.le_trans hN1 (HF.out q h)
                        · simp at h
                        · simp at h; omega
                      · have HD5 := Lib.hid (show ns = R by rw [← HD4.out, d8, if_neg (by omega), if_neg (by omega), if_neg (by omega), if_neg (by omega), if_neg (by omega)])
                        have b0 : (kk == 0) = false := by simp; omega
                        have b1 : (kk == 1) = false := by simp; omega
                        have b2 : (kk == 2) = false := by simp; omega
                        have b3 : (kk == 3) = false := by simp; omega
                        have b4 : (kk == 4) = false := by simp; omega
                        clear HD4 hk0 hk1 hk
                        go_wp2
                        go_ret
                        exact ⟨_, fp2, rfl, by rw [← HD5.out]; exact HR6.out, fun q hq => Nat.le_trans hN1 (HF.out q hq), HA6.out.2.2.1⟩
end Go.Proofs.Ytnnfjjgohhicjaa
