/- What impl.ValidFunc keeps: a table of counts and the predecessors. -/
import Derived.Test.YtnnfjjgohhicjaaDoorKg2
import Derived.Test.YtnnfjjgohhicjaaDoorKv2
import Derived.Test.YtnnfjjgohhicjaaDoorKmk
namespace Go.Proofs.YtnnfjjgohhicjaaDoor
open Go.RowKit
set_option linter.unusedSimpArgs false
set_option linter.unusedVariables false
set_option maxRecDepth 100000

def cnt (V : Nat) (L : List Int) : List Int := tab V fun v => (L.count (v : Int) : Int)
theorem cnt_nil (V : Nat) : cnt V [] = List.replicate V 0 := by unfold cnt; rw [← tab_const]; rfl
theorem cnt_snoc {V : Nat} {L : List Int} {a : Nat} (h : a < V) : (cnt V L).set a ((L.count (a : Int) : Int) + 1) = cnt V (L ++ [(a : Int)]) := by
  have h1 : (cnt V L).set a (((L ++ [(a : Int)]).count (a : Int) : Nat) : Int) = cnt V (L ++ [(a : Int)]) := tab_set (F' := fun v => (((L ++ [(a : Int)]).count (v : Int) : Nat) : Int)) h fun s hs => by
    rw [List.count_append, List.count_singleton]
    have : ((a : Int) == (s : Int)) = false := by simp; omega
    simp [this]
  rw [← h1]
  congr 1
  rw [List.count_append, List.count_singleton]
  simp
/-- The counts lie in block G, the predecessors apart of it. -/
def VI (G V : Nat) (v10 : Value) (P : List (List Int)) (L : List Int) (wr : World) : Prop :=
  Row 3 (kInt .i64) wr (.slice (some ⟨G, 0, none⟩) V V) (cnt V L) [G] ∧ ∃ fp, Row 49 kI64s wr v10 P fp ∧ G ∉ fp
theorem VI.chg {G V : Nat} {v10 : Value} {P : List (List Int)} {L : List Int} {w w' : World} (h : VI G V v10 P L w) (hc : Chg (fun _ => False) w w') : VI G V v10 P L w' := by
  obtain ⟨h1, fp, h2, h3⟩ := h
  exact ⟨h1.chg hc (by simp), fp, h2.chg hc (by simp), h3⟩
theorem VI.lt {G V : Nat} {v10 : Value} {P : List (List Int)} {L : List Int} {w : World} (h : VI G V v10 P L w) : G < w.heap.size := h.1.lt G (by simp)
theorem cnt_len (V : Nat) (L : List Int) : (cnt V L).length = V := tab_len _ _
theorem cnt_get {V a : Nat} (L : List Int) (h : a < V) : (cnt V L)[a]? = some (L.count (a : Int) : Int) := tab_get _ h
theorem VI.cell {G V : Nat} {v10 : Value} {P : List (List Int)} {L : List Int} {w : World} (h : VI G V v10 P L w) {a : Nat} (ha : a < V) : w.cell? ⟨G, a, none⟩ = some (.int .i64 (L.count (a : Int) : Int)) ∧ w.frozen? ⟨G, a, none⟩ = false := by
  obtain ⟨_, rfl, hq, hf⟩ := h.1.cellsAt (cnt_len _ _) (cnt_get L ha)
  have q0 := ha1 (n := a * 1) hq
  rw [Nat.mul_one] at q0
  exact ⟨q0, hf a⟩
theorem VI.store {G V : Nat} {v10 : Value} {P : List (List Int)} {L : List Int} {w : World} (h : VI G V v10 P L w) {a : Nat} (ha : a < V) : VI G V v10 P (L ++ [(a : Int)]) (w.setCell ⟨G, a, none⟩ (.int .i64 ((L.count (a : Int) : Int) + 1))) := by
  obtain ⟨h1, fp, h2, h3⟩ := h
  obtain ⟨fp', hr', hf', hC⟩ := h1.set (cnt_len _ _) ha (y := (L.count (a : Int) : Int) + 1) (cs := [.int .i64 ((L.count (a : Int) : Int) + 1)]) (f := []) ⟨rfl, rfl⟩ (by simp)
  rw [show a * (kInt .i64).sz = a from Nat.mul_one a, setCells1] at hr' hC
  rw [cnt_snoc ha] at hr'
  have e : fp' = [G] := by
    obtain ⟨css, fps, ho, hall, rfl, hn⟩ := hr'
    have : fps.flatten = [] := List.eq_nil_iff_forall_not_mem.2 fun b hb => by
      obtain ⟨f, hf, hbf⟩ := List.mem_flatten.1 hb
      obtain ⟨i, hi⟩ := List.getElem?_of_mem hf
      have hil := (List.getElem?_eq_some_iff.1 hi).1
      obtain ⟨x, hx⟩ := get_of_lt (show i < (cnt V (L ++ [(a : Int)])).length by rw [← hall.len3]; exact hil)
      obtain ⟨_, c, _, hc, hO⟩ := hall.get hx
      rw [hi] at hc
      obtain rfl := Option.some.inj hc
      rw [hO.2] at hbf
      simp at hbf
    rw [this]; rfl
  subst e
  exact ⟨hr', fp, h2.chg hC fun b hb e => h3 (e ▸ hb), h3⟩
theorem VI.pred {G V g10 n cap : Nat} {P : List (List Int)} {L : List Int} {w : World} (h : VI G V (.slice (some ⟨g10, 0, none⟩) n cap) P L w) (hn : P.length = n) {k : Nat} {xs : List Int} (hk : P[k]? = some xs) : ∃ A c, w.cell? ⟨g10, k, none⟩ = some (.slice A xs.length c) := by
  obtain ⟨_, fp, h2, _⟩ := h
  obtain ⟨_, ⟨A, c, rfl, _, _⟩, hq, _⟩ := h2.cellsAt hn hk
  have q0 := ha1 (n := k * 1) hq
  rw [Nat.mul_one] at q0
  exact ⟨A, c, q0⟩
theorem Ext.old {w : World} {o : Obj} (u : Ext (w.alloc o)) {p : Addr} {v : Value} (h : w.cell? p = some v) : u.w.cell? p = some v := ((ext_box u).cell (World.block_lt_of_cell? w _ h)).trans h
theorem good_targets {t : Term} {n low N : Int} (h : goodTerm t n low N = true) (h0 : 0 ≤ low) : ∀ q ∈ targets t, 0 ≤ q ∧ q < N := by
  rw [goodTerm_iff] at h
  intro q hq
  rcases h with ⟨h1, h⟩ | ⟨h1, h⟩ | ⟨h1, h⟩ <;> simp [targets, h1] at hq <;> omega
def argsN (ps : List Phi) : Nat := (ps.map fun p => p.args.length).sum
theorem argsN_snoc {ps : List Phi} {k : Nat} {p : Phi} (h : ps[k]? = some p) : argsN (ps.take (k + 1)) = argsN (ps.take k) + p.args.length := by
  unfold argsN; rw [List.take_add_one, h]; simp
theorem sizePhis_args (ps : List Phi) : sizePhis ps = ps.length + argsN ps := by
  induction ps with
  | nil => rfl
  | cons p ps ih => simp only [sizePhis, argsN, List.map_cons, List.sum_cons, List.length_cons] at *; omega
theorem argsN_le {ps : List Phi} {L : Nat} (h2 : ∀ (i : Nat) p, ps[i]? = some p → okPhi L p) (k : Nat) : argsN (ps.take k) ≤ ps.length * L := by
  have h3 := sum_take_le (fun p : Phi => p.args.length) ps k
  have h4 := sum_bound (f := fun p : Phi => p.args.length) (L := L) (xs := ps) fun i p hp => h2 i p hp
  unfold argsN; omega
def TermsUpTo (m : Func) (k : Nat) : Prop := ∀ (j : Nat) b, j < k → m.blocks[j]? = some b → goodTerm b.term m.values 1 m.blocks.length = true ∧ sameEnds b.term = false
theorem termsUpTo_snoc {m : Func} {k : Nat} {b : Block} (h : TermsUpTo m k) (hb : m.blocks[k]? = some b) (h1 : goodTerm b.term m.values 1 m.blocks.length = true) (h2 : sameEnds b.term = false) : TermsUpTo m (k + 1) := by
  intro j c hj hc
  rcases Nat.lt_or_eq_of_le (Nat.le_of_lt_succ hj) with h3 | rfl
  · exact h j c h3 hc
  · obtain rfl := Option.some.inj (hb.symm.trans hc); exact ⟨h1, h2⟩
/-- What is known of the blocks that have been gone through. -/
def BlksUpTo (m : Func) (k : Nat) : Prop := ∀ (j : Nat) b, j < k → m.blocks[j]? = some b → (∀ (i : Nat) p, b.phis[i]? = some p → phiOK m.values (preds m.blocks j).length p = true ∧ inR m.values p.dst = true) ∧ (b.instrs.all fun x => goodInstr x m.values 10) = true
theorem blksUpTo_snoc {m : Func} {k : Nat} {b : Block} (h : BlksUpTo m k) (hb : m.blocks[k]? = some b) (h1 : b.phis.all (fun p => phiOK m.values (preds m.blocks k).length p && inR m.values p.dst) = true) (h2 : (b.instrs.all fun x => goodInstr x m.values 10) = true) : BlksUpTo m (k + 1) := by
  intro j c hj hc
  rcases Nat.lt_or_eq_of_le (Nat.le_of_lt_succ hj) with h3 | rfl
  · exact h j c h3 hc
  · obtain rfl := Option.some.inj (hb.symm.trans hc)
    exact ⟨fun i p hp => by simpa using List.all_eq_true.1 h1 p (List.mem_of_getElem? hp), h2⟩
theorem vf_end {m : Func} (h1 : 0 ≤ m.values ∧ m.values ≤ 2000) (h2 : 1 ≤ m.blocks.length ∧ m.blocks.length ≤ 1000) (h3 : sizeF m.blocks ≤ 4000) (h4 : TermsUpTo m m.blocks.length) (h5 : BlksUpTo m m.blocks.length) (h6 : ∀ v : Nat, v < m.values → (defs m.blocks).count (v : Int) = 1) : validF m = true := by
  have lt : ∀ {j : Nat} {b : Block}, m.blocks[j]? = some b → j < m.blocks.length := fun h => (List.getElem?_eq_some_iff.1 h).1
  have hi : ∀ (j : Nat) b, m.blocks[j]? = some b → ∀ (i : Nat) x, b.instrs[i]? = some x → goodInstr x m.values 10 = true := fun j b hb i x hx => List.all_eq_true.1 (h5 j b (lt hb) hb).2 x (List.mem_of_getElem? hx)
  exact vf_true h1 h2 h3 (fun j b hb => h4 j b (lt hb) hb) hi (fun j b hb i p hp => ((h5 j b (lt hb) hb).1 i p hp).1)
    ((defsOK_count h1.1).2 ⟨defs_range (fun j b hb i p hp => inR_iff.1 ((h5 j b (lt hb) hb).1 i p hp).2) hi, h6⟩)
theorem pred_len {m : Func} (h : TermsUpTo m m.blocks.length) (k : Nat) : predM k m.blocks 0 = preds m.blocks k :=
  predM_preds (n := m.values) (low := 1) (N := m.blocks.length) k 0 fun b hb => by
    obtain ⟨j, hj⟩ := List.getElem?_of_mem hb
    exact h j b (List.getElem?_eq_some_iff.1 hj).1 hj
end Go.Proofs.YtnnfjjgohhicjaaDoor
