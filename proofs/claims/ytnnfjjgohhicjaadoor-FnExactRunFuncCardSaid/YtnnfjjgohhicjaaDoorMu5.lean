/- The law's walk: laws.FnExactRunFunc. -/
import Derived.Test.YtnnfjjgohhicjaaDoorMu4
import Derived.Test.YtnnfjjgohhicjaaDoorMu1
import Derived.Test.YtnnfjjgohhicjaaDoorKy
import Derived.Test.YtnnfjjgohhicjaaDoorKs
import Derived.Deep.RegionHeld3
import Derived.Test.YtnnfjjgohhicjaaDoorMu3
namespace Go.Proofs.YtnnfjjgohhicjaaDoor
open Go.RowKit
set_option linter.unusedSimpArgs false
set_option linter.unusedVariables false
set_option maxRecDepth 100000

def InR (f : List Nat) (lo hi : Nat) : Prop := ∀ b ∈ f, lo ≤ b ∧ b < hi
/-- n0: the argument; n2: the spec's outcome. -/
structure LS2 (w0 : World) (R : Outc) (n0 n2 : Nat) (l0 : List Value) (T0 : TypeId) (vh5 vt5 : Value) (fh5 ft5 : List Nat) (w : World) : Prop where
  hb : Below w0.heap.size w0 w
  k0 : Bk n0 T0 l0 w
  k2 : Bk n2 51 (wolR R vh5 vt5) w
  h5 : Row 2 kI64 w vh5 R.heap fh5
  t5 : Row 2 kI64 w vt5 R.trace ft5
/-- n1: the copy; n3: the program's outcome. -/
structure LSt (w0 : World) (R : Outc) (n0 n1 n2 n3 : Nat) (l0 l1 : List Value) (T0 T1 : TypeId) (vh5 vt5 vh9 vt9 : Value) (fh5 ft5 fh9 ft9 : List Nat) (w : World) : Prop where
  s2 : LS2 w0 R n0 n2 l0 T0 vh5 vt5 fh5 ft5 w
  k1 : Bk n1 T1 l1 w
  k3 : Bk n3 51 (wolR R vh9 vt9) w
  h9 : Row 2 kI64 w vh9 R.heap fh9
  t9 : Row 2 kI64 w vt9 R.trace ft9
section
variable {w0 : World} {R : Outc} {n0 n1 n2 n3 : Nat} {l0 l1 : List Value} {T0 T1 : TypeId} {vh5 vt5 vh9 vt9 : Value} {fh5 ft5 fh9 ft9 : List Nat} {w w' : World} {S : Nat → Prop}
theorem LS2.keep (h : LS2 w0 R n0 n2 l0 T0 vh5 vt5 fh5 ft5 w) (hc : Chg S w w') (hs : ∀ k, S k → w0.heap.size ≤ k ∧ k ≠ n0 ∧ k ≠ n2 ∧ k ∉ fh5 ∧ k ∉ ft5) : LS2 w0 R n0 n2 l0 T0 vh5 vt5 fh5 ft5 w' :=
  ⟨h.hb.trans (hc.below h.hb.size fun k hk => (hs k hk).1), h.k0.chg hc fun e => (hs _ e).2.1 rfl, h.k2.chg hc fun e => (hs _ e).2.2.1 rfl, h.h5.chg hc fun b hb e => (hs _ e).2.2.2.1 hb, h.t5.chg hc fun b hb e => (hs _ e).2.2.2.2 hb⟩
theorem LS2.below (h : LS2 w0 R n0 n2 l0 T0 vh5 vt5 fh5 ft5 w) (hb : Below w.heap.size w w') : LS2 w0 R n0 n2 l0 T0 vh5 vt5 fh5 ft5 w' := h.keep (chg_of hb) fun _ h => h.elim
theorem LSt.keep (h : LSt w0 R n0 n1 n2 n3 l0 l1 T0 T1 vh5 vt5 vh9 vt9 fh5 ft5 fh9 ft9 w) (hc : Chg S w w') (hs : ∀ k, S k → w0.heap.size ≤ k ∧ k ≠ n0 ∧ k ≠ n2 ∧ k ∉ fh5 ∧ k ∉ ft5) (hs2 : ∀ k, S k → k ≠ n1 ∧ k ≠ n3 ∧ k ∉ fh9 ∧ k ∉ ft9) :
    LSt w0 R n0 n1 n2 n3 l0 l1 T0 T1 vh5 vt5 vh9 vt9 fh5 ft5 fh9 ft9 w' :=
  ⟨h.s2.keep hc hs, h.k1.chg hc fun e => (hs2 _ e).1 rfl, h.k3.chg hc fun e => (hs2 _ e).2.1 rfl, h.h9.chg hc fun b hb e => (hs2 _ e).2.2.1 hb, h.t9.chg hc fun b hb e => (hs2 _ e).2.2.2 hb⟩
theorem LSt.below (h : LSt w0 R n0 n1 n2 n3 l0 l1 T0 T1 vh5 vt5 vh9 vt9 fh5 ft5 fh9 ft9 w) (hb : Below w.heap.size w w') : LSt w0 R n0 n1 n2 n3 l0 l1 T0 T1 vh5 vt5 vh9 vt9 fh5 ft5 fh9 ft9 w' := h.keep (chg_of hb) (fun _ h => h.elim) (fun _ h => h.elim)
/-- Blocks of an argument's copy, between the two runs. -/
theorem LSt.mark {fp : List Nat} {s4 s5 s8 s9 lo hi : Nat} (h : LSt w0 R n0 n1 n2 n3 l0 l1 T0 T1 vh5 vt5 vh9 vt9 fh5 ft5 fh9 ft9 w) (hc : Chg (fun b => b ∈ fp) w w') (hf : InR fp lo hi) (h5 : InR fh5 s4 s5) (t5 : InR ft5 s4 s5) (h9 : InR fh9 s8 s9) (t9 : InR ft9 s8 s9)
    (q : w0.heap.size ≤ lo ∧ n0 < lo ∧ n2 < lo ∧ s5 ≤ lo ∧ hi ≤ s8 ∧ hi ≤ n3) (q1 : n1 < lo ∨ hi ≤ n1) : LSt w0 R n0 n1 n2 n3 l0 l1 T0 T1 vh5 vt5 vh9 vt9 fh5 ft5 fh9 ft9 w' := by
  obtain ⟨q2, q3, q4, q5, q6, q7⟩ := q
  refine h.keep hc (fun k hk => ?_) (fun k hk => ?_)
  · have := hf k hk
    exact ⟨by omega, by omega, by omega, fun hm => by have := h5 k hm; omega, fun hm => by have := t5 k hm; omega⟩
  · have := hf k hk
    exact ⟨by omega, by omega, fun hm => by have := h9 k hm; omega, fun hm => by have := t9 k hm; omega⟩
theorem LSt.outs {s4 s5 s8 s9 : Nat} (h : LSt w0 R n0 n1 n2 n3 l0 l1 T0 T1 vh5 vt5 vh9 vt9 fh5 ft5 fh9 ft9 w) (hc : Chg (fun b => b ∈ ft9 ∨ b ∈ fh9) w w') (h5 : InR fh5 s4 s5) (t5 : InR ft5 s4 s5) (h9 : InR fh9 s8 s9) (t9 : InR ft9 s8 s9)
    (q : w0.heap.size ≤ s8 ∧ n0 < s8 ∧ n2 < s8 ∧ s5 ≤ s8 ∧ s9 ≤ n3) : LS2 w0 R n0 n2 l0 T0 vh5 vt5 fh5 ft5 w' ∧ Bk n3 51 (wolR R vh9 vt9) w' := by
  obtain ⟨q2, q3, q4, q5, q6⟩ := q
  have hf : ∀ k, k ∈ ft9 ∨ k ∈ fh9 → s8 ≤ k ∧ k < s9 := fun k hk => hk.elim (t9 k) (h9 k)
  refine ⟨h.s2.keep hc fun k hk => ?_, h.k3.chg hc fun hk => by have := hf _ hk; omega⟩
  have := hf k hk
  exact ⟨by omega, by omega, by omega, fun hm => by have := h5 k hm; omega, fun hm => by have := t5 k hm; omega⟩
end
theorem Row.inR {α : Type} {e : TypeId} {d : Kd α} {w : World} {v : Value} {xs : List α} {fp : List Nat} {lo : Nat} (h : Row e d w v xs fp) (hl : ∀ b ∈ fp, lo ≤ b) : InR fp lo w.heap.size := fun b hb => ⟨hl b hb, h.lt b hb⟩
/-- An outcome's five cells. -/
theorem out5 {n : Nat} {R : Outc} {vh vt : Value} {w : World} (h : Bk n 51 (wolR R vh vt) w) : w.cell? ⟨n, 0, none⟩ = some (.int .i64 R.code) ∧ w.cell? ⟨n, 1, none⟩ = some (.int .i64 R.value) ∧ w.cell? ⟨n, 2, none⟩ = some (.int .i64 R.steps) ∧ w.cell? ⟨n, 3, none⟩ = some vt ∧ w.cell? ⟨n, 4, none⟩ = some vh :=
  ⟨h.cell 0 rfl, h.cell 1 rfl, h.cell 2 rfl, h.cell 3 rfl, h.cell 4 rfl⟩
theorem two {n : Nat} {T : TypeId} {a b : Value} {w : World} (h : Bk n T [a, b] w) : w.cell? ⟨n, 0, none⟩ = some a ∧ w.cell? ⟨n, 1, none⟩ = some b := ⟨h.cell 0 rfl, h.cell 1 rfl⟩
/-- A run's trace is no longer than its fuel; its heap has 32 cells. -/
theorem runS_len (Bf : Int → List Instr × Term) (E : Int → Int → Wd → Wd) (hE : ∀ p q s, (E p q s).trace = s.trace ∧ (E p q s).heap = s.heap) : ∀ (n : Nat) (b : Int) (k : Nat) (s : Wd), (runS Bf E n b k s).trace.length ≤ s.trace.length + n ∧ (runS Bf E n b k s).heap.length = s.heap.length
  | 0, b, k, s => by simp [runS, fin]
  | n + 1, b, k, s => by
    unfold runS
    split
    · split
      · simp [fin, step]
      · rename_i s' he
        obtain ⟨e1, e2, e3, e4, e5, e6⟩ := exec_same he
        have := runS_len Bf E hE n b (k + 1) s'
        simp only [step] at e5 e6
        omega
    · split
      · simp [fin, step]
      · have := runS_len Bf E hE n (nextB (Bf b).2 s) 0 (E b (nextB (Bf b).2 s) (step s))
        rw [(hE _ _ _).1, (hE _ _ _).2, show (step s).trace = s.trace from rfl, show (step s).heap = s.heap from rfl] at this
        omega
theorem runMach_len (m : Mach) (args heap : List Int) (fuel : Int) : (runMach m args heap fuel).trace.length ≤ 1048576 ∧ (runMach m args heap fuel).heap.length ≤ 1048576 := by
  unfold runMach
  split
  · rename_i h
    obtain ⟨-, -, h3, h4⟩ := runOK_iff.1 h.2
    have := runS_len (blkM m) (fun _ _ s => s) (fun _ _ _ => ⟨rfl, rfl⟩) fuel.toNat 0 0 (initW args heap fuel m.regs.toNat)
    rw [show (initW args heap fuel m.regs.toNat).trace.length = 0 from rfl, show (initW args heap fuel m.regs.toNat).heap.length = 32 from heap32_len _] at this
    omega
  · simp [badOut]
end Go.Proofs.YtnnfjjgohhicjaaDoor
namespace Go.Proofs.YtnnfjjgohhicjaaDoor
open Go.RowKit
set_option linter.unusedSimpArgs false
set_option linter.unusedVariables false
set_option maxRecDepth 100000

theorem szL_mem {α : Type} {f : α → Int → Int} (hf : ∀ x l, 0 ≤ l → f x l ≤ l ∧ -1 ≤ f x l) : ∀ (xs : List α) (l : Int), 0 ≤ l → 0 ≤ szL f xs l → ∀ x ∈ xs, ∃ q, 0 ≤ q ∧ q ≤ l ∧ 0 ≤ f x q
  | [], _, _, _, x, hx => by simp at hx
  | y :: r, l, hl, h, x, hx => by
    simp only [szL] at h
    have h1 := hf y l hl
    split at h
    · omega
    · rcases List.mem_cons.1 hx with rfl | hx
      · exact ⟨l, hl, by omega, by omega⟩
      · obtain ⟨q, q0, q1, q2⟩ := szL_mem hf r (f y l) (by omega) h x hx
        exact ⟨q, q0, by omega, q2⟩
theorem okBlk_mono {L L' : Nat} {b : Block} (h : okBlk L b) (hl : L ≤ L') : okBlk L' b := ⟨Nat.le_trans h.1 hl, fun i p hp => Nat.le_trans (h.2.1 i p hp) hl, Nat.le_trans h.2.2 hl⟩
theorem szS_mem {α : Type} {f : α → Int → Int} (hf : ∀ x l, 0 ≤ l → f x l ≤ l ∧ -1 ≤ f x l) {xs : List α} {l : Int} (h0 : 0 ≤ l) (h : ¬ szS f xs l < 0) : (xs.length : Int) ≤ l ∧ ∀ x ∈ xs, ∃ q, 0 ≤ q ∧ q ≤ l ∧ 0 ≤ f x q := by
  have h1 := szN_le xs.length l h0
  unfold szS at h
  split at h
  · omega
  · rename_i hn
    refine ⟨by simp only [szN] at hn; split at hn <;> omega, fun x hx => ?_⟩
    obtain ⟨q, q0, q1, q2⟩ := szL_mem hf xs (szN xs.length l) (by omega) (by omega) x hx
    exact ⟨q, q0, by omega, q2⟩
theorem szFunc_len {m : Func} {l : Int} (h0 : 0 ≤ l) (hl : l ≤ 1048576) (h : ¬ szFunc m l < 0) : (m.blocks.length : Int) ≤ l ∧ ∀ (i : Nat) b, m.blocks[i]? = some b → okBlk 1048576 b := by
  obtain ⟨h1, h2⟩ := szS_mem szBlk_le h0 (xs := m.blocks) h
  refine ⟨h1, fun i b hb => ?_⟩
  obtain ⟨q, q0, q1, q2⟩ := h2 b (List.mem_of_getElem? hb)
  unfold szBlk at q2
  have h3 := szS_le szPhi_le b.phis q q0
  split at q2
  · omega
  · rename_i hn
    obtain ⟨p1, p2⟩ := szS_mem szPhi_le q0 (xs := b.phis) hn
    refine ⟨by omega, fun j p hp => ?_, ?_⟩
    · obtain ⟨r, r0, r1, r2⟩ := p2 p (List.mem_of_getElem? hp)
      simp only [szPhi, szN] at r2
      unfold okPhi
      split at r2 <;> omega
    · simp only [szN] at q2
      split at q2 <;> omega
set_option maxHeartbeats 4000000 in
theorem lawValidFunc_c (A : Option Addr) (c : Nat) (m : Func) (w : World) (hx : C (kBlock 0 0 0) w A m.blocks) (hS : Shapes w) (hn : m.blocks.length ≤ 9223372036854775807) (hm : ∀ (i : Nat) b, m.blocks[i]? = some b → okBlk 9223372036854775807 b) :
    Calls Tryd.prog 4 #[.agg #[.int .i64 m.values, .slice A m.blocks.length c]] w fun e w' => e = .returned (.bool true) ∧ Below w.heap.size w w' := by
  by_cases hz : szFunc m 1048576 < 0
  · have HSZ := Lib.hid (fun W (h : C (kBlock 0 0 0) W A m.blocks) => szFunc_c A c m 1048576 W h hn hm (by omega) (by omega))
    go_enter Tryd.func4, Tryd.ntmps4
    go_wp2_with (go_at_call 14; refine (HSZ.out _ (hx.below (by repeat (first | (with_reducible first | exact Below.refl _ _ | assumption | exact ext_box _) | (with_reducible apply Below.drew) | ((with_reducible refine Below.setCell ?_ ?hs _); (case hs => first | (simp; done) | (simp; omega) | omega)) | ((with_reducible refine Below.alloc ?_ ?hs _); (case hs => first | (simp; done) | (simp; omega) | omega)))))).mono ?_; rintro e w1 ⟨rfl, hb1⟩; have HB1 := Below.then_ (w := w) (by repeat (first | (with_reducible first | exact Below.refl _ _ | assumption | exact ext_box _) | (with_reducible apply Below.drew) | ((with_reducible refine Below.setCell ?_ ?hs _); (case hs => first | (simp; done) | (simp; omega) | omega)) | ((with_reducible refine Below.alloc ?_ ?hs _); (case hs => first | (simp; done) | (simp; omega) | omega)))) hb1)
    go_ret
    exact ⟨rfl, HB1⟩
  · have HSZ := Lib.hid (fun W (h : C (kBlock 0 0 0) W A m.blocks) => szFunc_c A c m 1048576 W h hn hm (by omega) (by omega))
    have HB := Lib.hid (szFunc_len (by omega) (by omega) hz)
    go_enter Tryd.func4, Tryd.ntmps4
    have hbl : m.blocks.length ≤ 1048576 := by have := HB.out.1; omega
    have HIL := Lib.hid (show ∀ (i : Nat) b, m.blocks[i]? = some b → okBlk 1048576 b from HB.out.2)
    have HTO := Lib.hid (fun W (h : C (kBlock 0 0 0) W A m.blocks) => toFunc_c A c m W h hbl HIL.out)
    have HSV := Lib.hid (fun A c W (h : C (kBlock 0 0 0) W A m.blocks) => validFS_c A c m W h hbl HIL.out)
    go_upto_region 6 with (first
      | (go_at_call 14; refine (HSZ.out _ (hx.below (by repeat (first | (with_reducible first | exact Below.refl _ _ | assumption | exact ext_box _) | (with_reducible apply Below.drew) | ((with_reducible refine Below.setCell ?_ ?hs _); (case hs => first | (simp; done) | (simp; omega) | omega)) | ((with_reducible refine Below.alloc ?_ ?hs _); (case hs => first | (simp; done) | (simp; omega) | omega)))))).mono ?_; rintro e w1 ⟨rfl, hb1⟩; have HB1 := Below.then_ (w := w) (by repeat (first | (with_reducible first | exact Below.refl _ _ | assumption | exact ext_box _) | (with_reducible apply Below.drew) | ((with_reducible refine Below.setCell ?_ ?hs _); (case hs => first | (simp; done) | (simp; omega) | omega)) | ((with_reducible refine Below.alloc ?_ ?hs _); (case hs => first | (simp; done) | (simp; omega) | omega)))) hb1; obtain ⟨hc1, hf1⟩ := bcell hb1; have zw1 : w.heap.size < w1.heap.size := (by have := hb1.size; (try simp at this); omega))
      | (go_at_call 16; refine (HTO.out _ (hx.below (by assumption))).mono ?_; rintro e w2 ⟨v2, fp2, rfl, r2, -, hb2⟩; obtain ⟨A2, c2, rfl, hl2⟩ := r2.form; have HR2 : Hid (C (kBlock 0 0 0) w2 A2 m.blocks) := Lib.hid r2.reads; clear r2; have HB2 := Below.then_ (w := w) (by assumption) hb2; obtain ⟨hc2, hf2⟩ := bcell hb2; have zw2 : w.heap.size < w2.heap.size := (by have := hb2.size; (try simp at this); omega))
      | (go_at_call 15; refine (HSV.out _ _ _ HR2.out).mono ?_; rintro e w3 ⟨rfl, hb3⟩; have HB3 := Below.then_ (w := w) (by assumption) hb3; obtain ⟨hc3, hf3⟩ := bcell hb3; have zw3 : w.heap.size < w3.heap.size := (by have := hb3.size; (try simp at this); omega)))
    have HIV := Lib.hid (fun A c W (h : C (kBlock 0 0 0) W A m.blocks) (h2 : Below w.heap.size w W) => validF_i A c m W h (hS.below h2 hS.pos) hbl HIL.out)
    go_upto_region 10 with (first
      | (go_at_call 16; refine (HTO.out _ (hx.below (by assumption))).mono ?_; rintro e w4 ⟨v4, fp4, rfl, r4, -, hb4⟩; obtain ⟨A4, c4, rfl, hl4⟩ := r4.form; have HR4 : Hid (C (kBlock 0 0 0) w4 A4 m.blocks) := Lib.hid r4.reads; clear r4; have HB4 := Below.then_ (w := w) (by assumption) hb4; obtain ⟨hc4, hf4⟩ := bcell hb4; have zw4 : w.heap.size < w4.heap.size := (by have := hb4.size; (try simp at this); omega))
      | (go_at_call 17; refine (HIV.out _ _ _ (HR4.out.below (by repeat (first | (with_reducible first | exact Below.refl _ _ | assumption | exact ext_box _) | (with_reducible apply Below.drew) | ((with_reducible refine Below.setCell ?_ ?hs _); (case hs => first | (simp; done) | (simp; omega) | omega)) | ((with_reducible refine Below.alloc ?_ ?hs _); (case hs => first | (simp; done) | (simp; omega) | omega))))) (by repeat (first | (with_reducible first | exact Below.refl _ _ | assumption | exact ext_box _) | (with_reducible apply Below.drew) | ((with_reducible refine Below.setCell ?_ ?hs _); (case hs => first | (simp; done) | (simp; omega) | omega)) | ((with_reducible refine Below.alloc ?_ ?hs _); (case hs => first | (simp; done) | (simp; omega) | omega))))).mono ?_; rintro e w5 ⟨rfl, hb5⟩; have HB5 := Below.then_ (w := w) (by repeat (first | (with_reducible first | exact Below.refl _ _ | assumption | exact ext_box _) | (with_reducible apply Below.drew) | ((with_reducible refine Below.setCell ?_ ?hs _); (case hs => first | (simp; done) | (simp; omega) | omega)) | ((with_reducible refine Below.alloc ?_ ?hs _); (case hs => first | (simp; done) | (simp; omega) | omega)))) hb5; have HR5 := Lib.hid ((HR4.out.below (by repeat (first | (with_reducible first | exact Below.refl _ _ | assumption | exact ext_box _) | (with_reducible apply Below.drew) | ((with_reducible refine Below.setCell ?_ ?hs _); (case hs => first | (simp; done) | (simp; omega) | omega)) | ((with_reducible refine Below.alloc ?_ ?hs _); (case hs => first | (simp; done) | (simp; omega) | omega))))).below hb5); obtain ⟨hc5, hf5⟩ := bcell hb5; have zv5 : w4.heap.size < w5.heap.size := (by have := hb5.size; (try simp at this); omega); have zw5 : w.heap.size < w5.heap.size := (by have := hb5.size; (try simp at this); omega)))
    have HEQ := Lib.hid (fun A0 A1 c0 c1 W (h : C (kBlock 0 0 0) W A0 m.blocks) (h2 : C (kBlock 0 0 0) W A1 m.blocks) => eqFunc_c A0 A1 c0 c1 m m W h h2 (by omega) (by omega) (fun i b hb => okBlk_mono (HIL.out i b hb) (by omega)) (fun i b hb => okBlk_mono (HIL.out i b hb) (by omega)))
    have y0 : w5.cell? ⟨w4.heap.size, 0, none⟩ = some (.int .i64 m.values) := by simp [*]
    have y1 : w5.cell? ⟨w4.heap.size, 1, none⟩ = some (.slice A4 m.blocks.length c4) := by simp [*]
    have y2 : w5.cell? ⟨w.heap.size, 0, none⟩ = some (.int .i64 m.values) := (hc5 _ _ (by simp; omega)).trans ((((Below.refl _ w4).alloc (Nat.le_refl _) _).cell zw4).trans ((hc4 _ _ zw3).trans ((hc3 _ _ zw2).trans ((hc2 _ _ zw1).trans ((hc1 _ _ (by simp)).trans (by simp))))))
    have y3 : w5.cell? ⟨w.heap.size, 1, none⟩ = some (.slice A m.blocks.length c) := (hc5 _ _ (by simp; omega)).trans ((((Below.refl _ w4).alloc (Nat.le_refl _) _).cell zw4).trans ((hc4 _ _ zw3).trans ((hc3 _ _ zw2).trans ((hc2 _ _ zw1).trans ((hc1 _ _ (by simp)).trans (by simp))))))
    have KS := Lib.hid (fun w' (h : Below w5.heap.size w5 w') => (⟨(h.cell zv5).trans y0, (h.cell zv5).trans y1, (h.cell zw5).trans y2, (h.cell zw5).trans y3, h⟩ : w'.cell? ⟨w4.heap.size, 0, none⟩ = some (.int .i64 m.values) ∧ w'.cell? ⟨w4.heap.size, 1, none⟩ = some (.slice A4 m.blocks.length c4) ∧ w'.cell? ⟨w.heap.size, 0, none⟩ = some (.int .i64 m.values) ∧ w'.cell? ⟨w.heap.size, 1, none⟩ = some (.slice A m.blocks.length c) ∧ Below w5.heap.size w5 w'))
    go_region_held3 (fun w' => w'.cell? ⟨w4.heap.size, 0, none⟩ = some (.int .i64 m.values) ∧ w'.cell? ⟨w4.heap.size, 1, none⟩ = some (.slice A4 m.blocks.length c4) ∧ w'.cell? ⟨w.heap.size, 0, none⟩ = some (.int .i64 m.values) ∧ w'.cell? ⟨w.heap.size, 1, none⟩ = some (.slice A m.blocks.length c) ∧ Below w5.heap.size w5 w') ((refine KS.out _ ?_; (repeat (first | (with_reducible first | exact Below.refl _ _ | assumption | exact ext_box _) | (with_reducible apply Below.drew) | ((with_reducible refine Below.setCell ?_ ?hs _); (case hs => first | (simp; done) | (simp; omega) | omega)) | ((with_reducible refine Below.alloc ?_ ?hs _); (case hs => first | (simp; done) | (simp; omega) | omega))))))
      (first
      | (go_at_call 16; refine (HTO.out _ (hx.below (Below.then_ HB5 (by (repeat (first | (with_reducible first | exact Below.refl _ _ | assumption | exact ext_box _) | (with_reducible apply Below.drew) | ((with_reducible refine Below.setCell ?_ ?hs _); (case hs => first | (simp; done) | (simp; omega) | omega)) | ((with_reducible refine Below.alloc ?_ ?hs _); (case hs => first | (simp; done) | (simp; omega) | omega)))))))).mono ?_; rintro e w6 ⟨v6, fp6, rfl, r6, -, hb6⟩; obtain ⟨A6, c6, rfl, hl6⟩ := r6.form; have HR6 : Hid (C (kBlock 0 0 0) w6 A6 m.blocks) := Lib.hid r6.reads; clear r6; have HR65 := Lib.hid (HR5.out.below (Below.then_ (by repeat (first | (with_reducible first | exact Below.refl _ _ | assumption | exact ext_box _) | (with_reducible apply Below.drew) | ((with_reducible refine Below.setCell ?_ ?hs _); (case hs => first | (simp; done) | (simp; omega) | omega)) | ((with_reducible refine Below.alloc ?_ ?hs _); (case hs => first | (simp; done) | (simp; omega) | omega)))) hb6)); have HB6 := Below.then_ (w := w5) (by repeat (first | (with_reducible first | exact Below.refl _ _ | assumption | exact ext_box _) | (with_reducible apply Below.drew) | ((with_reducible refine Below.setCell ?_ ?hs _); (case hs => first | (simp; done) | (simp; omega) | omega)) | ((with_reducible refine Below.alloc ?_ ?hs _); (case hs => first | (simp; done) | (simp; omega) | omega)))) hb6)
      | (go_at_call 18; refine (HEQ.out _ _ _ _ _ (HR65.out.below (by repeat (first | (with_reducible first | exact Below.refl _ _ | assumption | exact ext_box _) | (with_reducible apply Below.drew) | ((with_reducible refine Below.setCell ?_ ?hs _); (case hs => first | (simp; done) | (simp; omega) | omega)) | ((with_reducible refine Below.alloc ?_ ?hs _); (case hs => first | (simp; done) | (simp; omega) | omega))))) (HR6.out.below (by repeat (first | (with_reducible first | exact Below.refl _ _ | assumption | exact ext_box _) | (with_reducible apply Below.drew) | ((with_reducible refine Below.setCell ?_ ?hs _); (case hs => first | (simp; done) | (simp; omega) | omega)) | ((with_reducible refine Below.alloc ?_ ?hs _); (case hs => first | (simp; done) | (simp; omega) | omega)))))).mono ?_; rintro e w7 ⟨rfl, hb7⟩; have HB7 := Below.then_ (w := w5) (by repeat (first | (with_reducible first | exact Below.refl _ _ | assumption | exact ext_box _) | (with_reducible apply Below.drew) | ((with_reducible refine Below.setCell ?_ ?hs _); (case hs => first | (simp; done) | (simp; omega) | omega)) | ((with_reducible refine Below.alloc ?_ ?hs _); (case hs => first | (simp; done) | (simp; omega) | omega)))) hb7))
    all_goals go_wp2
    all_goals go_ret
    all_goals exact ⟨rfl, Below.trans HB5 (Below.mono (by (repeat (first | (with_reducible first | exact Below.refl _ _ | assumption | exact ext_box _) | (with_reducible apply Below.drew) | ((with_reducible refine Below.setCell ?_ ?hs _); (case hs => first | (simp; done) | (simp; omega) | omega)) | ((with_reducible refine Below.alloc ?_ ?hs _); (case hs => first | (simp; done) | (simp; omega) | omega))))) (by omega))⟩
end Go.Proofs.YtnnfjjgohhicjaaDoor
namespace Go.Proofs.YtnnfjjgohhicjaaDoor
open Go.RowKit
set_option linter.unusedSimpArgs false
set_option linter.unusedVariables false
set_option maxRecDepth 100000

theorem C_blk {e f g : TypeId} {w : World} {A : Option Addr} {xs : List Block} (h : C (kBlock e f g) w A xs) : C (kBlock 0 0 0) w A xs := by
  first | exact h | (unfold C at h ⊢; exact h) | (simpa [C, kBlock, kPhi, kIso, kProd, kSlice] using h)
theorem enterP_tr (m : Func) (p q : Int) (s : Wd) : (enterP m p q s).trace = s.trace ∧ (enterP m p q s).heap = s.heap := ⟨rfl, rfl⟩
theorem runFunc_len (m : Func) (args heap : List Int) (fuel : Int) : (runFunc m args heap fuel).trace.length ≤ 1048576 ∧ (runFunc m args heap fuel).heap.length ≤ 1048576 := by
  unfold runFunc
  split
  · rename_i h
    obtain ⟨-, -, h3, h4⟩ := runOK_iff.1 h.2
    have := runS_len (blkF m) (enterP m) (enterP_tr m) fuel.toNat 0 0 (initW args heap fuel m.values.toNat)
    rw [show (initW args heap fuel m.values.toNat).trace.length = 0 from rfl, show (initW args heap fuel m.values.toNat).heap.length = 32 from heap32_len _] at this
    omega
  · simp [badOut]
set_option maxHeartbeats 8000000 in
theorem lawRunFunc_c (A L H : Option Addr) (c ca ch : Nat) (m : Func) (args heap : List Int) (fuel : Int) (w : World) (hx : C (kBlock 0 0 0) w L m.blocks) (hA : C kI64 w A args) (hH : C kI64 w H heap) (hS : Shapes w) (hn : m.blocks.length ≤ 9223372036854775807) (hm : ∀ (i : Nat) b, m.blocks[i]? = some b → okBlk 9223372036854775807 b)
    (ha : args.length ≤ 9223372036854775807) (hh : heap.length ≤ 9223372036854775807) :
    Calls Tryd.prog 8 #[.agg #[.int .i64 m.values, .slice L m.blocks.length c], .slice A args.length ca, .slice H heap.length ch, .int .i64 fuel] w fun e w' => e = .returned (.bool true) ∧ Below w.heap.size w w' := by
  by_cases hla : args.length ≤ 1048576
  · by_cases hlh : heap.length ≤ 1048576
    · have HSZ := Lib.hid (fun W (h : C (kBlock 0 0 0) W L m.blocks) => szFunc_c L c m 1048576 W h hn hm (by omega) (by omega))
      by_cases hz : szFunc m 1048576 < 0
      · go_enter Tryd.func8, Tryd.ntmps8
        go_wp2_with (go_at_call 14; refine (HSZ.out _ (hx.below (by repeat (first | (with_reducible first | exact Below.refl _ _ | assumption | exact ext_box _) | (with_reducible apply Below.drew) | ((with_reducible refine Below.setCell ?_ ?hs _); (case hs => first | (simp; done) | (simp; omega) | omega)) | ((with_reducible refine Below.alloc ?_ ?hs _); (case hs => first | (simp; done) | (simp; omega) | omega)))))).mono ?_; rintro e w1 ⟨rfl, hb1⟩; have HB1 := Below.then_ (w := w) (by repeat (first | (with_reducible first | exact Below.refl _ _ | assumption | exact ext_box _) | (with_reducible apply Below.drew) | ((with_reducible refine Below.setCell ?_ ?hs _); (case hs => first | (simp; done) | (simp; omega) | omega)) | ((with_reducible refine Below.alloc ?_ ?hs _); (case hs => first | (simp; done) | (simp; omega) | omega)))) hb1)
        go_ret
        exact ⟨rfl, HB1⟩
      · have HB := Lib.hid (szFunc_len (by omega) (by omega) hz)
        have hbl : m.blocks.length ≤ 1048576 := by have := HB.out.1; omega
        have HIL := Lib.hid (show ∀ (i : Nat) b, m.blocks[i]? = some b → okBlk 1048576 b from HB.out.2)
        have HTO := Lib.hid (fun W (h : Below w.heap.size w W) => toFunc_c L c m W (hx.below h) hbl HIL.out)
        have HTA := Lib.hid (fun W (h : Below w.heap.size w W) => toInt64S_c A ca args W (hA.below h) hla)
        have HTH := Lib.hid (fun W (h : Below w.heap.size w W) => toInt64S_c H ch heap W (hH.below h) hlh)
        obtain ⟨R, hR⟩ : ∃ R, runFunc m args heap fuel = R := ⟨_, rfl⟩
        have hrl := runFunc_len m args heap fuel
        have HRM := Lib.hid (show ∀ W e w', RetOut W (runFunc m args heap fuel) e w' → RetOut W R e w' from fun W e w' h => hR ▸ h)
        rw [hR] at hrl
        obtain ⟨hrl1, hrl2⟩ := hrl
        clear hR
        have HSV := Lib.hid (fun A L H c ca ch W (h1 : C (kBlock 0 0 0) W L m.blocks) (h2 : C kI64 W A args) (h3 : C kI64 W H heap) => (runFunc_s A L H c ca ch m args heap fuel W h1 h2 h3 hbl HIL.out hla hlh).mono (HRM.out W))
        go_enter Tryd.func8, Tryd.ntmps8
        go_upto_region 10 with (first
          | (go_at_call 14; refine (HSZ.out _ (hx.below (by repeat (first | (with_reducible first | exact Below.refl _ _ | assumption | exact ext_box _) | (with_reducible apply Below.drew) | ((with_reducible refine Below.setCell ?_ ?hs _); (case hs => first | (simp; done) | (simp; omega) | omega)) | ((with_reducible refine Below.alloc ?_ ?hs _); (case hs => first | (simp; done) | (simp; omega) | omega)))))).mono ?_; rintro e w1 ⟨rfl, hb1⟩; have HB1 := Below.then_ (w := w) (by repeat (first | (with_reducible first | exact Below.refl _ _ | assumption | exact ext_box _) | (with_reducible apply Below.drew) | ((with_reducible refine Below.setCell ?_ ?hs _); (case hs => first | (simp; done) | (simp; omega) | omega)) | ((with_reducible refine Below.alloc ?_ ?hs _); (case hs => first | (simp; done) | (simp; omega) | omega)))) hb1; obtain ⟨hc1, hf1⟩ := bcell hb1; have zw1 : w.heap.size < w1.heap.size := (by have := hb1.size; (try simp at this); omega))
          | (go_at_call 16; (with_reducible refine (HTO.out _ (by assumption)).mono ?_); intro e w2 hp2; unfold RetFunc at hp2; obtain ⟨v2, fp2, rfl, r2, -, hb2⟩ := hp2; obtain ⟨A2, c2, rfl, hl2⟩ := r2.form; have HR2 := Lib.hid (C_blk r2.reads); clear r2; have HB2 := Below.then_ (w := w) (by assumption) hb2)
          | (go_at_call 26; (with_reducible refine (HTA.out _ (by assumption)).mono ?_); intro e w3 hp3; unfold RetRow at hp3; obtain ⟨v3, fp3, rfl, r3, -, hb3⟩ := hp3; obtain ⟨A3, c3, rfl, hl3⟩ := r3.form; have HR3 := Lib.hid (show C kI64 w3 A3 args from r3.reads); have HR23 := Lib.hid (HR2.out.below hb3); clear r3; have HB3 := Below.then_ (w := w) (by assumption) hb3)
          | (go_at_call 26; (with_reducible refine (HTH.out _ (by assumption)).mono ?_); intro e w4 hp4; unfold RetRow at hp4; obtain ⟨v4, fp4, rfl, r4, -, hb4⟩ := hp4; obtain ⟨A4, c4, rfl, hl4⟩ := r4.form; have HR4 := Lib.hid (show C kI64 w4 A4 heap from r4.reads); have HR24 := Lib.hid (HR23.out.below hb4); have HR34 := Lib.hid (HR3.out.below hb4); clear r4; have HB4 := Below.then_ (w := w) (by assumption) hb4)
          | (go_at_call 36; (with_reducible refine (HSV.out _ _ _ _ _ _ _ HR24.out HR34.out HR4.out).mono ?_); intro e w5 hp5; unfold RetOut at hp5; obtain ⟨vh5, vt5, rfl, ho5, hb5⟩ := hp5; have HB5 := Below.then_ (w := w) (by assumption) hb5; have HO5 := Lib.hid ho5; obtain ⟨fh5, ft5, q5, q6, i5, i6⟩ := ho5; obtain ⟨A5, c5, rfl, -⟩ := q5.form; obtain ⟨A6, c6, rfl, -⟩ := q6.form; have HH5 := Lib.hid q5; have HT5 := Lib.hid q6; have HI5 := Lib.hid (q5.inR i5); have HI6 := Lib.hid (q6.inR fun b hb => (i6 b hb).1); clear q5 q6 i5 i6 HO5))
        have hb15 : Below w1.heap.size w1 w5 := Below.then_ (Below.then_ (Below.then_ hb2 hb3) hb4) hb5
        have y0 : w5.cell? ⟨w.heap.size, 0, none⟩ = some (.int .i64 m.values) := (hb15.cell zw1).trans ((hc1 _ _ (by simp)).trans (by simp))
        have y1 : w5.cell? ⟨w.heap.size, 1, none⟩ = some (.slice L m.blocks.length c) := (hb15.cell zw1).trans ((hc1 _ _ (by simp)).trans (by simp))
        have zw5 : w.heap.size < w5.heap.size := Nat.lt_of_lt_of_le zw1 hb15.size
        have K0 := Lib.hid (((Bk.made w 35 [.int .i64 m.values, .slice L m.blocks.length c]).below hb1).below hb15)
        have zs4 : w1.heap.size ≤ w4.heap.size := by have h1 := hb2.size; have h2 := hb3.size; have h3 := hb4.size; omega
        have zs5 := hb5.size
        clear hb1 hc1 hf1 hb2 hb3 hb4 hb5 hb15
        have HIV := Lib.hid (fun A L H c ca ch W (h1 : C (kBlock 0 0 0) W L m.blocks) (h2 : C kI64 W A args) (h3 : C kI64 W H heap) (hb : Below w.heap.size w W) => (runFunc_i A L H c ca ch m args heap fuel W h1 h2 h3 (hS.below hb hS.pos) hbl HIL.out hla hlh).mono (HRM.out W))
        go_upto_region 14 with (first
          | (go_at_call 16; (with_reducible refine (HTO.out _ (by (repeat (first | (with_reducible first | exact Below.refl _ _ | assumption | exact ext_box _) | (with_reducible apply Below.drew) | ((with_reducible refine Below.setCell ?_ ?hs _); (case hs => first | (simp; done) | (simp; omega) | omega)) | ((with_reducible refine Below.alloc ?_ ?hs _); (case hs => first | (simp; done) | (simp; omega) | omega)))))).mono ?_); intro e w6 hp6; unfold RetFunc at hp6; obtain ⟨v7, fp7, rfl, r7, h7, hb7⟩ := hp6; obtain ⟨A7, c7, rfl, hl7⟩ := r7.form; have HR7 := Lib.hid r7; have HF7 := Lib.hid h7; clear r7 h7; have HB7 := Below.then_ (w := w) (by (repeat (first | (with_reducible first | exact Below.refl _ _ | assumption | exact ext_box _) | (with_reducible apply Below.drew) | ((with_reducible refine Below.setCell ?_ ?hs _); (case hs => first | (simp; done) | (simp; omega) | omega)) | ((with_reducible refine Below.alloc ?_ ?hs _); (case hs => first | (simp; done) | (simp; omega) | omega))))) hb7; have zb7 := HB7.size)
          | (go_at_call 26; (with_reducible refine (HTA.out _ (by (repeat (first | (with_reducible first | exact Below.refl _ _ | assumption | exact ext_box _) | (with_reducible apply Below.drew) | ((with_reducible refine Below.setCell ?_ ?hs _); (case hs => first | (simp; done) | (simp; omega) | omega)) | ((with_reducible refine Below.alloc ?_ ?hs _); (case hs => first | (simp; done) | (simp; omega) | omega)))))).mono ?_); intro e w7 hp7; unfold RetRow at hp7; obtain ⟨v8, fp8, rfl, r8, h8, hb8⟩ := hp7; obtain ⟨A8, c8, rfl, hl8⟩ := r8.form; have HR8 := Lib.hid r8; have HF8 := Lib.hid h8; clear r8 h8; have HB8 := Below.then_ (w := w) (by (repeat (first | (with_reducible first | exact Below.refl _ _ | assumption | exact ext_box _) | (with_reducible apply Below.drew) | ((with_reducible refine Below.setCell ?_ ?hs _); (case hs => first | (simp; done) | (simp; omega) | omega)) | ((with_reducible refine Below.alloc ?_ ?hs _); (case hs => first | (simp; done) | (simp; omega) | omega))))) hb8; have zb8 := HB8.size; obtain ⟨hc8, hf8⟩ := bcell hb8; have x0 : w7.cell? ⟨w6.heap.size, 0, none⟩ = some (.int .i64 m.values) := (hc8 _ _ (by simp)).trans (by simp); have x1 : w7.cell? ⟨w6.heap.size, 1, none⟩ = some (.slice A7 m.blocks.length c7) := (hc8 _ _ (by simp)).trans (by simp); have zx : w6.heap.size < w7.heap.size := World.block_lt_of_cell? w7 _ x0; clear hc8 hf8)
          | (go_at_call 26; (with_reducible refine (HTH.out _ (by (repeat (first | (with_reducible first | exact Below.refl _ _ | assumption | exact ext_box _) | (with_reducible apply Below.drew) | ((with_reducible refine Below.setCell ?_ ?hs _); (case hs => first | (simp; done) | (simp; omega) | omega)) | ((with_reducible refine Below.alloc ?_ ?hs _); (case hs => first | (simp; done) | (simp; omega) | omega)))))).mono ?_); intro e w8 hp8; unfold RetRow at hp8; obtain ⟨v9, fp9, rfl, r9, h9, hb9⟩ := hp8; obtain ⟨A9, c9, rfl, hl9⟩ := r9.form; have HR9 := Lib.hid r9; have HF9 := Lib.hid h9; clear r9 h9; have HB9 := Below.then_ (w := w) (by (repeat (first | (with_reducible first | exact Below.refl _ _ | assumption | exact ext_box _) | (with_reducible apply Below.drew) | ((with_reducible refine Below.setCell ?_ ?hs _); (case hs => first | (simp; done) | (simp; omega) | omega)) | ((with_reducible refine Below.alloc ?_ ?hs _); (case hs => first | (simp; done) | (simp; omega) | omega))))) hb9; have zb9 := HB9.size; have X0 := (hb9.cell (p := ⟨w6.heap.size, 0, none⟩) zx).trans x0; have X1 := (hb9.cell (p := ⟨w6.heap.size, 1, none⟩) zx).trans x1; have hb68 : Below w6.heap.size w6 w8 := Below.then_ (Below.then_ ((Below.refl _ _).alloc (Nat.le_refl _) _) hb8) hb9; have HQ7 := Lib.hid (HR7.out.chg (chg_of hb68) (by simp)); have HQ8 := Lib.hid (HR8.out.chg (chg_of hb9) (by simp)); have hb58 : Below w5.heap.size w5 w8 := Below.then_ (Below.then_ (Below.then_ (by (repeat (first | (with_reducible first | exact Below.refl _ _ | assumption | exact ext_box _) | (with_reducible apply Below.drew) | ((with_reducible refine Below.setCell ?_ ?hs _); (case hs => first | (simp; done) | (simp; omega) | omega)) | ((with_reducible refine Below.alloc ?_ ?hs _); (case hs => first | (simp; done) | (simp; omega) | omega))))) hb7) ((Below.refl _ _).alloc (Nat.le_refl _) _)) (Below.then_ hb8 hb9))
          | (go_at_call 37; (with_reducible refine (HIV.out _ _ _ _ _ _ _ (C_blk HQ7.out.reads) HQ8.out.reads HR9.out.reads HB9).mono ?_); intro e w9 hp9; unfold RetOut at hp9; obtain ⟨vh9, vt9, rfl, ho9, hb10⟩ := hp9; have HB10 := Below.then_ (w := w) (by assumption) hb10; obtain ⟨fh9, ft9, q5, q6, i5, i6⟩ := ho9; obtain ⟨A10, c10, rfl, -⟩ := q5.form; obtain ⟨A11, c11, rfl, -⟩ := q6.form; have HH9 := Lib.hid q5; have HT9 := Lib.hid q6; have HI9 := Lib.hid (q5.inR i5); have HI10 := Lib.hid (q6.inR fun b hb => (i6 b hb).1); have HAP := Lib.hid (show ∀ b ∈ ft9, b ∉ fh9 from fun b hb => (i6 b hb).2); clear q5 q6 i5 i6))
        have zb10 := hb10.size
        have zb68 := hb68.size
        have z56 := hb7.size
        have z67 := hb8.size
        have z78 := hb9.size
        simp only [World.size_alloc] at z56 z67
        have hA : Below w9.heap.size w9 (w9.alloc (.cells #[.int .i64 R.code, .int .i64 R.value, .int .i64 R.steps, .slice A11 R.trace.length c11, .slice A10 R.heap.length c10] 51)) := (Below.refl _ _).alloc (Nat.le_refl _) _
        have h59 := Below.then_ hb58 hb10
        have HL := Lib.hid (show LSt w R w.heap.size w6.heap.size w5.heap.size w9.heap.size [.int .i64 m.values, .slice L m.blocks.length c] [.int .i64 m.values, .slice A7 m.blocks.length c7] 35 40 (.slice A5 R.heap.length c5) (.slice A6 R.trace.length c6) (.slice A10 R.heap.length c10) (.slice A11 R.trace.length c11) fh5 ft5 fh9 ft9 (w9.alloc (.cells #[.int .i64 R.code, .int .i64 R.value, .int .i64 R.steps, .slice A11 R.trace.length c11, .slice A10 R.heap.length c10] 51)) from
          ⟨⟨HB10.trans (hA.mono HB10.size), (K0.out.below h59).below hA, ((((Bk.made w5 51 (wolR R (.slice A5 R.heap.length c5) (.slice A6 R.trace.length c6))).below hb7).below hb68).below hb10).below hA, (HH5.out.chg (chg_of h59) (by simp)).chg (chg_of hA) (by simp), (HT5.out.chg (chg_of h59) (by simp)).chg (chg_of hA) (by simp)⟩,
            ((((Bk.made w6 40 [.int .i64 m.values, .slice A7 m.blocks.length c7]).below hb8).below hb9).below hb10).below hA, Bk.made w9 51 (wolR R (.slice A10 R.heap.length c10) (.slice A11 R.trace.length c11)), HH9.out.chg (chg_of hA) (by simp), HT9.out.chg (chg_of hA) (by simp)⟩)
        have hb9A := Below.then_ hb10 hA
        have HX7 := Lib.hid (show Row 81 (kBlock 2 84 72) (w9.alloc (.cells #[.int .i64 R.code, .int .i64 R.value, .int .i64 R.steps, .slice A11 R.trace.length c11, .slice A10 R.heap.length c10] 51)) (.slice A7 m.blocks.length c7) m.blocks fp7 from HQ7.out.chg (chg_of hb9A) (by simp))
        have HX8 := Lib.hid (show Row 2 kI64 (w9.alloc (.cells #[.int .i64 R.code, .int .i64 R.value, .int .i64 R.steps, .slice A11 R.trace.length c11, .slice A10 R.heap.length c10] 51)) (.slice A8 args.length c8) args fp8 from HQ8.out.chg (chg_of hb9A) (by simp))
        have HX9 := Lib.hid (show Row 2 kI64 (w9.alloc (.cells #[.int .i64 R.code, .int .i64 R.value, .int .i64 R.steps, .slice A11 R.trace.length c11, .slice A10 R.heap.length c10] 51)) (.slice A9 heap.length c9) heap fp9 from HR9.out.chg (chg_of hb9A) (by simp))
        have HJ7 := Lib.hid (show InR fp7 (w5.heap.size + 1) w6.heap.size from fun b hb => ⟨by have := HF7.out b hb; simpa using this, HR7.out.lt b hb⟩)
        have HJ8 := Lib.hid (show InR fp8 (w6.heap.size + 1) w7.heap.size from fun b hb => ⟨by have := HF8.out b hb; simpa using this, HR8.out.lt b hb⟩)
        have HJ9 := Lib.hid (HR9.out.inR HF9.out)
        clear hA h59 hb9A hb7 hb8 hb9 hb10 hb68 hb58 HQ7 HQ8 HR7 HR8 HR9 HF7 HF8 HF9 HH5 HT5 HH9 HT9 x0 x1 X0 X1 y0 y1 K0 HR2 HR3 HR4 HR23 HR24 HR34 HB1 HB2 HB3 HB4 HB5 HB7 HB8 HB9 HSZ HSV HB10
        generalize w9.alloc (.cells #[.int .i64 R.code, .int .i64 R.value, .int .i64 R.steps, .slice A11 R.trace.length c11, .slice A10 R.heap.length c10] 51) = wA at *
        have zA0 : w.heap.size < wA.heap.size := HL.out.s2.k0.lt
        have zA1 : w6.heap.size < wA.heap.size := HL.out.k1.lt
        have zA2 : w5.heap.size < wA.heap.size := HL.out.s2.k2.lt
        have zA3 : w9.heap.size < wA.heap.size := HL.out.k3.lt
        have HW := Lib.hid (fun W (h : Below wA.heap.size wA W) => HL.out.s2.hb.trans (h.mono HL.out.s2.hb.size))
        have HEO := Lib.hid (fun W (h : Below wA.heap.size wA W) => eqOutcome_c R A10 A11 A5 A6 c10 c11 c5 c6 W (HL.out.below h).h9.reads (HL.out.below h).t9.reads (HL.out.below h).s2.h5.reads (HL.out.below h).s2.t5.reads hrl2 hrl1)
        have HEM := Lib.hid (fun A1 c1 W (h : Below wA.heap.size wA W) (h2 : C (kBlock 0 0 0) W A1 m.blocks) => eqFunc_c A7 A1 c7 c1 m m W (C_blk (HX7.out.chg (chg_of h) (by simp)).reads) h2 (by omega) (by omega) (fun i b hb => okBlk_mono (HIL.out i b hb) (by omega)) (fun i b hb => okBlk_mono (HIL.out i b hb) (by omega)))
        have HE8 := Lib.hid (fun A1 c1 W (h : Below wA.heap.size wA W) (h2 : C kI64 W A1 args) => eqInt64S_c A8 A1 c8 c1 args args W (HX8.out.chg (chg_of h) (by simp)).reads h2 (by omega) (by omega))
        have HE9 := Lib.hid (fun A1 c1 W (h : Below wA.heap.size wA W) (h2 : C kI64 W A1 heap) => eqInt64S_c A9 A1 c9 c1 heap heap W (HX9.out.chg (chg_of h) (by simp)).reads h2 (by omega) (by omega))
        obtain ⟨d0, d1, d2, d3, d4⟩ := out5 HL.out.k3
        obtain ⟨s0, s1, s2, s3, s4⟩ := out5 HL.out.s2.k2
        have hAA := Below.refl wA.heap.size wA
        go_upto_region 16 with (first
          | (go_at_call 28; (with_reducible refine (HEO.out _ hAA).mono ?_); rintro e v1 ⟨rfl, hv1⟩; have HV1 := hAA.trans hv1))
        clear d0 d1 d2 d3 d4 s0 s1 s2 s3 s4 hAA hv1
        have zv1 := HV1.size
        have zV0 : w.heap.size < v1.heap.size := by omega
        have zV1 : w6.heap.size < v1.heap.size := by omega
        have KS := Lib.hid (fun w' (h : Below v1.heap.size v1 w') => (by
          have hl := HL.out.below (HV1.trans (h.mono zv1))
          obtain ⟨a0, a1⟩ := two hl.s2.k0
          obtain ⟨b0, b1⟩ := two hl.k1
          exact ⟨b0, b1, a0, a1, h⟩ : w'.cell? ⟨w6.heap.size, 0, none⟩ = some (.int .i64 m.values) ∧ w'.cell? ⟨w6.heap.size, 1, none⟩ = some (.slice A7 m.blocks.length c7) ∧ w'.cell? ⟨w.heap.size, 0, none⟩ = some (.int .i64 m.values) ∧ w'.cell? ⟨w.heap.size, 1, none⟩ = some (.slice L m.blocks.length c) ∧ Below v1.heap.size v1 w'))
        obtain ⟨k1, k2, k3, k4, -⟩ := KS.out v1 (Below.refl _ _)
        go_region_held3 (fun w' => w'.cell? ⟨w6.heap.size, 0, none⟩ = some (.int .i64 m.values) ∧ w'.cell? ⟨w6.heap.size, 1, none⟩ = some (.slice A7 m.blocks.length c7) ∧ w'.cell? ⟨w.heap.size, 0, none⟩ = some (.int .i64 m.values) ∧ w'.cell? ⟨w.heap.size, 1, none⟩ = some (.slice L m.blocks.length c) ∧ Below v1.heap.size v1 w') ((refine KS.out _ ?_; (repeat (first | (with_reducible first | exact Below.refl _ _ | assumption | exact ext_box _) | (with_reducible apply Below.drew) | ((with_reducible refine Below.setCell ?_ ?hs _); (case hs => first | (simp; done) | (simp; omega) | omega)) | ((with_reducible refine Below.alloc ?_ ?hs _); (case hs => first | (simp; done) | (simp; omega) | omega))))))
          (first
          | (go_at_call 16; (with_reducible refine (HTO.out _ (HW.out _ (HV1.trans (Below.mono (by (repeat (first | (with_reducible first | exact Below.refl _ _ | assumption | exact ext_box _) | (with_reducible apply Below.drew) | ((with_reducible refine Below.setCell ?_ ?hs _); (case hs => first | (simp; done) | (simp; omega) | omega)) | ((with_reducible refine Below.alloc ?_ ?hs _); (case hs => first | (simp; done) | (simp; omega) | omega))))) zv1)))).mono ?_); intro e v2 hp2; unfold RetFunc at hp2; obtain ⟨v3, fp3, rfl, r3, -, hb3⟩ := hp2; obtain ⟨B3, e3, rfl, -⟩ := r3.form; have HR3 := Lib.hid (C_blk r3.reads); clear r3; have HV2 : Below v1.heap.size v1 v2 := Below.then_ (by (repeat (first | (with_reducible first | exact Below.refl _ _ | assumption | exact ext_box _) | (with_reducible apply Below.drew) | ((with_reducible refine Below.setCell ?_ ?hs _); (case hs => first | (simp; done) | (simp; omega) | omega)) | ((with_reducible refine Below.alloc ?_ ?hs _); (case hs => first | (simp; done) | (simp; omega) | omega))))) hb3)
          | (go_at_call 18; (with_reducible refine (HEM.out _ _ _ (HV1.trans (Below.mono (by (repeat (first | (with_reducible first | exact Below.refl _ _ | assumption | exact ext_box _) | (with_reducible apply Below.drew) | ((with_reducible refine Below.setCell ?_ ?hs _); (case hs => first | (simp; done) | (simp; omega) | omega)) | ((with_reducible refine Below.alloc ?_ ?hs _); (case hs => first | (simp; done) | (simp; omega) | omega))))) zv1)) (HR3.out.below (by (repeat (first | (with_reducible first | exact Below.refl _ _ | assumption | exact ext_box _) | (with_reducible apply Below.drew) | ((with_reducible refine Below.setCell ?_ ?hs _); (case hs => first | (simp; done) | (simp; omega) | omega)) | ((with_reducible refine Below.alloc ?_ ?hs _); (case hs => first | (simp; done) | (simp; omega) | omega))))))).mono ?_); rintro e v4 ⟨rfl, hb4⟩; have HV4 : Below v1.heap.size v1 v4 := Below.then_ (by (repeat (first | (with_reducible first | exact Below.refl _ _ | assumption | exact ext_box _) | (with_reducible apply Below.drew) | ((with_reducible refine Below.setCell ?_ ?hs _); (case hs => first | (simp; done) | (simp; omega) | omega)) | ((with_reducible refine Below.alloc ?_ ?hs _); (case hs => first | (simp; done) | (simp; omega) | omega))))) hb4))
        all_goals
          have HA5 := HV1.trans (HV4.mono zv1)
          clear k1 k2 k3 k4 KS HV4 HV1
          go_upto_region 18 with (fail)
          go_upto_region 20 with
          (first
          | (go_at_call 26; (with_reducible refine (HTA.out _ (HW.out _ HA5)).mono ?_); intro e v51 hp; unfold RetRow at hp; obtain ⟨q1, q2, rfl, q3, -, hb51⟩ := hp; obtain ⟨B5, e5, rfl, -⟩ := q3.form; have HR5 := Lib.hid q3.reads; clear q3; have HB51 := Below.then_ HA5 hb51)
          | (go_at_call 29; (with_reducible refine (HE8.out _ _ _ HB51 HR5.out).mono ?_); rintro e v6 ⟨rfl, hb6⟩; have HA6 := Below.then_ HB51 hb6))
          clear hb51 HB51 hb6
          go_upto_region 22 with
          (first
          | (go_at_call 26; (with_reducible refine (HTH.out _ (HW.out _ HA6)).mono ?_); intro e v61 hp; unfold RetRow at hp; obtain ⟨q1, q2, rfl, q3, -, hb61⟩ := hp; obtain ⟨B6, e6, rfl, -⟩ := q3.form; have HR6 := Lib.hid q3.reads; clear q3; have HB61 := Below.then_ HA6 hb61)
          | (go_at_call 29; (with_reducible refine (HE9.out _ _ _ HB61 HR6.out).mono ?_); rintro e v7 ⟨rfl, hb7⟩; have HA7 := Below.then_ HB61 hb7))
          clear hb61 HB61 hb7
          go_upto_region 23 with (fail)
          have hlA := HL.out.below HA7
          obtain ⟨b0, b1⟩ := two hlA.k1
          have HM7 := Lib.hid (markFunc_c m.values (.slice A7 m.blocks.length c7) m.blocks fp7 1 v7 (HX7.out.chg (chg_of HA7) (by simp)) (by omega) (by omega) hbl HIL.out)
          have HY8 := Lib.hid (HX8.out.chg (chg_of HA7) (by simp))
          have HY9 := Lib.hid (HX9.out.chg (chg_of HA7) (by simp))
          have HLB := Lib.hid hlA
          have zv7 := HA7.size
          clear hlA HX7 HX8 HX9 HEM HE8 HE9 HL HEO
          go_upto_region 24 with (
            go_at_call 35; (with_reducible refine HM7.out.mono ?_); intro e v8 hp; unfold MarkFunc at hp; obtain ⟨k7, rfl, hk7, hk8, hc8⟩ := hp)
          have HLC := Lib.hid (HLB.out.mark hc8 HJ7.out HI5.out HI6.out HI9.out HI10.out ⟨by omega, by omega, by omega, by omega, by omega, by omega⟩ (by omega))
          have HM8 := Lib.hid (markInt64S_c (.slice A8 args.length c8) args fp8 k7 v8 (HY8.out.chg hc8 fun b hb hb2 => by have h1 := HJ8.out b hb; have h2 := HJ7.out b hb2; omega) (by omega) (by omega) (by omega))
          have HZ9 := Lib.hid (HY9.out.chg hc8 fun b hb hb2 => by have h1 := HJ9.out b hb; have h2 := HJ7.out b hb2; omega)
          have zv8 := hc8.size
          clear HM7 HY8 HY9 HLB hc8 b0 b1
          go_upto_region 25 with (
            go_at_call 30; (with_reducible refine HM8.out.mono ?_); intro e v9 hp; unfold MarkPost at hp; obtain ⟨rfl, -, hc9⟩ := hp)
          have HLD := Lib.hid (HLC.out.mark hc9 HJ8.out HI5.out HI6.out HI9.out HI10.out ⟨by omega, by omega, by omega, by omega, by omega, by omega⟩ (by omega))
          have HM9 := Lib.hid (markInt64S_c (.slice A9 heap.length c9) heap fp9 (k7 + (args.length : Int)) v9 (HZ9.out.chg hc9 fun b hb hb2 => by have h1 := HJ9.out b hb; have h2 := HJ8.out b hb2; omega) (by omega) (by omega) (by omega))
          have zv9 := hc9.size
          clear HM8 HZ9 HLC hc9
          go_upto_region 26 with (
            go_at_call 30; (with_reducible refine HM9.out.mono ?_); intro e v10 hp; unfold MarkPost at hp; obtain ⟨rfl, -, hc10⟩ := hp)
          have HLE := Lib.hid (HLD.out.mark hc10 HJ9.out HI5.out HI6.out HI9.out HI10.out ⟨by omega, by omega, by omega, by omega, by omega, by omega⟩ (by omega))
          have zv10 := hc10.size
          clear HM9 HLD hc10
          obtain ⟨d0, d1, d2, d3, d4⟩ := out5 HLE.out.k3
          obtain ⟨s0, s1, s2, s3, s4⟩ := out5 HLE.out.s2.k2
          have HEO := Lib.hid (eqOutcome_c R A10 A11 A5 A6 c10 c11 c5 c6 v10 HLE.out.h9.reads HLE.out.t9.reads HLE.out.s2.h5.reads HLE.out.s2.t5.reads hrl2 hrl1)
          go_upto_region 28 with (
            go_at_call 28; (with_reducible refine HEO.out.mono ?_); rintro e v11 ⟨rfl, hv11⟩)
          clear d0 d1 d2 d3 d4 s0 s1 s2 s3 s4 HEO
          have HLF := Lib.hid (HLE.out.below hv11)
          have zv11 := hv11.size
          clear HLE hv11
          go_upto_region 29 with (fail)
          obtain ⟨d0, d1, d2, d3, d4⟩ := out5 HLF.out.k3
          have HMO := Lib.hid (markOutcome_c R (.slice A10 R.heap.length c10) (.slice A11 R.trace.length c11) fh9 ft9 1 v11 HLF.out.h9 HLF.out.t9 HAP.out (by omega) (by omega) hrl2 hrl1)
          obtain ⟨q, hq⟩ : ∃ q : Int, 1 + (R.trace.length : Int) + (R.heap.length : Int) = q := ⟨_, rfl⟩
          have hq0 : 0 ≤ q := by omega
          go_upto_region 30 with (
            go_at_call 31; refine HMO.out.mono ?_; intro e v12 hp; unfold MarkOut at hp; rw [hq] at hp; obtain ⟨rfl, hr1, hr2, hc12⟩ := hp)
          obtain ⟨hl2, hk3⟩ := HLF.out.outs hc12 HI5.out HI6.out HI9.out HI10.out ⟨by omega, by omega, by omega, by omega, Nat.le_refl _⟩
          have HLG := Lib.hid hl2
          have HHO := Lib.hid (heldOutcome_c R (.slice A10 R.heap.length c10) (.slice A11 R.trace.length c11) fh9 ft9 1 v12 hr1 hr2 (by omega) (by omega) hrl2 hrl1)
          simp only [hq] at HHO
          have zv12 := hc12.size
          clear d0 d1 d2 d3 d4 HMO HLF hr1 hr2 hc12 hl2
          obtain ⟨d0, d1, d2, d3, d4⟩ := out5 hk3
          clear hk3
          go_upto_region 36 with (
            go_at_call 32; refine HHO.out.mono ?_; rintro e v13 ⟨rfl, hv13⟩)
          have HLH := Lib.hid (HLG.out.below hv13)
          clear d0 d1 d2 d3 d4 HHO HLG hv13
          obtain ⟨a0, a1⟩ := two HLH.out.k0
          have HH := Lib.hid HLH.out.hb
          go_upto_region 37 with (first
            | (go_at_call 16; (with_reducible refine (HTO.out _ HH.out).mono ?_); intro e y2 hp2; unfold RetFunc at hp2; obtain ⟨q2, p2, rfl, r2, -, hb2⟩ := hp2; obtain ⟨A2', c2', rfl, -⟩ := r2.form; have HR2 := Lib.hid (C_blk r2.reads); clear r2; have HB2 := Below.then_ (w := w) HH.out hb2)
            | (go_at_call 26; (with_reducible refine (HTA.out _ HB2).mono ?_); intro e y3 hp3; unfold RetRow at hp3; obtain ⟨q3, p3, rfl, r3, -, hb3⟩ := hp3; obtain ⟨A3', c3', rfl, -⟩ := r3.form; have HR3 := Lib.hid (show C kI64 y3 A3' args from r3.reads); have HR23 := Lib.hid (HR2.out.below hb3); clear r3; have HB3 := Below.then_ (w := w) HB2 hb3)
            | (go_at_call 26; (with_reducible refine (HTH.out _ HB3).mono ?_); intro e y4 hp4; unfold RetRow at hp4; obtain ⟨q4, p4, rfl, r4, -, hb4⟩ := hp4; obtain ⟨A4', c4', rfl, -⟩ := r4.form; have HR4 := Lib.hid (show C kI64 y4 A4' heap from r4.reads); have HR24 := Lib.hid (HR23.out.below hb4); have HR34 := Lib.hid (HR3.out.below hb4); clear r4; have HB4 := Below.then_ (w := w) HB3 hb4)
            | (go_at_call 37; (with_reducible refine (HIV.out _ _ _ _ _ _ _ HR24.out HR34.out HR4.out HB4).mono ?_); intro e y5 hp5; unfold RetOut at hp5; obtain ⟨vh5', vt5', rfl, ho5, hb5⟩ := hp5; obtain ⟨fh5', ft5', q5, q6, -, -⟩ := ho5; obtain ⟨A5', c5', rfl, -⟩ := q5.form; obtain ⟨A6', c6', rfl, -⟩ := q6.form; have HLI := Lib.hid (HLH.out.below (Below.then_ (Below.then_ (Below.then_ hb2 hb3) hb4) hb5)); have HB5 := Below.then_ (w := w) HB4 hb5; have HQ5 := Lib.hid q5; have HQ6 := Lib.hid q6; clear q5 q6))
          obtain ⟨s0, s1, s2, s3, s4⟩ := out5 HLI.out.k2
          have HEO := Lib.hid (fun W (h : Below y5.heap.size y5 W) => eqOutcome_c R A5' A6' A5 A6 c5' c6' c5 c6 W (HQ5.out.chg (chg_of h) (by simp)).reads (HQ6.out.chg (chg_of h) (by simp)).reads (HLI.out.below h).h5.reads (HLI.out.below h).t5.reads hrl2 hrl1)
          have zs := HLI.out.k2.lt
          clear a0 a1 hb2 hb3 hb4 hb5
          go_wp2_with (
            go_at_call 28; (with_reducible refine (HEO.out _ (by (repeat (first | (with_reducible first | exact Below.refl _ _ | assumption | exact ext_box _) | (with_reducible apply Below.drew) | ((with_reducible refine Below.setCell ?_ ?hs _); (case hs => first | (simp; done) | (simp; omega) | omega)) | ((with_reducible refine Below.alloc ?_ ?hs _); (case hs => first | (simp; done) | (simp; omega) | omega)))))).mono ?_); rintro e y6 ⟨rfl, hy6⟩; have HY6 := Below.then_ (w := w) (HB5.trans (Below.mono (by (repeat (first | (with_reducible first | exact Below.refl _ _ | assumption | exact ext_box _) | (with_reducible apply Below.drew) | ((with_reducible refine Below.setCell ?_ ?hs _); (case hs => first | (simp; done) | (simp; omega) | omega)) | ((with_reducible refine Below.alloc ?_ ?hs _); (case hs => first | (simp; done) | (simp; omega) | omega))))) HB5.size)) hy6)
          go_ret
          exact ⟨rfl, HY6⟩
    · go_enter Tryd.func8, Tryd.ntmps8
      go_wp2
      go_ret
      exact ⟨rfl, by repeat (first | (with_reducible first | exact Below.refl _ _ | assumption | exact ext_box _) | (with_reducible apply Below.drew) | ((with_reducible refine Below.setCell ?_ ?hs _); (case hs => first | (simp; done) | (simp; omega) | omega)) | ((with_reducible refine Below.alloc ?_ ?hs _); (case hs => first | (simp; done) | (simp; omega) | omega)))⟩
  · go_enter Tryd.func8, Tryd.ntmps8
    go_wp2
    go_ret
    exact ⟨rfl, by repeat (first | (with_reducible first | exact Below.refl _ _ | assumption | exact ext_box _) | (with_reducible apply Below.drew) | ((with_reducible refine Below.setCell ?_ ?hs _); (case hs => first | (simp; done) | (simp; omega) | omega)) | ((with_reducible refine Below.alloc ?_ ?hs _); (case hs => first | (simp; done) | (simp; omega) | omega)))⟩
end Go.Proofs.YtnnfjjgohhicjaaDoor
