/- Contract: spec.RunMach. -/
import Derived.Test.YtnnfjjgohhicjaaDoorMr7
import Derived.Test.YtnnfjjgohhicjaaDoorMr3
namespace Go.Proofs.YtnnfjjgohhicjaaDoor
open Go.RowKit
set_option linter.unusedSimpArgs false
set_option linter.unusedVariables false
set_option maxRecDepth 100000

def badOut : Outc := ⟨4, 0, 0, [], []⟩
def initW (args heap : List Int) (fuel : Int) (n : Nat) : Wd := ⟨args, heap32 heap, [], fuel, 0, List.replicate n 0, 0⟩
def blkM (m : Mach) (b : Int) : List Instr × Term := match m.blocks[b.toNat]? with
  | some x => (x.instrs, x.term)
  | none => ([], ⟨0, 0, 0, 0⟩)
def runMach (m : Mach) (args heap : List Int) (fuel : Int) : Outc :=
  if validMach m = true ∧ runOK args.length heap.length fuel = true then runS (blkM m) (fun _ _ s => s) fuel.toNat 0 0 (initW args heap fuel m.regs.toNat) else badOut
/-- An outcome is the answer. -/
def RetOut (W : World) (R : Outc) (e : Ending) (w' : World) : Prop := ∃ vh vt, e = .returned (.agg #[.int .i64 R.code, .int .i64 R.value, .int .i64 R.steps, vt, vh]) ∧ OutRows W R vh vt w' ∧ Below W.heap.size W w'
def BlkQ (W0 : World) (X : List Nat) (B : Nat) (T : TypeId) (ex : List Value) (A : Option Addr) (ca D cD G cG : Nat) (Bf : Int → List Instr × Term) (E : Int → Int → Wd → Wd) (b : Int) (s0 : Wd) (R : Outc) (next : Int) (p : Option Addr) (w' : World) : Prop :=
  (p = none ∧ ∃ s', St W0 X B T ex A ca D cD G cG s' w' ∧ Ok s0 s' ∧ s0.steps < s'.steps ∧ R = runS Bf E (lft s') next 0 (E b next s') ∧ next ∈ targets (Bf b).2) ∨
  (∃ o vh vt, p = some ⟨o, 0, none⟩ ∧ Bk o 51 (wolR R vh vt) w' ∧ OutRows W0 R vh vt w' ∧ Below W0.heap.size W0 w' ∧ W0.heap.size ≤ o)
theorem BlkPost.q {W0 : World} {X : List Nat} {B : Nat} {T : TypeId} {ex : List Value} {A : Option Addr} {ca D cD G cG : Nat} {Bf : Int → List Instr × Term} {E : Int → Int → Wd → Wd} {b : Int} {s0 : Wd} {R : Outc} {e : Ending} {w' : World} (h : BlkPost W0 X B T ex A ca D cD G cG Bf E b s0 R e w') :
    ∃ next p, e = .returned (.tuple #[.int .i64 next, .pointer p]) ∧ BlkQ W0 X B T ex A ca D cD G cG Bf E b s0 R next p w' ∧ Below W0.heap.size W0 w' := by
  rcases h with ⟨next, s', he, h1, h2⟩ | ⟨o, vh, vt, he, h1, h2, h3, h4⟩
  · exact ⟨next, none, he, .inl ⟨rfl, s', h1, h2⟩, by obtain ⟨_, _, _, _, _, hb, _⟩ := h1; exact hb⟩
  · exact ⟨0, _, he, .inr ⟨o, vh, vt, rfl, h1, h2, h3, h4⟩, h3⟩
theorem goodTerm_loose {t : Term} {n low N : Int} (h : GoodTerm t n low N) (h0 : 0 ≤ low) (hN : N ≤ 4000) : GoodTerm t n (-1) 4000 := by
  rcases h with h | h | h
  · exact .inl (by omega)
  · exact .inr (.inl (by omega))
  · exact .inr (.inr (by omega))
theorem validMach_parts {m : Mach} (h : validMach m = true) : (1 ≤ m.regs ∧ m.regs ≤ 64) ∧ (1 ≤ m.blocks.length ∧ m.blocks.length ≤ 3000) ∧ ∀ (k : Nat) b, m.blocks[k]? = some b → (∀ (i : Nat) x, b.instrs[i]? = some x → GoodInstr x m.regs 13) ∧ GoodTerm b.term m.regs 0 m.blocks.length := by
  simp only [validMach, Bool.and_eq_true, decide_eq_true_eq] at h
  obtain ⟨⟨⟨h1, h2⟩, -⟩, h4⟩ := h
  refine ⟨h1, h2, fun k b hb => ?_⟩
  have h5 := List.all_eq_true.1 h4 b (List.mem_of_getElem? hb)
  rw [Bool.and_eq_true] at h5
  exact ⟨fun i x hx => (goodInstr_iff _ _ _).1 (List.all_eq_true.1 h5.1 x (List.mem_of_getElem? hx)), (goodTerm_iff _ _ _ _).1 h5.2⟩
/-- What is left of the fuel, read off the world. -/
def leftAt (fuel : Int) (B : Nat) (w : World) : Nat := match w.cell? ⟨B, 4, none⟩ with
  | some (.int _ k) => (fuel - k).toNat
  | _ => 0
theorem St.left {W0 : World} {X : List Nat} {B : Nat} {T : TypeId} {ex : List Value} {A : Option Addr} {ca D cD G cG : Nat} {s : Wd} {w : World} (h : St W0 X B T ex A ca D cD G cG s w) (fuel : Int) : leftAt fuel B w = (fuel - s.steps).toNat := by
  obtain ⟨_, _, h1, _⟩ := h
  unfold leftAt
  rw [h1.cell 4 (v := .int .i64 s.steps) rfl]
theorem retBad {W w' : World} (hb : Below W.heap.size W w') {R : Outc} (hR : R = badOut) {v : Value} (hv : v = .agg #[.int .i64 4, .int .i64 0, .int .i64 0, .slice none 0 0, .slice none 0 0]) : RetOut W R (.returned v) w' := by
  subst hR; subst hv
  exact ⟨_, _, rfl, ⟨[], [], Row.nil _ _ _, Row.nil _ _ _, by simp, by simp⟩, hb⟩
theorem St.init {W0 w3 w' : World} {A : Option Addr} {ca G D n : Nat} {T : TypeId} {ex : List Value} {args heap : List Int} {fuel : Int} (hb : Below W0.heap.size W0 w3)
    (hG : Row 2 kI64 w3 (.slice (some ⟨G, 0, none⟩) 32 32) (heap32 heap) [G]) (hD : Row 2 kI64 w3 (.slice (some ⟨D, 0, none⟩) n n) (List.replicate n 0) [D]) (hne : D ≠ G) (h1 : W0.heap.size ≤ G) (h2 : W0.heap.size ≤ D)
    (hw : w' = w3.alloc (.cells (wl (.slice A args.length ca) (.slice (some ⟨G, 0, none⟩) 32 32) (.slice none 0 0) (.slice (some ⟨D, 0, none⟩) n n) (initW args heap fuel n) ex).toArray T)) :
    St W0 [w3.heap.size] w3.heap.size T ex A ca D n G 32 (initW args heap fuel n) w' := by
  subst hw
  have hb2 : Below w3.heap.size w3 (w3.alloc (.cells (wl (.slice A args.length ca) (.slice (some ⟨G, 0, none⟩) 32 32) (.slice none 0 0) (.slice (some ⟨D, 0, none⟩) n n) (initW args heap fuel n) ex).toArray T)) := (Below.refl _ _).alloc (Nat.le_refl _) _
  have lD := hD.lt D (by simp)
  have lG := hG.lt G (by simp)
  have hl : (initW args heap fuel n).cells.length = n := List.length_replicate
  refine ⟨none, 0, ?_, ⟨?_, hG.chg (chg_of hb2) (by simp), heap32_len _, hne, h2, h1, by simp; omega, by simp; omega, [], Row.nil _ _ _, by simp⟩, hb.size, hb.trans (hb2.mono hb.size), by simp, by simp⟩
  · rw [hl]; exact Bk.made _ _ _
  · rw [hl]; exact hD.chg (chg_of hb2) (by simp)
theorem Ok.self {s0 s : Wd} (h : Ok s0 s) : Ok s s := ⟨rfl, rfl, rfl, Int.le_refl _, Int.le_trans h.pos h.lo, h.hi, h.max, h.tr, h.nargs⟩
theorem Ok.trans {s0 s s' : Wd} (h : Ok s0 s) (k : Ok s s') : Ok s0 s' := ⟨k.args.trans h.args, k.fuel.trans h.fuel, k.cells.trans h.cells, Int.le_trans h.lo k.lo, h.pos, k.hi, k.max, k.tr, k.nargs⟩
theorem targets_in {t : Term} {n low N : Int} (h : GoodTerm t n low N) (h0 : 0 ≤ low) {q : Int} (hq : q ∈ targets t) : 0 ≤ q ∧ q < N := by
  rcases h with ⟨h1, h⟩ | ⟨h1, h⟩ | ⟨h1, h⟩ <;> simp [targets, h1] at hq <;> omega
theorem OutRows.ret {W W0 w4 w5 : World} {R : Outc} {vh vt : Value} {k : Nat} (h : OutRows W0 R vh vt w4) (hW : W.heap.size ≤ W0.heap.size) (hc : Chg (fun b => b = k) w4 w5) (hk : k < W0.heap.size) : OutRows W R vh vt w5 := by
  obtain ⟨fh, ft, h1, h2, h3, h4⟩ := h
  exact ⟨fh, ft, h1.chg hc (fun b hb e => by have := h3 b hb; omega), h2.chg hc (fun b hb e => by have := (h4 b hb).1; omega), fun b hb => Nat.le_trans hW (h3 b hb), fun b hb => ⟨Nat.le_trans hW (h4 b hb).1, (h4 b hb).2⟩⟩
set_option maxHeartbeats 8000000 in
theorem runMach_i (A L H : Option Addr) (c ca ch : Nat) (m : Mach) (args heap : List Int) (fuel : Int) (w : World) (hx : C (kMB 0) w L m.blocks) (hA : C kI64 w A args) (hH : C kI64 w H heap) (hS : Shapes w) (hm : m.blocks.length ≤ 1048576) (hs : ∀ (i : Nat) b, m.blocks[i]? = some b → b.instrs.length ≤ 1048576)
    (ha : args.length ≤ 1048576) (hh : heap.length ≤ 1048576) :
    Calls Tryd.prog 27 #[.agg #[.int .i64 m.regs, .slice L m.blocks.length c], .slice A args.length ca, .slice H heap.length ch, .int .i64 fuel] w (RetOut w (runMach m args heap fuel)) := by
  have HIV := Lib.hid (fun W (h : Below w.heap.size w W) => validMach_i L c m W (hx.below h) (hS.below h hS.pos) hm hs)
  have HRN := Lib.hid (fun W => runnable_c A H args.length heap.length ca ch fuel W ha hh)
  cases hv : validMach m
  · have HR := Lib.hid (show runMach m args heap fuel = badOut by simp [runMach, hv])
    have HV := Lib.hid hv
    clear hv
    go_enter Tryd.func27, Tryd.ntmps27
    go_wp2_with (go_at_call 12; have hiv := HIV.out; rw [HV.out] at hiv; refine (hiv _ (by repeat (first | (with_reducible first | exact Below.refl _ _ | assumption | exact ext_box _) | (with_reducible apply Below.drew) | ((with_reducible refine Below.setCell ?_ ?hs _); (case hs => first | (simp; done) | (simp; omega) | omega)) | ((with_reducible refine Below.alloc ?_ ?hs _); (case hs => first | (simp; done) | (simp; omega) | omega))))).mono ?_; rintro e w1 ⟨rfl, hb1⟩; have HB1 : Below w.heap.size w w1 := Below.then_ (by repeat (first | (with_reducible first | exact Below.refl _ _ | assumption | exact ext_box _) | (with_reducible apply Below.drew) | ((with_reducible refine Below.setCell ?_ ?hs _); (case hs => first | (simp; done) | (simp; omega) | omega)) | ((with_reducible refine Below.alloc ?_ ?hs _); (case hs => first | (simp; done) | (simp; omega) | omega)))) hb1; obtain ⟨hc1, hf1⟩ := bcell hb1; obtain ⟨zw0, zw1⟩ : w.heap.size < w1.heap.size ∧ w.heap.size + 1 < w1.heap.size := (by have := hb1.size; simp at this; omega))
    refine bodyPost_ret (v := .agg #[.int .i64 4, .int .i64 0, .int .i64 0, .slice none 0 0, .slice none 0 0]) (by simp [results, Tryd.results27, go_sem, hc1, zw0, zw1]) rfl (retBad (by repeat (first | (with_reducible first | exact Below.refl _ _ | assumption | exact ext_box _) | (with_reducible apply Below.drew) | ((with_reducible refine Below.setCell ?_ ?hs _); (case hs => first | (simp; done) | (simp; omega) | omega)) | ((with_reducible refine Below.alloc ?_ ?hs _); (case hs => first | (simp; done) | (simp; omega) | omega)))) HR.out rfl)
  · have HV := Lib.hid hv
    cases hk : runOK args.length heap.length fuel
    · have HR := Lib.hid (show runMach m args heap fuel = badOut by simp [runMach, hk])
      have HK := Lib.hid hk
      clear hv hk
      go_enter Tryd.func27, Tryd.ntmps27
      go_wp2_with (first
        | (go_at_call 12; have hiv := HIV.out; rw [HV.out] at hiv; refine (hiv _ (by repeat (first | (with_reducible first | exact Below.refl _ _ | assumption | exact ext_box _) | (with_reducible apply Below.drew) | ((with_reducible refine Below.setCell ?_ ?hs _); (case hs => first | (simp; done) | (simp; omega) | omega)) | ((with_reducible refine Below.alloc ?_ ?hs _); (case hs => first | (simp; done) | (simp; omega) | omega))))).mono ?_; rintro e w1 ⟨rfl, hb1⟩; have HB1 : Below w.heap.size w w1 := Below.then_ (by repeat (first | (with_reducible first | exact Below.refl _ _ | assumption | exact ext_box _) | (with_reducible apply Below.drew) | ((with_reducible refine Below.setCell ?_ ?hs _); (case hs => first | (simp; done) | (simp; omega) | omega)) | ((with_reducible refine Below.alloc ?_ ?hs _); (case hs => first | (simp; done) | (simp; omega) | omega)))) hb1; obtain ⟨hc1, hf1⟩ := bcell hb1; obtain ⟨zw0, zw1⟩ : w.heap.size < w1.heap.size ∧ w.heap.size + 1 < w1.heap.size := (by have := hb1.size; simp at this; omega))
        | (go_at_call 66; have hrn := HRN.out; rw [HK.out] at hrn; refine (hrn _).mono ?_; rintro e w2 ⟨rfl, rfl⟩))
      refine bodyPost_ret (v := .agg #[.int .i64 4, .int .i64 0, .int .i64 0, .slice none 0 0, .slice none 0 0]) (by simp [results, Tryd.results27, go_sem, hc1, zw0, zw1]) rfl (retBad (by repeat (first | (with_reducible first | exact Below.refl _ _ | assumption | exact ext_box _) | (with_reducible apply Below.drew) | ((with_reducible refine Below.setCell ?_ ?hs _); (case hs => first | (simp; done) | (simp; omega) | omega)) | ((with_reducible refine Below.alloc ?_ ?hs _); (case hs => first | (simp; done) | (simp; omega) | omega)))) HR.out rfl)
    · have HR := Lib.hid (show runMach m args heap fuel = runS (blkM m) (fun _ _ s => s) fuel.toNat 0 0 (initW args heap fuel m.regs.toNat) by simp [runMach, hv, hk])
      have HK := Lib.hid hk
      obtain ⟨g1, g2, g3⟩ := validMach_parts hv
      obtain ⟨r1, r2, r3, r4⟩ := runOK_iff.1 hk
      obtain ⟨n, hn⟩ : ∃ n : Nat, m.regs = n := ⟨m.regs.toNat, by omega⟩
      have HN := Lib.hid hn
      have HG := Lib.hid g3
      obtain ⟨g4, g5⟩ := g2
      have hn2 : n ≤ 64 := by omega
      clear hv hk g3 g1 hn
      go_enter Tryd.func27, Tryd.ntmps27
      go_wp2_with (first
        | (go_at_call 12; have hiv := HIV.out; rw [HV.out] at hiv; refine (hiv _ (by repeat (first | (with_reducible first | exact Below.refl _ _ | assumption | exact ext_box _) | (with_reducible apply Below.drew) | ((with_reducible refine Below.setCell ?_ ?hs _); (case hs => first | (simp; done) | (simp; omega) | omega)) | ((with_reducible refine Below.alloc ?_ ?hs _); (case hs => first | (simp; done) | (simp; omega) | omega))))).mono ?_; rintro e w1 ⟨rfl, hb1⟩; have HB1 : Below w.heap.size w w1 := Below.then_ (by repeat (first | (with_reducible first | exact Below.refl _ _ | assumption | exact ext_box _) | (with_reducible apply Below.drew) | ((with_reducible refine Below.setCell ?_ ?hs _); (case hs => first | (simp; done) | (simp; omega) | omega)) | ((with_reducible refine Below.alloc ?_ ?hs _); (case hs => first | (simp; done) | (simp; omega) | omega)))) hb1; obtain ⟨hc1, hf1⟩ := bcell hb1; obtain ⟨zw0, zw1⟩ : w.heap.size < w1.heap.size ∧ w.heap.size + 1 < w1.heap.size := (by have := hb1.size; simp at this; omega))
        | (go_at_call 66; have hrn := HRN.out; rw [HK.out] at hrn; refine (hrn _).mono ?_; rintro e w2 ⟨rfl, rfl⟩))
      have K8 := Lib.hid (show Bk (w.heap.size + 1) 51 [.int .i64 0, .int .i64 0, .int .i64 0, .slice none 0 0, .slice none 0 0] w1 by
        have := (Bk.made (w.alloc (.cells #[.int .i64 m.regs, .slice L m.blocks.length c] 29)) 51 [.int .i64 0, .int .i64 0, .int .i64 0, .slice none 0 0, .slice none 0 0]).below hb1
        simpa only [World.size_alloc] using this)
      have HNW := Lib.hid (fun W (hb : Below w1.heap.size w1 W) => newWorld_c A H args.length ca ch heap fuel n W (hH.below (HB1.trans (hb.mono HB1.size))) r2 (by omega))
      have y0 : w1.cell? ⟨w.heap.size, 0, none⟩ = some (.int .i64 m.regs) := (hc1 _ _ (by simp; try omega)).trans (by simp)
      have y1 : w1.cell? ⟨w.heap.size, 1, none⟩ = some (.slice L m.blocks.length c) := (hc1 _ _ (by simp; try omega)).trans (by simp)
      have KS := Lib.hid (fun w' (h : Below w1.heap.size w1 w') => (⟨(h.cell zw0).trans y0, (h.cell zw0).trans y1⟩ : w'.cell? ⟨w.heap.size, 0, none⟩ = some (.int .i64 m.regs) ∧ w'.cell? ⟨w.heap.size, 1, none⟩ = some (.slice L m.blocks.length c)))
      go_region_held3 (fun w' => w'.cell? ⟨w.heap.size, 0, none⟩ = some (.int .i64 m.regs) ∧ w'.cell? ⟨w.heap.size, 1, none⟩ = some (.slice L m.blocks.length c)) ((refine KS.out _ ?_; (repeat (first | (with_reducible first | exact Below.refl _ _ | assumption | exact ext_box _) | (with_reducible apply Below.drew) | ((with_reducible refine Below.setCell ?_ ?hs _); (case hs => first | (simp; done) | (simp; omega) | omega)) | ((with_reducible refine Below.alloc ?_ ?hs _); (case hs => first | (simp; done) | (simp; omega) | omega))))))
        (first
        | (go_at_call 67; have hnw := HNW.out; rw [← HN.out] at hnw; refine (hnw _ (by (repeat (first | (with_reducible first | exact Below.refl _ _ | assumption | exact ext_box _) | (with_reducible apply Below.drew) | ((with_reducible refine Below.setCell ?_ ?hs _); (case hs => first | (simp; done) | (simp; omega) | omega)) | ((with_reducible refine Below.alloc ?_ ?hs _); (case hs => first | (simp; done) | (simp; omega) | omega)))))).mono ?_; rintro e w3 ⟨G, D, rfl, hg3, hd3, hne3, hG3, hD3, hb3⟩; have HB3 : Below w1.heap.size w1 w3 := Below.then_ (by (repeat (first | (with_reducible first | exact Below.refl _ _ | assumption | exact ext_box _) | (with_reducible apply Below.drew) | ((with_reducible refine Below.setCell ?_ ?hs _); (case hs => first | (simp; done) | (simp; omega) | omega)) | ((with_reducible refine Below.alloc ?_ ?hs _); (case hs => first | (simp; done) | (simp; omega) | omega))))) hb3; have zw3 := HB3.size))
      all_goals
        have HST := Lib.hid (fun w' hw => St.init (w' := w') (A := A) (ca := ca) (args := args) (fuel := fuel) (ex := [.int .i64 m.regs, .slice L m.blocks.length c]) (T := 116) HB3 hg3 hd3 hne3 (by simpa using hG3) (by simpa using hD3) hw)
        have HOK := Lib.hid (show Ok (initW args heap fuel n) (initW args heap fuel n) from ⟨rfl, rfl, rfl, Int.le_refl _, Int.le_refl _, r3, r4, by simp [initW], r1⟩)
        obtain ⟨R, hR⟩ : ∃ R, runMach m args heap fuel = R := ⟨_, rfl⟩
        have HRM := Lib.hid hR
        have HR2 := Lib.hid (show R = runS (blkM m) (fun _ _ s => s) (lft (initW args heap fuel n)) 0 0 (initW args heap fuel n) by rw [← hR, HR.out, HN.out, show lft (initW args heap fuel n) = fuel.toNat by simp [lft, initW]]; simp)
        have HA0 := Lib.hid (show (initW args heap fuel n).args = args ∧ (initW args heap fuel n).fuel = fuel ∧ (initW args heap fuel n).cells.length = n from ⟨rfl, rfl, List.length_replicate⟩)
        clear hR hg3 hd3 hne3 hG3 hD3 hb3
        go_wp2
        generalize w3.heap.size = B at *
        go_loopw [10] (fun i wr => ∃ (b : Nat) (s : Wd), b < m.blocks.length ∧ i = .int .i64 b ∧ St w1 [B] B 116 [.int .i64 m.regs, .slice L m.blocks.length c] A ca D n G 32 s wr ∧ Ok (initW args heap fuel n) s ∧ R = runS (blkM m) (fun _ _ s => s) (lft s) b 0 s) (fun _ wr => leftAt fuel B wr)
        case atStart => exact ⟨0, initW args heap fuel n, by omega, rfl, HST.out _ rfl, HOK.out, HR2.out⟩
        case round =>
          clear HST HR2
          obtain ⟨b, s, hb, rfl, hst, hok, hrn⟩ := hrel
          have HS := Lib.hid hst
          have HO := Lib.hid hok
          have HRN := Lib.hid hrn
          have HML := Lib.hid (hst.left fuel)
          have HW := Lib.hid (show Below w1.heap.size w1 wr by obtain ⟨_, _, _, _, _, hb, _⟩ := hst; exact hb)
          clear hst hok hrn
          obtain ⟨x, ex⟩ := get_of_lt hb
          obtain ⟨a, _, rfl, ⟨_, _, rfl, ⟨A', c', rfl, l', r'⟩, rfl⟩, hc⟩ := (hx.below HB1).at ex
          obtain ⟨p0, p1, p2, p3, p4⟩ := hc5 (n := b * 5) hc
          clear hc
          have hil := hs _ _ ex
          have HE := Lib.hid ex
          have HG2 := Lib.hid (HG.out _ _ ex)
          clear ex
          have KS := Lib.hid (fun w' (h : Below w1.heap.size w1 w') => (⟨(h.cell zw0).trans y1, (h.cell (World.block_lt_of_cell? w1 _ p0)).trans p0, (h.cell (World.block_lt_of_cell? w1 _ p1)).trans p1, (h.cell (World.block_lt_of_cell? w1 _ p2)).trans p2, (h.cell (World.block_lt_of_cell? w1 _ p3)).trans p3, (h.cell (World.block_lt_of_cell? w1 _ p4)).trans p4⟩ : w'.cell? ⟨w.heap.size, 1, none⟩ = some (.slice (some a) m.blocks.length c) ∧ w'.cell? (a.add (b * 5)) = some (.slice A' x.instrs.length c') ∧ w'.cell? ⟨(a.add (b * 5)).block, (a.add (b * 5)).off + 1, none⟩ = some (.int .i64 x.term.kind) ∧ w'.cell? ⟨(a.add (b * 5)).block, (a.add (b * 5)).off + 2, none⟩ = some (.int .i64 x.term.a) ∧ w'.cell? ⟨(a.add (b * 5)).block, (a.add (b * 5)).off + 3, none⟩ = some (.int .i64 x.term.to) ∧ w'.cell? ⟨(a.add (b * 5)).block, (a.add (b * 5)).off + 4, none⟩ = some (.int .i64 x.term.els)))
          have HBL := Lib.hid (fun W (hbw : Below wr.heap.size wr W) => block_c w1 [B] B 116 [.int .i64 m.regs, .slice (some a) m.blocks.length c] A ca D n G 32 A' c' x.instrs x.term m.regs (blkM m) (fun _ _ s => s) b s W (by rw [HO.out.args]; exact hA.below HB1) r' hil HG2.out.1 (goodTerm_loose HG2.out.2 (by omega) (by omega)) (by rw [HO.out.cells, HA0.out.2.2, HN.out]) (by simp [blkM, HE.out]) (HS.out.below hbw) HO.out.self)
          clear p0 p1 p2 p3 p4
          obtain ⟨k1, k2, k3, k4, k5, k6⟩ := KS.out wr HW.out
          go_wp2
          have hWr := HW.out
          go_region_held3 (fun w' => w'.cell? ⟨w.heap.size, 1, none⟩ = some (.slice (some a) m.blocks.length c) ∧ w'.cell? (a.add (b * 5)) = some (.slice A' x.instrs.length c') ∧ w'.cell? ⟨(a.add (b * 5)).block, (a.add (b * 5)).off + 1, none⟩ = some (.int .i64 x.term.kind) ∧ w'.cell? ⟨(a.add (b * 5)).block, (a.add (b * 5)).off + 2, none⟩ = some (.int .i64 x.term.a) ∧ w'.cell? ⟨(a.add (b * 5)).block, (a.add (b * 5)).off + 3, none⟩ = some (.int .i64 x.term.to) ∧ w'.cell? ⟨(a.add (b * 5)).block, (a.add (b * 5)).off + 4, none⟩ = some (.int .i64 x.term.els)) ((refine KS.out _ ?_; (repeat (first | (with_reducible first | exact Below.refl _ _ | assumption | exact ext_box _) | (with_reducible apply Below.drew) | ((with_reducible refine Below.setCell ?_ ?hs _); (case hs => first | (simp; done) | (simp; omega) | omega)) | ((with_reducible refine Below.alloc ?_ ?hs _); (case hs => first | (simp; done) | (simp; omega) | omega))))))
            (first
            | (go_at_call 68; refine (HBL.out _ (by (repeat (first | (with_reducible first | exact Below.refl _ _ | assumption | exact ext_box _) | (with_reducible apply Below.drew) | ((with_reducible refine Below.setCell ?_ ?hs _); (case hs => first | (simp; done) | (simp; omega) | omega)) | ((with_reducible refine Below.alloc ?_ ?hs _); (case hs => first | (simp; done) | (simp; omega) | omega)))))).mono ?_; rintro e w4 h4; obtain ⟨nx, pt, rfl, hq4, hb4⟩ := h4.q; have HQ4 := Lib.hid hq4; clear h4 hq4))
          all_goals
            have hq4 := HQ4.out
            clear HQ4
            rcases hq4 with ⟨rfl, s', hs', ho', hlt', hr', hmem⟩ | ⟨o, vh, vt, rfl, ho1, ho2, ho3, ho4⟩
            · have hti := targets_in HG2.out.2 (by omega) (q := nx) (by have := hmem; rwa [show (blkM m b).2 = x.term by simp [blkM, HE.out]] at this)
              obtain ⟨b2, rfl⟩ : ∃ b2 : Nat, nx = b2 := ⟨nx.toNat, by omega⟩
              have HS' := Lib.hid hs'
              have HO' := Lib.hid ho'
              have HR' := Lib.hid hr'
              have hfu := ho'.hi
              have HFU := Lib.hid (show s'.fuel = fuel by rw [ho'.fuel, HO.out.fuel, HA0.out.2.1])
              clear hs' ho' hr' hmem k1 k2 k3 k4 k5 k6
              go_wp2
              go_roundw
              case rel => exact ⟨b2, s', by omega, rfl, HS'.out, HO.out.trans HO'.out, HRN.out.trans HR'.out⟩
              case measure => rw [HS'.out.left, HML.out]; have := HFU.out; omega
            · have ho2' := ho2
              rw [← HRN.out] at ho2'
              obtain ⟨fh, ft, q1, q2, q3⟩ := id ho2
              obtain ⟨A1, c1, rfl, -⟩ := q1.form
              obtain ⟨A2, c2, rfl, -⟩ := q2.form
              clear q1 q2 q3
              rw [← HRN.out] at ho2'
              have K8' := K8.out.below ho3
              have e0 := K8'.cell 0 rfl
              have e1 := K8'.cell 1 rfl
              have e2 := K8'.cell 2 rfl
              have e3 := K8'.cell 3 rfl
              have e4 := K8'.cell 4 rfl
              have f8 := K8'.frozen
              have d0 := ho1.cell 0 (v := .int .i64 _) rfl
              have d1 := ho1.cell 1 (v := .int .i64 _) rfl
              have d2 := ho1.cell 2 (v := .int .i64 _) rfl
              have d3 := ho1.cell 3 rfl
              have d4 := ho1.cell 4 rfl
              have HO2 := Lib.hid ho2'
              have HO3 := Lib.hid ho3
              have hs3 := ho3.size
              rw [← HRN.out] at d0 d1 d2 d3 d4
              clear ho1 ho2 ho2' K8' k1 k2 k3 k4 k5 k6
              go_wp2
              exact bodyPost_ret (v := .agg #[.int .i64 R.code, .int .i64 R.value, .int .i64 R.steps, .slice A2 R.trace.length c2, .slice A1 R.heap.length c1]) (by simp [results, Tryd.results27, go_sem, e0, e1, e2, e3, e4, f8]) rfl (by rw [HRM.out]; exact ⟨_, _, rfl, HO2.out.ret (k := w.heap.size + 1) HB1.size (by (repeat (first | (with_reducible first | exact Chg.refl _ _ | assumption) | (with_reducible refine Chg.drew ?_) | ((with_reducible refine Chg.setCell ?_ ?hs _); (case hs => first | (simp; done) | (simp; omega) | omega)) | (with_reducible refine Chg.alloc ?_ _)))) zw1, by have := HB1.trans (HO3.out.mono HB1.size); (repeat (first | (with_reducible first | exact Below.refl _ _ | assumption | exact ext_box _) | (with_reducible apply Below.drew) | ((with_reducible refine Below.setCell ?_ ?hs _); (case hs => first | (simp; done) | (simp; omega) | omega)) | ((with_reducible refine Below.alloc ?_ ?hs _); (case hs => first | (simp; done) | (simp; omega) | omega))))⟩)
end Go.Proofs.YtnnfjjgohhicjaaDoor
namespace Go.Proofs.YtnnfjjgohhicjaaDoor
open Go.RowKit
set_option linter.unusedSimpArgs false
set_option linter.unusedVariables false
set_option maxRecDepth 100000

theorem lens_bound {bs : List MBlock} (h : ∀ (i : Nat) b, bs[i]? = some b → b.instrs.length ≤ 1048576) : lens bs ≤ bs.length * 1048576 := by
  induction bs with
  | nil => simp [lens]
  | cons b r ih =>
    have h0 := h 0 b rfl
    have h1 := ih fun i c hc => h (i + 1) c (by simpa using hc)
    simp only [lens, List.map_cons, List.sum_cons, List.length_cons] at *
    omega
theorem l4Size_c (A : Option Addr) (c : Nat) (m : Mach) (w : World) (hx : C (kMB 0) w A m.blocks) (hm : m.blocks.length ≤ 1048576) (hs : ∀ (i : Nat) b, m.blocks[i]? = some b → b.instrs.length ≤ 1048576) :
    Calls Tryd.prog 39 #[.agg #[.int .i64 m.regs, .slice A m.blocks.length c]] w fun e w' => e = .returned (.int .i64 (machSize m)) ∧ Below w.heap.size w w' := by
  have hxu := hx.below (w' := w.alloc (.cells #[.int .i64 m.regs, .slice A m.blocks.length c] 29)) (by repeat (first | (with_reducible first | exact Below.refl _ _ | assumption | exact ext_box _) | (with_reducible apply Below.drew) | ((with_reducible refine Below.setCell ?_ ?hs _); (case hs => first | (simp; done) | (simp; omega) | omega)) | ((with_reducible refine Below.alloc ?_ ?hs _); (case hs => first | (simp; done) | (simp; omega) | omega))))
  go_enter Tryd.func39, Tryd.ntmps39
  go_wp2
  go_loop [3, 4] (fun t i => ∃ k : Nat, k ≤ m.blocks.length ∧ i = .int .i64 k ∧ t = .int .i64 ((k : Int) + (lens (m.blocks.take k) : Int))) (fun _ i => m.blocks.length - (intOf i).toNat)
  case atStart => exact ⟨0, by omega, rfl, by simp [lens]⟩
  case round =>
    obtain ⟨k, hk, rfl, rfl⟩ := hrel
    by_cases hlt : k < m.blocks.length
    · obtain ⟨b, eb⟩ := get_of_lt hlt
      obtain ⟨a, _, rfl, ⟨_, _, rfl, ⟨A', c', rfl, l', r'⟩, rfl⟩, hc⟩ := hxu.at eb
      obtain ⟨p0, p1, p2, p3, p4⟩ := hc5 (n := k * 5) hc
      clear hc
      have hb := hs _ _ eb
      have hl := lens_le m.blocks k
      have hl2 := lens_bound hs
      have HZ := Lib.hid (lens_snoc eb)
      clear eb
      go_wp2
      go_round
      case rel => exact ⟨k + 1, by omega, by go_num, by rw [HZ.out]; go_num⟩
      case measure => simp [intOf]; omega
    · have hkn : k = m.blocks.length := by omega
      go_wp2
      go_ret
      exact ⟨ret_int (by subst hkn; simp [machSize_eq]), by repeat (first | (with_reducible first | exact Below.refl _ _ | assumption | exact ext_box _) | (with_reducible apply Below.drew) | ((with_reducible refine Below.setCell ?_ ?hs _); (case hs => first | (simp; done) | (simp; omega) | omega)) | ((with_reducible refine Below.alloc ?_ ?hs _); (case hs => first | (simp; done) | (simp; omega) | omega)))⟩
theorem vm_all {m : Mach} (h1 : 1 ≤ m.regs ∧ m.regs ≤ 64) (h2 : 1 ≤ m.blocks.length ∧ m.blocks.length ≤ 3000) (h3 : machSize m ≤ 20000) (h4 : m.blocks.all (fun b => (b.instrs.all fun x => goodInstr x m.regs 13) && goodTerm b.term m.regs 0 m.blocks.length) = true) : validMach m = true := by
  simp only [validMach, Bool.and_eq_true, decide_eq_true_eq]
  exact ⟨⟨⟨h1, h2⟩, h3⟩, h4⟩
set_option maxHeartbeats 4000000 in
theorem validMachS_c (A : Option Addr) (c : Nat) (m : Mach) (w : World) (hx : C (kMB 0) w A m.blocks) (hm : m.blocks.length ≤ 1048576) (hs : ∀ (i : Nat) b, m.blocks[i]? = some b → b.instrs.length ≤ 1048576) :
    Calls Tryd.prog 10 #[.agg #[.int .i64 m.regs, .slice A m.blocks.length c]] w fun e w' => e = .returned (.bool (validMach m)) ∧ Below w.heap.size w w' := by
  have HSZ := Lib.hid (fun W (h : C (kMB 0) W A m.blocks) => l4Size_c A c m W h hm hs)
  by_cases hr1 : m.regs < 1
  · have HV := Lib.hid (vm_regs (m := m) (by omega))
    go_enter Tryd.func10, Tryd.ntmps10
    go_wp2
    go_ret
    exact ⟨ret_bool HV.out.symm, by repeat (first | (with_reducible first | exact Below.refl _ _ | assumption | exact ext_box _) | (with_reducible apply Below.drew) | ((with_reducible refine Below.setCell ?_ ?hs _); (case hs => first | (simp; done) | (simp; omega) | omega)) | ((with_reducible refine Below.alloc ?_ ?hs _); (case hs => first | (simp; done) | (simp; omega) | omega)))⟩
  by_cases hr2 : m.regs > 64
  · have HV := Lib.hid (vm_regs (m := m) (by omega))
    go_enter Tryd.func10, Tryd.ntmps10
    go_wp2
    go_ret
    exact ⟨ret_bool HV.out.symm, by repeat (first | (with_reducible first | exact Below.refl _ _ | assumption | exact ext_box _) | (with_reducible apply Below.drew) | ((with_reducible refine Below.setCell ?_ ?hs _); (case hs => first | (simp; done) | (simp; omega) | omega)) | ((with_reducible refine Below.alloc ?_ ?hs _); (case hs => first | (simp; done) | (simp; omega) | omega)))⟩
  by_cases hn1 : (m.blocks.length : Int) < 1
  · have HV := Lib.hid (vm_n (m := m) (by omega))
    go_enter Tryd.func10, Tryd.ntmps10
    go_wp2
    go_ret
    exact ⟨ret_bool HV.out.symm, by repeat (first | (with_reducible first | exact Below.refl _ _ | assumption | exact ext_box _) | (with_reducible apply Below.drew) | ((with_reducible refine Below.setCell ?_ ?hs _); (case hs => first | (simp; done) | (simp; omega) | omega)) | ((with_reducible refine Below.alloc ?_ ?hs _); (case hs => first | (simp; done) | (simp; omega) | omega)))⟩
  by_cases hn2 : (m.blocks.length : Int) > 3000
  · have HV := Lib.hid (vm_n (m := m) (by omega))
    go_enter Tryd.func10, Tryd.ntmps10
    go_wp2
    go_ret
    exact ⟨ret_bool HV.out.symm, by repeat (first | (with_reducible first | exact Below.refl _ _ | assumption | exact ext_box _) | (with_reducible apply Below.drew) | ((with_reducible refine Below.setCell ?_ ?hs _); (case hs => first | (simp; done) | (simp; omega) | omega)) | ((with_reducible refine Below.alloc ?_ ?hs _); (case hs => first | (simp; done) | (simp; omega) | omega)))⟩
  by_cases hz : machSize m > 20000
  · have HV := Lib.hid (vm_size (m := m) hz)
    have HZ := Lib.hid (show (machSize m : Int) > 20000 by omega)
    go_enter Tryd.func10, Tryd.ntmps10
    go_wp2_with (go_at_call 39; refine (HSZ.out _ (hx.below (by repeat (first | (with_reducible first | exact Below.refl _ _ | assumption | exact ext_box _) | (with_reducible apply Below.drew) | ((with_reducible refine Below.setCell ?_ ?hs _); (case hs => first | (simp; done) | (simp; omega) | omega)) | ((with_reducible refine Below.alloc ?_ ?hs _); (case hs => first | (simp; done) | (simp; omega) | omega)))))).mono ?_; rintro e w1 ⟨rfl, hb1⟩; have HB1 := Below.then_ (w := w) (by repeat (first | (with_reducible first | exact Below.refl _ _ | assumption | exact ext_box _) | (with_reducible apply Below.drew) | ((with_reducible refine Below.setCell ?_ ?hs _); (case hs => first | (simp; done) | (simp; omega) | omega)) | ((with_reducible refine Below.alloc ?_ ?hs _); (case hs => first | (simp; done) | (simp; omega) | omega)))) hb1; have hz' := HZ.out)
    go_ret
    exact ⟨ret_bool HV.out.symm, HB1⟩
  have HZ := Lib.hid (show ¬ (machSize m : Int) > 20000 by omega)
  go_enter Tryd.func10, Tryd.ntmps10
  go_wp2_with (go_at_call 39; refine (HSZ.out _ (hx.below (by repeat (first | (with_reducible first | exact Below.refl _ _ | assumption | exact ext_box _) | (with_reducible apply Below.drew) | ((with_reducible refine Below.setCell ?_ ?hs _); (case hs => first | (simp; done) | (simp; omega) | omega)) | ((with_reducible refine Below.alloc ?_ ?hs _); (case hs => first | (simp; done) | (simp; omega) | omega)))))).mono ?_; rintro e w1 ⟨rfl, hb1⟩; have hz' := HZ.out)
  have HN := Lib.hid (show 1 ≤ m.blocks.length ∧ m.blocks.length ≤ 3000 by omega)
  have HRR := Lib.hid (show 1 ≤ m.regs ∧ m.regs ≤ 64 by omega)
  have HS := Lib.hid (show machSize m ≤ 20000 by omega)
  clear hz' hz HZ hr1 hr2
  obtain ⟨u0, rfl⟩ := (Ext.self (w.alloc (.cells #[.int .i64 m.regs, .slice A m.blocks.length c] 29))).more hb1
  clear hb1
  go_loopw [4] (fun i wr => ∃ (k : Nat) (u : Ext (w.alloc (.cells #[.int .i64 m.regs, .slice A m.blocks.length c] 29))), k ≤ m.blocks.length ∧ i = .int .i64 k ∧ (m.blocks.take k).all (fun b => (b.instrs.all fun x => goodInstr x m.regs 13) && goodTerm b.term m.regs 0 m.blocks.length) = true ∧ wr = u.w) (fun i _ => m.blocks.length - (intOf i).toNat)
  case atStart => exact ⟨0, u0, by omega, rfl, by simp, rfl⟩
  case round =>
    obtain ⟨k, u, hk, rfl, hall, rfl⟩ := hrel
    have HA := Lib.hid hall
    clear hall
    obtain ⟨b0, b1, -⟩ := box_at u
    have hzu : w.heap.size < u.w.heap.size := by have := u.hb.size; simp at this; omega
    have hxu := (hx.below (ext_box u))
    by_cases hlt : k < m.blocks.length
    · obtain ⟨b, eb⟩ := get_of_lt hlt
      obtain ⟨a, _, rfl, ⟨_, _, rfl, ⟨A', c', rfl, l', r'⟩, rfl⟩, hc⟩ := hxu.at eb
      obtain ⟨p0, p1, p2, p3, p4⟩ := hc5 (n := k * 5) hc
      clear hc
      have hb := hs _ _ eb
      have HE := Lib.hid eb
      clear eb
      go_wp2
      go_loopw [5] (fun i wr => ∃ (j : Nat) (v : Ext u.w), j ≤ b.instrs.length ∧ i = .int .i64 j ∧ (b.instrs.take j).all (fun x => goodInstr x m.regs 13) = true ∧ wr = v.w) (fun i _ => b.instrs.length - (intOf i).toNat)
      case atStart => exact ⟨0, Ext.self _, by omega, rfl, by simp, rfl⟩
      case round =>
        obtain ⟨j, v, hj, rfl, hall2, rfl⟩ := hrel
        have HA3 := Lib.hid hall2
        clear hall2
        have d0 := Ext.cell b0 v
        have d1 := Ext.cell b1 v
        have e0 := Ext.cell p0 v
        have e1 := Ext.cell p1 v
        have e2 := Ext.cell p2 v
        have e3 := Ext.cell p3 v
        have e4 := Ext.cell p4 v
        have hzv : w.heap.size < v.w.heap.size := by have := v.hb.size; omega
        by_cases hlj : j < b.instrs.length
        · obtain ⟨x, ex⟩ := get_of_lt hlj
          obtain ⟨a', _, rfl, rfl, hc⟩ := (r'.ext v).at ex
          have EX := Lib.hid ex
          clear ex
          have q := fun z : Ext v.w => hc5E (n := j * 5) hc z
          have q0 := fun z : Ext v.w => (q z).1
          have q1 := fun z : Ext v.w => (q z).2.1
          have q2 := fun z : Ext v.w => (q z).2.2.1
          have q3 := fun z : Ext v.w => (q z).2.2.2.1
          have q4 := fun z : Ext v.w => (q z).2.2.2.2
          clear hc q
          have f0 := fun z : Ext v.w => Ext.cell d0 z
          have f1 := fun z : Ext v.w => Ext.cell d1 z
          have g0 := fun z : Ext v.w => Ext.cell e0 z
          cases hg : goodInstr x m.regs 13
          all_goals
            have HG := Lib.hid hg
            have hgi := fun W => goodInstr_c x m.regs 13 W (by omega)
            rw [hg] at hgi
            clear hg
            go_wp2
            refine wp_region_ext (W := v.w) (by kernel_rfl) (by kernel_rfl) ⟨Ext.self v.w, rfl⟩ ?_
            repeat quiet_step ((first | (go_at_call 40; exact ext_of (hgi _))))
            refine wpQuiet_nil ?_
            rintro _ ⟨z, rfl⟩
            go_wp2
          · go_ret
            exact ⟨ret_bool (vm_instr HE.out EX.out HG.out).symm, Below.trans (ext_box u) (Below.trans (v.hb.mono (by omega)) (z.hb.mono (by omega)))⟩
          · obtain ⟨v1, hv1⟩ := v.more z.hb
            have HV1 := Lib.hid hv1
            clear hv1
            go_roundw
            case rel => exact ⟨j + 1, v1, by omega, by go_num, all_snoc EX.out HA3.out HG.out, HV1.out⟩
            case measure => simp [intOf]; omega
        · have HA4 := Lib.hid (show (b.instrs.all fun x => goodInstr x m.regs 13) = true by have := HA3.out; rwa [List.take_of_length_le (by omega)] at this)
          have f0 := fun z : Ext v.w => Ext.cell d0 z
          have f1 := fun z : Ext v.w => Ext.cell d1 z
          have g1 := fun z : Ext v.w => Ext.cell e1 z
          have g2 := fun z : Ext v.w => Ext.cell e2 z
          have g3 := fun z : Ext v.w => Ext.cell e3 z
          have g4 := fun z : Ext v.w => Ext.cell e4 z
          cases hg : goodTerm b.term m.regs 0 m.blocks.length
          all_goals
            have HG := Lib.hid hg
            have hgi := fun W => goodTermS_c b.term m.regs 0 m.blocks.length W
            rw [hg] at hgi
            clear hg
            go_wp2
            refine wp_region_ext (W := v.w) (by kernel_rfl) (by kernel_rfl) ⟨Ext.self v.w, rfl⟩ ?_
            repeat quiet_step ((first | (go_at_call 41; exact ext_of (hgi _))))
            refine wpQuiet_nil ?_
            rintro _ ⟨z, rfl⟩
            go_wp2
          · go_ret
            exact ⟨ret_bool (vm_term HE.out HG.out).symm, Below.trans (ext_box u) (Below.trans (v.hb.mono (by omega)) (z.hb.mono (by omega)))⟩
          · obtain ⟨u1, hu1⟩ := u.more (Below.then_ v.hb z.hb)
            have HU := Lib.hid hu1
            clear hu1
            go_roundw
            case rel => exact ⟨k + 1, u1, by omega, by go_num, all_snoc HE.out HA.out (by rw [HA4.out, HG.out]; rfl), HU.out⟩
            case measure => simp [intOf]; omega
    · have HV := Lib.hid (vm_all HRR.out HN.out HS.out (by have := HA.out; rwa [List.take_of_length_le (by omega)] at this))
      go_wp2
      go_ret
      exact ⟨ret_bool HV.out.symm, ext_box u⟩
end Go.Proofs.YtnnfjjgohhicjaaDoor
namespace Go.Proofs.YtnnfjjgohhicjaaDoor
open Go.RowKit
set_option linter.unusedSimpArgs false
set_option linter.unusedVariables false
set_option maxRecDepth 100000

theorem l1Exec_c (N : Nat) (X : List Nat) (D cD G cG : Nat) (s s' : Wd) (w : World) (A : Option Addr) (ca : Nat) (At : Option Addr) (ct : Nat) (code value : Int) (x : Instr) (n : Int) (h : Rws N X D cD G cG (.slice At s.trace.length ct) s w) (hg : GoodInstr x n 13) (h10 : x.op ≤ 10) (hn : (s.cells.length : Int) = n)
    (hA : C kI64 w A s.args) (ha : s.args.length ≤ 1048576) (hl : s.trace.length ≤ 1048576) (hN : N ≤ w.heap.size) (hX : ∀ x ∈ X, x < w.heap.size) (he : exec x s = some s') :
    Calls Tryd.prog 65 #[x.v, .slice (some ⟨D, 0, none⟩) s.cells.length cD, .slice A s.args.length ca, .agg #[.int .i64 code, .int .i64 value, .int .i64 s.steps, .slice At s.trace.length ct, .slice (some ⟨G, 0, none⟩) 32 cG]] w (ExecPost N X D cD G cG code value s' w) := by
  obtain ⟨g1, g2, g3, g4, g5, g6⟩ := hg
  obtain ⟨op, dst, a, b, imm⟩ := x
  dsimp only at *
  subst hn
  rcases (by omega : op = 1 ∨ op = 2 ∨ op = 8 ∨ op = 9 ∨ op = 10 ∨ op = 3 ∨ op = 4 ∨ op = 5 ∨ op = 6 ∨ op = 7) with rfl | rfl | rfl | rfl | rfl | rfl | rfl | rfl | rfl | rfl
  · obtain rfl : { s with cells := setI s.cells dst imm } = s' := by simpa [exec] using he
    exact ex_const N X D cD G cG s w A ca At ct code value dst a b imm h (fld_t g3 (by decide))
  · obtain rfl : { s with cells := setI s.cells dst (getI s.args imm) } = s' := by simpa [exec] using he
    exact ex_arg N X D cD G cG s w A ca At ct code value dst a b imm h (fld_t g3 (by decide)) hA ha (by rcases g6 with h | h | h <;> omega)
  · obtain rfl : { s with cells := setI s.cells dst (getI s.heap (getI s.cells a % 32)) } = s' := by simpa [exec] using he
    exact ex_load N X D cD G cG s w A ca At ct code value dst a b imm h (fld_t g3 (by decide)) (fld_t g4 (by decide))
  · obtain rfl : { s with heap := setI s.heap (getI s.cells a % 32) (getI s.cells b) } = s' := by simpa [exec] using he
    exact ex_store N X D cD G cG s w A ca At ct code value dst a b imm h (fld_t g4 (by decide)) (fld_t g5 (by decide))
  · obtain rfl : { s with trace := s.trace ++ [getI s.cells a] } = s' := by simpa [exec] using he
    exact ex_out N X D cD G cG s w A ca At ct code value dst a b imm h (fld_t g4 (by decide)) hl hN hX
  case inr.inr.inr.inr.inr.inr.inr.inr.inl =>
    have hz : getI s.cells b ≠ 0 := fun e => by simp [exec, e] at he
    obtain rfl : { s with cells := setI s.cells dst (arithP 6 (getI s.cells a) (getI s.cells b)) } = s' := by simpa [exec, hz] using he
    exact ex_ari N X D cD G cG s w A ca At ct code value dst a b imm h (fld_t g3 (by decide)) (fld_t g4 (by decide)) (fld_t g5 (by decide)) _ (by omega) (fun _ => hz)
  all_goals
    obtain rfl : { s with cells := setI s.cells dst (arithP _ (getI s.cells a) (getI s.cells b)) } = s' := by simpa [exec] using he
    exact ex_ari N X D cD G cG s w A ca At ct code value dst a b imm h (fld_t g3 (by decide)) (fld_t g4 (by decide)) (fld_t g5 (by decide)) _ (by omega) (by omega)
/-- The spec's state in memory. -/
def SSt (W0 : World) (B D cD G cG : Nat) (code value : Int) (s : Wd) (w : World) : Prop :=
  ∃ At ct, Bk B 51 (wol code value s (.slice (some ⟨G, 0, none⟩) 32 cG) (.slice At s.trace.length ct)) w ∧ Rws W0.heap.size [B] D cD G cG (.slice At s.trace.length ct) s w ∧ W0.heap.size ≤ B ∧ Below W0.heap.size W0 w
namespace SSt
variable {W0 : World} {B D cD G cG : Nat} {code value : Int} {s s' : Wd} {w w' : World}
theorem below (h : SSt W0 B D cD G cG code value s w) (hb : Below w.heap.size w w') : SSt W0 B D cD G cG code value s w' := by
  obtain ⟨At, ct, h1, h2, h3, h4⟩ := h
  exact ⟨At, ct, h1.below hb, h2.below hb, h3, h4.trans (hb.mono h4.size)⟩
theorem step (h : SSt W0 B D cD G cG code value s w) : SSt W0 B D cD G cG code value (Go.Proofs.YtnnfjjgohhicjaaDoor.step s) (w.setCell ⟨B, 2, none⟩ (.int .i64 (s.steps + 1))) := by
  obtain ⟨At, ct, h1, h2, h3, h4⟩ := h
  obtain ⟨k1, k2⟩ := h1.set 2 (.int .i64 (s.steps + 1))
  exact ⟨At, ct, k1, h2.chg (k2.mono fun k _ e => by simp [e]), h3, h4.trans (k2.below h4.size fun k hk => by subst hk; exact h3)⟩
theorem setCode (h : SSt W0 B D cD G cG code value s w) (c2 : Int) : SSt W0 B D cD G cG c2 value s (w.setCell ⟨B, 0, none⟩ (.int .i64 c2)) := by
  obtain ⟨At, ct, h1, h2, h3, h4⟩ := h
  obtain ⟨k1, k2⟩ := h1.set 0 (.int .i64 c2)
  exact ⟨At, ct, k1, h2.chg (k2.mono fun k _ e => by simp [e]), h3, h4.trans (k2.below h4.size fun k hk => by subst hk; exact h3)⟩
theorem setValue (h : SSt W0 B D cD G cG code value s w) (v2 : Int) : SSt W0 B D cD G cG code v2 s (w.setCell ⟨B, 1, none⟩ (.int .i64 v2)) := by
  obtain ⟨At, ct, h1, h2, h3, h4⟩ := h
  obtain ⟨k1, k2⟩ := h1.set 1 (.int .i64 v2)
  exact ⟨At, ct, k1, h2.chg (k2.mono fun k _ e => by simp [e]), h3, h4.trans (k2.below h4.size fun k hk => by subst hk; exact h3)⟩
theorem setReg (h : SSt W0 B D cD G cG code value s w) {r : Int} (hr : r.toNat < s.cells.length) (v : Int) : SSt W0 B D cD G cG code value { s with cells := setI s.cells r v } (w.setCell ⟨D, r.toNat, none⟩ (.int .i64 v)) := by
  obtain ⟨At, ct, h1, h2, h3, h4⟩ := h
  obtain ⟨k1, k2⟩ := h2.setReg hr v
  have hX : ¬ B = D := fun e => h2.2.2.2.2.2.2.1 (by simp [e])
  exact ⟨At, ct, h1.chg k2 hX, k1, h3, h4.trans (k2.below h4.size fun k hk => by subst hk; exact h2.2.2.2.2.1)⟩
/-- All five cells anew. -/
theorem all {l : List Value} {At : Option Addr} {ct : Nat} (h1 : Bk B 51 l w) (hl : l.length = 5) (h2 : Rws W0.heap.size [B] D cD G cG (.slice At s.trace.length ct) s w) (h3 : W0.heap.size ≤ B) (h4 : Below W0.heap.size W0 w) :
    SSt W0 B D cD G cG code value s (((((w.setCell ⟨B, 0, none⟩ (.int .i64 code)).setCell ⟨B, 1, none⟩ (.int .i64 value)).setCell ⟨B, 2, none⟩ (.int .i64 s.steps)).setCell ⟨B, 3, none⟩ (.slice At s.trace.length ct)).setCell ⟨B, 4, none⟩ (.slice (some ⟨G, 0, none⟩) 32 cG)) := by
  match l, hl with
  | [a0, a1, a2, a3, a4], _ =>
    obtain ⟨k0, c0⟩ := h1.set 0 (.int .i64 code)
    obtain ⟨k1, c1⟩ := k0.set 1 (.int .i64 value)
    obtain ⟨k2, c2⟩ := k1.set 2 (.int .i64 s.steps)
    obtain ⟨k3, c3⟩ := k2.set 3 (.slice At s.trace.length ct)
    obtain ⟨k4, c4⟩ := k3.set 4 (.slice (some ⟨G, 0, none⟩) 32 cG)
    have c := (((c0.trans c1).trans c2).trans c3).trans c4
    exact ⟨At, ct, k4, h2.chg (c.mono fun k _ e => by simp [e]), h3, h4.trans (c.below h4.size fun k hk => by subst hk; exact h3)⟩
theorem outRows (h : SSt W0 B D cD G cG code value s w) : ∃ At ct, Bk B 51 (wol code value s (.slice (some ⟨G, 0, none⟩) 32 cG) (.slice At s.trace.length ct)) w ∧ OutRows W0 (fin code value s) (.slice (some ⟨G, 0, none⟩) 32 cG) (.slice At s.trace.length ct) w := by
  obtain ⟨At, ct, h1, h2, h3, h4⟩ := h
  exact ⟨At, ct, h1, St.out code value h2⟩
end SSt
end Go.Proofs.YtnnfjjgohhicjaaDoor
