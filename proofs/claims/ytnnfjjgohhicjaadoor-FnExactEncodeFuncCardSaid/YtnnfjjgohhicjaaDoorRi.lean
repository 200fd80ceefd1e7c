/- Contract: impl.RunMach. -/
import Derived.Test.YtnnfjjgohhicjaaDoorRg
import Derived.Test.YtnnfjjgohhicjaaDoorKm
namespace Go.Proofs.YtnnfjjgohhicjaaDoor
open Go.RowKit
set_option linter.unusedSimpArgs false
set_option linter.unusedVariables false
set_option maxRecDepth 100000

def badOut : Outc := ⟨4, 0, 0, [], []⟩
def initW (args heap : List Int) (fuel : Int) (n : Nat) : Wd := ⟨args, heap32 heap, [], fuel, 0, List.replicate n 0, 0⟩
def blkM (m : Mach) (b : Int) : List Instr × Term := match m.blocks[b.toNat]? with
  | some x => (x.instrs, x.term)
  | none => ([], ⟨0, 0, 0, 0⟩)
def runMach (m : Mach) (args heap : List Int) (fuel : Int) : Outc :=
  if validMach m = true ∧ runOK args.length heap.length fuel = true then runS (blkM m) (fun _ _ s => s) fuel.toNat 0 0 (initW args heap fuel m.regs.toNat) else badOut
/-- An outcome is the answer. -/
def RetOut (W : World) (R : Outc) (e : Ending) (w' : World) : Prop := ∃ vh vt, e = .returned (.agg #[.int .i64 R.code, .int .i64 R.value, .int .i64 R.steps, vt, vh]) ∧ OutRows W R vh vt w' ∧ Below W.heap.size W w'
def BlkQ (W0 : World) (X : List Nat) (B : Nat) (T : TypeId) (ex : List Value) (A : Option Addr) (ca D cD G cG : Nat) (Bf : Int → List Instr × Term) (E : Int → Int → Wd → Wd) (b : Int) (s0 : Wd) (R : Outc) (next : Int) (p : Option Addr) (w w' : World) : Prop :=
  (p = none ∧ ∃ s', St W0 X B T ex A ca D cD G cG s' w' ∧ Ok s0 s' ∧ s0.steps < s'.steps ∧ R = runS Bf E (lft s') next 0 (E b next s') ∧ next ∈ targets (Bf b).2 ∧ Chg (Tn X B) w w') ∨
  (∃ o vh vt, p = some ⟨o, 0, none⟩ ∧ Bk o 51 (wolR R vh vt) w' ∧ OutRows W0 R vh vt w' ∧ Below W0.heap.size W0 w' ∧ W0.heap.size ≤ o)
theorem BlkPost.q {W0 : World} {X : List Nat} {B : Nat} {T : TypeId} {ex : List Value} {A : Option Addr} {ca D cD G cG : Nat} {Bf : Int → List Instr × Term} {E : Int → Int → Wd → Wd} {b : Int} {s0 : Wd} {R : Outc} {e : Ending} {w w' : World} (h : BlkPost W0 X B T ex A ca D cD G cG Bf E b s0 R w e w') :
    ∃ next p, e = .returned (.tuple #[.int .i64 next, .pointer p]) ∧ BlkQ W0 X B T ex A ca D cD G cG Bf E b s0 R next p w w' ∧ Below W0.heap.size W0 w' := by
  rcases h with ⟨next, s', he, h1, h2⟩ | ⟨o, vh, vt, he, h1, h2, h3, h4⟩
  · exact ⟨next, none, he, .inl ⟨rfl, s', h1, h2⟩, by obtain ⟨_, _, _, _, _, hb, _⟩ := h1; exact hb⟩
  · exact ⟨0, _, he, .inr ⟨o, vh, vt, rfl, h1, h2, h3, h4⟩, h3⟩
theorem goodTerm_loose {t : Term} {n low N : Int} (h : GoodTerm t n low N) (h0 : 0 ≤ low) (hN : N ≤ 4000) : GoodTerm t n (-1) 4000 := by
  rcases h with h | h | h
  · exact .inl (by omega)
  · exact .inr (.inl (by omega))
  · exact .inr (.inr (by omega))
theorem validMach_parts {m : Mach} (h : validMach m = true) : (1 ≤ m.regs ∧ m.regs ≤ 64) ∧ (1 ≤ m.blocks.length ∧ m.blocks.length ≤ 3000) ∧ ∀ (k : Nat) b, m.blocks[k]? = some b → (∀ (i : Nat) x, b.instrs[i]? = some x → GoodInstr x m.regs 13) ∧ GoodTerm b.term m.regs 0 m.blocks.length := by
  simp only [validMach, Bool.and_eq_true, decide_eq_true_eq] at h
  obtain ⟨⟨⟨h1, h2⟩, -⟩, h4⟩ := h
  refine ⟨h1, h2, fun k b hb => ?_⟩
  have h5 := List.all_eq_true.1 h4 b (List.mem_of_getElem? hb)
  rw [Bool.and_eq_true] at h5
  exact ⟨fun i x hx => (goodInstr_iff _ _ _).1 (List.all_eq_true.1 h5.1 x (List.mem_of_getElem? hx)), (goodTerm_iff _ _ _ _).1 h5.2⟩
/-- What is left of the fuel, read off the world. -/
def leftAt (fuel : Int) (B : Nat) (w : World) : Nat := match w.cell? ⟨B, 4, none⟩ with
  | some (.int _ k) => (fuel - k).toNat
  | _ => 0
theorem St.left {W0 : World} {X : List Nat} {B : Nat} {T : TypeId} {ex : List Value} {A : Option Addr} {ca D cD G cG : Nat} {s : Wd} {w : World} (h : St W0 X B T ex A ca D cD G cG s w) (fuel : Int) : leftAt fuel B w = (fuel - s.steps).toNat := by
  obtain ⟨_, _, h1, _⟩ := h
  unfold leftAt
  rw [h1.cell 4 (v := .int .i64 s.steps) rfl]
theorem retBad {W w' : World} (hb : Below W.heap.size W w') {R : Outc} (hR : R = badOut) {v : Value} (hv : v = .agg #[.int .i64 4, .int .i64 0, .int .i64 0, .slice none 0 0, .slice none 0 0]) : RetOut W R (.returned v) w' := by
  subst hR; subst hv
  exact ⟨_, _, rfl, ⟨[], [], Row.nil _ _ _, Row.nil _ _ _, by simp, by simp⟩, hb⟩
theorem St.init {W0 w3 w' : World} {A : Option Addr} {ca G D n : Nat} {T : TypeId} {ex : List Value} {args heap : List Int} {fuel : Int} (hb : Below W0.heap.size W0 w3)
    (hG : Row 2 kI64 w3 (.slice (some ⟨G, 0, none⟩) 32 32) (heap32 heap) [G]) (hD : Row 2 kI64 w3 (.slice (some ⟨D, 0, none⟩) n n) (List.replicate n 0) [D]) (hne : D ≠ G) (h1 : W0.heap.size ≤ G) (h2 : W0.heap.size ≤ D)
    (hw : w' = w3.alloc (.cells (wl (.slice A args.length ca) (.slice (some ⟨G, 0, none⟩) 32 32) (.slice none 0 0) (.slice (some ⟨D, 0, none⟩) n n) (initW args heap fuel n) ex).toArray T)) :
    St W0 [w3.heap.size] w3.heap.size T ex A ca D n G 32 (initW args heap fuel n) w' := by
  subst hw
  have hb2 : Below w3.heap.size w3 (w3.alloc (.cells (wl (.slice A args.length ca) (.slice (some ⟨G, 0, none⟩) 32 32) (.slice none 0 0) (.slice (some ⟨D, 0, none⟩) n n) (initW args heap fuel n) ex).toArray T)) := (Below.refl _ _).alloc (Nat.le_refl _) _
  have lD := hD.lt D (by simp)
  have lG := hG.lt G (by simp)
  have hl : (initW args heap fuel n).cells.length = n := List.length_replicate
  refine ⟨none, 0, ?_, ⟨?_, hG.chg (chg_of hb2) (by simp), heap32_len _, hne, h2, h1, by simp; omega, by simp; omega, [], Row.nil _ _ _, by simp⟩, hb.size, hb.trans (hb2.mono hb.size), by simp, by simp⟩
  · rw [hl]; exact Bk.made _ _ _
  · rw [hl]; exact hD.chg (chg_of hb2) (by simp)
theorem Ok.self {s0 s : Wd} (h : Ok s0 s) : Ok s s := ⟨rfl, rfl, rfl, Int.le_refl _, Int.le_trans h.pos h.lo, h.hi, h.max, h.tr, h.nargs⟩
theorem Ok.trans {s0 s s' : Wd} (h : Ok s0 s) (k : Ok s s') : Ok s0 s' := ⟨k.args.trans h.args, k.fuel.trans h.fuel, k.cells.trans h.cells, Int.le_trans h.lo k.lo, h.pos, k.hi, k.max, k.tr, k.nargs⟩
theorem targets_in {t : Term} {n low N : Int} (h : GoodTerm t n low N) (h0 : 0 ≤ low) {q : Int} (hq : q ∈ targets t) : 0 ≤ q ∧ q < N := by
  rcases h with ⟨h1, h⟩ | ⟨h1, h⟩ | ⟨h1, h⟩ <;> simp [targets, h1] at hq <;> omega
theorem OutRows.ret {W W0 w4 w5 : World} {R : Outc} {vh vt : Value} {k : Nat} (h : OutRows W0 R vh vt w4) (hW : W.heap.size ≤ W0.heap.size) (hc : Chg (fun b => b = k) w4 w5) (hk : k < W0.heap.size) : OutRows W R vh vt w5 := by
  obtain ⟨fh, ft, h1, h2, h3, h4⟩ := h
  exact ⟨fh, ft, h1.chg hc (fun b hb e => by have := h3 b hb; omega), h2.chg hc (fun b hb e => by have := (h4 b hb).1; omega), fun b hb => Nat.le_trans hW (h3 b hb), fun b hb => ⟨Nat.le_trans hW (h4 b hb).1, (h4 b hb).2⟩⟩
set_option maxHeartbeats 8000000 in
theorem runMach_i (A L H : Option Addr) (c ca ch : Nat) (m : Mach) (args heap : List Int) (fuel : Int) (w : World) (hx : C (kMB 0) w L m.blocks) (hA : C kI64 w A args) (hH : C kI64 w H heap) (hS : Shapes w) (hm : m.blocks.length ≤ 1048576) (hs : ∀ (i : Nat) b, m.blocks[i]? = some b → b.instrs.length ≤ 1048576)
    (ha : args.length ≤ 1048576) (hh : heap.length ≤ 1048576) :
    Calls Tryd.prog 27 #[.agg #[.int .i64 m.regs, .slice L m.blocks.length c], .slice A args.length ca, .slice H heap.length ch, .int .i64 fuel] w (RetOut w (runMach m args heap fuel)) := by
  have HIV := Lib.hid (fun W (h : Below w.heap.size w W) => validMach_i L c m W (hx.below h) (hS.below h hS.pos) hm hs)
  have HRN := Lib.hid (fun W => runnable_c A H args.length heap.length ca ch fuel W ha hh)
  cases hv : validMach m
  · have HR := Lib.hid (show runMach m args heap fuel = badOut by simp [runMach, hv])
    have HV := Lib.hid hv
    clear hv
    go_enter Tryd.func27, Tryd.ntmps27
    go_wp2_with (go_at_call 12; have hiv := HIV.out; rw [HV.out] at hiv; refine (hiv _ (by repeat (first | (with_reducible first | exact Below.refl _ _ | assumption | exact ext_box _) | (with_reducible apply Below.drew) | ((with_reducible refine Below.setCell ?_ ?hs _); (case hs => first | (simp; done) | (simp; omega) | omega)) | ((with_reducible refine Below.alloc ?_ ?hs _); (case hs => first | (simp; done) | (simp; omega) | omega))))).mono ?_; rintro e w1 ⟨rfl, hb1⟩; have HB1 : Below w.heap.size w w1 := Below.then_ (by repeat (first | (with_reducible first | exact Below.refl _ _ | assumption | exact ext_box _) | (with_reducible apply Below.drew) | ((with_reducible refine Below.setCell ?_ ?hs _); (case hs => first | (simp; done) | (simp; omega) | omega)) | ((with_reducible refine Below.alloc ?_ ?hs _); (case hs => first | (simp; done) | (simp; omega) | omega)))) hb1; obtain ⟨hc1, hf1⟩ := bcell hb1; obtain ⟨zw0, zw1⟩ : w.heap.size < w1.heap.size ∧ w.heap.size + 1 < w1.heap.size := (by have := hb1.size; simp at this; omega))
    refine bodyPost_ret (v := .agg #[.int .i64 4, .int .i64 0, .int .i64 0, .slice none 0 0, .slice none 0 0]) (by simp [results, Tryd.results27, go_sem, hc1, zw0, zw1]) rfl (retBad (by repeat (first | (with_reducible first | exact Below.refl _ _ | assumption | exact ext_box _) | (with_reducible apply Below.drew) | ((with_reducible refine Below.setCell ?_ ?hs _); (case hs => first | (simp; done) | (simp; omega) | omega)) | ((with_reducible refine Below.alloc ?_ ?hs _); (case hs => first | (simp; done) | (simp; omega) | omega)))) HR.out rfl)
  · have HV := Lib.hid hv
    cases hk : runOK args.length heap.length fuel
    · have HR := Lib.hid (show runMach m args heap fuel = badOut by simp [runMach, hk])
      have HK := Lib.hid hk
      clear hv hk
      go_enter Tryd.func27, Tryd.ntmps27
      go_wp2_with (first
        | (go_at_call 12; have hiv := HIV.out; rw [HV.out] at hiv; refine (hiv _ (by repeat (first | (with_reducible first | exact Below.refl _ _ | assumption | exact ext_box _) | (with_reducible apply Below.drew) | ((with_reducible refine Below.setCell ?_ ?hs _); (case hs => first | (simp; done) | (simp; omega) | omega)) | ((with_reducible refine Below.alloc ?_ ?hs _); (case hs => first | (simp; done) | (simp; omega) | omega))))).mono ?_; rintro e w1 ⟨rfl, hb1⟩; have HB1 : Below w.heap.size w w1 := Below.then_ (by repeat (first | (with_reducible first | exact Below.refl _ _ | assumption | exact ext_box _) | (with_reducible apply Below.drew) | ((with_reducible refine Below.setCell ?_ ?hs _); (case hs => first | (simp; done) | (simp; omega) | omega)) | ((with_reducible refine Below.alloc ?_ ?hs _); (case hs => first | (simp; done) | (simp; omega) | omega)))) hb1; obtain ⟨hc1, hf1⟩ := bcell hb1; obtain ⟨zw0, zw1⟩ : w.heap.size < w1.heap.size ∧ w.heap.size + 1 < w1.heap.size := (by have := hb1.size; simp at this; omega))
        | (go_at_call 66; have hrn := HRN.out; rw [HK.out] at hrn; refine (hrn _).mono ?_; rintro e w2 ⟨rfl, rfl⟩))
      refine bodyPost_ret (v := .agg #[.int .i64 4, .int .i64 0, .int .i64 0, .slice none 0 0, .slice none 0 0]) (by simp [results, Tryd.results27, go_sem, hc1, zw0, zw1]) rfl (retBad (by repeat (first | (with_reducible first | exact Below.refl _ _ | assumption | exact ext_box _) | (with_reducible apply Below.drew) | ((with_reducible refine Below.setCell ?_ ?hs _); (case hs => first | (simp; done) | (simp; omega) | omega)) | ((with_reducible refine Below.alloc ?_ ?hs _); (case hs => first | (simp; done) | (simp; omega) | omega)))) HR.out rfl)
    · have HR := Lib.hid (show runMach m args heap fuel = runS (blkM m) (fun _ _ s => s) fuel.toNat 0 0 (initW args heap fuel m.regs.toNat) by simp [runMach, hv, hk])
      have HK := Lib.hid hk
      obtain ⟨g1, g2, g3⟩ := validMach_parts hv
      obtain ⟨r1, r2, r3, r4⟩ := runOK_iff.1 hk
      obtain ⟨n, hn⟩ : ∃ n : Nat, m.regs = n := ⟨m.regs.toNat, by omega⟩
      have HN := Lib.hid hn
      have HG := Lib.hid g3
      obtain ⟨g4, g5⟩ := g2
      have hn2 : n ≤ 64 := by omega
      clear hv hk g3 g1 hn
      go_enter Tryd.func27, Tryd.ntmps27
      go_wp2_with (first
        | (go_at_call 12; have hiv := HIV.out; rw [HV.out] at hiv; refine (hiv _ (by repeat (first | (with_reducible first | exact Below.refl _ _ | assumption | exact ext_box _) | (with_reducible apply Below.drew) | ((with_reducible refine Below.setCell ?_ ?hs _); (case hs => first | (simp; done) | (simp; omega) | omega)) | ((with_reducible refine Below.alloc ?_ ?hs _); (case hs => first | (simp; done) | (simp; omega) | omega))))).mono ?_; rintro e w1 ⟨rfl, hb1⟩; have HB1 : Below w.heap.size w w1 := Below.then_ (by repeat (first | (with_reducible first | exact Below.refl _ _ | assumption | exact ext_box _) | (with_reducible apply Below.drew) | ((with_reducible refine Below.setCell ?_ ?hs _); (case hs => first | (simp; done) | (simp; omega) | omega)) | ((with_reducible refine Below.alloc ?_ ?hs _); (case hs => first | (simp; done) | (simp; omega) | omega)))) hb1; obtain ⟨hc1, hf1⟩ := bcell hb1; obtain ⟨zw0, zw1⟩ : w.heap.size < w1.heap.size ∧ w.heap.size + 1 < w1.heap.size := (by have := hb1.size; simp at this; omega))
        | (go_at_call 66; have hrn := HRN.out; rw [HK.out] at hrn; refine (hrn _).mono ?_; rintro e w2 ⟨rfl, rfl⟩))
      have K8 := Lib.hid (show Bk (w.heap.size + 1) 51 [.int .i64 0, .int .i64 0, .int .i64 0, .slice none 0 0, .slice none 0 0] w1 by
        have := (Bk.made (w.alloc (.cells #[.int .i64 m.regs, .slice L m.blocks.length c] 29)) 51 [.int .i64 0, .int .i64 0, .int .i64 0, .slice none 0 0, .slice none 0 0]).below hb1
        simpa only [World.size_alloc] using this)
      have HNW := Lib.hid (fun W (hb : Below w1.heap.size w1 W) => newWorld_c A H args.length ca ch heap fuel n W (hH.below (HB1.trans (hb.mono HB1.size))) r2 (by omega))
      have y0 : w1.cell? ⟨w.heap.size, 0, none⟩ = some (.int .i64 m.regs) := (hc1 _ _ (by simp; try omega)).trans (by simp)
      have y1 : w1.cell? ⟨w.heap.size, 1, none⟩ = some (.slice L m.blocks.length c) := (hc1 _ _ (by simp; try omega)).trans (by simp)
      have KS := Lib.hid (fun w' (h : Below w1.heap.size w1 w') => (⟨(h.cell zw0).trans y0, (h.cell zw0).trans y1⟩ : w'.cell? ⟨w.heap.size, 0, none⟩ = some (.int .i64 m.regs) ∧ w'.cell? ⟨w.heap.size, 1, none⟩ = some (.slice L m.blocks.length c)))
      go_region_held3 (fun w' => w'.cell? ⟨w.heap.size, 0, none⟩ = some (.int .i64 m.regs) ∧ w'.cell? ⟨w.heap.size, 1, none⟩ = some (.slice L m.blocks.length c)) ((refine KS.out _ ?_; (repeat (first | (with_reducible first | exact Below.refl _ _ | assumption | exact ext_box _) | (with_reducible apply Below.drew) | ((with_reducible refine Below.setCell ?_ ?hs _); (case hs => first | (simp; done) | (simp; omega) | omega)) | ((with_reducible refine Below.alloc ?_ ?hs _); (case hs => first | (simp; done) | (simp; omega) | omega))))))
        (first
        | (go_at_call 67; have hnw := HNW.out; rw [← HN.out] at hnw; refine (hnw _ (by (repeat (first | (with_reducible first | exact Below.refl _ _ | assumption | exact ext_box _) | (with_reducible apply Below.drew) | ((with_reducible refine Below.setCell ?_ ?hs _); (case hs => first | (simp; done) | (simp; omega) | omega)) | ((with_reducible refine Below.alloc ?_ ?hs _); (case hs => first | (simp; done) | (simp; omega) | omega)))))).mono ?_; rintro e w3 ⟨G, D, rfl, hg3, hd3, hne3, hG3, hD3, hb3⟩; have HB3 : Below w1.heap.size w1 w3 := Below.then_ (by (repeat (first | (with_reducible first | exact Below.refl _ _ | assumption | exact ext_box _) | (with_reducible apply Below.drew) | ((with_reducible refine Below.setCell ?_ ?hs _); (case hs => first | (simp; done) | (simp; omega) | omega)) | ((with_reducible refine Below.alloc ?_ ?hs _); (case hs => first | (simp; done) | (simp; omega) | omega))))) hb3; have zw3 := HB3.size))
      all_goals
        have HST := Lib.hid (fun w' hw => St.init (w' := w') (A := A) (ca := ca) (args := args) (fuel := fuel) (ex := [.int .i64 m.regs, .slice L m.blocks.length c]) (T := 116) HB3 hg3 hd3 hne3 (by simpa using hG3) (by simpa using hD3) hw)
        have HOK := Lib.hid (show Ok (initW args heap fuel n) (initW args heap fuel n) from ⟨rfl, rfl, rfl, Int.le_refl _, Int.le_refl _, r3, r4, by simp [initW], r1⟩)
        obtain ⟨R, hR⟩ : ∃ R, runMach m args heap fuel = R := ⟨_, rfl⟩
        have HRM := Lib.hid hR
        have HR2 := Lib.hid (show R = runS (blkM m) (fun _ _ s => s) (lft (initW args heap fuel n)) 0 0 (initW args heap fuel n) by rw [← hR, HR.out, HN.out, show lft (initW args heap fuel n) = fuel.toNat by simp [lft, initW]]; simp)
        have HA0 := Lib.hid (show (initW args heap fuel n).args = args ∧ (initW args heap fuel n).fuel = fuel ∧ (initW args heap fuel n).cells.length = n from ⟨rfl, rfl, List.length_replicate⟩)
        clear hR hg3 hd3 hne3 hG3 hD3 hb3
        go_wp2
        generalize w3.heap.size = B at *
        go_loopw [10] (fun i wr => ∃ (b : Nat) (s : Wd), b < m.blocks.length ∧ i = .int .i64 b ∧ St w1 [B] B 116 [.int .i64 m.regs, .slice L m.blocks.length c] A ca D n G 32 s wr ∧ Ok (initW args heap fuel n) s ∧ R = runS (blkM m) (fun _ _ s => s) (lft s) b 0 s) (fun _ wr => leftAt fuel B wr)
        case atStart => exact ⟨0, initW args heap fuel n, by omega, rfl, HST.out _ rfl, HOK.out, HR2.out⟩
        case round =>
          clear HST HR2
          obtain ⟨b, s, hb, rfl, hst, hok, hrn⟩ := hrel
          have HS := Lib.hid hst
          have HO := Lib.hid hok
          have HRN := Lib.hid hrn
          have HML := Lib.hid (hst.left fuel)
          have HW := Lib.hid (show Below w1.heap.size w1 wr by obtain ⟨_, _, _, _, _, hb, _⟩ := hst; exact hb)
          clear hst hok hrn
          obtain ⟨x, ex⟩ := get_of_lt hb
          obtain ⟨a, _, rfl, ⟨_, _, rfl, ⟨A', c', rfl, l', r'⟩, rfl⟩, hc⟩ := (hx.below HB1).at ex
          obtain ⟨p0, p1, p2, p3, p4⟩ := hc5 (n := b * 5) hc
          clear hc
          have hil := hs _ _ ex
          have HE := Lib.hid ex
          have HG2 := Lib.hid (HG.out _ _ ex)
          clear ex
          have KS := Lib.hid (fun w' (h : Below w1.heap.size w1 w') => (⟨(h.cell zw0).trans y1, (h.cell (World.block_lt_of_cell? w1 _ p0)).trans p0, (h.cell (World.block_lt_of_cell? w1 _ p1)).trans p1, (h.cell (World.block_lt_of_cell? w1 _ p2)).trans p2, (h.cell (World.block_lt_of_cell? w1 _ p3)).trans p3, (h.cell (World.block_lt_of_cell? w1 _ p4)).trans p4⟩ : w'.cell? ⟨w.heap.size, 1, none⟩ = some (.slice (some a) m.blocks.length c) ∧ w'.cell? (a.add (b * 5)) = some (.slice A' x.instrs.length c') ∧ w'.cell? ⟨(a.add (b * 5)).block, (a.add (b * 5)).off + 1, none⟩ = some (.int .i64 x.term.kind) ∧ w'.cell? ⟨(a.add (b * 5)).block, (a.add (b * 5)).off + 2, none⟩ = some (.int .i64 x.term.a) ∧ w'.cell? ⟨(a.add (b * 5)).block, (a.add (b * 5)).off + 3, none⟩ = some (.int .i64 x.term.to) ∧ w'.cell? ⟨(a.add (b * 5)).block, (a.add (b * 5)).off + 4, none⟩ = some (.int .i64 x.term.els)))
          have HBL := Lib.hid (fun W (hbw : Below wr.heap.size wr W) => block_c w1 [B] B 116 [.int .i64 m.regs, .slice (some a) m.blocks.length c] A ca D n G 32 A' c' x.instrs x.term m.regs (blkM m) (fun _ _ s => s) b s W (by rw [HO.out.args]; exact hA.below HB1) r' hil HG2.out.1 (goodTerm_loose HG2.out.2 (by omega) (by omega)) (by rw [HO.out.cells, HA0.out.2.2, HN.out]) (by simp [blkM, HE.out]) (HS.out.below hbw) HO.out.self)
          clear p0 p1 p2 p3 p4
          obtain ⟨k1, k2, k3, k4, k5, k6⟩ := KS.out wr HW.out
          go_wp2
          have hWr := HW.out
          go_region_held3 (fun w' => w'.cell? ⟨w.heap.size, 1, none⟩ = some (.slice (some a) m.blocks.length c) ∧ w'.cell? (a.add (b * 5)) = some (.slice A' x.instrs.length c') ∧ w'.cell? ⟨(a.add (b * 5)).block, (a.add (b * 5)).off + 1, none⟩ = some (.int .i64 x.term.kind) ∧ w'.cell? ⟨(a.add (b * 5)).block, (a.add (b * 5)).off + 2, none⟩ = some (.int .i64 x.term.a) ∧ w'.cell? ⟨(a.add (b * 5)).block, (a.add (b * 5)).off + 3, none⟩ = some (.int .i64 x.term.to) ∧ w'.cell? ⟨(a.add (b * 5)).block, (a.add (b * 5)).off + 4, none⟩ = some (.int .i64 x.term.els)) ((refine KS.out _ ?_; (repeat (first | (with_reducible first | exact Below.refl _ _ | assumption | exact ext_box _) | (with_reducible apply Below.drew) | ((with_reducible refine Below.setCell ?_ ?hs _); (case hs => first | (simp; done) | (simp; omega) | omega)) | ((with_reducible refine Below.alloc ?_ ?hs _); (case hs => first | (simp; done) | (simp; omega) | omega))))))
            (first
            | (go_at_call 68; refine (HBL.out _ (by (repeat (first | (with_reducible first | exact Below.refl _ _ | assumption | exact ext_box _) | (with_reducible apply Below.drew) | ((with_reducible refine Below.setCell ?_ ?hs _); (case hs => first | (simp; done) | (simp; omega) | omega)) | ((with_reducible refine Below.alloc ?_ ?hs _); (case hs => first | (simp; done) | (simp; omega) | omega)))))).mono ?_; rintro e w4 h4; obtain ⟨nx, pt, rfl, hq4, hb4⟩ := h4.q; have HQ4 := Lib.hid hq4; clear h4 hq4))
          all_goals
            have hq4 := HQ4.out
            clear HQ4
            rcases hq4 with ⟨rfl, s', hs', ho', hlt', hr', hmem, -⟩ | ⟨o, vh, vt, rfl, ho1, ho2, ho3, ho4⟩
            · have hti := targets_in HG2.out.2 (by omega) (q := nx) (by have := hmem; rwa [show (blkM m b).2 = x.term by simp [blkM, HE.out]] at this)
              obtain ⟨b2, rfl⟩ : ∃ b2 : Nat, nx = b2 := ⟨nx.toNat, by omega⟩
              have HS' := Lib.hid hs'
              have HO' := Lib.hid ho'
              have HR' := Lib.hid hr'
              have hfu := ho'.hi
              have HFU := Lib.hid (show s'.fuel = fuel by rw [ho'.fuel, HO.out.fuel, HA0.out.2.1])
              clear hs' ho' hr' hmem k1 k2 k3 k4 k5 k6
              go_wp2
              go_roundw
              case rel => exact ⟨b2, s', by omega, rfl, HS'.out, HO.out.trans HO'.out, HRN.out.trans HR'.out⟩
              case measure => rw [HS'.out.left, HML.out]; have := HFU.out; omega
            · have ho2' := ho2
              rw [← HRN.out] at ho2'
              obtain ⟨fh, ft, q1, q2, q3⟩ := id ho2
              obtain ⟨A1, c1, rfl, -⟩ := q1.form
              obtain ⟨A2, c2, rfl, -⟩ := q2.form
              clear q1 q2 q3
              rw [← HRN.out] at ho2'
              have K8' := K8.out.below ho3
              have e0 := K8'.cell 0 rfl
              have e1 := K8'.cell 1 rfl
              have e2 := K8'.cell 2 rfl
              have e3 := K8'.cell 3 rfl
              have e4 := K8'.cell 4 rfl
              have f8 := K8'.frozen
              have d0 := ho1.cell 0 (v := .int .i64 _) rfl
              have d1 := ho1.cell 1 (v := .int .i64 _) rfl
              have d2 := ho1.cell 2 (v := .int .i64 _) rfl
              have d3 := ho1.cell 3 rfl
              have d4 := ho1.cell 4 rfl
              have HO2 := Lib.hid ho2'
              have HO3 := Lib.hid ho3
              have hs3 := ho3.size
              rw [← HRN.out] at d0 d1 d2 d3 d4
              clear ho1 ho2 ho2' K8' k1 k2 k3 k4 k5 k6
              go_wp2
              exact bodyPost_ret (v := .agg #[.int .i64 R.code, .int .i64 R.value, .int .i64 R.steps, .slice A2 R.trace.length c2, .slice A1 R.heap.length c1]) (by simp [results, Tryd.results27, go_sem, e0, e1, e2, e3, e4, f8]) rfl (by rw [HRM.out]; exact ⟨_, _, rfl, HO2.out.ret (k := w.heap.size + 1) HB1.size (by (repeat (first | (with_reducible first | exact Chg.refl _ _ | assumption) | (with_reducible refine Chg.drew ?_) | ((with_reducible refine Chg.setCell ?_ ?hs _); (case hs => first | (simp; done) | (simp; omega) | omega)) | (with_reducible refine Chg.alloc ?_ _)))) zw1, by have := HB1.trans (HO3.out.mono HB1.size); (repeat (first | (with_reducible first | exact Below.refl _ _ | assumption | exact ext_box _) | (with_reducible apply Below.drew) | ((with_reducible refine Below.setCell ?_ ?hs _); (case hs => first | (simp; done) | (simp; omega) | omega)) | ((with_reducible refine Below.alloc ?_ ?hs _); (case hs => first | (simp; done) | (simp; omega) | omega))))⟩)
end Go.Proofs.YtnnfjjgohhicjaaDoor
