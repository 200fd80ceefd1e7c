/- Contract: spec.l1Enter. -/
import Derived.Test.YtnnfjjgohhicjaaDoorRi
import Derived.Test.YtnnfjjgohhicjaaDoorMu1
import Derived.Test.YtnnfjjgohhicjaaDoorKx
import Derived.Maps.AppendAt
namespace Go.Proofs.YtnnfjjgohhicjaaDoor
open Go.RowKit
set_option linter.unusedSimpArgs false
set_option linter.unusedVariables false
set_option maxRecDepth 100000

def blkF (m : Func) (b : Int) : List Instr × Term := match m.blocks[b.toNat]? with
  | some x => (x.instrs, x.term)
  | none => ([], ⟨0, 0, 0, 0⟩)
def runFunc (m : Func) (args heap : List Int) (fuel : Int) : Outc :=
  if validF m = true ∧ runOK args.length heap.length fuel = true then runS (blkF m) (enterP m) fuel.toNat 0 0 (initW args heap fuel m.values.toNat) else badOut
theorem GoodInstr.up {x : Instr} {n : Int} (h : GoodInstr x n 10) : GoodInstr x n 13 := ⟨h.1, Int.le_trans h.2.1 (by decide), h.2.2⟩
theorem St.init2 {W0 w3 w' : World} {A : Option Addr} {ca G D n : Nat} {T : TypeId} {ex : List Value} {args heap : List Int} {fuel : Int} {fpP : List Nat} (hb : Below W0.heap.size W0 w3)
    (hG : Row 2 kI64 w3 (.slice (some ⟨G, 0, none⟩) 32 32) (heap32 heap) [G]) (hD : Row 2 kI64 w3 (.slice (some ⟨D, 0, none⟩) n n) (List.replicate n 0) [D]) (hne : D ≠ G) (h1 : W0.heap.size ≤ G) (h2 : W0.heap.size ≤ D)
    (hp : ∀ q ∈ fpP, q ≠ G ∧ q ≠ D ∧ q < w3.heap.size)
    (hw : w' = w3.alloc (.cells (wl (.slice A args.length ca) (.slice (some ⟨G, 0, none⟩) 32 32) (.slice none 0 0) (.slice (some ⟨D, 0, none⟩) n n) (initW args heap fuel n) ex).toArray T)) :
    St W0 (w3.heap.size :: fpP) w3.heap.size T ex A ca D n G 32 (initW args heap fuel n) w' := by
  subst hw
  have hb2 : Below w3.heap.size w3 (w3.alloc (.cells (wl (.slice A args.length ca) (.slice (some ⟨G, 0, none⟩) 32 32) (.slice none 0 0) (.slice (some ⟨D, 0, none⟩) n n) (initW args heap fuel n) ex).toArray T)) := (Below.refl _ _).alloc (Nat.le_refl _) _
  have lD := hD.lt D (by simp)
  have lG := hG.lt G (by simp)
  have hl : (initW args heap fuel n).cells.length = n := List.length_replicate
  refine ⟨none, 0, ?_, ⟨?_, hG.chg (chg_of hb2) (by simp), heap32_len _, hne, h2, h1, ?_, ?_, [], Row.nil _ _ _, by simp⟩, hb.size, hb.trans (hb2.mono hb.size), by simp, ?_⟩
  · rw [hl]; exact Bk.made _ _ _
  · rw [hl]; exact hD.chg (chg_of hb2) (by simp)
  · simp only [List.mem_cons, not_or]; exact ⟨by omega, fun hm => (hp _ hm).2.1 rfl⟩
  · simp only [List.mem_cons, not_or]; exact ⟨by omega, fun hm => (hp _ hm).1 rfl⟩
  · intro q hq
    rcases List.mem_cons.1 hq with rfl | hq
    · simp
    · have := (hp q hq).2.2; simp; omega
/-- What a phi at an edge needs. -/
theorem VF.edge {m : Func} (h : VF m) {b b2 : Nat} {x x2 : Block} (hx : m.blocks[b]? = some x) (hx2 : m.blocks[b2]? = some x2) (ht : (b2 : Int) ∈ targets x.term) :
    (preds m.blocks (b2 : Int))[edgeAt m b b2]? = some (b : Int) ∧ ∀ (i : Nat) y, x2.phis[i]? = some y → y.args.length ≤ 4000 ∧ edgeAt m b b2 < y.args.length ∧ (0 ≤ y.dst ∧ y.dst < m.values) ∧ ∀ a ∈ y.args, 0 ≤ a ∧ a < m.values := by
  have h1 := edgeAt_get (m := m) (edge_mem hx ht)
  refine ⟨h1, fun i y hy => ?_⟩
  obtain ⟨h2, h3, h4⟩ := h.args b2 x2 hx2 i y hy
  exact ⟨(h.lens hx2).2.2 i y hy, by rw [h2]; exact (List.getElem?_eq_some_iff.1 h1).1, h.dst b2 x2 hx2 i y hy, h4⟩
theorem enterP_ok {m : Func} {s0 s : Wd} {p b : Int} (h : Ok s0 s) : Ok s0 (enterP m p b s) := ⟨h.args, h.fuel, by unfold enterP; simp only [phiSets_len]; exact h.cells, h.lo, h.pos, h.hi, h.max, h.tr, h.nargs⟩
set_option maxHeartbeats 8000000 in
theorem runFunc_i (A L H : Option Addr) (c ca ch : Nat) (m : Func) (args heap : List Int) (fuel : Int) (w : World) (hx : C (kBlock 0 0 0) w L m.blocks) (hA : C kI64 w A args) (hH : C kI64 w H heap) (hS : Shapes w) (hm : m.blocks.length ≤ 1048576) (hs : ∀ (i : Nat) b, m.blocks[i]? = some b → okBlk 1048576 b)
    (ha : args.length ≤ 1048576) (hh : heap.length ≤ 1048576) :
    Calls Tryd.prog 37 #[.agg #[.int .i64 m.values, .slice L m.blocks.length c], .slice A args.length ca, .slice H heap.length ch, .int .i64 fuel] w (RetOut w (runFunc m args heap fuel)) := by
  have HIV := Lib.hid (fun W (h : Below w.heap.size w W) => validF_i L c m W (hx.below h) (hS.below h hS.pos) hm hs)
  have HRN := Lib.hid (fun W => runnable_c A H args.length heap.length ca ch fuel W ha hh)
  cases hv : validF m
  · have HR := Lib.hid (show runFunc m args heap fuel = badOut by simp [runFunc, hv])
    have HV := Lib.hid hv
    clear hv
    go_enter Tryd.func37, Tryd.ntmps37
    go_wp2_with (go_at_call 17; have hiv := HIV.out; rw [HV.out] at hiv; refine (hiv _ (by repeat (first | (with_reducible first | exact Below.refl _ _ | assumption | exact ext_box _) | (with_reducible apply Below.drew) | ((with_reducible refine Below.setCell ?_ ?hs _); (case hs => first | (simp; done) | (simp; omega) | omega)) | ((with_reducible refine Below.alloc ?_ ?hs _); (case hs => first | (simp; done) | (simp; omega) | omega))))).mono ?_; rintro e w1 ⟨rfl, hb1⟩; have HB1 : Below w.heap.size w w1 := Below.then_ (by repeat (first | (with_reducible first | exact Below.refl _ _ | assumption | exact ext_box _) | (with_reducible apply Below.drew) | ((with_reducible refine Below.setCell ?_ ?hs _); (case hs => first | (simp; done) | (simp; omega) | omega)) | ((with_reducible refine Below.alloc ?_ ?hs _); (case hs => first | (simp; done) | (simp; omega) | omega)))) hb1; obtain ⟨hc1, hf1⟩ := bcell hb1; obtain ⟨zw0, zw1⟩ : w.heap.size < w1.heap.size ∧ w.heap.size + 1 < w1.heap.size := (by have := hb1.size; simp at this; omega))
    refine bodyPost_ret (v := .agg #[.int .i64 4, .int .i64 0, .int .i64 0, .slice none 0 0, .slice none 0 0]) (by simp [results, Tryd.results37, go_sem, hc1, zw0, zw1]) rfl (retBad (by repeat (first | (with_reducible first | exact Below.refl _ _ | assumption | exact ext_box _) | (with_reducible apply Below.drew) | ((with_reducible refine Below.setCell ?_ ?hs _); (case hs => first | (simp; done) | (simp; omega) | omega)) | ((with_reducible refine Below.alloc ?_ ?hs _); (case hs => first | (simp; done) | (simp; omega) | omega)))) HR.out rfl)
  · have HV := Lib.hid hv
    cases hk : runOK args.length heap.length fuel
    · have HR := Lib.hid (show runFunc m args heap fuel = badOut by simp [runFunc, hk])
      have HK := Lib.hid hk
      clear hv hk
      go_enter Tryd.func37, Tryd.ntmps37
      go_wp2_with (first
        | (go_at_call 17; have hiv := HIV.out; rw [HV.out] at hiv; refine (hiv _ (by repeat (first | (with_reducible first | exact Below.refl _ _ | assumption | exact ext_box _) | (with_reducible apply Below.drew) | ((with_reducible refine Below.setCell ?_ ?hs _); (case hs => first | (simp; done) | (simp; omega) | omega)) | ((with_reducible refine Below.alloc ?_ ?hs _); (case hs => first | (simp; done) | (simp; omega) | omega))))).mono ?_; rintro e w1 ⟨rfl, hb1⟩; have HB1 : Below w.heap.size w w1 := Below.then_ (by repeat (first | (with_reducible first | exact Below.refl _ _ | assumption | exact ext_box _) | (with_reducible apply Below.drew) | ((with_reducible refine Below.setCell ?_ ?hs _); (case hs => first | (simp; done) | (simp; omega) | omega)) | ((with_reducible refine Below.alloc ?_ ?hs _); (case hs => first | (simp; done) | (simp; omega) | omega)))) hb1; obtain ⟨hc1, hf1⟩ := bcell hb1; obtain ⟨zw0, zw1⟩ : w.heap.size < w1.heap.size ∧ w.heap.size + 1 < w1.heap.size := (by have := hb1.size; simp at this; omega))
        | (go_at_call 66; have hrn := HRN.out; rw [HK.out] at hrn; refine (hrn _).mono ?_; rintro e w2 ⟨rfl, rfl⟩))
      refine bodyPost_ret (v := .agg #[.int .i64 4, .int .i64 0, .int .i64 0, .slice none 0 0, .slice none 0 0]) (by simp [results, Tryd.results37, go_sem, hc1, zw0, zw1]) rfl (retBad (by repeat (first | (with_reducible first | exact Below.refl _ _ | assumption | exact ext_box _) | (with_reducible apply Below.drew) | ((with_reducible refine Below.setCell ?_ ?hs _); (case hs => first | (simp; done) | (simp; omega) | omega)) | ((with_reducible refine Below.alloc ?_ ?hs _); (case hs => first | (simp; done) | (simp; omega) | omega)))) HR.out rfl)
    · have HR := Lib.hid (show runFunc m args heap fuel = runS (blkF m) (enterP m) fuel.toNat 0 0 (initW args heap fuel m.values.toNat) by simp [runFunc, hv, hk])
      have HK := Lib.hid hk
      have HVF := Lib.hid (validF_VF hv)
      obtain ⟨g1, g2⟩ : (0 ≤ m.values ∧ m.values ≤ 2000) ∧ (1 ≤ m.blocks.length ∧ m.blocks.length ≤ 1000) := ⟨HVF.out.vals, HVF.out.len⟩
      obtain ⟨r1, r2, r3, r4⟩ := runOK_iff.1 hk
      obtain ⟨n, hn⟩ : ∃ n : Nat, m.values = n := ⟨m.values.toNat, by omega⟩
      have HN := Lib.hid hn
      obtain ⟨g4, g5⟩ := g2
      have hn2 : n ≤ 2000 := by omega
      clear hv hk g1 hn
      go_enter Tryd.func37, Tryd.ntmps37
      go_wp2_with (first
        | (go_at_call 17; have hiv := HIV.out; rw [HV.out] at hiv; refine (hiv _ (by repeat (first | (with_reducible first | exact Below.refl _ _ | assumption | exact ext_box _) | (with_reducible apply Below.drew) | ((with_reducible refine Below.setCell ?_ ?hs _); (case hs => first | (simp; done) | (simp; omega) | omega)) | ((with_reducible refine Below.alloc ?_ ?hs _); (case hs => first | (simp; done) | (simp; omega) | omega))))).mono ?_; rintro e w1 ⟨rfl, hb1⟩; have HB1 : Below w.heap.size w w1 := Below.then_ (by repeat (first | (with_reducible first | exact Below.refl _ _ | assumption | exact ext_box _) | (with_reducible apply Below.drew) | ((with_reducible refine Below.setCell ?_ ?hs _); (case hs => first | (simp; done) | (simp; omega) | omega)) | ((with_reducible refine Below.alloc ?_ ?hs _); (case hs => first | (simp; done) | (simp; omega) | omega)))) hb1; obtain ⟨hc1, hf1⟩ := bcell hb1; obtain ⟨zw0, zw1⟩ : w.heap.size < w1.heap.size ∧ w.heap.size + 1 < w1.heap.size := (by have := hb1.size; simp at this; omega))
        | (go_at_call 66; have hrn := HRN.out; rw [HK.out] at hrn; refine (hrn _).mono ?_; rintro e w2 ⟨rfl, rfl⟩))
      have K8 := Lib.hid (show Bk (w.heap.size + 1) 51 [.int .i64 0, .int .i64 0, .int .i64 0, .slice none 0 0, .slice none 0 0] w1 by
        have := (Bk.made (w.alloc (.cells #[.int .i64 m.values, .slice L m.blocks.length c] 40)) 51 [.int .i64 0, .int .i64 0, .int .i64 0, .slice none 0 0, .slice none 0 0]).below hb1
        simpa only [World.size_alloc] using this)
      have HNW := Lib.hid (fun W (hb : Below w1.heap.size w1 W) => newWorld_c A H args.length ca ch heap fuel n W (hH.below (HB1.trans (hb.mono HB1.size))) r2 (by omega))
      have y0 : w1.cell? ⟨w.heap.size, 0, none⟩ = some (.int .i64 m.values) := (hc1 _ _ (by simp; try omega)).trans (by simp)
      have y1 : w1.cell? ⟨w.heap.size, 1, none⟩ = some (.slice L m.blocks.length c) := (hc1 _ _ (by simp; try omega)).trans (by simp)
      have KS := Lib.hid (fun w' (h : Below w1.heap.size w1 w') => (⟨(h.cell zw0).trans y0, (h.cell zw0).trans y1⟩ : w'.cell? ⟨w.heap.size, 0, none⟩ = some (.int .i64 m.values) ∧ w'.cell? ⟨w.heap.size, 1, none⟩ = some (.slice L m.blocks.length c)))
      have HPD := Lib.hid (fun W (hb : Below w1.heap.size w1 W) => predecessors_c L c m W (hx.below (HB1.trans (hb.mono HB1.size))) hm (fun i b hb q hq => by have := targets_in (HVF.out.term i b hb) (by omega) hq; omega))
      have HTP := Lib.hid (show (tab m.blocks.length fun t => predM t m.blocks 0) = tab m.blocks.length fun (t : Nat) => preds m.blocks (t : Int) from by simp only [HVF.out.predM])
      obtain ⟨P, hP⟩ : ∃ P, (tab m.blocks.length fun (t : Nat) => preds m.blocks (t : Int)) = P := ⟨_, rfl⟩
      have HPL := Lib.hid (show P.length = m.blocks.length by rw [← hP, tab_len])
      have HPG := Lib.hid (show ∀ t : Nat, t < m.blocks.length → P[t]? = some (preds m.blocks (t : Int)) from fun t ht => by rw [← hP, tab_get _ ht])
      rw [hP] at HTP
      clear hP
      go_region_held3 (fun w' => w'.cell? ⟨w.heap.size, 0, none⟩ = some (.int .i64 m.values) ∧ w'.cell? ⟨w.heap.size, 1, none⟩ = some (.slice L m.blocks.length c)) ((refine KS.out _ ?_; (repeat (first | (with_reducible first | exact Below.refl _ _ | assumption | exact ext_box _) | (with_reducible apply Below.drew) | ((with_reducible refine Below.setCell ?_ ?hs _); (case hs => first | (simp; done) | (simp; omega) | omega)) | ((with_reducible refine Below.alloc ?_ ?hs _); (case hs => first | (simp; done) | (simp; omega) | omega))))))
        (first
        | (go_at_call 67; have hnw := HNW.out; rw [← HN.out] at hnw; refine (hnw _ (by (repeat (first | (with_reducible first | exact Below.refl _ _ | assumption | exact ext_box _) | (with_reducible apply Below.drew) | ((with_reducible refine Below.setCell ?_ ?hs _); (case hs => first | (simp; done) | (simp; omega) | omega)) | ((with_reducible refine Below.alloc ?_ ?hs _); (case hs => first | (simp; done) | (simp; omega) | omega)))))).mono ?_; rintro e w3 ⟨G, D, rfl, hg3, hd3, hne3, hG3, hD3, hb3⟩; have HB3 : Below w1.heap.size w1 w3 := Below.then_ (by (repeat (first | (with_reducible first | exact Below.refl _ _ | assumption | exact ext_box _) | (with_reducible apply Below.drew) | ((with_reducible refine Below.setCell ?_ ?hs _); (case hs => first | (simp; done) | (simp; omega) | omega)) | ((with_reducible refine Below.alloc ?_ ?hs _); (case hs => first | (simp; done) | (simp; omega) | omega))))) hb3; have zw3 := HB3.size)
        | (go_at_call 53; have hpd := HPD.out; rw [HTP.out] at hpd; refine (hpd _ (by (repeat (first | (with_reducible first | exact Below.refl _ _ | assumption | exact ext_box _) | (with_reducible apply Below.drew) | ((with_reducible refine Below.setCell ?_ ?hs _); (case hs => first | (simp; done) | (simp; omega) | omega)) | ((with_reducible refine Below.alloc ?_ ?hs _); (case hs => first | (simp; done) | (simp; omega) | omega)))))).mono ?_; intro e w4 hp4; unfold RetRow at hp4; obtain ⟨vP, fpP, rfl, hrP, hfP, hb4⟩ := hp4; obtain ⟨AP, cP, rfl, hlP⟩ := hrP.form; have HB4 : Below w1.heap.size w1 w4 := Below.then_ (by (repeat (first | (with_reducible first | exact Below.refl _ _ | assumption | exact ext_box _) | (with_reducible apply Below.drew) | ((with_reducible refine Below.setCell ?_ ?hs _); (case hs => first | (simp; done) | (simp; omega) | omega)) | ((with_reducible refine Below.alloc ?_ ?hs _); (case hs => first | (simp; done) | (simp; omega) | omega))))) hb4; have zw4 := HB4.size; have HR4 := Lib.hid hrP; have HF4 := Lib.hid hfP; have HB34 : Below w3.heap.size w3 w4 := Below.then_ (by (repeat (first | (with_reducible first | exact Below.refl _ _ | assumption | exact ext_box _) | (with_reducible apply Below.drew) | ((with_reducible refine Below.setCell ?_ ?hs _); (case hs => first | (simp; done) | (simp; omega) | omega)) | ((with_reducible refine Below.alloc ?_ ?hs _); (case hs => first | (simp; done) | (simp; omega) | omega))))) hb4; have HFP := Lib.hid (show ∀ q ∈ fpP, w3.heap.size ≤ q ∧ q < w4.heap.size from fun q hq => ⟨by have h1 := hfP q hq; (try simp at h1); omega, hrP.lt q hq⟩); clear hfP hrP))
      all_goals
        have lG3 := hg3.lt G (by simp)
        have lD3 := hd3.lt D (by simp)
        have HST := Lib.hid (fun w' hw => St.init2 (w' := w') (A := A) (ca := ca) (args := args) (fuel := fuel) (ex := [.int .i64 m.values, .slice L m.blocks.length c, .slice AP P.length cP]) (T := 124) (fpP := fpP) HB4 (hg3.chg (chg_of HB34) (by simp)) (hd3.chg (chg_of HB34) (by simp)) hne3 (by simpa using hG3) (by simpa using hD3) (fun q hq => by have := HFP.out q hq; omega) hw)
        have HOK := Lib.hid (show Ok (initW args heap fuel n) (initW args heap fuel n) from ⟨rfl, rfl, rfl, Int.le_refl _, Int.le_refl _, r3, r4, by simp [initW], r1⟩)
        obtain ⟨R, hR⟩ : ∃ R, runFunc m args heap fuel = R := ⟨_, rfl⟩
        have HRM := Lib.hid hR
        have HR2 := Lib.hid (show R = runS (blkF m) (enterP m) (lft (initW args heap fuel n)) 0 0 (initW args heap fuel n) by rw [← hR, HR.out, HN.out, show lft (initW args heap fuel n) = fuel.toNat by simp [lft, initW]]; simp)
        have HA0 := Lib.hid (show (initW args heap fuel n).args = args ∧ (initW args heap fuel n).fuel = fuel ∧ (initW args heap fuel n).cells.length = n from ⟨rfl, rfl, List.length_replicate⟩)
        have HNB := Lib.hid (show ∀ q ∈ fpP, q ≠ w4.heap.size from fun q hq e => by have := HFP.out q hq; omega)
        have HND := Lib.hid (show ∀ q ∈ fpP, q ≠ D from fun q hq e => by have := HFP.out q hq; omega)
        clear hR hg3 hd3 hne3 hG3 hD3 hb3 hb4 HF4
        go_wp2
        have HRP := Lib.hid (fun (o : Obj) => HR4.out.chg (S := fun _ => False) ((Chg.refl _ w4).alloc o) (by simp))
        generalize w4.heap.size = B at *
        go_loopw [10] (fun i wr => ∃ (b : Nat) (s : Wd), b < m.blocks.length ∧ i = .int .i64 b ∧ St w1 (B :: fpP) B 124 [.int .i64 m.values, .slice L m.blocks.length c, .slice AP P.length cP] A ca D n G 32 s wr ∧ Ok (initW args heap fuel n) s ∧ R = runS (blkF m) (enterP m) (lft s) b 0 s ∧ Row 49 kI64s wr (.slice AP P.length cP) P fpP) (fun _ wr => leftAt fuel B wr)
        case atStart => exact ⟨0, initW args heap fuel n, by omega, rfl, HST.out _ rfl, HOK.out, HR2.out, HRP.out _⟩
        case round =>
          clear HST HR2 HRP HR4
          obtain ⟨b, s, hb, rfl, hst, hok, hrn, hrp⟩ := hrel
          have HS := Lib.hid hst
          have HO := Lib.hid hok
          have HRN := Lib.hid hrn
          have HRP := Lib.hid hrp
          have HML := Lib.hid (hst.left fuel)
          have HW := Lib.hid (show Below w1.heap.size w1 wr by obtain ⟨_, _, _, _, _, hb, _⟩ := hst; exact hb)
          have hDX : D ∉ B :: fpP := by obtain ⟨_, _, _, h2, _⟩ := hst; exact h2.2.2.2.2.2.2.1
          have hBD : B ≠ D := fun e => hDX (by simp [e])
          clear hst hok hrn hrp
          obtain ⟨x, ex⟩ := get_of_lt hb
          have HXW := Lib.hid (hx.below HB1)
          obtain ⟨a, _, rfl, ⟨_, _, rfl, ⟨A0, c0, rfl, l0, r0⟩, _, _, rfl, ⟨A', c', rfl, l', r'⟩, rfl⟩, hc⟩ := (hx.below HB1).at ex
          obtain ⟨p00, p0, p1, p2, p3, p4⟩ := hc6 (n := b * 6) hc
          clear hc p00
          have hil := (hs _ _ ex).2.2
          have HE := Lib.hid ex
          have HG1 := Lib.hid (HVF.out.ins _ _ ex)
          have HG2 := Lib.hid (HVF.out.term _ _ ex)
          clear ex
          have KS := Lib.hid (fun w' (h : Below w1.heap.size w1 w') => (⟨(h.cell zw0).trans y1, (h.cell (World.block_lt_of_cell? w1 _ p0)).trans p0, (h.cell (World.block_lt_of_cell? w1 _ p1)).trans p1, (h.cell (World.block_lt_of_cell? w1 _ p2)).trans p2, (h.cell (World.block_lt_of_cell? w1 _ p3)).trans p3, (h.cell (World.block_lt_of_cell? w1 _ p4)).trans p4⟩ : w'.cell? ⟨w.heap.size, 1, none⟩ = some (.slice (some a) m.blocks.length c) ∧ w'.cell? ⟨(a.add (b * 6)).block, (a.add (b * 6)).off + 1, none⟩ = some (.slice A' x.instrs.length c') ∧ w'.cell? ⟨(a.add (b * 6)).block, (a.add (b * 6)).off + 2, none⟩ = some (.int .i64 x.term.kind) ∧ w'.cell? ⟨(a.add (b * 6)).block, (a.add (b * 6)).off + 3, none⟩ = some (.int .i64 x.term.a) ∧ w'.cell? ⟨(a.add (b * 6)).block, (a.add (b * 6)).off + 4, none⟩ = some (.int .i64 x.term.to) ∧ w'.cell? ⟨(a.add (b * 6)).block, (a.add (b * 6)).off + 5, none⟩ = some (.int .i64 x.term.els)))
          have HBL := Lib.hid (fun W (hbw : Below wr.heap.size wr W) => block_c w1 (B :: fpP) B 124 [.int .i64 m.values, .slice (some a) m.blocks.length c, .slice AP P.length cP] A ca D n G 32 A' c' x.instrs x.term m.values (blkF m) (enterP m) b s W (by rw [HO.out.args]; exact hA.below HB1) r' hil (fun i y hy => (HG1.out i y hy).up) (goodTerm_loose HG2.out (by omega) (by omega)) (by rw [HO.out.cells, HA0.out.2.2, HN.out]) (by simp [blkF, HE.out]) (HS.out.below hbw) HO.out.self)
          clear p0 p1 p2 p3 p4
          obtain ⟨k1, k2, k3, k4, k5, k6⟩ := KS.out wr HW.out
          go_wp2
          have hWr := HW.out
          go_region_held3 (fun w' => w'.cell? ⟨w.heap.size, 1, none⟩ = some (.slice (some a) m.blocks.length c) ∧ w'.cell? ⟨(a.add (b * 6)).block, (a.add (b * 6)).off + 1, none⟩ = some (.slice A' x.instrs.length c') ∧ w'.cell? ⟨(a.add (b * 6)).block, (a.add (b * 6)).off + 2, none⟩ = some (.int .i64 x.term.kind) ∧ w'.cell? ⟨(a.add (b * 6)).block, (a.add (b * 6)).off + 3, none⟩ = some (.int .i64 x.term.a) ∧ w'.cell? ⟨(a.add (b * 6)).block, (a.add (b * 6)).off + 4, none⟩ = some (.int .i64 x.term.to) ∧ w'.cell? ⟨(a.add (b * 6)).block, (a.add (b * 6)).off + 5, none⟩ = some (.int .i64 x.term.els)) ((refine KS.out _ ?_; (repeat (first | (with_reducible first | exact Below.refl _ _ | assumption | exact ext_box _) | (with_reducible apply Below.drew) | ((with_reducible refine Below.setCell ?_ ?hs _); (case hs => first | (simp; done) | (simp; omega) | omega)) | ((with_reducible refine Below.alloc ?_ ?hs _); (case hs => first | (simp; done) | (simp; omega) | omega))))))
            (first
            | (go_at_call 68; refine (HBL.out _ (by (repeat (first | (with_reducible first | exact Below.refl _ _ | assumption | exact ext_box _) | (with_reducible apply Below.drew) | ((with_reducible refine Below.setCell ?_ ?hs _); (case hs => first | (simp; done) | (simp; omega) | omega)) | ((with_reducible refine Below.alloc ?_ ?hs _); (case hs => first | (simp; done) | (simp; omega) | omega)))))).mono ?_; rintro e w5 h5; obtain ⟨nx, pt, rfl, hq5, hb5⟩ := h5.q; have HQ5 := Lib.hid hq5; clear h5 hq5))
          all_goals
            have hq5 := HQ5.out
            clear HQ5
            rcases hq5 with ⟨rfl, s', hs', ho', hlt', hr', hmem, hch⟩ | ⟨o, vh, vt, rfl, ho1, ho2, ho3, ho4⟩
            · have hmem2 : nx ∈ targets x.term := by have := hmem; rwa [show (blkF m b).2 = x.term by simp [blkF, HE.out]] at this
              have hti := targets_in HG2.out (by omega) hmem2
              obtain ⟨b2, rfl⟩ : ∃ b2 : Nat, nx = b2 := ⟨nx.toNat, by omega⟩
              obtain ⟨x2, ex2⟩ := get_of_lt (show b2 < m.blocks.length by omega)
              obtain ⟨he1, he2⟩ := HVF.out.edge HE.out ex2 hmem2
              have hcl : s'.cells.length = n := by rw [ho'.cells, HO.out.cells, HA0.out.2.2]
              have hrp5 := HRP.out.chg (w' := w5) (((Chg.refl _ wr).trans (by (repeat (first | (with_reducible first | exact Chg.refl _ _ | assumption) | (with_reducible refine Chg.drew ?_) | ((with_reducible refine Chg.setCell ?_ ?hs _); (case hs => first | (simp; done) | (simp; omega) | omega)) | (with_reducible refine Chg.alloc ?_ _))))).trans hch) (fun q hq e => by rcases e with e | e; exact HNB.out q hq e; exact e (List.mem_cons_of_mem _ hq))
              have HEN := Lib.hid (enter_c w1 (B :: fpP) B (some a) c AP cP m P A ca D n G 32 s' w5 b b2 x2 (preds m.blocks (b2 : Int)) HXW.out g5 hrp5.reads (by rw [HPL.out]; omega) ex2 (HPG.out b2 (by omega)) (by have := preds_len m.blocks (b2 : Int); omega) (edgeAt m b b2) he1 (fun j hj => preds_inj hj he1) (HVF.out.lens ex2).2.1 (fun i y hy => by obtain ⟨q1, q2, q3, q4⟩ := he2 i y hy; rw [hcl, ← HN.out]; exact ⟨q1, q2, q3, q4⟩) (by omega) hs')
              have HO' := Lib.hid ho'
              have HR' := Lib.hid hr'
              have hfu := ho'.hi
              have HFU := Lib.hid (show s'.fuel = fuel by rw [ho'.fuel, HO.out.fuel, HA0.out.2.1])
              have HPH := Lib.hid (show phisOf m b2 = x2.phis by simp [phisOf, ex2])
              have HRP5 := Lib.hid hrp5
              clear hs' ho' hr' hmem hmem2 hch hrp5 he1 he2 ex2 k1 k2 k3 k4 k5 k6
              go_wp2_with (go_at_call 73; with_reducible refine HEN.out.mono ?_; rintro e w6 ⟨rfl, hs6, hc6⟩)
              have HS6 := Lib.hid (show St w1 (B :: fpP) B 124 [.int .i64 m.values, .slice (some a) m.blocks.length c, .slice AP P.length cP] A ca D n G 32 (enterP m b b2 s') w6 by unfold enterP; rw [HPH.out]; exact hs6)
              have HRP6 := Lib.hid (HRP5.out.chg hc6 (fun q hq e => HND.out q hq e))
              clear hs6 hc6
              go_roundw
              case rel => exact ⟨b2, enterP m b b2 s', by omega, rfl, HS6.out, enterP_ok (HO.out.trans HO'.out), HRN.out.trans HR'.out, HRP6.out⟩
              case measure => rw [HS6.out.left, HML.out]; have := HFU.out; show (fuel - s'.steps).toNat < _; omega
            · have ho2' := ho2
              rw [← HRN.out] at ho2'
              obtain ⟨fh, ft, q1, q2, q3⟩ := id ho2
              obtain ⟨A1, c1, rfl, -⟩ := q1.form
              obtain ⟨A2, c2, rfl, -⟩ := q2.form
              clear q1 q2 q3
              rw [← HRN.out] at ho2'
              have K8' := K8.out.below ho3
              have e0 := K8'.cell 0 rfl
              have e1 := K8'.cell 1 rfl
              have e2 := K8'.cell 2 rfl
              have e3 := K8'.cell 3 rfl
              have e4 := K8'.cell 4 rfl
              have f8 := K8'.frozen
              have d0 := ho1.cell 0 (v := .int .i64 _) rfl
              have d1 := ho1.cell 1 (v := .int .i64 _) rfl
              have d2 := ho1.cell 2 (v := .int .i64 _) rfl
              have d3 := ho1.cell 3 rfl
              have d4 := ho1.cell 4 rfl
              have HO2 := Lib.hid ho2'
              have HO3 := Lib.hid ho3
              have hs3 := ho3.size
              rw [← HRN.out] at d0 d1 d2 d3 d4
              clear ho1 ho2 ho2' K8' k1 k2 k3 k4 k5 k6
              go_wp2
              exact bodyPost_ret (v := .agg #[.int .i64 R.code, .int .i64 R.value, .int .i64 R.steps, .slice A2 R.trace.length c2, .slice A1 R.heap.length c1]) (by simp [results, Tryd.results37, go_sem, e0, e1, e2, e3, e4, f8]) rfl (by rw [HRM.out]; exact ⟨_, _, rfl, HO2.out.ret (k := w.heap.size + 1) HB1.size (by (repeat (first | (with_reducible first | exact Chg.refl _ _ | assumption) | (with_reducible refine Chg.drew ?_) | ((with_reducible refine Chg.setCell ?_ ?hs _); (case hs => first | (simp; done) | (simp; omega) | omega)) | (with_reducible refine Chg.alloc ?_ _)))) zw1, by have := HB1.trans (HO3.out.mono HB1.size); (repeat (first | (with_reducible first | exact Below.refl _ _ | assumption | exact ext_box _) | (with_reducible apply Below.drew) | ((with_reducible refine Below.setCell ?_ ?hs _); (case hs => first | (simp; done) | (simp; omega) | omega)) | ((with_reducible refine Below.alloc ?_ ?hs _); (case hs => first | (simp; done) | (simp; omega) | omega))))⟩)
end Go.Proofs.YtnnfjjgohhicjaaDoor
namespace Go.Proofs.YtnnfjjgohhicjaaDoor
open Go.RowKit
set_option linter.unusedSimpArgs false
set_option linter.unusedVariables false
set_option maxRecDepth 100000

/-- Kinds without blocks of their own. -/
def Flat {α : Type} (d : Kd α) : Prop := ∀ w x cs, d.K w x cs → d.O w x cs []
theorem flat_int (q : IntKind) : Flat (kInt q) := fun _ _ _ h => ⟨h, rfl⟩
theorem flat_flat {α : Type} {n : Nat} {cells : α → List Value} {hl : ∀ x, (cells x).length = n} {h1 : ∀ x, ∀ u ∈ cells x, u.oneCell' = true} : Flat (kFlat n cells hl h1) := fun _ _ _ h => ⟨h, rfl⟩
theorem run_append_none' {P : Program} {w : World} {base : Nat} (t ty e : TypeId) (i : TypeInfo) (size c : Nat) (ht : P.underlying t = some (.slice e)) (hi : P.info? e = some i)
    (v : Value) (n : Nat) (xs : List Value) (hown : w.ownsRow base e size v n xs) :
    (Builtin.append_ #[t, t] ty #[v, .slice none 0 c]).run P w = .ok v w := by
  rcases hown.2 with ⟨rfl, rfl⟩ | ⟨g, cap, cur, rfl, _, _, hnc, _⟩
  · simp [Builtin.append_, run_underlying ht, sizeOf, typeInfo, hi, Builtin.lenOf, Builtin.firstCells]
  · simp [Builtin.append_, run_underlying ht, sizeOf, typeInfo, hi, Builtin.lenOf, Builtin.firstCells, hnc, storeCells]
/-- The cells of a row that is read. -/
theorem C.cells {α : Type} {d : Kd α} {w : World} {a : Addr} : ∀ {ys : List α}, C d w (some a) ys → ∃ css : List (List Value), css.length = ys.length ∧ (∀ (i : Nat) y, ys[i]? = some y → ∃ cs, css[i]? = some cs ∧ d.K w y cs) ∧ ∀ (j : Nat) u, css.flatten[j]? = some u → w.cell? (a.add j) = some u := by
  intro ys h
  have hp : ∀ i, i < ys.length → ∃ cs, (∃ y, ys[i]? = some y ∧ d.K w y cs) ∧ ∀ (j : Nat) u, cs[j]? = some u → w.cell? (a.add (i * d.sz + j)) = some u := fun i hi => by
    obtain ⟨y, hy⟩ := get_of_lt hi
    obtain ⟨a', cs, ha, hK, hc⟩ := h i y hy
    obtain rfl := Option.some.inj ha
    exact ⟨cs, ⟨y, hy, hK⟩, hc⟩
  obtain ⟨css, hl, hr⟩ : ∃ css : List (List Value), css.length = ys.length ∧ ∀ (i : Nat) cs, css[i]? = some cs → (∃ y, ys[i]? = some y ∧ d.K w y cs) ∧ ∀ (j : Nat) u, cs[j]? = some u → w.cell? (a.add (i * d.sz + j)) = some u := by
    refine ⟨(List.range ys.length).map fun i => if h : i < ys.length then (hp i h).choose else [], by simp, fun i cs hcs => ?_⟩
    have hi : i < ys.length := by have := (List.getElem?_eq_some_iff.1 hcs).1; simpa using this
    rw [List.getElem?_map, List.getElem?_range hi] at hcs
    simp only [Option.map_some, Option.some.injEq, hi, dif_pos] at hcs
    subst hcs
    exact (hp i hi).choose_spec
  have hs : ∀ cs ∈ css, cs.length = d.sz := fun cs hcs => by
    obtain ⟨i, hi⟩ := List.getElem?_of_mem hcs
    obtain ⟨⟨y, _, hK⟩, _⟩ := hr i cs hi
    exact d.len hK
  refine ⟨css, hl, fun i y hy => ?_, fun j u hu => ?_⟩
  · have hi : i < css.length := by have := (List.getElem?_eq_some_iff.1 hy).1; omega
    obtain ⟨cs, hcs⟩ := get_of_lt hi
    obtain ⟨⟨y', hy', hK⟩, _⟩ := hr i cs hcs
    rw [hy] at hy'
    obtain rfl := Option.some.inj hy'
    exact ⟨cs, hcs, hK⟩
  · rcases Nat.eq_zero_or_pos d.sz with h0 | h0
    · have : css.flatten = [] := List.flatten_eq_nil_iff.2 fun c hc => List.eq_nil_of_length_eq_zero ((hs c hc).trans h0)
      rw [this] at hu; simp at hu
    · rw [flatten_split hs h0] at hu
      obtain ⟨cs, hcs, hcu⟩ := Option.bind_eq_some_iff.1 hu
      have := (hr _ cs hcs).2 _ u hcu
      rwa [Nat.mul_comm, Nat.div_add_mod] at this
theorem All3.flat {α : Type} {d : Kd α} {w : World} (hf : Flat d) : ∀ {ys : List α} {css : List (List Value)}, css.length = ys.length → (∀ (i : Nat) y, ys[i]? = some y → ∃ cs, css[i]? = some cs ∧ d.K w y cs) → All3 (d.O w) ys css (List.replicate ys.length [])
  | [], [], _, _ => .nil
  | y :: ys, [], h, _ => by simp at h
  | [], c :: cs, h, _ => by simp at h
  | y :: ys, c :: css, h, hk => by
    obtain ⟨c', h1, h2⟩ := hk 0 y rfl
    simp at h1
    subst h1
    refine .cons (hf _ _ _ h2) (All3.flat hf (by simpa using h) fun i z hz => ?_)
    obtain ⟨c', h1, h2⟩ := hk (i + 1) z (by simpa using hz)
    exact ⟨c', by simpa using h1, h2⟩
theorem wpList_append_flat {P : Program} {ops : Array Oper} {rest : List Oper} {o : Oper} {a : Act} {Q : Exit → Act → World → Prop} {w : World} {α : Type} (d : Kd α) (hfl : Flat d) (hgd : o.guard = none) (s x : Operand) (t : TypeId)
    (ho : o.op = .call { callee := .builtin .append, args := #[s, x], argTypes := #[t, t] })
    (e : TypeId) (i : TypeInfo) (z : Value) (bytes : Nat) (ht : P.underlying t = some (.slice e)) (hi : P.info? e = some i) (hz : i.zero = some z)
    (hsize : i.size = d.sz) (hby : i.bytes = bytes) (hzs : z.cells.size = d.sz) (hsz : 0 < d.sz)
    (v : Value) (xs : List α) (fp : List Nat) (hs : a.eval s = v) (hrow : Row e d w v xs fp)
    (A : Option Addr) (c : Nat) (ys : List α) (hx : a.eval x = .slice A ys.length c) (hC : C d w A ys)
    (h63 : xs.length + ys.length ≤ maxLen) (hbytes : (xs.length + ys.length) * bytes ≤ 140737488355328)
    (h : ∀ A' cap w' fp', Row e d w' (.slice A' (xs ++ ys).length cap) (xs ++ ys) fp' → (∀ b ∈ fp', b ∈ fp ∨ b = w.heap.size) → Chg (fun k => k ∈ fp) w w' → (v ≠ .slice none 0 0 → ∃ g, A' = some ⟨g, 0, none⟩) → wpList P ops Q rest (a.put o.dst (.slice A' (xs ++ ys).length cap)) w') : wpList P ops Q (o :: rest) a w := by
  cases A with
  | none =>
    have h0 : ys = [] := by
      cases ys with
      | nil => rfl
      | cons y r => obtain ⟨a', _, h, _⟩ := hC 0 y rfl; cases h
    subst h0
    obtain ⟨A1, c1, hv, -⟩ := hrow.form
    obtain ⟨css, fps, how, ha, hfp, hn⟩ := id hrow
    have hrun := run_append_none' (P := P) (w := w) t o.type e i d.sz c ht hi v xs.length css.flatten how
    refine wpList_plain hgd fun K hK => ?_
    unfold Oper.wp
    simp only [List.length_nil] at hx
    simp [execOp, ho, resolve, invoke, builtin, hs, hx, hrun, Result.andThen]
    have := h A1 c1 w fp (by simpa [hv] using hrow) (fun b hb => .inl hb) (Chg.refl _ _) (fun hne => by
      rcases hrow.form' with ⟨h1, _⟩ | ⟨g, cap, h1, _⟩
      · exact absurd h1 hne
      · rw [hv] at h1; injection h1 with h1; exact ⟨g, h1⟩)
    rw [List.append_nil, ← hv] at this
    exact hK _ _ this
  | some ad =>
    obtain ⟨css2, hl2, hk2, hc2⟩ := hC.cells
    obtain ⟨css, fps, how, ha, rfl, hn⟩ := hrow
    have hs2 : ∀ cs ∈ css2, cs.length = d.sz := fun cs hcs => by
      obtain ⟨i, hi'⟩ := List.getElem?_of_mem hcs
      have hil := (List.getElem?_eq_some_iff.1 hi').1
      obtain ⟨y, hy⟩ := get_of_lt (show i < ys.length by omega)
      obtain ⟨cs', h1, hK⟩ := hk2 i y hy
      rw [hi'] at h1
      obtain rfl := Option.some.inj h1
      exact d.len hK
    have h1 : ∀ u ∈ css2.flatten, u.oneCell' = true := fun u hu => by
      obtain ⟨cs, hcs, hu⟩ := List.mem_flatten.1 hu
      obtain ⟨i, hi'⟩ := List.getElem?_of_mem hcs
      have hil := (List.getElem?_eq_some_iff.1 hi').1
      obtain ⟨y, hy⟩ := get_of_lt (show i < ys.length by omega)
      obtain ⟨cs', h1, hK⟩ := hk2 i y hy
      rw [hi'] at h1
      obtain rfl := Option.some.inj h1
      exact d.one hK u hu
    obtain ⟨v', w', hr, h2, h3, h4, h5⟩ := run_append_own_at (P := P) w 0 t o.type e i z d.sz bytes ht hi hz hsize hby hzs hsz v xs.length css.flatten how ad ys.length c css2.flatten (by rw [flatten_len hs2, hl2]) hc2 h1 h63 hbytes (Nat.zero_le _)
    have hg := Chg.of_grown h3
    have hfn : ∀ k ∈ fps.flatten, v.ownBlock ≠ some k := by
      intro k hk e
      rw [e] at hn
      simp only [Option.toList_some, List.cons_append, List.nil_append, List.nodup_cons] at hn
      exact hn.1 hk
    have hrow' : Row e d w' v' (xs ++ ys) (v'.ownBlock.toList ++ (fps ++ List.replicate ys.length []).flatten) := by
      refine ⟨css ++ css2, fps ++ List.replicate ys.length [], by simpa using h2, All3.append (ha.imp fun a b c hc h => d.okeep h fun k hk => hg.block k (ha.fps (List.mem_flatten.2 ⟨c, hc, hk⟩)) (hfn k (List.mem_flatten.2 ⟨c, hc, hk⟩))) ((All3.flat hfl hl2 hk2).imp fun a b c hc h => d.okeep h fun k hk => ?_), rfl, ?_⟩
      · rw [List.eq_of_mem_replicate hc] at hk; simp at hk
      · have hnil : (List.replicate ys.length ([] : List Nat)).flatten = [] := List.flatten_eq_nil_iff.2 fun c hc => List.eq_of_mem_replicate hc
        rw [List.flatten_append, hnil, List.append_nil]
        rcases h5 with h5 | h5
        · rw [h5]; exact hn
        · rw [h5]
          simp only [Option.toList_some, List.cons_append, List.nil_append, List.nodup_cons]
          exact ⟨fun hm => by have := ha.fps hm; omega, (List.nodup_append.1 hn).2.1⟩
    obtain ⟨A', c', rfl, -⟩ := hrow'.form
    refine wpList_plain hgd fun K hK => ?_
    unfold Oper.wp execOp
    simp only [ho, resolve, invoke, builtin, Sem.run_bind, Sem.run_pure, Result.andThen_ok, List.map_toArray, List.map_cons, List.map_nil, hs, hx, hr]
    refine hK _ _ (h A' c' w' _ hrow' (fun b hb => ?_) (hg.mono fun k _ hk => by simp [hk]) (fun hne => ?_))
    rotate_left
    · rcases hrow'.form' with ⟨h1, _⟩ | ⟨g, cap, h1, _⟩
      · exact absurd (h4.1 h1).1 hne
      · injection h1 with h1; exact ⟨g, h1⟩
    have hnil : (List.replicate ys.length ([] : List Nat)).flatten = [] := List.flatten_eq_nil_iff.2 fun c hc => List.eq_of_mem_replicate hc
    rw [List.flatten_append, hnil, List.append_nil] at hb
    rcases List.mem_append.1 hb with hb | hb
    · rcases h5 with h5 | h5
      · rw [h5] at hb; exact .inl (List.mem_append_left _ hb)
      · rw [h5] at hb; simp at hb; exact .inr hb
    · exact .inl (List.mem_append_right _ hb)
end Go.Proofs.YtnnfjjgohhicjaaDoor
namespace Go.Proofs.YtnnfjjgohhicjaaDoor
open Go.RowKit
set_option linter.unusedSimpArgs false
set_option linter.unusedVariables false
set_option maxRecDepth 100000

/-- A row that is no nil slice is the answer. -/
def RetI (w : World) (xs : List Int) (e : Ending) (w' : World) : Prop := ∃ g cap, e = .returned (.slice (some ⟨g, 0, none⟩) xs.length cap) ∧ Row 2 kI64 w' (.slice (some ⟨g, 0, none⟩) xs.length cap) xs [g] ∧ w.heap.size ≤ g ∧ Below w.heap.size w w'
set_option maxHeartbeats 4000000 in
theorem l1Enter_c (L : Option Addr) (c : Nat) (m : Func) (AV : Option Addr) (cV : Nat) (vals : List Int) (w : World) (p b : Nat) (x : Block)
    (hx : C (kBlock 0 0 0) w L m.blocks) (hm : m.blocks.length ≤ 1000) (hb : m.blocks[b]? = some x) (hV : C kI64 w AV vals) (hvl : vals.length ≤ 2000) (k : Nat) (hk : (preds m.blocks (b : Int))[k]? = some (p : Int))
    (hps : x.phis.length ≤ 4000) (hpa : ∀ (i : Nat) y, x.phis[i]? = some y → y.args.length ≤ 4000 ∧ k < y.args.length ∧ (0 ≤ y.dst ∧ y.dst < vals.length) ∧ ∀ a ∈ y.args, 0 ≤ a ∧ a < vals.length) :
    Calls Tryd.prog 72 #[.agg #[.int .i64 m.values, .slice L m.blocks.length c], .int .i64 p, .int .i64 b, .slice AV vals.length cV] w (RetI w (phiSets k vals x.phis vals)) := by
  obtain ⟨i0, hi, hz0, hz1, hz2⟩ := info_parts info_i64
  have HPR := Lib.hid (fun W (h : Below w.heap.size w W) => preds_c L c m (b : Int) W (hx.below h) (by omega))
  have hprl := preds_len m.blocks (b : Int)
  have hkl : k < (preds m.blocks (b : Int)).length := (List.getElem?_eq_some_iff.1 hk).1
  have HKI := Lib.hid (show ∀ j : Nat, (preds m.blocks (b : Int))[j]? = some (p : Int) → j = k from fun j hj => preds_inj hj hk)
  have HPA := Lib.hid hpa
  have HK := Lib.hid hk
  have hbl : b < m.blocks.length := (List.getElem?_eq_some_iff.1 hb).1
  have HVG := Lib.hid (show ∀ v : Nat, v < vals.length → ∃ a, AV = some a ∧ w.cell? (a.add v) = some (.int .i64 (getI vals v)) from fun v hv => by
    obtain ⟨a, _, h1, rfl, hc⟩ := hV.at (getI_get (l := vals) (i := (v : Int)) (by simpa using hv))
    have := hc1 (n := (v : Int).toNat * 1) hc
    rw [Nat.mul_one, Int.toNat_natCast] at this
    exact ⟨a, h1, this⟩)
  obtain ⟨a, _, rfl, ⟨_, _, rfl, ⟨A1, c1, rfl, l1, r1⟩, _, _, rfl, ⟨A2', c2', rfl, l2', r2'⟩, rfl⟩, hc⟩ := hx.at hb
  obtain ⟨p0, p1, p2, p3, p4, p5⟩ := hc6 (n := b * 6) hc
  replace p0 : w.cell? (a.add (b * 6)) = some (.slice A1 x.phis.length c1) := p0
  have HXB := Lib.hid hx
  clear hc p1 p2 p3 p4 p5 r2' hpa hk hb
  generalize hpr : preds m.blocks (b : Int) = pr at *
  go_enter Tryd.func72, Tryd.ntmps72
  go_wp2_with (first
    | (at_builtin; refine wpList_append_flat kI64 (flat_int .i64) rfl _ _ 49 rfl 2 i0 _ 8 Tryd.underlying49 hi hz0 hz1 hz2 rfl (by decide) _ ([] : List Int) [w.heap.size + 1] rfl (Row.empty0 (by simp)) AV cV vals rfl (hV.below (by repeat (first | (with_reducible first | exact Below.refl _ _ | assumption | exact ext_box _) | (with_reducible apply Below.drew) | ((with_reducible refine Below.setCell ?_ ?hs _); (case hs => first | (simp; done) | (simp; omega) | omega)) | ((with_reducible refine Below.alloc ?_ ?hs _); (case hs => first | (simp; done) | (simp; omega) | omega))))) (by simp [maxLen]; omega) (by simp; omega) ?_; rw [List.nil_append]; intro A9 c9 w0 fp9 hr9 hf9 hc9 hne9; obtain ⟨g, rfl⟩ := hne9 (show (Value.slice (some ⟨w.heap.size + 1, 0, none⟩) 0 0) ≠ Value.slice none 0 0 by simp); obtain rfl : fp9 = [g] := row_int_fp hr9; have hC0 : Chg (fun q => q ∈ [w.heap.size + 1]) (w.alloc (.cells #[.int .i64 m.values, .slice (some a) m.blocks.length c] 40)) w0 := Chg.trans (by (repeat (first | (with_reducible first | exact Chg.refl _ _ | assumption) | (with_reducible refine Chg.drew ?_) | ((with_reducible refine Chg.setCell ?_ ?hs _); (case hs => first | (simp; done) | (simp; omega) | omega)) | (with_reducible refine Chg.alloc ?_ _)))) hc9; have K0 := (Bk.made w 40 [.int .i64 m.values, .slice (some a) m.blocks.length c]).chg hC0 (by simp); have e0 := K0.cell 0 (v := .int .i64 m.values) rfl; have e1 := K0.cell 1 (v := .slice (some a) m.blocks.length c) rfl; have HC0 := Lib.hid (show Below w.heap.size w w0 from Chg.below (S := fun q => q ∈ [w.heap.size + 1]) (Chg.trans (by (repeat (first | (with_reducible first | exact Chg.refl _ _ | assumption) | (with_reducible refine Chg.drew ?_) | ((with_reducible refine Chg.setCell ?_ ?hs _); (case hs => first | (simp; done) | (simp; omega) | omega)) | (with_reducible refine Chg.alloc ?_ _)))) hC0) (Nat.le_refl _) (fun q hq => by simp at hq; omega)))
    | (go_at_call 49; refine (HPR.out _ HC0.out).mono ?_; intro e w1 hp1; unfold RetRow at hp1; obtain ⟨v10, fp10, rfl, hr10, hf10, hb1⟩ := hp1; obtain ⟨A10, c10, rfl, hl10⟩ := hr10.form))
  have HK1 := Lib.hid (K0.below hb1)
  have HR9 := Lib.hid (hr9.chg (chg_of hb1) (by simp))
  have HF9 := Lib.hid (show ∀ q ∈ [g], w.heap.size < q ∧ q < w0.heap.size from fun q hq => ⟨by rcases hf9 q hq with h | h; simp at h; omega; simp at h; omega, hr9.lt q hq⟩)
  have HR10 := Lib.hid hr10.reads
  have HB1 := Lib.hid (HC0.out.trans (hb1.mono HC0.out.size))
  have hs1 := hb1.size
  have hs0 := K0.lt
  have H10 := Lib.hid (show ∀ q ∈ fp10, w0.heap.size ≤ q from hf10)
  have HX10 := Lib.hid hr10
  -- what the loops leave
  have KS := Lib.hid (show ∀ W, Chg (fun q => q ∈ [g]) w1 W → W.cell? ⟨w.heap.size, 1, none⟩ = some (.slice (some a) m.blocks.length c) ∧ C kI64 W A10 pr ∧ (∀ p : Addr, p.block < w.heap.size → W.cell? p = w.cell? p) ∧ w.heap.size < W.heap.size from fun W hC => by
    have hk := HK1.out.chg hC (fun hm => by have := HF9.out _ hm; omega)
    refine ⟨hk.cell 1 rfl, (HX10.out.chg hC (fun b hb hm => by have h1 := H10.out b hb; have h2 := HF9.out b hm; omega)).reads, fun p hp => ?_, hk.lt⟩
    exact (hC.cell (by omega) (fun hm => by have := HF9.out _ hm; omega)).trans (HB1.out.cell hp))
  have HCH := Lib.hid (show ∀ W, Chg (fun q => q ∈ [g]) w1 W → Below w.heap.size w W from fun W hC => HB1.out.trans (hC.below (by omega) (fun q hq => by have := HF9.out q hq; omega)))
  clear hr9 hf9 hc9 hC0 K0 e0 e1 hr10 hf10 hb1 hl10 hx hV
  go_loopw [11] (fun t wr => ∃ i : Nat, i ≤ x.phis.length ∧ t = .int .i64 i ∧ Row 2 kI64 wr (.slice (some ⟨g, 0, none⟩) vals.length c9) (phiSets k vals (x.phis.take i) vals) [g] ∧ Chg (fun q => q ∈ [g]) w1 wr) (fun t _ => x.phis.length - (intOf t).toNat)
  case atStart => exact ⟨0, by omega, rfl, HR9.out, Chg.refl _ _⟩
  case round =>
    obtain ⟨i, hil, rfl, hr, hch⟩ := hrel
    obtain ⟨k1, hC10, kw, zb⟩ := KS.out _ hch
    have k2 := (kw _ (World.block_lt_of_cell? w _ p0)).trans p0
    have HR := Lib.hid hr
    have HC := Lib.hid hch
    clear hr hch kw
    by_cases hlt : i < x.phis.length
    · obtain ⟨y, ey⟩ := get_of_lt hlt
      obtain ⟨hp1, hp2, hp3, hp4⟩ := HPA.out _ _ ey
      have ek := getD_get hp2
      have hv2 := hp4 _ (List.mem_of_getElem? ek)
      obtain ⟨v, hv⟩ : ∃ v : Nat, y.args.getD k 0 = (v : Int) := ⟨(y.args.getD k 0).toNat, by omega⟩
      obtain ⟨r, hrr⟩ : ∃ r : Nat, y.dst = (r : Int) := ⟨y.dst.toNat, by omega⟩
      obtain ⟨a3, _, rfl, ⟨_, _, rfl, rfl, ⟨A3, c3, rfl, l3, r3⟩⟩, hc⟩ := r1.at ey
      obtain ⟨w0', w1'⟩ := hc2 (n := i * 2) hc
      obtain ⟨a4, _, rfl, rfl, hc'⟩ := r3.at ek
      have w2' := hc1 (n := k * 1) hc'
      rw [Nat.mul_one] at w2'
      rw [hv] at w2' hv2
      replace w0' : w.cell? (a3.add (i * 2)) = some (.int .i64 y.dst) := w0'
      replace w1' : w.cell? ⟨(a3.add (i * 2)).block, (a3.add (i * 2)).off + 1, none⟩ = some (.slice (some a4) y.args.length c3) := w1'
      rw [hrr] at w0'
      obtain ⟨aV, rfl, w3'⟩ := HVG.out v (by omega)
      obtain ⟨cur, hcur⟩ : ∃ cur, phiSets k vals (x.phis.take i) vals = cur := ⟨_, rfl⟩
      have HSN := Lib.hid (phiSets_snoc (k := k) (old := vals) (c := vals) ey)
      rw [hrr, hv, hcur] at HSN
      rw [hcur] at HR
      have hcl : cur.length = vals.length := by rw [← hcur, phiSets_len]
      have hrv : r < vals.length := by omega
      have hvv : v < vals.length := by omega
      have HCL := Lib.hid hcl
      have hpl0 : k < pr.length := hkl
      clear hc hc' ek hp3 hp4 hv hrr ey hv2 hcur hcl
      go_wp2
      go_loopw [12] (fun t wq => ∃ j : Nat, j ≤ pr.length ∧ t = .int .i64 j ∧ Row 2 kI64 wq (.slice (some ⟨g, 0, none⟩) vals.length c9) (if k < j then setI cur r (getI vals v) else cur) [g] ∧ Chg (fun q => q ∈ [g]) w1 wq) (fun t _ => pr.length - (intOf t).toNat)
      case atStart => exact ⟨0, by omega, rfl, by rw [if_neg (by omega)]; exact HR.out, HC.out⟩
      case round =>
        clear k1 k2 hC10 zb HR HC
        obtain ⟨j, hjl, rfl, hr, hch⟩ := hrel
        obtain ⟨k1, hC10, kw, zb⟩ := KS.out _ hch
        have k2 := (kw _ (World.block_lt_of_cell? w _ p0)).trans p0
        have HR := Lib.hid hr
        have HC := Lib.hid hch
        by_cases hlt2 : j < pr.length
        · obtain ⟨q, eq⟩ := get_of_lt hlt2
          obtain ⟨a10, _, rfl, rfl, hc⟩ := hC10.at eq
          have u0 := hc1 (n := j * 1) hc
          rw [Nat.mul_one] at u0
          by_cases hjk : j = k
          · subst hjk
            obtain rfl : q = (p : Int) := Option.some.inj (eq.symm.trans HK.out)
            rw [if_neg (by omega)] at hr
            obtain ⟨qd, pd⟩ := row_int_cell hr HCL.out (getI_get (l := cur) (i := (r : Int)) (by rw [HCL.out]; simpa using hrv))
            rw [Int.toNat_natCast] at qd pd
            have zg := World.block_lt_of_cell? _ _ qd
            have v0 := (kw _ (World.block_lt_of_cell? w _ w0')).trans w0'
            have v1 := (kw _ (World.block_lt_of_cell? w _ w1')).trans w1'
            have v2 := (kw _ (World.block_lt_of_cell? w _ w2')).trans w2'
            have v3 := (kw _ (World.block_lt_of_cell? w _ w3')).trans w3'
            have hst := row_int_set hr HCL.out (i := r) (by omega) (getI vals v)
            have HST := Lib.hid hst
            clear hr hch kw hst hc eq
            go_upto_region 10 with (fail)
            refine wp_region_still_tail 27 (by kernel_rfl) (by kernel_rfl) ?_; simp only [List.take_succ_cons, List.take_zero, List.drop_succ_cons, List.drop_zero]; change wpStill _ _ (World.drew _) _ _ _
            repeat still_step
            refine wpStill_nil ?_
            change wpList _ _ _ _ _ (World.drew _)
            go_wp2
            go_roundw
            case rel => exact ⟨j + 1, by omega, by go_num, by rw [if_pos (by omega)]; have := HST.out.1.chg (w' := World.drew _) ((Chg.refl (fun _ => False) _).drew) (by simp); simpa [setI] using this, by have := HC.out.trans (HST.out.2.mono (T := fun q => q ∈ [g]) fun q _ e => by simp [e]); exact this.drew⟩
            case measure => simp [intOf]; omega
          · have hne : q ≠ (p : Int) := fun e => hjk (HKI.out j (by rw [eq, e]))
            have g1 : (q == (p : Int)) = false := by simp [hne]
            have hif : (if k < j then setI cur r (getI vals v) else cur) = (if k < j + 1 then setI cur r (getI vals v) else cur) := by
              by_cases h : k < j
              · rw [if_pos h, if_pos (by omega)]
              · rw [if_neg h, if_neg (by omega)]
            rw [hif] at HR
            clear hr hch kw hc eq hne hif
            go_wp2
            go_roundw
            case rel => exact ⟨j + 1, by omega, by go_num, HR.out, HC.out⟩
            case measure => simp [intOf]; omega
        · have hjp : j = pr.length := by omega
          rw [if_pos (by omega)] at HR
          have HR2 := Lib.hid (show Row 2 kI64 wr (.slice (some ⟨g, 0, none⟩) vals.length c9) (phiSets k vals (x.phis.take (i + 1)) vals) [g] by rw [HSN.out]; exact HR.out)
          clear hr hch kw hC10
          go_wp2
          go_roundw
          case rel => exact ⟨i + 1, by omega, by go_num, HR2.out, HC.out⟩
          case measure => simp [intOf]; omega
    · have hie : i = x.phis.length := by omega
      subst hie
      rw [List.take_length] at HR
      go_wp2
      go_ret
      exact ⟨g, c9, by rw [phiSets_len]; rfl, by rw [phiSets_len]; exact HR.out, Nat.le_of_lt (HF9.out g (by simp)).1, HCH.out _ HC.out⟩
end Go.Proofs.YtnnfjjgohhicjaaDoor
