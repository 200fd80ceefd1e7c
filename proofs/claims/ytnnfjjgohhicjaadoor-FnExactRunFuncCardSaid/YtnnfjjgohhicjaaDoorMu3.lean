/- Contracts: laws.markInstrS. -/
import Derived.Test.YtnnfjjgohhicjaaDoorRm
import Derived.Test.YtnnfjjgohhicjaaDoorMu2
import Derived.Test.YtnnfjjgohhicjaaDoorKv2
import Derived.Test.YtnnfjjgohhicjaaDoorRi
import Derived.Test.YtnnfjjgohhicjaaDoorKc
namespace Go.Proofs.YtnnfjjgohhicjaaDoor
open Go.RowKit
set_option linter.unusedSimpArgs false
set_option linter.unusedVariables false
set_option maxRecDepth 100000

theorem SSt.enter {W0 : World} {B D cD G cG : Nat} {code value : Int} {s : Wd} {w w' : World} {g cap : Nat} {c : List Int} (h : SSt W0 B D cD G cG code value s w) (hb : Below w.heap.size w w') (hr : Row 2 kI64 w' (.slice (some ⟨g, 0, none⟩) c.length cap) c [g]) (hg : w.heap.size ≤ g) :
    SSt W0 B g cap G cG code value { s with cells := c } w' := by
  obtain ⟨At, ct, h1, h2, h3, h4⟩ := h
  have lB := h1.lt
  obtain ⟨r1, r2, r3, r4, r5, r6, r7, r8, ft, r9, r10⟩ := h2
  have lG := r2.lt G (by simp)
  have hN := h4.size
  exact ⟨At, ct, h1.below hb, ⟨hr, r2.chg (chg_of hb) (by simp), r3, by omega, by omega, r6, by simp; omega, r8, ft, r9.chg (chg_of hb) (by simp), fun q hq => ⟨(r10 q hq).1, by have := r9.lt q hq; omega, (r10 q hq).2.2⟩⟩, h3, h4.trans (hb.mono hN)⟩
set_option maxHeartbeats 16000000 in
theorem runFunc_s (A L H : Option Addr) (c ca ch : Nat) (m : Func) (args heap : List Int) (fuel : Int) (w : World) (hx : C (kBlock 0 0 0) w L m.blocks) (hA : C kI64 w A args) (hH : C kI64 w H heap) (hm : m.blocks.length ≤ 1048576) (hs : ∀ (i : Nat) b, m.blocks[i]? = some b → okBlk 1048576 b)
    (ha : args.length ≤ 1048576) (hh : heap.length ≤ 1048576) :
    Calls Tryd.prog 36 #[.agg #[.int .i64 m.values, .slice L m.blocks.length c], .slice A args.length ca, .slice H heap.length ch, .int .i64 fuel] w (RetOut w (runFunc m args heap fuel)) := by
  obtain ⟨i0, hi, hz0, hz1, hz2⟩ := info_parts info_i64
  have HIV := Lib.hid (fun W (h : Below w.heap.size w W) => validFS_c L c m W (hx.below h) hm hs)
  have HRN := Lib.hid (fun W => badRun_c A H args.length heap.length ca ch fuel W ha hh)
  cases hv : validF m
  · have HR := Lib.hid (show runFunc m args heap fuel = badOut by simp [runFunc, hv])
    have HV := Lib.hid hv
    clear hv
    go_enter Tryd.func36, Tryd.ntmps36
    go_wp2_with (go_at_call 15; have hiv := HIV.out; rw [HV.out] at hiv; refine (hiv _ (by repeat (first | (with_reducible first | exact Below.refl _ _ | assumption | exact ext_box _) | (with_reducible apply Below.drew) | ((with_reducible refine Below.setCell ?_ ?hs _); (case hs => first | (simp; done) | (simp; omega) | omega)) | ((with_reducible refine Below.alloc ?_ ?hs _); (case hs => first | (simp; done) | (simp; omega) | omega))))).mono ?_; rintro e w1 ⟨rfl, hb1⟩; have HB1 : Below w.heap.size w w1 := Below.then_ (by repeat (first | (with_reducible first | exact Below.refl _ _ | assumption | exact ext_box _) | (with_reducible apply Below.drew) | ((with_reducible refine Below.setCell ?_ ?hs _); (case hs => first | (simp; done) | (simp; omega) | omega)) | ((with_reducible refine Below.alloc ?_ ?hs _); (case hs => first | (simp; done) | (simp; omega) | omega)))) hb1; obtain ⟨hc1, hf1⟩ := bcell hb1; obtain ⟨zw0, zw1⟩ : w.heap.size < w1.heap.size ∧ w.heap.size + 1 < w1.heap.size := (by have := hb1.size; simp at this; omega))
    refine bodyPost_ret (v := .agg #[.int .i64 4, .int .i64 0, .int .i64 0, .slice none 0 0, .slice none 0 0]) (by simp [results, Tryd.results36, go_sem, hc1, zw0, zw1]) rfl (retBad (by repeat (first | (with_reducible first | exact Below.refl _ _ | assumption | exact ext_box _) | (with_reducible apply Below.drew) | ((with_reducible refine Below.setCell ?_ ?hs _); (case hs => first | (simp; done) | (simp; omega) | omega)) | ((with_reducible refine Below.alloc ?_ ?hs _); (case hs => first | (simp; done) | (simp; omega) | omega)))) HR.out rfl)
  · have HV := Lib.hid hv
    cases hk : runOK args.length heap.length fuel
    · have HR := Lib.hid (show runFunc m args heap fuel = badOut by simp [runFunc, hk])
      have HK := Lib.hid hk
      clear hv hk
      go_enter Tryd.func36, Tryd.ntmps36
      go_wp2_with (first
        | (go_at_call 15; have hiv := HIV.out; rw [HV.out] at hiv; refine (hiv _ (by repeat (first | (with_reducible first | exact Below.refl _ _ | assumption | exact ext_box _) | (with_reducible apply Below.drew) | ((with_reducible refine Below.setCell ?_ ?hs _); (case hs => first | (simp; done) | (simp; omega) | omega)) | ((with_reducible refine Below.alloc ?_ ?hs _); (case hs => first | (simp; done) | (simp; omega) | omega))))).mono ?_; rintro e w1 ⟨rfl, hb1⟩; have HB1 : Below w.heap.size w w1 := Below.then_ (by repeat (first | (with_reducible first | exact Below.refl _ _ | assumption | exact ext_box _) | (with_reducible apply Below.drew) | ((with_reducible refine Below.setCell ?_ ?hs _); (case hs => first | (simp; done) | (simp; omega) | omega)) | ((with_reducible refine Below.alloc ?_ ?hs _); (case hs => first | (simp; done) | (simp; omega) | omega)))) hb1; obtain ⟨hc1, hf1⟩ := bcell hb1; obtain ⟨zw0, zw1⟩ : w.heap.size < w1.heap.size ∧ w.heap.size + 1 < w1.heap.size := (by have := hb1.size; simp at this; omega))
        | (go_at_call 63; have hrn := HRN.out; rw [HK.out] at hrn; refine (hrn _).mono ?_; rintro e w2 ⟨rfl, rfl⟩))
      refine bodyPost_ret (v := .agg #[.int .i64 4, .int .i64 0, .int .i64 0, .slice none 0 0, .slice none 0 0]) (by simp [results, Tryd.results36, go_sem, hc1, zw0, zw1]) rfl (retBad (by repeat (first | (with_reducible first | exact Below.refl _ _ | assumption | exact ext_box _) | (with_reducible apply Below.drew) | ((with_reducible refine Below.setCell ?_ ?hs _); (case hs => first | (simp; done) | (simp; omega) | omega)) | ((with_reducible refine Below.alloc ?_ ?hs _); (case hs => first | (simp; done) | (simp; omega) | omega)))) HR.out rfl)
    · have HR := Lib.hid (show runFunc m args heap fuel = runS (blkF m) (enterP m) fuel.toNat 0 0 (initW args heap fuel m.values.toNat) by simp [runFunc, hv, hk])
      have HK := Lib.hid hk
      have HVF := Lib.hid (validF_VF hv)
      obtain ⟨g1, g2⟩ : (0 ≤ m.values ∧ m.values ≤ 2000) ∧ (1 ≤ m.blocks.length ∧ m.blocks.length ≤ 1000) := ⟨HVF.out.vals, HVF.out.len⟩
      obtain ⟨r1, r2, r3, r4⟩ := runOK_iff.1 hk
      obtain ⟨n, hn⟩ : ∃ n : Nat, m.values = n := ⟨m.values.toNat, by omega⟩
      have HN := Lib.hid hn
      obtain ⟨g4, g5⟩ := g2
      have hn2 : n ≤ 2000 := by omega
      have HLH := Lib.hid (fun W (h : Below w.heap.size w W) => l1Heap_c H ch heap W (hH.below h) hh)
      clear hv hk g1 hn
      go_enter Tryd.func36, Tryd.ntmps36
      go_wp2_with (first
        | (go_at_call 15; have hiv := HIV.out; rw [HV.out] at hiv; refine (hiv _ (by repeat (first | (with_reducible first | exact Below.refl _ _ | assumption | exact ext_box _) | (with_reducible apply Below.drew) | ((with_reducible refine Below.setCell ?_ ?hs _); (case hs => first | (simp; done) | (simp; omega) | omega)) | ((with_reducible refine Below.alloc ?_ ?hs _); (case hs => first | (simp; done) | (simp; omega) | omega))))).mono ?_; rintro e w1 ⟨rfl, hb1⟩; have HB1 : Below w.heap.size w w1 := Below.then_ (by repeat (first | (with_reducible first | exact Below.refl _ _ | assumption | exact ext_box _) | (with_reducible apply Below.drew) | ((with_reducible refine Below.setCell ?_ ?hs _); (case hs => first | (simp; done) | (simp; omega) | omega)) | ((with_reducible refine Below.alloc ?_ ?hs _); (case hs => first | (simp; done) | (simp; omega) | omega)))) hb1; obtain ⟨hc1, hf1⟩ := bcell hb1; obtain ⟨zw0, zw1⟩ : w.heap.size < w1.heap.size ∧ w.heap.size + 1 < w1.heap.size := (by have := hb1.size; simp at this; omega); have y0 : w1.cell? ⟨w.heap.size, 0, none⟩ = some (.int .i64 m.values) := (hc1 _ _ (by simp; try omega)).trans (by simp); have y1 : w1.cell? ⟨w.heap.size, 1, none⟩ = some (.slice L m.blocks.length c) := (hc1 _ _ (by simp; try omega)).trans (by simp))
        | (go_at_call 63; have hrn := HRN.out; rw [HK.out] at hrn; refine (hrn _).mono ?_; rintro e w2 ⟨rfl, rfl⟩)
        | (go_at_call 64; refine (HLH.out _ HB1).mono ?_; rintro e w2 ⟨vh, fh, rfl, hh2, hfh, hb2⟩; obtain ⟨G, cG, rfl, hGf⟩ : ∃ G cG, vh = .slice (some ⟨G, 0, none⟩) 32 cG ∧ G ∈ fh := (by rcases hh2.form' with ⟨_, h, _⟩ | ⟨g, cap, rfl, hg, _⟩; have := congrArg List.length h; rw [heap32_len] at this; simp at this; exact ⟨g, cap, by rw [heap32_len], hg⟩); have zw2 := hb2.size; have x0 := (hb2.cell (p := ⟨w.heap.size, 0, none⟩) zw0).trans y0; have zwa : w.heap.size < w2.heap.size := (by omega))
        | (at_make; refine wpList_make_row (kInt .i64) 0 [.int .i64 0] _ rfl _ _ 49 rfl 2 i0 _ Tryd.underlying49 hi hz0 hz1 rfl (by decide) (fun _ => ⟨rfl, rfl⟩) m.values n rfl rfl HN.out (by rw [hz2]; omega) (by simp only [maxLen]; omega) ?_; intro w3 hr3 hb3 hz3))
      have HST := Lib.hid (SSt.init (args := args) (heap := heap) (fuel := fuel) hb2 hh2 hfh (by simpa using hr3) (by simp) hb3)
      have HOK := Lib.hid (show Ok (initW args heap fuel n) (initW args heap fuel n) from ⟨rfl, rfl, rfl, Int.le_refl _, Int.le_refl _, r3, r4, by simp [initW], r1⟩)
      obtain ⟨R, hR⟩ : ∃ R, runFunc m args heap fuel = R := ⟨_, rfl⟩
      have HRM := Lib.hid hR
      have HR2 := Lib.hid (show R = runS (blkF m) (enterP m) (lft (initW args heap fuel n)) (0 : Nat) 0 (initW args heap fuel n) by rw [← hR, HR.out, HN.out, show lft (initW args heap fuel n) = fuel.toNat by simp [lft, initW]]; simp)
      have HA0 := Lib.hid (show (initW args heap fuel n).args = args ∧ (initW args heap fuel n).fuel = fuel ∧ (initW args heap fuel n).cells.length = n from ⟨rfl, rfl, List.length_replicate⟩)
      have K8 := Lib.hid (show Bk (w.heap.size + 1) 51 [.int .i64 0, .int .i64 0, .int .i64 0, .slice none 0 0, .slice none 0 0] w1 by
        have := (Bk.made (w.alloc (.cells #[.int .i64 m.values, .slice L m.blocks.length c] 40)) 51 [.int .i64 0, .int .i64 0, .int .i64 0, .slice none 0 0, .slice none 0 0]).below hb1
        simpa only [World.size_alloc] using this)
      clear hR hh2 hfh hGf hr3 hb3 hz3 hb2 x0 zwa zw2
      generalize w2.heap.size = B at *
      go_loopw [10, 11, 12] (fun t10 t12 t13 wr => ∃ (b k D cD : Nat) (s : Wd), b < m.blocks.length ∧ t10 = .slice (some ⟨D, 0, none⟩) n cD ∧ t12 = .int .i64 b ∧ t13 = .int .i64 k ∧ k ≤ (blkF m b).1.length ∧ SSt w1 B D cD G cG 3 0 s wr ∧ Ok (initW args heap fuel n) s ∧ R = runS (blkF m) (enterP m) (lft s) b k s) (fun _ _ _ wr => leftS fuel B wr)
      case atStart => exact ⟨0, 0, B + 1, n, initW args heap fuel n, by omega, rfl, rfl, rfl, by omega, HST.out, HOK.out, HR2.out⟩
      case round =>
        clear HST HR2
        obtain ⟨b, k, D, cD, s, hb, rfl, rfl, rfl, hkl, hst, hok, hrn⟩ := hrel
        have HS := Lib.hid hst
        have HO := Lib.hid hok
        have HRN := Lib.hid hrn
        have HML := Lib.hid (hst.left fuel)
        have HW := Lib.hid (show Below w1.heap.size w1 wr by obtain ⟨_, _, _, _, _, hb⟩ := hst; exact hb)
        obtain ⟨At, ct, h1, h2, h3, h4⟩ := id hst
        have e0 := h1.cell 0 (v := .int .i64 3) rfl
        have e1 := h1.cell 1 (v := .int .i64 0) rfl
        have e2 := h1.cell 2 (v := .int .i64 s.steps) rfl
        have e3 := h1.cell 3 (v := .slice At s.trace.length ct) rfl
        have e4 := h1.cell 4 (v := .slice (some ⟨G, 0, none⟩) 32 cG) rfl
        have f9 := h1.frozen
        have zB := h1.lt
        have HH1 := Lib.hid h1
        have HH2 := Lib.hid h2
        have hsf := hok.hi
        have hmx := hok.max
        have hs0 : 0 ≤ s.steps := Int.le_trans hok.pos hok.lo
        have htr := hok.tr
        have HFU := Lib.hid (show s.fuel = fuel by rw [hok.fuel]; rfl)
        have hfu2 : fuel ≤ 60000 := by rw [← HFU.out]; exact hmx
        have hsz := h4.size
        have z81 : w.heap.size < wr.heap.size := by omega
        have z82 : w.heap.size + 1 < wr.heap.size := by omega
        clear hst hok hrn h1 h2 h4
        by_cases hlt : s.steps < fuel
        · have hlt2 : s.steps < s.fuel := by have := HFU.out; omega
          have HLT := Lib.hid hlt2
          obtain ⟨x, ex⟩ := get_of_lt hb
          obtain ⟨a, _, rfl, ⟨_, _, rfl, ⟨A0, c0, rfl, l0, r0⟩, _, _, rfl, ⟨A', c', rfl, l', r'⟩, rfl⟩, hc⟩ := (hx.below HB1).at ex
          obtain ⟨p00, p0, p1, p2, p3, p4⟩ := hc6 (n := b * 6) hc
          replace p00 : w1.cell? (a.add (b * 6)) = some (.slice A0 x.phis.length c0) := p00
          replace p0 : w1.cell? ⟨(a.add (b * 6)).block, (a.add (b * 6)).off + 1, none⟩ = some (.slice A' x.instrs.length c') := p0
          replace p1 : w1.cell? ⟨(a.add (b * 6)).block, (a.add (b * 6)).off + 2, none⟩ = some (.int .i64 x.term.kind) := p1
          replace p2 : w1.cell? ⟨(a.add (b * 6)).block, (a.add (b * 6)).off + 3, none⟩ = some (.int .i64 x.term.a) := p2
          replace p3 : w1.cell? ⟨(a.add (b * 6)).block, (a.add (b * 6)).off + 4, none⟩ = some (.int .i64 x.term.to) := p3
          replace p4 : w1.cell? ⟨(a.add (b * 6)).block, (a.add (b * 6)).off + 5, none⟩ = some (.int .i64 x.term.els) := p4
          clear hc
          have hil := (hs _ _ ex).2.2
          have HEX0 := Lib.hid ex
          have HG2 := Lib.hid (show (∀ (i : Nat) y, x.instrs[i]? = some y → GoodInstr y m.values 10) ∧ GoodTerm x.term m.values 1 m.blocks.length from ⟨HVF.out.ins _ _ ex, HVF.out.term _ _ ex⟩)
          have HBL := Lib.hid (show blkF m b = (x.instrs, x.term) by simp [blkF, ex])
          have hkl2 : k ≤ x.instrs.length := by have := hkl; rwa [HBL.out] at this
          have HIT := Lib.hid (show ∀ i : Nat, (blkF m b).1[i]? = x.instrs[i]? from fun i => by rw [HBL.out])
          clear ex hlt2 hkl
          go_upto_region 9 with (fail)
          have HS1 := Lib.hid HS.out.step
          clear e0 e1 e2 e3 e4 f9 zB HH1 HH2 h3 z81 z82
          generalize wr.setCell ⟨B, 2, none⟩ (.int .i64 (s.steps + 1)) = w5 at *
          obtain ⟨At, ct, h1, h2, h3, h4⟩ := HS1.out
          have e0 := h1.cell 0 (v := .int .i64 3) rfl
          have e1 := h1.cell 1 (v := .int .i64 0) rfl
          have e2 := h1.cell 2 (v := .int .i64 (s.steps + 1)) rfl
          have e3 := h1.cell 3 (v := .slice At s.trace.length ct) rfl
          have e4 := h1.cell 4 (v := .slice (some ⟨G, 0, none⟩) 32 cG) rfl
          have f9 := h1.frozen
          have zB := h1.lt
          obtain ⟨zD, zG⟩ := h2.lt
          have hsz5 := h4.size
          have z81 : w.heap.size < w5.heap.size := by omega
          have z82 : w.heap.size + 1 < w5.heap.size := by omega
          have v0 := (h4.cell zw0).trans y0
          have v1 := (h4.cell zw0).trans y1
          have v20 := (h4.cell (World.block_lt_of_cell? w1 _ p00)).trans p00
          have v2 := (h4.cell (World.block_lt_of_cell? w1 _ p0)).trans p0
          have v3 := (h4.cell (World.block_lt_of_cell? w1 _ p1)).trans p1
          have v4 := (h4.cell (World.block_lt_of_cell? w1 _ p2)).trans p2
          have v5 := (h4.cell (World.block_lt_of_cell? w1 _ p3)).trans p3
          have v6 := (h4.cell (World.block_lt_of_cell? w1 _ p4)).trans p4
          have HH1 := Lib.hid h1
          have HH2 := Lib.hid h2
          have HH4 := Lib.hid h4
          have hcl : s.cells.length = n := by have := HO.out.cells; rw [HA0.out.2.2] at this; exact this
          have HCL := Lib.hid hcl
          clear p00 p0 p1 p2 p3 p4 h1 h2 h4 hcl
          by_cases hk : k < x.instrs.length
          · obtain ⟨y, ey⟩ := get_of_lt hk
            obtain ⟨a2, _, rfl, rfl, hc⟩ := r'.at ey
            obtain ⟨p0, p1, p2, p3, p4⟩ := hc5 (n := k * 5) hc
            have u0 := (HH4.out.cell (World.block_lt_of_cell? w1 _ p0)).trans p0
            have u1 := (HH4.out.cell (World.block_lt_of_cell? w1 _ p1)).trans p1
            have u2 := (HH4.out.cell (World.block_lt_of_cell? w1 _ p2)).trans p2
            have u3 := (HH4.out.cell (World.block_lt_of_cell? w1 _ p3)).trans p3
            have u4 := (HH4.out.cell (World.block_lt_of_cell? w1 _ p4)).trans p4
            have z72 : (a2.add (k * 5)).block < w5.heap.size := World.block_lt_of_cell? w5 _ u0
            have HGI := Lib.hid (HG2.out.1 _ _ ey)
            have HE := Lib.hid (show (blkF m b).1[k]? = some y by rw [HIT.out]; exact ey)
            have HKL := Lib.hid (show k + 1 ≤ (blkF m b).1.length by rw [HBL.out]; exact hk)
            clear hc p0 p1 p2 p3 p4 ey
            obtain ⟨op, dst, a3, b3, imm⟩ := y
            dsimp only at u0 u1 u2 u3 u4
            obtain ⟨g1, g2, g3, g4, g5, g6⟩ := HGI.out
            dsimp only at g1 g2 g3 g4 g5
            have hcl : (step s).cells.length = n := HCL.out
            have hnn := HN.out
            have hkl3 := hkl2
            have zD1 : D < w5.heap.size + 1 := by omega
            have zD2 : D < w5.heap.size + 1 + 1 := by omega
            have zB1 : B < w5.heap.size + 1 := by omega
            have z83 : w.heap.size + 1 < w5.heap.size + 1 := by omega
            have z84 : w.heap.size + 1 < w5.heap.size + 1 + 1 := by omega
            have zB2 : B < w5.heap.size + 1 + 1 := by omega
            have h11 : op ≤ 10 := g2
            have n11 : ¬ op = 11 := by omega
            have n12 : ¬ op = 12 := by omega
            have n13 : ¬ op = 13 := by omega
            by_cases htp : op = 6 ∧ getI (step s).cells b3 = 0
            · obtain ⟨rfl, hz⟩ := htp
              have hb3 := fld_t g5 (by decide)
              rw [hnn] at hb3
              obtain ⟨r2, rfl⟩ : ∃ r : Nat, b3 = r := ⟨b3.toNat, by omega⟩
              obtain ⟨qb, pb⟩ := HH2.out.reg (r := r2) (by omega)
              rw [Int.toNat_natCast] at qb pb
              rw [hz] at qb
              have HR2 := Lib.hid (show exec ⟨6, dst, a3, r2, imm⟩ (step s) = none by simp [exec, hz])
              have K8' := K8.out.below (HH4.out)
              have d0 := K8'.cell 0 rfl
              have d1 := K8'.cell 1 rfl
              have d2 := K8'.cell 2 rfl
              have d3 := K8'.cell 3 rfl
              have d4 := K8'.cell 4 rfl
              have f8 := K8'.frozen
              clear K8' g1 g2 g3 g4 g5 g6 hcl hnn
              go_wp2
              exact bodyPost_ret (v := .agg #[.int .i64 2, .int .i64 0, .int .i64 (s.steps + 1), .slice At s.trace.length ct, .slice (some ⟨G, 0, none⟩) 32 cG]) (by simp [results, Tryd.results36, go_sem, d0, d1, d2, d3, d4, z82, z83, z84]) rfl
                (by rw [HRM.out]; exact endS (s := step s) (HRN.out.trans (runS_trap HLT.out HE.out HR2.out)) HH2.out HB1 zw1 (by (repeat (first | (with_reducible first | exact Chg.refl _ _ | assumption) | (with_reducible refine Chg.drew ?_) | ((with_reducible refine Chg.setCell ?_ ?hs _); (case hs => first | (simp; done) | (simp; omega) | omega)) | (with_reducible refine Chg.alloc ?_ _)))) (by have := HB1.trans (HH4.out.mono HB1.size); (repeat (first | (with_reducible first | exact Below.refl _ _ | assumption | exact ext_box _) | (with_reducible apply Below.drew) | ((with_reducible refine Below.setCell ?_ ?hs _); (case hs => first | (simp; done) | (simp; omega) | omega)) | ((with_reducible refine Below.alloc ?_ ?hs _); (case hs => first | (simp; done) | (simp; omega) | omega))))))
            · obtain ⟨s', he⟩ : ∃ s', exec ⟨op, dst, a3, b3, imm⟩ (step s) = some s' := by
                unfold exec; dsimp only; simp only [n11, n12, n13, if_false]; (repeat' split); all_goals first | exact ⟨_, rfl⟩ | (exfalso; exact htp (by assumption))
              have HR2 := Lib.hid he
              have he6 := exec_same he
              have HEX := Lib.hid (fun W (hb : Below w5.heap.size w5 W) => by
                have h := l1Exec_c w1.heap.size [B] D cD G cG (step s) s' W A ca At ct 3 0 ⟨op, dst, a3, b3, imm⟩ m.values (HH2.out.below hb) ⟨HGI.out.1, Int.le_trans HGI.out.2.1 (by decide), HGI.out.2.2⟩ h11 (by rw [hcl, hnn]) (by rw [show (step s).args = args from HO.out.args]; exact hA.below (HB1.trans ((HH4.out.trans (hb.mono hsz5)).mono HB1.size))) (by rw [show (step s).args = args from HO.out.args]; exact ha) (by show s.trace.length ≤ 1048576; omega) (by have := hb.size; omega) (by have := hb.size; simp; omega) he
                rw [show (step s).cells.length = n from hcl, show (step s).args.length = args.length by rw [show (step s).args = args from HO.out.args]] at h
                exact h)
              have hc6L : s'.cells.length = n := by rw [he6.cells, hcl]
              have n6 : op = 6 → ¬ getI (step s).cells b3 = 0 := fun e hz => htp ⟨e, hz⟩
              have hs6 : s'.steps = s.steps + 1 := he6.steps
              clear htp he he6 HGI g1 g2 g3 g4 g6
              by_cases h6 : op = 6
              · subst h6
                have hb3 := fld_t g5 (by decide)
                rw [hnn] at hb3
                obtain ⟨r2, rfl⟩ : ∃ r : Nat, b3 = r := ⟨b3.toNat, by omega⟩
                obtain ⟨qb, pb⟩ := HH2.out.reg (r := r2) (by omega)
                rw [Int.toNat_natCast] at qb pb
                have hz := n6 rfl
                clear g5 hcl hnn n6
                go_wp2_with (go_at_call 65; refine (HEX.out _ (by repeat (first | (with_reducible first | exact Below.refl _ _ | assumption | exact ext_box _) | (with_reducible apply Below.drew) | ((with_reducible refine Below.setCell ?_ ?hs _); (case hs => first | (simp; done) | (simp; omega) | omega)) | ((with_reducible refine Below.alloc ?_ ?hs _); (case hs => first | (simp; done) | (simp; omega) | omega))))).mono ?_; rintro e w6 ⟨At6, ct6, rfl, hr6, hc6⟩; rw [hc6L]; have HR6 := Lib.hid hr6; have hb6 := (HH1.out.below (by first | exact below2 _ _ _ | exact below2n _ _ _)).chg hc6 (by simp); have HB6 := Lib.hid hb6; have q0 := hb6.cell 0 (v := .int .i64 3) rfl; have q1 := hb6.cell 1 (v := .int .i64 0) rfl; have q2 := hb6.cell 2 (v := .int .i64 (s.steps + 1)) rfl; have q3 := hb6.cell 3 (v := .slice At s.trace.length ct) rfl; have q4 := hb6.cell 4 (v := .slice (some ⟨G, 0, none⟩) 32 cG) rfl; have f6 := hb6.frozen; have HW6 : Below w1.heap.size w1 w6 := (HH4.out.trans ((show Below w5.heap.size w5 _ by first | exact below2 _ _ _ | exact below2n _ _ _).mono hsz5)).trans (hc6.below (by simp; omega) fun k hk => hk.1); clear hr6 hc6 hb6)
                have HS6 := SSt.all (code := 3) (value := 0) HB6.out rfl HR6.out h3 HW6
                rw [hs6] at HS6
                go_roundw
                case rel => exact ⟨b, k + 1, D, cD, s', hb, rfl, rfl, by go_num, HKL.out, HS6, HO.out.go HLT.out HR2.out, HRN.out.trans (runS_go HLT.out HE.out HR2.out)⟩
                case measure => exact HS6.lt_left HML.out hs6 hlt
              · clear g5 hcl hnn n6
                go_wp2_with (go_at_call 65; refine (HEX.out _ (by repeat (first | (with_reducible first | exact Below.refl _ _ | assumption | exact ext_box _) | (with_reducible apply Below.drew) | ((with_reducible refine Below.setCell ?_ ?hs _); (case hs => first | (simp; done) | (simp; omega) | omega)) | ((with_reducible refine Below.alloc ?_ ?hs _); (case hs => first | (simp; done) | (simp; omega) | omega))))).mono ?_; rintro e w6 ⟨At6, ct6, rfl, hr6, hc6⟩; rw [hc6L]; have HR6 := Lib.hid hr6; have hb6 := (HH1.out.below (by first | exact below2 _ _ _ | exact below2n _ _ _)).chg hc6 (by simp); have HB6 := Lib.hid hb6; have q0 := hb6.cell 0 (v := .int .i64 3) rfl; have q1 := hb6.cell 1 (v := .int .i64 0) rfl; have q2 := hb6.cell 2 (v := .int .i64 (s.steps + 1)) rfl; have q3 := hb6.cell 3 (v := .slice At s.trace.length ct) rfl; have q4 := hb6.cell 4 (v := .slice (some ⟨G, 0, none⟩) 32 cG) rfl; have f6 := hb6.frozen; have HW6 : Below w1.heap.size w1 w6 := (HH4.out.trans ((show Below w5.heap.size w5 _ by first | exact below2 _ _ _ | exact below2n _ _ _).mono hsz5)).trans (hc6.below (by simp; omega) fun k hk => hk.1); clear hr6 hc6 hb6)
                have HS6 := SSt.all (code := 3) (value := 0) HB6.out rfl HR6.out h3 HW6
                rw [hs6] at HS6
                go_roundw
                case rel => exact ⟨b, k + 1, D, cD, s', hb, rfl, rfl, by go_num, HKL.out, HS6, HO.out.go HLT.out HR2.out, HRN.out.trans (runS_go HLT.out HE.out HR2.out)⟩
                case measure => exact HS6.lt_left HML.out hs6 hlt
          · have HK0 := Lib.hid (show (blkF m b).1[k]? = none by rw [HIT.out]; exact List.getElem?_eq_none (by omega))
            have hkk : k = x.instrs.length := by omega
            subst hkk
            have zB1 : B < w5.heap.size + 1 := by omega
            have zD1 : D < w5.heap.size + 1 := by omega
            have hnn := HN.out
            have hcl : (step s).cells.length = n := HCL.out
            rcases HG2.out.2 with ⟨t1, t2, t3, t4, t5⟩ | ⟨t1, t2, t3, t4, t5, t6, t7⟩ | ⟨t1, t2, t3, t4, t5⟩
            · have HKD := Lib.hid (show (blkF m b).2 = x.term by rw [HBL.out])
              obtain ⟨b2, hb2⟩ : ∃ b2 : Nat, x.term.to = b2 := ⟨x.term.to.toNat, by omega⟩
              have HRX := Lib.hid (show R = runS (blkF m) (enterP m) (lft (step s)) b2 0 (enterP m b b2 (step s)) by rw [HRN.out, runS_next HLT.out HK0.out (by rw [HKD.out]; omega), HKD.out, show nextB x.term s = b2 by unfold nextB; rw [if_neg (fun e => by omega)]; exact hb2])
              have hb2n : b2 < m.blocks.length := by omega
              have HTM := Lib.hid (show (b2 : Int) ∈ targets x.term by simp [targets, t1, hb2])
              rw [t1] at v3
              rw [hb2] at v5
              clear t1 t2 t3 t4 t5 hnn hb2
              obtain ⟨x2, ex2⟩ := get_of_lt hb2n
              obtain ⟨he1, he2⟩ := HVF.out.edge HEX0.out ex2 HTM.out
              have hcls : s.cells.length ≤ 2000 := by have := HCL.out; omega
              have HEN := Lib.hid (fun W (hb : Below w5.heap.size w5 W) => by
                have h := l1Enter_c (some a) c m (some ⟨D, 0, none⟩) cD s.cells W b b2 x2 (hx.below (HB1.trans ((HH4.out.trans (hb.mono hsz5)).mono HB1.size))) (by omega) ex2 (HH2.out.1.chg (chg_of hb) (by simp)).reads hcls (edgeAt m b b2) he1 (HVF.out.lens ex2).2.1 (fun i y hy => by obtain ⟨q1, q2, q3, q4⟩ := he2 i y hy; rw [HCL.out, ← HN.out]; exact ⟨q1, q2, q3, q4⟩)
                rw [HCL.out] at h
                exact h)
              have HPH := Lib.hid (show phisOf m b2 = x2.phis by simp [phisOf, ex2])
              clear he1 he2 ex2 hcl
              go_wp2_with (go_at_call 72; (with_reducible refine (HEN.out _ (by (repeat (first | (with_reducible first | exact Below.refl _ _ | assumption | exact ext_box _) | (with_reducible apply Below.drew) | ((with_reducible refine Below.setCell ?_ ?hs _); (case hs => first | (simp; done) | (simp; omega) | omega)) | ((with_reducible refine Below.alloc ?_ ?hs _); (case hs => first | (simp; done) | (simp; omega) | omega)))))).mono ?_); intro e w6 hp6; unfold RetI at hp6; obtain ⟨g6, cg6, rfl, hr6, hg6, hb6⟩ := hp6; rw [phiSets_len, HCL.out])
              have HS6 := Lib.hid (show SSt w1 B g6 cg6 G cG 3 0 (enterP m b b2 (step s)) w6 by unfold enterP; rw [HPH.out]; exact (HS1.out.below (by (repeat (first | (with_reducible first | exact Below.refl _ _ | assumption | exact ext_box _) | (with_reducible apply Below.drew) | ((with_reducible refine Below.setCell ?_ ?hs _); (case hs => first | (simp; done) | (simp; omega) | omega)) | ((with_reducible refine Below.alloc ?_ ?hs _); (case hs => first | (simp; done) | (simp; omega) | omega)))))).enter hb6 hr6 hg6)
              clear hr6 hg6 hb6
              go_roundw
              case rel => exact ⟨b2, 0, g6, cg6, enterP m b b2 (step s), hb2n, rfl, rfl, rfl, Nat.zero_le _, HS6.out, enterP_ok (HO.out.step HLT.out), HRX.out⟩
              case measure => exact SSt.lt_left HS6.out HML.out rfl hlt
            · have HKD := Lib.hid (show (blkF m b).2 = x.term by rw [HBL.out])
              obtain ⟨r2, hr2⟩ : ∃ r : Nat, x.term.a = r := ⟨x.term.a.toNat, by omega⟩
              obtain ⟨b2, hb2⟩ : ∃ b2 : Nat, x.term.to = b2 := ⟨x.term.to.toNat, by omega⟩
              obtain ⟨b4, hb4⟩ : ∃ b2 : Nat, x.term.els = b2 := ⟨x.term.els.toNat, by omega⟩
              obtain ⟨qb, pb⟩ := HH2.out.reg (r := r2) (by omega)
              rw [Int.toNat_natCast] at qb pb
              have hr2n : r2 < n := by omega
              have HTM2 := Lib.hid (show (b2 : Int) ∈ targets x.term by simp [targets, t1, hb2])
              have HTM4 := Lib.hid (show (b4 : Int) ∈ targets x.term by simp [targets, t1, hb4])
              by_cases hz : getI (step s).cells r2 = 0
              · have HRX := Lib.hid (show R = runS (blkF m) (enterP m) (lft (step s)) b4 0 (enterP m b b4 (step s)) by rw [HRN.out, runS_next HLT.out HK0.out (by rw [HKD.out]; omega), HKD.out, show nextB x.term s = b4 by unfold nextB; rw [if_pos ⟨t1, by rw [hr2]; exact hz⟩]; exact hb4])
                have hb2n : b4 < m.blocks.length := by omega
                have HTM := HTM4
                rw [t1] at v3
                rw [hr2] at v4
                rw [hb4] at v6
                rw [hz] at qb
                clear t1 t2 t3 t4 t5 t6 t7 hnn hb2 hb4 hr2
                obtain ⟨x2, ex2⟩ := get_of_lt hb2n
                obtain ⟨he1, he2⟩ := HVF.out.edge HEX0.out ex2 HTM.out
                have hcls : s.cells.length ≤ 2000 := by have := HCL.out; omega
                have HEN := Lib.hid (fun W (hb : Below w5.heap.size w5 W) => by
                  have h := l1Enter_c (some a) c m (some ⟨D, 0, none⟩) cD s.cells W b b4 x2 (hx.below (HB1.trans ((HH4.out.trans (hb.mono hsz5)).mono HB1.size))) (by omega) ex2 (HH2.out.1.chg (chg_of hb) (by simp)).reads hcls (edgeAt m b b4) he1 (HVF.out.lens ex2).2.1 (fun i y hy => by obtain ⟨q1, q2, q3, q4⟩ := he2 i y hy; rw [HCL.out, ← HN.out]; exact ⟨q1, q2, q3, q4⟩)
                  rw [HCL.out] at h
                  exact h)
                have HPH := Lib.hid (show phisOf m b4 = x2.phis by simp [phisOf, ex2])
                clear he1 he2 ex2 hcl
                go_wp2_with (go_at_call 72; (with_reducible refine (HEN.out _ (by (repeat (first | (with_reducible first | exact Below.refl _ _ | assumption | exact ext_box _) | (with_reducible apply Below.drew) | ((with_reducible refine Below.setCell ?_ ?hs _); (case hs => first | (simp; done) | (simp; omega) | omega)) | ((with_reducible refine Below.alloc ?_ ?hs _); (case hs => first | (simp; done) | (simp; omega) | omega)))))).mono ?_); intro e w6 hp6; unfold RetI at hp6; obtain ⟨g6, cg6, rfl, hr6, hg6, hb6⟩ := hp6; rw [phiSets_len, HCL.out])
                have HS6 := Lib.hid (show SSt w1 B g6 cg6 G cG 3 0 (enterP m b b4 (step s)) w6 by unfold enterP; rw [HPH.out]; exact (HS1.out.below (by (repeat (first | (with_reducible first | exact Below.refl _ _ | assumption | exact ext_box _) | (with_reducible apply Below.drew) | ((with_reducible refine Below.setCell ?_ ?hs _); (case hs => first | (simp; done) | (simp; omega) | omega)) | ((with_reducible refine Below.alloc ?_ ?hs _); (case hs => first | (simp; done) | (simp; omega) | omega)))))).enter hb6 hr6 hg6)
                clear hr6 hg6 hb6
                go_roundw
                case rel => exact ⟨b4, 0, g6, cg6, enterP m b b4 (step s), hb2n, rfl, rfl, rfl, Nat.zero_le _, HS6.out, enterP_ok (HO.out.step HLT.out), HRX.out⟩
                case measure => exact SSt.lt_left HS6.out HML.out rfl hlt
              · have HRX := Lib.hid (show R = runS (blkF m) (enterP m) (lft (step s)) b2 0 (enterP m b b2 (step s)) by rw [HRN.out, runS_next HLT.out HK0.out (by rw [HKD.out]; omega), HKD.out, show nextB x.term s = b2 by unfold nextB; rw [if_neg (fun e => hz (by rw [← hr2]; exact e.2))]; exact hb2])
                have hb2n : b2 < m.blocks.length := by omega
                have HTM := HTM2
                rw [t1] at v3
                rw [hr2] at v4
                rw [hb2] at v5
                clear t1 t2 t3 t4 t5 t6 t7 hnn hb2 hb4 hr2
                obtain ⟨x2, ex2⟩ := get_of_lt hb2n
                obtain ⟨he1, he2⟩ := HVF.out.edge HEX0.out ex2 HTM.out
                have hcls : s.cells.length ≤ 2000 := by have := HCL.out; omega
                have HEN := Lib.hid (fun W (hb : Below w5.heap.size w5 W) => by
                  have h := l1Enter_c (some a) c m (some ⟨D, 0, none⟩) cD s.cells W b b2 x2 (hx.below (HB1.trans ((HH4.out.trans (hb.mono hsz5)).mono HB1.size))) (by omega) ex2 (HH2.out.1.chg (chg_of hb) (by simp)).reads hcls (edgeAt m b b2) he1 (HVF.out.lens ex2).2.1 (fun i y hy => by obtain ⟨q1, q2, q3, q4⟩ := he2 i y hy; rw [HCL.out, ← HN.out]; exact ⟨q1, q2, q3, q4⟩)
                  rw [HCL.out] at h
                  exact h)
                have HPH := Lib.hid (show phisOf m b2 = x2.phis by simp [phisOf, ex2])
                clear he1 he2 ex2 hcl
                go_wp2_with (go_at_call 72; (with_reducible refine (HEN.out _ (by (repeat (first | (with_reducible first | exact Below.refl _ _ | assumption | exact ext_box _) | (with_reducible apply Below.drew) | ((with_reducible refine Below.setCell ?_ ?hs _); (case hs => first | (simp; done) | (simp; omega) | omega)) | ((with_reducible refine Below.alloc ?_ ?hs _); (case hs => first | (simp; done) | (simp; omega) | omega)))))).mono ?_); intro e w6 hp6; unfold RetI at hp6; obtain ⟨g6, cg6, rfl, hr6, hg6, hb6⟩ := hp6; rw [phiSets_len, HCL.out])
                have HS6 := Lib.hid (show SSt w1 B g6 cg6 G cG 3 0 (enterP m b b2 (step s)) w6 by unfold enterP; rw [HPH.out]; exact (HS1.out.below (by (repeat (first | (with_reducible first | exact Below.refl _ _ | assumption | exact ext_box _) | (with_reducible apply Below.drew) | ((with_reducible refine Below.setCell ?_ ?hs _); (case hs => first | (simp; done) | (simp; omega) | omega)) | ((with_reducible refine Below.alloc ?_ ?hs _); (case hs => first | (simp; done) | (simp; omega) | omega)))))).enter hb6 hr6 hg6)
                clear hr6 hg6 hb6
                go_roundw
                case rel => exact ⟨b2, 0, g6, cg6, enterP m b b2 (step s), hb2n, rfl, rfl, rfl, Nat.zero_le _, HS6.out, enterP_ok (HO.out.step HLT.out), HRX.out⟩
                case measure => exact SSt.lt_left HS6.out HML.out rfl hlt
            · have HKD := Lib.hid (show (blkF m b).2.kind = 3 by rw [HBL.out]; exact t1)
              have HVA := Lib.hid (show (blkF m b).2.a = x.term.a by rw [HBL.out])
              obtain ⟨r2, hr2⟩ : ∃ r : Nat, x.term.a = r := ⟨x.term.a.toNat, by omega⟩
              rw [t1] at v3
              rw [hr2] at v4
              obtain ⟨qb, pb⟩ := HH2.out.reg (r := r2) (by omega)
              rw [Int.toNat_natCast] at qb pb
              have K8' := K8.out.below HH4.out
              have d0 := K8'.cell 0 rfl
              have d1 := K8'.cell 1 rfl
              have d2 := K8'.cell 2 rfl
              have d3 := K8'.cell 3 rfl
              have d4 := K8'.cell 4 rfl
              have f8 := K8'.frozen
              have z83 : w.heap.size + 1 < w5.heap.size + 1 := by omega
              have HRR := Lib.hid (show R = fin 1 (getI (step s).cells r2) (step s) by rw [HRN.out, runS_ret HLT.out HK0.out HKD.out, HVA.out, hr2]; rfl)
              have hr2n : r2 < n := by omega
              have nDB : D ≠ B := by have := HH2.out.2.2.2.2.2.2.1; simpa using this
              have nBD : B ≠ D := fun e => nDB e.symm
              clear K8' t1 t2 t3 t4 t5 hcl hnn hr2
              go_wp2
              exact bodyPost_ret (v := .agg #[.int .i64 1, .int .i64 (getI (step s).cells r2), .int .i64 (s.steps + 1), .slice At s.trace.length ct, .slice (some ⟨G, 0, none⟩) 32 cG]) (by simp [results, Tryd.results36, go_sem, d0, d1, d2, d3, d4, z82, z83]) rfl
                (by rw [HRM.out]; exact endS (s := step s) HRR.out HH2.out HB1 zw1 (by (repeat (first | (with_reducible first | exact Chg.refl _ _ | assumption) | (with_reducible refine Chg.drew ?_) | ((with_reducible refine Chg.setCell ?_ ?hs _); (case hs => first | (simp; done) | (simp; omega) | omega)) | (with_reducible refine Chg.alloc ?_ _)))) (by have := HB1.trans (HH4.out.mono HB1.size); (repeat (first | (with_reducible first | exact Below.refl _ _ | assumption | exact ext_box _) | (with_reducible apply Below.drew) | ((with_reducible refine Below.setCell ?_ ?hs _); (case hs => first | (simp; done) | (simp; omega) | omega)) | ((with_reducible refine Below.alloc ?_ ?hs _); (case hs => first | (simp; done) | (simp; omega) | omega))))))
        · have K8' := K8.out.below HW.out
          have d0 := K8'.cell 0 rfl
          have d1 := K8'.cell 1 rfl
          have d2 := K8'.cell 2 rfl
          have d3 := K8'.cell 3 rfl
          have d4 := K8'.cell 4 rfl
          have f8 := K8'.frozen
          have HE := Lib.hid (show s.steps = s.fuel by have := HFU.out; omega)
          clear K8'
          go_wp2
          exact bodyPost_ret (v := .agg #[.int .i64 3, .int .i64 0, .int .i64 s.steps, .slice At s.trace.length ct, .slice (some ⟨G, 0, none⟩) 32 cG]) (by simp [results, Tryd.results36, go_sem, d0, d1, d2, d3, d4]) rfl
            (by rw [HRM.out, HRN.out, runS_no HE.out]; exact ⟨_, _, rfl, (St.out 3 0 HH2.out).ret (k := w.heap.size + 1) HB1.size (by (repeat (first | (with_reducible first | exact Chg.refl _ _ | assumption) | (with_reducible refine Chg.drew ?_) | ((with_reducible refine Chg.setCell ?_ ?hs _); (case hs => first | (simp; done) | (simp; omega) | omega)) | (with_reducible refine Chg.alloc ?_ _)))) zw1, by have := HB1.trans (HW.out.mono HB1.size); (repeat (first | (with_reducible first | exact Below.refl _ _ | assumption | exact ext_box _) | (with_reducible apply Below.drew) | ((with_reducible refine Below.setCell ?_ ?hs _); (case hs => first | (simp; done) | (simp; omega) | omega)) | ((with_reducible refine Below.alloc ?_ ?hs _); (case hs => first | (simp; done) | (simp; omega) | omega))))⟩)
end Go.Proofs.YtnnfjjgohhicjaaDoor
namespace Go.Proofs.YtnnfjjgohhicjaaDoor
open Go.RowKit
set_option linter.unusedSimpArgs false
set_option linter.unusedVariables false
set_option maxRecDepth 100000

/-- The marks of a row. -/
def mk64 (k : Int) (n : Nat) : List Int := (List.range n).map fun (i : Nat) => k + (i : Int)
theorem mk64_len (k : Int) (n : Nat) : (mk64 k n).length = n := by simp [mk64]
theorem mk64_get (k : Int) {n i : Nat} (h : i < n) : (mk64 k n)[i]? = some (k + (i : Int)) := by simp [mk64, h]
theorem mk64_snoc (k : Int) (n : Nat) : mk64 k (n + 1) = mk64 k n ++ [k + (n : Int)] := by simp [mk64, List.range_succ]
theorem mk64_set (k : Int) (xs : List Int) {j : Nat} (h : j < xs.length) : (mk64 k j ++ xs.drop j).set j (k + (j : Int)) = mk64 k (j + 1) ++ xs.drop (j + 1) := by
  rw [List.set_append_right _ _ (by rw [mk64_len]; exact Nat.le_refl _), mk64_len, Nat.sub_self, List.drop_eq_getElem_cons h, List.set_cons_zero, mk64_snoc, List.append_assoc]; rfl
def MarkPost (v : Value) (k : Int) (n : Nat) (fp : List Nat) (w : World) (e : Ending) (w' : World) : Prop := e = .returned (.int .i64 (k + (n : Int))) ∧ Row 2 kI64 w' v (mk64 k n) fp ∧ Chg (fun b => b ∈ fp) w w'
set_option maxHeartbeats 2000000 in
theorem markInt64S_c (v : Value) (xs : List Int) (fp : List Nat) (k : Int) (w : World) (h : Row 2 kI64 w v xs fp) (hk : 0 ≤ k) (hk2 : k ≤ 4611686018427387904) (hl : xs.length ≤ 1152921504606846976) :
    Calls Tryd.prog 30 #[v, .int .i64 k] w (MarkPost v k xs.length fp w) := by
  rcases h.form' with ⟨rfl, rfl, rfl⟩ | ⟨g, cap, rfl, -, -⟩
  · have HH := Lib.hid h
    clear h
    go_enter Tryd.func30, Tryd.ntmps30
    go_wp2
    go_loopw [1, 5] (fun k1 i wr => k1 = .int .i64 k ∧ i = .int .i64 0 ∧ wr = w) (fun _ _ _ => 0)
    case atStart => exact ⟨rfl, rfl, rfl⟩
    case round =>
      obtain ⟨rfl, rfl, rfl⟩ := hrel
      go_wp2
      go_ret
      exact ⟨by simp, HH.out, Chg.refl _ _⟩
  · obtain rfl : fp = [g] := row_int_fp h
    have HX := Lib.hid h
    clear h
    go_enter Tryd.func30, Tryd.ntmps30
    go_wp2
    go_loopw [1, 5] (fun k1 i wr => ∃ j : Nat, j ≤ xs.length ∧ k1 = .int .i64 (k + (j : Int)) ∧ i = .int .i64 j ∧ Row 2 kI64 wr (.slice (some ⟨g, 0, none⟩) xs.length cap) (mk64 k j ++ xs.drop j) [g] ∧ Chg (fun b => b ∈ [g]) w wr) (fun _ i _ => xs.length - (intOf i).toNat)
    case atStart => exact ⟨0, by omega, by simp, rfl, by simpa [mk64] using HX.out, Chg.refl _ _⟩
    case round =>
      obtain ⟨j, hj, rfl, rfl, hr, hc⟩ := hrel
      by_cases hlt : j < xs.length
      · have hlen : (mk64 k j ++ xs.drop j).length = xs.length := by simp [mk64_len]; omega
        obtain ⟨y, ey⟩ := get_of_lt (show j < (mk64 k j ++ xs.drop j).length by omega)
        obtain ⟨q0, f0⟩ := row_int_cell hr hlen ey
        obtain ⟨hr2, hc2⟩ := row_int_set hr hlen hlt (k + (j : Int))
        rw [mk64_set k xs hlt] at hr2
        have HR := Lib.hid hr2
        have HC := Lib.hid (hc.trans (hc2.mono fun b _ e => by simp [e]))
        clear hr hr2 hc hc2 hlen ey
        go_wp2
        go_roundw
        case rel => exact ⟨j + 1, by omega, by go_num, by go_num, HR.out, HC.out⟩
        case measure => simp [intOf]; omega
      · have hjn : j = xs.length := by omega
        subst hjn
        have HR := Lib.hid hr
        have HC := Lib.hid hc
        clear hr hc
        go_wp2
        go_ret
        exact ⟨rfl, by simpa using HR.out, HC.out⟩
set_option maxHeartbeats 2000000 in
theorem heldInt64S_c (v : Value) (n : Nat) (fp : List Nat) (k : Int) (w : World) (h : Row 2 kI64 w v (mk64 k n) fp) (hk : 0 ≤ k) (hk2 : k ≤ 4611686018427387904) (hl : n ≤ 1152921504606846976) :
    Calls Tryd.prog 69 #[v, .int .i64 k] w fun e w' => e = .returned (.int .i64 (k + (n : Int))) ∧ w = w' := by
  have hn := mk64_len k n
  rcases h.form' with ⟨rfl, h0, rfl⟩ | ⟨g, cap, rfl, -, -⟩
  · obtain rfl : n = 0 := by rw [h0] at hn; simpa using hn.symm
    clear h h0
    go_enter Tryd.func69, Tryd.ntmps69
    go_wp2
    go_loopw [1, 5] (fun k1 i wr => k1 = .int .i64 k ∧ i = .int .i64 0 ∧ wr = w) (fun _ _ _ => 0)
    case atStart => exact ⟨rfl, rfl, rfl⟩
    case round =>
      obtain ⟨rfl, rfl, rfl⟩ := hrel
      go_wp2
      go_ret
      exact ⟨by simp, by first | rfl | trivial⟩
  · have HX := Lib.hid h
    rw [hn]
    clear h
    go_enter Tryd.func69, Tryd.ntmps69
    go_wp2
    go_loopw [1, 5] (fun k1 i wr => ∃ j : Nat, j ≤ n ∧ k1 = .int .i64 (k + (j : Int)) ∧ i = .int .i64 j ∧ wr = w) (fun _ i _ => n - (intOf i).toNat)
    case atStart => exact ⟨0, by omega, by simp, rfl, rfl⟩
    case round =>
      obtain ⟨j, hj, rfl, rfl, rfl⟩ := hrel
      by_cases hlt : j < n
      · obtain ⟨q0, f0⟩ := row_int_cell (n := n) (by have := HX.out; rwa [hn] at this) hn (mk64_get k hlt)
        go_wp2
        go_roundw
        case rel => exact ⟨j + 1, by omega, by go_num, by go_num, by first | rfl | trivial⟩
        case measure => simp [intOf]; omega
      · have hjn : j = n := by omega
        subst hjn
        go_wp2
        go_ret
        exact ⟨rfl, by first | rfl | trivial⟩
abbrev outV (R : Outc) (vh vt : Value) : Value := .agg #[.int .i64 R.code, .int .i64 R.value, .int .i64 R.steps, vt, vh]
def MarkOut (R : Outc) (vh vt : Value) (k : Int) (fh ft : List Nat) (w : World) (e : Ending) (w' : World) : Prop :=
  e = .returned (.int .i64 (k + (R.trace.length : Int) + (R.heap.length : Int))) ∧ Row 2 kI64 w' vt (mk64 k R.trace.length) ft ∧ Row 2 kI64 w' vh (mk64 (k + (R.trace.length : Int)) R.heap.length) fh ∧ Chg (fun b => b ∈ ft ∨ b ∈ fh) w w'
set_option maxHeartbeats 400000 in
theorem markOutcome_c (R : Outc) (vh vt : Value) (fh ft : List Nat) (k : Int) (w : World) (hh : Row 2 kI64 w vh R.heap fh) (ht : Row 2 kI64 w vt R.trace ft) (hd : ∀ b ∈ ft, b ∉ fh) (hk : 0 ≤ k) (hk2 : k ≤ 1048576) (h1 : R.heap.length ≤ 1048576) (h2 : R.trace.length ≤ 1048576) :
    Calls Tryd.prog 31 #[outV R vh vt, .int .i64 k] w (MarkOut R vh vt k fh ft w) := by
  obtain ⟨A1, c1, rfl, -⟩ := hh.form
  obtain ⟨A2, c2, rfl, -⟩ := ht.form
  have HM1 := Lib.hid (fun W (h : Below w.heap.size w W) => markInt64S_c _ R.trace ft k W (ht.chg (chg_of h) (by simp)) hk (by omega) (by omega))
  have HM2 := Lib.hid (fun W (h : Chg (fun b => b ∈ ft) w W) => markInt64S_c _ R.heap fh (k + (R.trace.length : Int)) W (hh.chg h fun b hb hm => hd b hm hb) (by omega) (by omega) (by omega))
  have HD2 := Lib.hid hd
  have HLT := Lib.hid (show w.heap.size ∉ ft from fun hm => by have := ht.lt _ hm; omega)
  clear hh ht hd
  simp only [outV]
  go_enter Tryd.func31, Tryd.ntmps31
  go_wp2_with (first
    | (go_at_call 30; with_reducible refine (HM1.out _ (by (repeat (first | (with_reducible first | exact Below.refl _ _ | assumption | exact ext_box _) | (with_reducible apply Below.drew) | ((with_reducible refine Below.setCell ?_ ?hs _); (case hs => first | (simp; done) | (simp; omega) | omega)) | ((with_reducible refine Below.alloc ?_ ?hs _); (case hs => first | (simp; done) | (simp; omega) | omega)))))).mono ?_; intro e w1 hp1; unfold MarkPost at hp1; obtain ⟨rfl, hr1, hc1⟩ := hp1
       have hb1 := (Bk.made w 51 [.int .i64 R.code, .int .i64 R.value, .int .i64 R.steps, .slice A2 R.trace.length c2, .slice A1 R.heap.length c1]).chg hc1 HLT.out
       have c4 := hb1.cell 4 (v := .slice A1 R.heap.length c1) rfl
       have HR1 := Lib.hid hr1
       have HC1 := Lib.hid (show Chg (fun b => b ∈ ft) w w1 from Chg.trans (by (repeat (first | (with_reducible first | exact Chg.refl _ _ | assumption) | (with_reducible refine Chg.drew ?_) | ((with_reducible refine Chg.setCell ?_ ?hs _); (case hs => first | (simp; done) | (simp; omega) | omega)) | (with_reducible refine Chg.alloc ?_ _)))) hc1)
       clear hr1 hc1 hb1)
    | (go_at_call 30; with_reducible refine (HM2.out _ HC1.out).mono ?_; intro e w2 hp2; unfold MarkPost at hp2; obtain ⟨rfl, hr2, hc2⟩ := hp2
       have HR2 := Lib.hid hr2
       have HC2 := Lib.hid hc2
       clear hr2 hc2))
  go_ret
  exact ⟨rfl, HR1.out.chg HC2.out HD2.out, HR2.out, (HC1.out.mono fun b _ h => .inl h).trans (HC2.out.mono fun b _ h => .inr h)⟩
set_option maxHeartbeats 400000 in
theorem heldOutcome_c (R : Outc) (vh vt : Value) (fh ft : List Nat) (k : Int) (w : World) (ht : Row 2 kI64 w vt (mk64 k R.trace.length) ft) (hh : Row 2 kI64 w vh (mk64 (k + (R.trace.length : Int)) R.heap.length) fh) (hk : 0 ≤ k) (hk2 : k ≤ 1048576) (h1 : R.heap.length ≤ 1048576) (h2 : R.trace.length ≤ 1048576) :
    Calls Tryd.prog 32 #[outV R vh vt, .int .i64 k] w fun e w' => e = .returned (.int .i64 (k + (R.trace.length : Int) + (R.heap.length : Int))) ∧ Below w.heap.size w w' := by
  obtain ⟨A1, c1, e1, -⟩ := hh.form
  obtain ⟨A2, c2, e2, -⟩ := ht.form
  rw [mk64_len] at e1 e2
  subst e1 e2
  have HH := Lib.hid (fun W (h : Below w.heap.size w W) => heldInt64S_c _ R.heap.length fh (k + (R.trace.length : Int)) W (hh.chg (chg_of h) (by simp)) (by omega) (by omega) (by omega))
  have HT := Lib.hid (fun W (h : Below w.heap.size w W) => heldInt64S_c _ R.trace.length ft k W (ht.chg (chg_of h) (by simp)) hk (by omega) (by omega))
  clear hh ht
  simp only [outV]
  go_enter Tryd.func32, Tryd.ntmps32
  go_wp2_with (first
    | (go_at_call 69; with_reducible refine (HT.out _ (by (repeat (first | (with_reducible first | exact Below.refl _ _ | assumption | exact ext_box _) | (with_reducible apply Below.drew) | ((with_reducible refine Below.setCell ?_ ?hs _); (case hs => first | (simp; done) | (simp; omega) | omega)) | ((with_reducible refine Below.alloc ?_ ?hs _); (case hs => first | (simp; done) | (simp; omega) | omega)))))).mono ?_; rintro e w1 ⟨rfl, rfl⟩)
    | (go_at_call 69; refine (HH.out _ (by (repeat (first | (with_reducible first | exact Below.refl _ _ | assumption | exact ext_box _) | (with_reducible apply Below.drew) | ((with_reducible refine Below.setCell ?_ ?hs _); (case hs => first | (simp; done) | (simp; omega) | omega)) | ((with_reducible refine Below.alloc ?_ ?hs _); (case hs => first | (simp; done) | (simp; omega) | omega)))))).mono ?_; rintro e w2 ⟨rfl, rfl⟩))
  go_ret
  exact ⟨rfl, by repeat (first | (with_reducible first | exact Below.refl _ _ | assumption | exact ext_box _) | (with_reducible apply Below.drew) | ((with_reducible refine Below.setCell ?_ ?hs _); (case hs => first | (simp; done) | (simp; omega) | omega)) | ((with_reducible refine Below.alloc ?_ ?hs _); (case hs => first | (simp; done) | (simp; omega) | omega)))⟩
end Go.Proofs.YtnnfjjgohhicjaaDoor
namespace Go.Proofs.YtnnfjjgohhicjaaDoor
open Go.RowKit
set_option linter.unusedSimpArgs false
set_option linter.unusedVariables false
set_option maxRecDepth 100000

/-- A marked row: as long as before, in the same blocks. -/
def MarkRow {α : Type} (e : TypeId) (d : Kd α) (v : Value) (n : Nat) (k : Int) (top : Int) (fp : List Nat) (w : World) (en : Ending) (w' : World) : Prop :=
  ∃ (k' : Int) (ys : List α) (fp' : List Nat), en = .returned (.int .i64 k') ∧ k ≤ k' ∧ k' ≤ k + top ∧ ys.length = n ∧ Row e d w' v ys fp' ∧ (∀ b ∈ fp', b ∈ fp) ∧ Chg (fun b => b ∈ fp) w w'
set_option maxHeartbeats 4000000 in
theorem markInstrS_c (v : Value) (xs : List Instr) (fp : List Nat) (k : Int) (w : World) (h : Row 72 kInstr w v xs fp) (hk : 0 ≤ k) (hk2 : k ≤ 4611686018427387904) (hl : xs.length ≤ 1048576) :
    Calls Tryd.prog 92 #[v, .int .i64 k] w (MarkRow 72 kInstr v xs.length k (5 * (xs.length : Int)) fp w) := by
  rcases h.form' with ⟨rfl, rfl, rfl⟩ | ⟨g, cap, rfl, hg, -⟩
  · have HH := Lib.hid h
    clear h
    go_enter Tryd.func92, Tryd.ntmps92
    go_wp2
    go_loopw [1, 5] (fun k1 i wr => k1 = .int .i64 k ∧ i = .int .i64 0 ∧ wr = w) (fun _ _ _ => 0)
    case atStart => exact ⟨rfl, rfl, rfl⟩
    case round =>
      obtain ⟨rfl, rfl, rfl⟩ := hrel
      go_wp2
      go_ret
      exact ⟨k, [], [], by simp, by omega, by simp, rfl, HH.out, fun _ h => h, Chg.refl _ _⟩
  · have HX := Lib.hid h
    have HG := Lib.hid hg
    clear h hg
    go_enter Tryd.func92, Tryd.ntmps92
    go_wp2
    go_loopw [1, 5] (fun k1 i wr => ∃ (j : Nat) (ys : List Instr) (fp' : List Nat), j ≤ xs.length ∧ k1 = .int .i64 (k + 5 * (j : Int)) ∧ i = .int .i64 j ∧ ys.length = xs.length ∧ Row 72 kInstr wr (.slice (some ⟨g, 0, none⟩) xs.length cap) ys fp' ∧ (∀ b ∈ fp', b ∈ fp) ∧ Chg (fun b => b ∈ fp) w wr) (fun _ i _ => xs.length - (intOf i).toNat)
    case atStart => exact ⟨0, xs, fp, by omega, by simp, rfl, rfl, HX.out, fun _ h => h, Chg.refl _ _⟩
    case round =>
      obtain ⟨j, ys, fp', hj, rfl, rfl, hy, hr, hf, hc⟩ := hrel
      have HF := Lib.hid hf
      have HY := Lib.hid hy
      by_cases hlt : j < xs.length
      · obtain ⟨y, ey⟩ := get_of_lt (show j < ys.length by omega)
        obtain ⟨_, rfl, hq, hfz⟩ := hr.cellsAt hy ey
        obtain ⟨q0, q1, q2, q3, q4⟩ := ha5 (n := j * 5) hq
        have f0 := hfz (j * 5)
        have f1 := hfz (j * 5 + 1)
        have f2 := hfz (j * 5 + 2)
        have f3 := hfz (j * 5 + 3)
        have f4 := hfz (j * 5 + 4)
        obtain ⟨fp2, hr2, hf2, hc2⟩ := hr.set hy (i := j) hlt (y := (⟨k + 5 * (j : Int), k + 5 * (j : Int) + 1, k + 5 * (j : Int) + 1 + 1, k + 5 * (j : Int) + 1 + 1 + 1, k + 5 * (j : Int) + 1 + 1 + 1 + 1⟩ : Instr)) ⟨rfl, rfl⟩ (by simp)
        rw [show j * kInstr.sz = j * 5 from rfl, setCells5] at hr2 hc2
        have HR := Lib.hid hr2
        have HC := Lib.hid (hc.trans (hc2.mono fun b _ e => by rw [e]; exact HG.out))
        have HF2 := Lib.hid (show ∀ b ∈ fp2, b ∈ fp from fun b hb => HF.out b ((hf2 b hb).resolve_right (by simp)))
        clear hr hr2 hc hc2 ey hq hfz hf hf2
        go_wp2
        go_roundw
        case rel => exact ⟨j + 1, _, fp2, by omega, by go_num, by go_num, by simpa using hy, HR.out, HF2.out, HC.out⟩
        case measure => simp [intOf]; omega
      · have hjn : j = xs.length := by omega
        subst hjn
        have HR := Lib.hid hr
        have HC := Lib.hid hc
        clear hr hc hf
        go_wp2
        go_ret
        exact ⟨_, ys, fp', rfl, by omega, by omega, HY.out, HR.out, HF.out, HC.out⟩
end Go.Proofs.YtnnfjjgohhicjaaDoor
