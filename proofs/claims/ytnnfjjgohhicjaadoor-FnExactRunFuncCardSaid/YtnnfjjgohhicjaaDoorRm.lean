/- Contract: spec.RunMach. -/
import Derived.Test.YtnnfjjgohhicjaaDoorRl
import Derived.Test.YtnnfjjgohhicjaaDoorKmk
namespace Go.Proofs.YtnnfjjgohhicjaaDoor
open Go.RowKit
set_option linter.unusedSimpArgs false
set_option linter.unusedVariables false
set_option maxRecDepth 100000

def leftS (fuel : Int) (B : Nat) (w : World) : Nat := match w.cell? ⟨B, 2, none⟩ with
  | some (.int _ k) => (fuel - k).toNat
  | _ => 0
theorem SSt.left {W0 : World} {B D cD G cG : Nat} {code value : Int} {s : Wd} {w : World} (h : SSt W0 B D cD G cG code value s w) (fuel : Int) : leftS fuel B w = (fuel - s.steps).toNat := by
  obtain ⟨_, _, h1, _⟩ := h
  unfold leftS
  rw [h1.cell 2 (v := .int .i64 s.steps) rfl]
theorem SSt.init {w1 w2 w3 : World} {G cG D n : Nat} {fh : List Nat} {args heap : List Int} {fuel : Int} (hb : Below w1.heap.size w1 w2) (hG : Row 2 kI64 w2 (.slice (some ⟨G, 0, none⟩) 32 cG) (heap32 heap) fh) (hf : ∀ b ∈ fh, w1.heap.size ≤ b)
    (hD : Row 2 kI64 w3 (.slice (some ⟨D, 0, none⟩) n n) (List.replicate n 0) [D]) (hDB : D = w2.heap.size + 1)
    (hb3 : Below (w2.alloc (.cells (wol 3 0 (initW args heap fuel n) (.slice (some ⟨G, 0, none⟩) 32 cG) (.slice none 0 0)).toArray 51)).heap.size (w2.alloc (.cells (wol 3 0 (initW args heap fuel n) (.slice (some ⟨G, 0, none⟩) 32 cG) (.slice none 0 0)).toArray 51)) w3) :
    SSt w1 w2.heap.size D n G cG 3 0 (initW args heap fuel n) w3 := by
  obtain rfl : fh = [G] := row_int_fp hG
  have lG := hG.lt G (by simp)
  have h23 : Below w2.heap.size w2 w3 := Below.then_ ((Below.refl _ _).alloc (Nat.le_refl _) _) hb3
  have hl : (initW args heap fuel n).cells.length = n := List.length_replicate
  have hs := hb.size
  exact ⟨none, 0, (Bk.made w2 _ _).below hb3, ⟨by rw [hl]; exact hD, hG.chg (chg_of h23) (by simp), heap32_len _, by omega, by omega, hf G (by simp), by simp; omega, by simp; omega, [], Row.nil _ _ _, by simp⟩, hs, hb.trans (h23.mono hs)⟩
theorem Rws.addX {N : Nat} {X : List Nat} {D cD G cG : Nat} {vt : Value} {s : Wd} {w : World} (h : Rws N X D cD G cG vt s w) {k : Nat} (hk : k < N) : Rws N (k :: X) D cD G cG vt s w := by
  obtain ⟨h1, h2, h3, h4, h5, h6, h7, h8, ft, h9, h10⟩ := h
  exact ⟨h1, h2, h3, h4, h5, h6, by simp; exact ⟨by omega, h7⟩, by simp; exact ⟨by omega, h8⟩, ft, h9, fun b hb => ⟨(h10 b hb).1, (h10 b hb).2.1, (h10 b hb).2.2.1, by simp; exact ⟨by have := (h10 b hb).1; omega, (h10 b hb).2.2.2⟩⟩⟩
theorem SSt.lt_left {W0 : World} {B D cD G cG : Nat} {code value : Int} {s s' : Wd} {w wr : World} (h : SSt W0 B D cD G cG code value s' w) {fuel : Int} (hm : leftS fuel B wr = (fuel - s.steps).toNat) (hs : s'.steps = s.steps + 1) (hl : s.steps < fuel) : leftS fuel B w < leftS fuel B wr := by
  rw [h.left, hm, hs]; omega
theorem below2 (w : World) (a b : Obj) : Below w.heap.size w ((w.alloc a).alloc b).drew := (((Below.refl _ _).alloc (Nat.le_refl _) _).alloc (by simp) _).drew
theorem below2n (w : World) (a b : Obj) : Below w.heap.size w ((w.alloc a).alloc b) := (((Below.refl _ _).alloc (Nat.le_refl _) _).alloc (by simp) _)
theorem SSt.scr {W0 : World} {B D cD G cG : Nat} {code value : Int} {s : Wd} {w : World} (h : SSt W0 B D cD G cG code value s w) (v : Int) : SSt W0 B D cD G cG code value { s with scratch := v } w := h
theorem exec_scr {x : Instr} {s s' : Wd} (h : exec x s = some s') (hx : ¬ x.op = 12) : s.scratch = s'.scratch := by
  unfold exec at h
  rw [if_neg hx] at h
  (repeat' split at h) <;> first | (cases h; done) | (cases h; rfl)
/-- The state's end. -/
theorem endS {w w1 w5 w6 : World} {B D cD G cG ct : Nat} {At : Option Addr} {code value : Int} {s : Wd} {R : Outc} (hR : R = fin code value s) (h : Rws w1.heap.size [B] D cD G cG (.slice At s.trace.length ct) s w5) (hB : Below w.heap.size w w1) (hk : w.heap.size + 1 < w1.heap.size) (hC : Chg (fun k => k ∈ [w.heap.size + 1, B]) w5 w6) (hb : Below w.heap.size w w6) :
    RetOut w R (.returned (.agg #[.int .i64 code, .int .i64 value, .int .i64 s.steps, .slice At s.trace.length ct, .slice (some ⟨G, 0, none⟩) 32 cG])) w6 := by
  subst hR
  exact ⟨_, _, rfl, (St.out code value ((h.addX hk).chg hC)).ret (k := w.heap.size + 1) hB.size (Chg.refl _ _) hk, hb⟩
set_option maxHeartbeats 16000000 in
theorem runMach_s (A L H : Option Addr) (c ca ch : Nat) (m : Mach) (args heap : List Int) (fuel : Int) (w : World) (hx : C (kMB 0) w L m.blocks) (hA : C kI64 w A args) (hH : C kI64 w H heap) (hm : m.blocks.length ≤ 1048576) (hs : ∀ (i : Nat) b, m.blocks[i]? = some b → b.instrs.length ≤ 1048576)
    (ha : args.length ≤ 1048576) (hh : heap.length ≤ 1048576) :
    Calls Tryd.prog 25 #[.agg #[.int .i64 m.regs, .slice L m.blocks.length c], .slice A args.length ca, .slice H heap.length ch, .int .i64 fuel] w (RetOut w (runMach m args heap fuel)) := by
  obtain ⟨i0, hi, hz0, hz1, hz2⟩ := info_parts info_i64
  have HIV := Lib.hid (fun W (h : Below w.heap.size w W) => validMachS_c L c m W (hx.below h) hm hs)
  have HRN := Lib.hid (fun W => badRun_c A H args.length heap.length ca ch fuel W ha hh)
  cases hv : validMach m
  · have HR := Lib.hid (show runMach m args heap fuel = badOut by simp [runMach, hv])
    have HV := Lib.hid hv
    clear hv
    go_enter Tryd.func25, Tryd.ntmps25
    go_wp2_with (go_at_call 10; have hiv := HIV.out; rw [HV.out] at hiv; refine (hiv _ (by repeat (first | (with_reducible first | exact Below.refl _ _ | assumption | exact ext_box _) | (with_reducible apply Below.drew) | ((with_reducible refine Below.setCell ?_ ?hs _); (case hs => first | (simp; done) | (simp; omega) | omega)) | ((with_reducible refine Below.alloc ?_ ?hs _); (case hs => first | (simp; done) | (simp; omega) | omega))))).mono ?_; rintro e w1 ⟨rfl, hb1⟩; have HB1 : Below w.heap.size w w1 := Below.then_ (by repeat (first | (with_reducible first | exact Below.refl _ _ | assumption | exact ext_box _) | (with_reducible apply Below.drew) | ((with_reducible refine Below.setCell ?_ ?hs _); (case hs => first | (simp; done) | (simp; omega) | omega)) | ((with_reducible refine Below.alloc ?_ ?hs _); (case hs => first | (simp; done) | (simp; omega) | omega)))) hb1; obtain ⟨hc1, hf1⟩ := bcell hb1; obtain ⟨zw0, zw1⟩ : w.heap.size < w1.heap.size ∧ w.heap.size + 1 < w1.heap.size := (by have := hb1.size; simp at this; omega))
    refine bodyPost_ret (v := .agg #[.int .i64 4, .int .i64 0, .int .i64 0, .slice none 0 0, .slice none 0 0]) (by simp [results, Tryd.results25, go_sem, hc1, zw0, zw1]) rfl (retBad (by repeat (first | (with_reducible first | exact Below.refl _ _ | assumption | exact ext_box _) | (with_reducible apply Below.drew) | ((with_reducible refine Below.setCell ?_ ?hs _); (case hs => first | (simp; done) | (simp; omega) | omega)) | ((with_reducible refine Below.alloc ?_ ?hs _); (case hs => first | (simp; done) | (simp; omega) | omega)))) HR.out rfl)
  · have HV := Lib.hid hv
    cases hk : runOK args.length heap.length fuel
    · have HR := Lib.hid (show runMach m args heap fuel = badOut by simp [runMach, hk])
      have HK := Lib.hid hk
      clear hv hk
      go_enter Tryd.func25, Tryd.ntmps25
      go_wp2_with (first
        | (go_at_call 10; have hiv := HIV.out; rw [HV.out] at hiv; refine (hiv _ (by repeat (first | (with_reducible first | exact Below.refl _ _ | assumption | exact ext_box _) | (with_reducible apply Below.drew) | ((with_reducible refine Below.setCell ?_ ?hs _); (case hs => first | (simp; done) | (simp; omega) | omega)) | ((with_reducible refine Below.alloc ?_ ?hs _); (case hs => first | (simp; done) | (simp; omega) | omega))))).mono ?_; rintro e w1 ⟨rfl, hb1⟩; have HB1 : Below w.heap.size w w1 := Below.then_ (by repeat (first | (with_reducible first | exact Below.refl _ _ | assumption | exact ext_box _) | (with_reducible apply Below.drew) | ((with_reducible refine Below.setCell ?_ ?hs _); (case hs => first | (simp; done) | (simp; omega) | omega)) | ((with_reducible refine Below.alloc ?_ ?hs _); (case hs => first | (simp; done) | (simp; omega) | omega)))) hb1; obtain ⟨hc1, hf1⟩ := bcell hb1; obtain ⟨zw0, zw1⟩ : w.heap.size < w1.heap.size ∧ w.heap.size + 1 < w1.heap.size := (by have := hb1.size; simp at this; omega))
        | (go_at_call 63; have hrn := HRN.out; rw [HK.out] at hrn; refine (hrn _).mono ?_; rintro e w2 ⟨rfl, rfl⟩))
      refine bodyPost_ret (v := .agg #[.int .i64 4, .int .i64 0, .int .i64 0, .slice none 0 0, .slice none 0 0]) (by simp [results, Tryd.results25, go_sem, hc1, zw0, zw1]) rfl (retBad (by repeat (first | (with_reducible first | exact Below.refl _ _ | assumption | exact ext_box _) | (with_reducible apply Below.drew) | ((with_reducible refine Below.setCell ?_ ?hs _); (case hs => first | (simp; done) | (simp; omega) | omega)) | ((with_reducible refine Below.alloc ?_ ?hs _); (case hs => first | (simp; done) | (simp; omega) | omega)))) HR.out rfl)
    · have HR := Lib.hid (show runMach m args heap fuel = runS (blkM m) (fun _ _ s => s) fuel.toNat 0 0 (initW args heap fuel m.regs.toNat) by simp [runMach, hv, hk])
      have HK := Lib.hid hk
      obtain ⟨g1, g2, g3⟩ := validMach_parts hv
      obtain ⟨r1, r2, r3, r4⟩ := runOK_iff.1 hk
      obtain ⟨n, hn⟩ : ∃ n : Nat, m.regs = n := ⟨m.regs.toNat, by omega⟩
      have HN := Lib.hid hn
      have HG := Lib.hid g3
      obtain ⟨g4, g5⟩ := g2
      have hn2 : n ≤ 64 := by omega
      have HLH := Lib.hid (fun W (h : Below w.heap.size w W) => l1Heap_c H ch heap W (hH.below h) hh)
      clear hv hk g3 g1 hn
      go_enter Tryd.func25, Tryd.ntmps25
      go_wp2_with (first
        | (go_at_call 10; have hiv := HIV.out; rw [HV.out] at hiv; refine (hiv _ (by repeat (first | (with_reducible first | exact Below.refl _ _ | assumption | exact ext_box _) | (with_reducible apply Below.drew) | ((with_reducible refine Below.setCell ?_ ?hs _); (case hs => first | (simp; done) | (simp; omega) | omega)) | ((with_reducible refine Below.alloc ?_ ?hs _); (case hs => first | (simp; done) | (simp; omega) | omega))))).mono ?_; rintro e w1 ⟨rfl, hb1⟩; have HB1 : Below w.heap.size w w1 := Below.then_ (by repeat (first | (with_reducible first | exact Below.refl _ _ | assumption | exact ext_box _) | (with_reducible apply Below.drew) | ((with_reducible refine Below.setCell ?_ ?hs _); (case hs => first | (simp; done) | (simp; omega) | omega)) | ((with_reducible refine Below.alloc ?_ ?hs _); (case hs => first | (simp; done) | (simp; omega) | omega)))) hb1; obtain ⟨hc1, hf1⟩ := bcell hb1; obtain ⟨zw0, zw1⟩ : w.heap.size < w1.heap.size ∧ w.heap.size + 1 < w1.heap.size := (by have := hb1.size; simp at this; omega); have y0 : w1.cell? ⟨w.heap.size, 0, none⟩ = some (.int .i64 m.regs) := (hc1 _ _ (by simp; try omega)).trans (by simp); have y1 : w1.cell? ⟨w.heap.size, 1, none⟩ = some (.slice L m.blocks.length c) := (hc1 _ _ (by simp; try omega)).trans (by simp))
        | (go_at_call 63; have hrn := HRN.out; rw [HK.out] at hrn; refine (hrn _).mono ?_; rintro e w2 ⟨rfl, rfl⟩)
        | (go_at_call 64; refine (HLH.out _ HB1).mono ?_; rintro e w2 ⟨vh, fh, rfl, hh2, hfh, hb2⟩; obtain ⟨G, cG, rfl, hGf⟩ : ∃ G cG, vh = .slice (some ⟨G, 0, none⟩) 32 cG ∧ G ∈ fh := (by rcases hh2.form' with ⟨_, h, _⟩ | ⟨g, cap, rfl, hg, _⟩; have := congrArg List.length h; rw [heap32_len] at this; simp at this; exact ⟨g, cap, by rw [heap32_len], hg⟩); have zw2 := hb2.size; have x0 := (hb2.cell (p := ⟨w.heap.size, 0, none⟩) zw0).trans y0; have zwa : w.heap.size < w2.heap.size := (by omega))
        | (at_make; refine wpList_make_row (kInt .i64) 0 [.int .i64 0] _ rfl _ _ 49 rfl 2 i0 _ Tryd.underlying49 hi hz0 hz1 rfl (by decide) (fun _ => ⟨rfl, rfl⟩) m.regs n rfl rfl HN.out (by rw [hz2]; omega) (by simp only [maxLen]; omega) ?_; intro w3 hr3 hb3 hz3))
      have HST := Lib.hid (SSt.init (args := args) (heap := heap) (fuel := fuel) hb2 hh2 hfh (by simpa using hr3) (by simp) hb3)
      have HOK := Lib.hid (show Ok (initW args heap fuel n) (initW args heap fuel n) from ⟨rfl, rfl, rfl, Int.le_refl _, Int.le_refl _, r3, r4, by simp [initW], r1⟩)
      obtain ⟨R, hR⟩ : ∃ R, runMach m args heap fuel = R := ⟨_, rfl⟩
      have HRM := Lib.hid hR
      have HR2 := Lib.hid (show R = runS (blkM m) (fun _ _ s => s) (lft (initW args heap fuel n)) (0 : Nat) 0 (initW args heap fuel n) by rw [← hR, HR.out, HN.out, show lft (initW args heap fuel n) = fuel.toNat by simp [lft, initW]]; simp)
      have HA0 := Lib.hid (show (initW args heap fuel n).args = args ∧ (initW args heap fuel n).fuel = fuel ∧ (initW args heap fuel n).cells.length = n from ⟨rfl, rfl, List.length_replicate⟩)
      have K8 := Lib.hid (show Bk (w.heap.size + 1) 51 [.int .i64 0, .int .i64 0, .int .i64 0, .slice none 0 0, .slice none 0 0] w1 by
        have := (Bk.made (w.alloc (.cells #[.int .i64 m.regs, .slice L m.blocks.length c] 29)) 51 [.int .i64 0, .int .i64 0, .int .i64 0, .slice none 0 0, .slice none 0 0]).below hb1
        simpa only [World.size_alloc] using this)
      clear hR hh2 hfh hGf hr3 hb3 hz3 hb2 x0 zwa zw2
      generalize w2.heap.size = B at *
      go_loopw [10, 11, 12, 13] (fun t10 t11 t12 t13 wr => ∃ (b k : Nat) (s : Wd), b < m.blocks.length ∧ t10 = .slice (some ⟨B + 1, 0, none⟩) n n ∧ t11 = .int .i64 s.scratch ∧ t12 = .int .i64 b ∧ t13 = .int .i64 k ∧ k ≤ (blkM m b).1.length ∧ SSt w1 B (B + 1) n G cG 3 0 s wr ∧ Ok (initW args heap fuel n) s ∧ R = runS (blkM m) (fun _ _ s => s) (lft s) b k s) (fun _ _ _ _ wr => leftS fuel B wr)
      case atStart => exact ⟨0, 0, initW args heap fuel n, by omega, rfl, rfl, rfl, rfl, by omega, HST.out, HOK.out, HR2.out⟩
      case round =>
        clear HST HR2
        obtain ⟨b, k, s, hb, rfl, rfl, rfl, rfl, hkl, hst, hok, hrn⟩ := hrel
        have HS := Lib.hid hst
        have HO := Lib.hid hok
        have HRN := Lib.hid hrn
        have HML := Lib.hid (hst.left fuel)
        have HW := Lib.hid (show Below w1.heap.size w1 wr by obtain ⟨_, _, _, _, _, hb⟩ := hst; exact hb)
        obtain ⟨At, ct, h1, h2, h3, h4⟩ := id hst
        have e0 := h1.cell 0 (v := .int .i64 3) rfl
        have e1 := h1.cell 1 (v := .int .i64 0) rfl
        have e2 := h1.cell 2 (v := .int .i64 s.steps) rfl
        have e3 := h1.cell 3 (v := .slice At s.trace.length ct) rfl
        have e4 := h1.cell 4 (v := .slice (some ⟨G, 0, none⟩) 32 cG) rfl
        have f9 := h1.frozen
        have zB := h1.lt
        have HH1 := Lib.hid h1
        have HH2 := Lib.hid h2
        have hsf := hok.hi
        have hmx := hok.max
        have hs0 : 0 ≤ s.steps := Int.le_trans hok.pos hok.lo
        have htr := hok.tr
        have HFU := Lib.hid (show s.fuel = fuel by rw [hok.fuel]; rfl)
        have hfu2 : fuel ≤ 60000 := by rw [← HFU.out]; exact hmx
        have hsz := h4.size
        have z81 : w.heap.size < wr.heap.size := by omega
        have z82 : w.heap.size + 1 < wr.heap.size := by omega
        clear hst hok hrn h1 h2 h4
        by_cases hlt : s.steps < fuel
        · have hlt2 : s.steps < s.fuel := by have := HFU.out; omega
          have HLT := Lib.hid hlt2
          obtain ⟨x, ex⟩ := get_of_lt hb
          obtain ⟨a, _, rfl, ⟨_, _, rfl, ⟨A', c', rfl, l', r'⟩, rfl⟩, hc⟩ := (hx.below HB1).at ex
          obtain ⟨p0, p1, p2, p3, p4⟩ := hc5 (n := b * 5) hc
          clear hc
          have hil := hs _ _ ex
          have HG2 := Lib.hid (HG.out _ _ ex)
          have HBL := Lib.hid (show blkM m b = (x.instrs, x.term) by simp [blkM, ex])
          have hkl2 : k ≤ x.instrs.length := by have := hkl; rwa [HBL.out] at this
          have HIT := Lib.hid (show ∀ i : Nat, (blkM m b).1[i]? = x.instrs[i]? from fun i => by rw [HBL.out])
          clear ex hlt2 hkl
          go_upto_region 10 with (fail)
          have HS1 := Lib.hid HS.out.step
          clear e0 e1 e2 e3 e4 f9 zB HH1 HH2 h3 z81 z82
          generalize wr.setCell ⟨B, 2, none⟩ (.int .i64 (s.steps + 1)) = w5 at *
          obtain ⟨At, ct, h1, h2, h3, h4⟩ := HS1.out
          have e0 := h1.cell 0 (v := .int .i64 3) rfl
          have e1 := h1.cell 1 (v := .int .i64 0) rfl
          have e2 := h1.cell 2 (v := .int .i64 (s.steps + 1)) rfl
          have e3 := h1.cell 3 (v := .slice At s.trace.length ct) rfl
          have e4 := h1.cell 4 (v := .slice (some ⟨G, 0, none⟩) 32 cG) rfl
          have f9 := h1.frozen
          have zB := h1.lt
          obtain ⟨zD, zG⟩ := h2.lt
          have hsz5 := h4.size
          have z81 : w.heap.size < w5.heap.size := by omega
          have z82 : w.heap.size + 1 < w5.heap.size := by omega
          have v1 := (h4.cell zw0).trans y1
          have v2 := (h4.cell (World.block_lt_of_cell? w1 _ p0)).trans p0
          have v3 := (h4.cell (World.block_lt_of_cell? w1 _ p1)).trans p1
          have v4 := (h4.cell (World.block_lt_of_cell? w1 _ p2)).trans p2
          have v5 := (h4.cell (World.block_lt_of_cell? w1 _ p3)).trans p3
          have v6 := (h4.cell (World.block_lt_of_cell? w1 _ p4)).trans p4
          have HH1 := Lib.hid h1
          have HH2 := Lib.hid h2
          have HH4 := Lib.hid h4
          have hcl : s.cells.length = n := by have := HO.out.cells; rw [HA0.out.2.2] at this; exact this
          have HCL := Lib.hid hcl
          clear p0 p1 p2 p3 p4 h1 h2 h4 hcl
          by_cases hk : k < x.instrs.length
          · obtain ⟨y, ey⟩ := get_of_lt hk
            obtain ⟨a2, _, rfl, rfl, hc⟩ := r'.at ey
            obtain ⟨p0, p1, p2, p3, p4⟩ := hc5 (n := k * 5) hc
            have u0 := (HH4.out.cell (World.block_lt_of_cell? w1 _ p0)).trans p0
            have u1 := (HH4.out.cell (World.block_lt_of_cell? w1 _ p1)).trans p1
            have u2 := (HH4.out.cell (World.block_lt_of_cell? w1 _ p2)).trans p2
            have u3 := (HH4.out.cell (World.block_lt_of_cell? w1 _ p3)).trans p3
            have u4 := (HH4.out.cell (World.block_lt_of_cell? w1 _ p4)).trans p4
            have z72 : (a2.add (k * 5)).block < w5.heap.size := World.block_lt_of_cell? w5 _ u0
            have HGI := Lib.hid (HG2.out.1 _ _ ey)
            have HE := Lib.hid (show (blkM m b).1[k]? = some y by rw [HIT.out]; exact ey)
            have HKL := Lib.hid (show k + 1 ≤ (blkM m b).1.length by rw [HBL.out]; exact hk)
            clear hc p0 p1 p2 p3 p4 ey
            obtain ⟨op, dst, a3, b3, imm⟩ := y
            dsimp only at u0 u1 u2 u3 u4
            obtain ⟨g1, g2, g3, g4, g5, g6⟩ := HGI.out
            dsimp only at g1 g2 g3 g4 g5
            have hcl : (step s).cells.length = n := HCL.out
            have hnn := HN.out
            have hkl3 := hkl2
            have zD1 : B + 1 < w5.heap.size + 1 := by omega
            have zD2 : B + 1 < w5.heap.size + 1 + 1 := by omega
            have zB1 : B < w5.heap.size + 1 := by omega
            have z83 : w.heap.size + 1 < w5.heap.size + 1 := by omega
            have z84 : w.heap.size + 1 < w5.heap.size + 1 + 1 := by omega
            have zB2 : B < w5.heap.size + 1 + 1 := by omega
            rcases (by omega : op = 11 ∨ op = 12 ∨ op = 13 ∨ op ≤ 10) with h11 | h11 | h11 | h11
            · subst h11
              have hd := fld_t g3 (by decide)
              have ha3 := fld_t g4 (by decide)
              rw [hnn] at hd ha3
              obtain ⟨r, rfl⟩ : ∃ r : Nat, dst = r := ⟨dst.toNat, by omega⟩
              obtain ⟨r2, rfl⟩ : ∃ r : Nat, a3 = r := ⟨a3.toNat, by omega⟩
              obtain ⟨qd, pd⟩ := HH2.out.reg (r := r) (by omega)
              obtain ⟨qa, pa⟩ := HH2.out.reg (r := r2) (by omega)
              rw [Int.toNat_natCast] at qd pd qa pa
              have HS2 := Lib.hid (HS1.out.setReg (r := r) (by omega) (getI (step s).cells r2))
              have HR2 := Lib.hid (show exec ⟨11, r, r2, b3, imm⟩ (step s) = some { step s with cells := setI (step s).cells r (getI (step s).cells r2) } by simp [exec])
              clear g1 g2 g3 g4 g5 g6 hcl hnn
              go_wp2
              refine wp_region_still_tail 8 (by kernel_rfl) (by kernel_rfl) ?_; simp only [List.take_succ_cons, List.take_zero, List.drop_succ_cons, List.drop_zero]; change wpStill _ _ (World.drew _) _ _ _
              repeat still_step
              refine wpStill_nil ?_
              change wpList _ _ _ _ _ (World.drew _)
              go_wp2
              go_roundw
              case rel => exact ⟨b, k + 1, _, hb, rfl, by go_num, rfl, by go_num, HKL.out, HS2.out.below (by first | exact below2 _ _ _ | exact below2n _ _ _), HO.out.go HLT.out HR2.out, HRN.out.trans (runS_go HLT.out HE.out HR2.out)⟩
              case measure => exact SSt.lt_left (HS2.out.below (by first | exact below2 _ _ _ | exact below2n _ _ _)) HML.out rfl hlt
            · subst h11
              have ha3 := fld_t g4 (by decide)
              rw [hnn] at ha3
              obtain ⟨r2, rfl⟩ : ∃ r : Nat, a3 = r := ⟨a3.toNat, by omega⟩
              obtain ⟨qa, pa⟩ := HH2.out.reg (r := r2) (by omega)
              rw [Int.toNat_natCast] at qa pa
              have HS2 := Lib.hid (fun W (hb : Below w5.heap.size w5 W) => (SSt.scr (HS1.out.below hb) (getI (step s).cells r2)))
              have HR2 := Lib.hid (show exec ⟨12, dst, r2, b3, imm⟩ (step s) = some { step s with scratch := getI (step s).cells r2 } by simp [exec])
              clear g1 g2 g3 g4 g5 g6 hcl hnn
              go_wp2
              go_roundw
              case rel => exact ⟨b, k + 1, _, hb, rfl, by go_num, rfl, by go_num, HKL.out, HS2.out _ (by first | exact below2 _ _ _ | exact below2n _ _ _), HO.out.go HLT.out HR2.out, HRN.out.trans (runS_go HLT.out HE.out HR2.out)⟩
              case measure => exact SSt.lt_left (HS2.out _ (by first | exact below2 _ _ _ | exact below2n _ _ _)) HML.out rfl hlt
            · subst h11
              have hd := fld_t g3 (by decide)
              rw [hnn] at hd
              obtain ⟨r, rfl⟩ : ∃ r : Nat, dst = r := ⟨dst.toNat, by omega⟩
              obtain ⟨qd, pd⟩ := HH2.out.reg (r := r) (by omega)
              rw [Int.toNat_natCast] at qd pd
              have HS2 := Lib.hid (HS1.out.setReg (r := r) (by omega) s.scratch)
              have HR2 := Lib.hid (show exec ⟨13, r, a3, b3, imm⟩ (step s) = some { step s with cells := setI (step s).cells r (step s).scratch } by simp [exec])
              clear g1 g2 g3 g4 g5 g6 hcl hnn
              go_wp2
              go_roundw
              case rel => exact ⟨b, k + 1, _, hb, rfl, by go_num, rfl, by go_num, HKL.out, HS2.out.below (by first | exact below2 _ _ _ | exact below2n _ _ _), HO.out.go HLT.out HR2.out, HRN.out.trans (runS_go HLT.out HE.out HR2.out)⟩
              case measure => exact SSt.lt_left (HS2.out.below (by first | exact below2 _ _ _ | exact below2n _ _ _)) HML.out rfl hlt
            · have n11 : ¬ op = 11 := by omega
              have n12 : ¬ op = 12 := by omega
              have n13 : ¬ op = 13 := by omega
              by_cases htp : op = 6 ∧ getI (step s).cells b3 = 0
              · obtain ⟨rfl, hz⟩ := htp
                have hb3 := fld_t g5 (by decide)
                rw [hnn] at hb3
                obtain ⟨r2, rfl⟩ : ∃ r : Nat, b3 = r := ⟨b3.toNat, by omega⟩
                obtain ⟨qb, pb⟩ := HH2.out.reg (r := r2) (by omega)
                rw [Int.toNat_natCast] at qb pb
                rw [hz] at qb
                have HR2 := Lib.hid (show exec ⟨6, dst, a3, r2, imm⟩ (step s) = none by simp [exec, hz])
                have K8' := K8.out.below (HH4.out)
                have d0 := K8'.cell 0 rfl
                have d1 := K8'.cell 1 rfl
                have d2 := K8'.cell 2 rfl
                have d3 := K8'.cell 3 rfl
                have d4 := K8'.cell 4 rfl
                have f8 := K8'.frozen
                clear K8' g1 g2 g3 g4 g5 g6 hcl hnn
                go_wp2
                exact bodyPost_ret (v := .agg #[.int .i64 2, .int .i64 0, .int .i64 (s.steps + 1), .slice At s.trace.length ct, .slice (some ⟨G, 0, none⟩) 32 cG]) (by simp [results, Tryd.results25, go_sem, d0, d1, d2, d3, d4, z82, z83, z84]) rfl
                  (by rw [HRM.out]; exact endS (s := step s) (HRN.out.trans (runS_trap HLT.out HE.out HR2.out)) HH2.out HB1 zw1 (by (repeat (first | (with_reducible first | exact Chg.refl _ _ | assumption) | (with_reducible refine Chg.drew ?_) | ((with_reducible refine Chg.setCell ?_ ?hs _); (case hs => first | (simp; done) | (simp; omega) | omega)) | (with_reducible refine Chg.alloc ?_ _)))) (by have := HB1.trans (HH4.out.mono HB1.size); (repeat (first | (with_reducible first | exact Below.refl _ _ | assumption | exact ext_box _) | (with_reducible apply Below.drew) | ((with_reducible refine Below.setCell ?_ ?hs _); (case hs => first | (simp; done) | (simp; omega) | omega)) | ((with_reducible refine Below.alloc ?_ ?hs _); (case hs => first | (simp; done) | (simp; omega) | omega))))))
              · obtain ⟨s', he⟩ : ∃ s', exec ⟨op, dst, a3, b3, imm⟩ (step s) = some s' := by
                  unfold exec; dsimp only; simp only [n11, n12, n13, if_false]; (repeat' split); all_goals first | exact ⟨_, rfl⟩ | (exfalso; exact htp (by assumption))
                have HR2 := Lib.hid he
                have he6 := exec_same he
                have HEX := Lib.hid (fun W (hb : Below w5.heap.size w5 W) => by
                  have h := l1Exec_c w1.heap.size [B] (B + 1) n G cG (step s) s' W A ca At ct 3 0 ⟨op, dst, a3, b3, imm⟩ m.regs (HH2.out.below hb) HGI.out h11 (by rw [hcl, hnn]) (by rw [show (step s).args = args from HO.out.args]; exact hA.below (HB1.trans ((HH4.out.trans (hb.mono hsz5)).mono HB1.size))) (by rw [show (step s).args = args from HO.out.args]; exact ha) (by show s.trace.length ≤ 1048576; omega) (by have := hb.size; omega) (by have := hb.size; simp; omega) he
                  rw [show (step s).cells.length = n from hcl, show (step s).args.length = args.length by rw [show (step s).args = args from HO.out.args]] at h
                  exact h)
                have hc6L : s'.cells.length = n := by rw [he6.cells, hcl]
                have n6 : op = 6 → ¬ getI (step s).cells b3 = 0 := fun e hz => htp ⟨e, hz⟩
                have hs6 : s'.steps = s.steps + 1 := he6.steps
                have HSC := Lib.hid (show s.scratch = s'.scratch from exec_scr (s := step s) he n12)
                clear htp he he6 HGI g1 g2 g3 g4 g6
                by_cases h6 : op = 6
                · subst h6
                  have hb3 := fld_t g5 (by decide)
                  rw [hnn] at hb3
                  obtain ⟨r2, rfl⟩ : ∃ r : Nat, b3 = r := ⟨b3.toNat, by omega⟩
                  obtain ⟨qb, pb⟩ := HH2.out.reg (r := r2) (by omega)
                  rw [Int.toNat_natCast] at qb pb
                  have hz := n6 rfl
                  clear g5 hcl hnn n6
                  go_wp2_with (go_at_call 65; refine (HEX.out _ (by repeat (first | (with_reducible first | exact Below.refl _ _ | assumption | exact ext_box _) | (with_reducible apply Below.drew) | ((with_reducible refine Below.setCell ?_ ?hs _); (case hs => first | (simp; done) | (simp; omega) | omega)) | ((with_reducible refine Below.alloc ?_ ?hs _); (case hs => first | (simp; done) | (simp; omega) | omega))))).mono ?_; rintro e w6 ⟨At6, ct6, rfl, hr6, hc6⟩; rw [hc6L]; have HR6 := Lib.hid hr6; have hb6 := (HH1.out.below (by first | exact below2 _ _ _ | exact below2n _ _ _)).chg hc6 (by simp); have HB6 := Lib.hid hb6; have q0 := hb6.cell 0 (v := .int .i64 3) rfl; have q1 := hb6.cell 1 (v := .int .i64 0) rfl; have q2 := hb6.cell 2 (v := .int .i64 (s.steps + 1)) rfl; have q3 := hb6.cell 3 (v := .slice At s.trace.length ct) rfl; have q4 := hb6.cell 4 (v := .slice (some ⟨G, 0, none⟩) 32 cG) rfl; have f6 := hb6.frozen; have HW6 : Below w1.heap.size w1 w6 := (HH4.out.trans ((show Below w5.heap.size w5 _ by first | exact below2 _ _ _ | exact below2n _ _ _).mono hsz5)).trans (hc6.below (by simp; omega) fun k hk => hk.1); clear hr6 hc6 hb6)
                  have HS6 := SSt.all (code := 3) (value := 0) HB6.out rfl HR6.out h3 HW6
                  rw [hs6] at HS6
                  go_roundw
                  case rel => exact ⟨b, k + 1, s', hb, rfl, by rw [HSC.out], rfl, by go_num, HKL.out, HS6, HO.out.go HLT.out HR2.out, HRN.out.trans (runS_go HLT.out HE.out HR2.out)⟩
                  case measure => exact HS6.lt_left HML.out hs6 hlt
                · clear g5 hcl hnn n6
                  go_wp2_with (go_at_call 65; refine (HEX.out _ (by repeat (first | (with_reducible first | exact Below.refl _ _ | assumption | exact ext_box _) | (with_reducible apply Below.drew) | ((with_reducible refine Below.setCell ?_ ?hs _); (case hs => first | (simp; done) | (simp; omega) | omega)) | ((with_reducible refine Below.alloc ?_ ?hs _); (case hs => first | (simp; done) | (simp; omega) | omega))))).mono ?_; rintro e w6 ⟨At6, ct6, rfl, hr6, hc6⟩; rw [hc6L]; have HR6 := Lib.hid hr6; have hb6 := (HH1.out.below (by first | exact below2 _ _ _ | exact below2n _ _ _)).chg hc6 (by simp); have HB6 := Lib.hid hb6; have q0 := hb6.cell 0 (v := .int .i64 3) rfl; have q1 := hb6.cell 1 (v := .int .i64 0) rfl; have q2 := hb6.cell 2 (v := .int .i64 (s.steps + 1)) rfl; have q3 := hb6.cell 3 (v := .slice At s.trace.length ct) rfl; have q4 := hb6.cell 4 (v := .slice (some ⟨G, 0, none⟩) 32 cG) rfl; have f6 := hb6.frozen; have HW6 : Below w1.heap.size w1 w6 := (HH4.out.trans ((show Below w5.heap.size w5 _ by first | exact below2 _ _ _ | exact below2n _ _ _).mono hsz5)).trans (hc6.below (by simp; omega) fun k hk => hk.1); clear hr6 hc6 hb6)
                  have HS6 := SSt.all (code := 3) (value := 0) HB6.out rfl HR6.out h3 HW6
                  rw [hs6] at HS6
                  go_roundw
                  case rel => exact ⟨b, k + 1, s', hb, rfl, by rw [HSC.out], rfl, by go_num, HKL.out, HS6, HO.out.go HLT.out HR2.out, HRN.out.trans (runS_go HLT.out HE.out HR2.out)⟩
                  case measure => exact HS6.lt_left HML.out hs6 hlt
          · have HK0 := Lib.hid (show (blkM m b).1[k]? = none by rw [HIT.out]; exact List.getElem?_eq_none (by omega))
            have hkk : k = x.instrs.length := by omega
            subst hkk
            have zB1 : B < w5.heap.size + 1 := by omega
            have zD1 : B + 1 < w5.heap.size + 1 := by omega
            have hnn := HN.out
            have hcl : (step s).cells.length = n := HCL.out
            rcases HG2.out.2 with ⟨t1, t2, t3, t4, t5⟩ | ⟨t1, t2, t3, t4, t5, t6, t7⟩ | ⟨t1, t2, t3, t4, t5⟩
            · have HKD := Lib.hid (show (blkM m b).2 = x.term by rw [HBL.out])
              obtain ⟨b2, hb2⟩ : ∃ b2 : Nat, x.term.to = b2 := ⟨x.term.to.toNat, by omega⟩
              have HRX := Lib.hid (show R = runS (blkM m) (fun _ _ s => s) (lft (step s)) b2 0 (step s) by rw [HRN.out, runS_next HLT.out HK0.out (by rw [HKD.out]; omega), HKD.out, show nextB x.term s = b2 by unfold nextB; rw [if_neg (fun e => by omega)]; exact hb2])
              have hb2n : b2 < m.blocks.length := by omega
              rw [t1] at v3
              rw [hb2] at v5
              clear t1 t2 t3 t4 t5 hcl hnn hb2
              go_wp2
              go_roundw
              case rel => exact ⟨b2, 0, step s, hb2n, rfl, rfl, rfl, rfl, Nat.zero_le _, HS1.out.below ((Below.refl _ _).alloc (Nat.le_refl _) _), HO.out.step HLT.out, HRX.out⟩
              case measure => exact SSt.lt_left (HS1.out.below ((Below.refl _ _).alloc (Nat.le_refl _) _)) HML.out rfl hlt
            · have HKD := Lib.hid (show (blkM m b).2 = x.term by rw [HBL.out])
              obtain ⟨r2, hr2⟩ : ∃ r : Nat, x.term.a = r := ⟨x.term.a.toNat, by omega⟩
              obtain ⟨b2, hb2⟩ : ∃ b2 : Nat, x.term.to = b2 := ⟨x.term.to.toNat, by omega⟩
              obtain ⟨b4, hb4⟩ : ∃ b2 : Nat, x.term.els = b2 := ⟨x.term.els.toNat, by omega⟩
              obtain ⟨qb, pb⟩ := HH2.out.reg (r := r2) (by omega)
              rw [Int.toNat_natCast] at qb pb
              have hr2n : r2 < n := by omega
              by_cases hz : getI (step s).cells r2 = 0
              · have HRX := Lib.hid (show R = runS (blkM m) (fun _ _ s => s) (lft (step s)) b4 0 (step s) by rw [HRN.out, runS_next HLT.out HK0.out (by rw [HKD.out]; omega), HKD.out, show nextB x.term s = b4 by unfold nextB; rw [if_pos ⟨t1, by rw [hr2]; exact hz⟩]; exact hb4])
                have hb2n : b4 < m.blocks.length := by omega
                rw [t1] at v3
                rw [hr2] at v4
                rw [hb4] at v6
                rw [hz] at qb
                clear t1 t2 t3 t4 t5 t6 t7 hcl hnn hb2 hb4 hr2
                go_wp2
                go_roundw
                case rel => exact ⟨b4, 0, step s, hb2n, rfl, rfl, rfl, rfl, Nat.zero_le _, HS1.out.below ((Below.refl _ _).alloc (Nat.le_refl _) _), HO.out.step HLT.out, HRX.out⟩
                case measure => exact SSt.lt_left (HS1.out.below ((Below.refl _ _).alloc (Nat.le_refl _) _)) HML.out rfl hlt
              · have HRX := Lib.hid (show R = runS (blkM m) (fun _ _ s => s) (lft (step s)) b2 0 (step s) by rw [HRN.out, runS_next HLT.out HK0.out (by rw [HKD.out]; omega), HKD.out, show nextB x.term s = b2 by unfold nextB; rw [if_neg (fun e => hz (by rw [← hr2]; exact e.2))]; exact hb2])
                have hb2n : b2 < m.blocks.length := by omega
                rw [t1] at v3
                rw [hr2] at v4
                rw [hb2] at v5
                clear t1 t2 t3 t4 t5 t6 t7 hcl hnn hb2 hb4 hr2
                go_wp2
                go_roundw
                case rel => exact ⟨b2, 0, step s, hb2n, rfl, rfl, rfl, rfl, Nat.zero_le _, HS1.out.below ((Below.refl _ _).alloc (Nat.le_refl _) _), HO.out.step HLT.out, HRX.out⟩
                case measure => exact SSt.lt_left (HS1.out.below ((Below.refl _ _).alloc (Nat.le_refl _) _)) HML.out rfl hlt
            · have HKD := Lib.hid (show (blkM m b).2.kind = 3 by rw [HBL.out]; exact t1)
              have HVA := Lib.hid (show (blkM m b).2.a = x.term.a by rw [HBL.out])
              obtain ⟨r2, hr2⟩ : ∃ r : Nat, x.term.a = r := ⟨x.term.a.toNat, by omega⟩
              rw [t1] at v3
              rw [hr2] at v4
              obtain ⟨qb, pb⟩ := HH2.out.reg (r := r2) (by omega)
              rw [Int.toNat_natCast] at qb pb
              have K8' := K8.out.below HH4.out
              have d0 := K8'.cell 0 rfl
              have d1 := K8'.cell 1 rfl
              have d2 := K8'.cell 2 rfl
              have d3 := K8'.cell 3 rfl
              have d4 := K8'.cell 4 rfl
              have f8 := K8'.frozen
              have z83 : w.heap.size + 1 < w5.heap.size + 1 := by omega
              have HRR := Lib.hid (show R = fin 1 (getI (step s).cells r2) (step s) by rw [HRN.out, runS_ret HLT.out HK0.out HKD.out, HVA.out, hr2]; rfl)
              have hr2n : r2 < n := by omega
              clear K8' t1 t2 t3 t4 t5 hcl hnn hr2
              go_wp2
              exact bodyPost_ret (v := .agg #[.int .i64 1, .int .i64 (getI (step s).cells r2), .int .i64 (s.steps + 1), .slice At s.trace.length ct, .slice (some ⟨G, 0, none⟩) 32 cG]) (by simp [results, Tryd.results25, go_sem, d0, d1, d2, d3, d4, z82, z83]) rfl
                (by rw [HRM.out]; exact endS (s := step s) HRR.out HH2.out HB1 zw1 (by (repeat (first | (with_reducible first | exact Chg.refl _ _ | assumption) | (with_reducible refine Chg.drew ?_) | ((with_reducible refine Chg.setCell ?_ ?hs _); (case hs => first | (simp; done) | (simp; omega) | omega)) | (with_reducible refine Chg.alloc ?_ _)))) (by have := HB1.trans (HH4.out.mono HB1.size); (repeat (first | (with_reducible first | exact Below.refl _ _ | assumption | exact ext_box _) | (with_reducible apply Below.drew) | ((with_reducible refine Below.setCell ?_ ?hs _); (case hs => first | (simp; done) | (simp; omega) | omega)) | ((with_reducible refine Below.alloc ?_ ?hs _); (case hs => first | (simp; done) | (simp; omega) | omega))))))
        · have K8' := K8.out.below HW.out
          have d0 := K8'.cell 0 rfl
          have d1 := K8'.cell 1 rfl
          have d2 := K8'.cell 2 rfl
          have d3 := K8'.cell 3 rfl
          have d4 := K8'.cell 4 rfl
          have f8 := K8'.frozen
          have HE := Lib.hid (show s.steps = s.fuel by have := HFU.out; omega)
          clear K8'
          go_wp2
          exact bodyPost_ret (v := .agg #[.int .i64 3, .int .i64 0, .int .i64 s.steps, .slice At s.trace.length ct, .slice (some ⟨G, 0, none⟩) 32 cG]) (by simp [results, Tryd.results25, go_sem, d0, d1, d2, d3, d4]) rfl
            (by rw [HRM.out, HRN.out, runS_no HE.out]; exact ⟨_, _, rfl, (St.out 3 0 HH2.out).ret (k := w.heap.size + 1) HB1.size (by (repeat (first | (with_reducible first | exact Chg.refl _ _ | assumption) | (with_reducible refine Chg.drew ?_) | ((with_reducible refine Chg.setCell ?_ ?hs _); (case hs => first | (simp; done) | (simp; omega) | omega)) | (with_reducible refine Chg.alloc ?_ _)))) zw1, by have := HB1.trans (HW.out.mono HB1.size); (repeat (first | (with_reducible first | exact Below.refl _ _ | assumption | exact ext_box _) | (with_reducible apply Below.drew) | ((with_reducible refine Below.setCell ?_ ?hs _); (case hs => first | (simp; done) | (simp; omega) | omega)) | ((with_reducible refine Below.alloc ?_ ?hs _); (case hs => first | (simp; done) | (simp; omega) | omega))))⟩)
end Go.Proofs.YtnnfjjgohhicjaaDoor
