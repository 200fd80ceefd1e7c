/- Contract: impl.ValidFunc. -/
import Derived.Test.YtnnfjjgohhicjaaDoorRf
import Derived.Test.YtnnfjjgohhicjaaDoorRq
import Derived.Deep.RegionHeld3
import Derived.Test.YtnnfjjgohhicjaaDoorKi
import Derived.Test.YtnnfjjgohhicjaaDoorKi2
namespace Go.Proofs.YtnnfjjgohhicjaaDoor
open Go.RowKit
set_option linter.unusedSimpArgs false
set_option linter.unusedVariables false
set_option maxRecDepth 100000

theorem old_snoc {cells : List Int} {k : Nat} {ps : List Phi} {j : Nat} {p : Phi} (h : ps[j]? = some p) : (ps.map fun p => getI cells (p.args.getD k 0)).take (j + 1) = (ps.map fun p => getI cells (p.args.getD k 0)).take j ++ [getI cells (p.args.getD k 0)] := by
  rw [List.take_add_one]; simp [h]
/-- The state behind the phis up to j. -/
theorem St.phi {W0 : World} {X : List Nat} {B : Nat} {T : TypeId} {ex : List Value} {A : Option Addr} {ca D cD G cG : Nat} {s : Wd} {w : World} {c : List Int} (h : St W0 X B T ex A ca D cD G cG { s with cells := c } w) {r : Nat} (hr : r < c.length) (v : Int) :
    St W0 X B T ex A ca D cD G cG { s with cells := setI c r v } (w.setCell ⟨D, r, none⟩ (.int .i64 v)) ∧ Chg (fun k => k = D) w (w.setCell ⟨D, r, none⟩ (.int .i64 v)) := by
  have := h.setReg (r := (r : Int)) (by simpa using hr) v
  rw [Int.toNat_natCast] at this
  exact ⟨this.1, (Chg.refl (fun k => k = D) w).setCell (p := ⟨D, r, none⟩) (.inl rfl) _⟩
theorem getD_get {l : List Int} {k : Nat} (h : k < l.length) : l[k]? = some (l.getD k 0) := by
  rw [List.getD_eq_getElem?_getD, List.getElem?_eq_getElem h]; rfl
set_option maxHeartbeats 4000000 in
theorem enter_c (W0 : World) (X : List Nat) (B : Nat) (L : Option Addr) (c : Nat) (AP : Option Addr) (cP : Nat) (m : Func) (P : List (List Int)) (A : Option Addr) (ca D cD G cG : Nat) (s : Wd) (w : World) (p b : Nat) (x : Block) (pr : List Int)
    (hx : C (kBlock 0 0 0) W0 L m.blocks) (hm : m.blocks.length ≤ 1000) (hP : C kI64s w AP P) (hPl : P.length ≤ 1000) (hb : m.blocks[b]? = some x) (hpr : P[b]? = some pr) (hprl : pr.length ≤ 1000) (k : Nat) (hk : pr[k]? = some (p : Int)) (hki : ∀ j : Nat, pr[j]? = some (p : Int) → j = k)
    (hps : x.phis.length ≤ 4000) (hpa : ∀ (i : Nat) y, x.phis[i]? = some y → y.args.length ≤ 4000 ∧ k < y.args.length ∧ (0 ≤ y.dst ∧ y.dst < s.cells.length) ∧ ∀ a ∈ y.args, 0 ≤ a ∧ a < s.cells.length) (hcl : s.cells.length ≤ 2000)
    (h : St W0 X B 124 [.int .i64 m.values, .slice L m.blocks.length c, .slice AP P.length cP] A ca D cD G cG s w) :
    Calls Tryd.prog 73 #[.pointer (some ⟨B, 0, none⟩), .int .i64 p, .int .i64 b] w fun e w' => e = .returned (.tuple #[]) ∧ St W0 X B 124 [.int .i64 m.values, .slice L m.blocks.length c, .slice AP P.length cP] A ca D cD G cG { s with cells := phiSets k s.cells x.phis s.cells } w' ∧ Chg (fun q => q = D) w w' := by
  obtain ⟨i0, hi, hz0, hz1, hz2⟩ := info_parts info_i64
  obtain ⟨At, ct, h1, h2, h3, h4, h5, h6⟩ := id h
  have c5 := h1.cell 5 (v := .slice (some ⟨D, 0, none⟩) s.cells.length cD) rfl
  have c8 := h1.cell 8 (v := .slice L m.blocks.length c) rfl
  have c9 := h1.cell 9 (v := .slice AP P.length cP) rfl
  have zB := h1.lt
  obtain ⟨zD, zG⟩ := h2.lt
  have hBD : B ≠ D := fun e => h2.2.2.2.2.2.2.1 (e ▸ h5)
  have hbl : b < m.blocks.length := (List.getElem?_eq_some_iff.1 hb).1
  have hbP : b < P.length := (List.getElem?_eq_some_iff.1 hpr).1
  obtain ⟨a, _, rfl, ⟨_, _, rfl, ⟨A1, c1, rfl, l1, r1⟩, _, _, rfl, ⟨A2', c2', rfl, l2', r2'⟩, rfl⟩, hc⟩ := hx.at hb
  obtain ⟨p0, p1, p2, p3, p4, p5⟩ := hc6 (n := b * 6) hc
  replace p0 := (h4.cell (World.block_lt_of_cell? W0 _ p0)).trans p0
  have H4 := Lib.hid h4
  obtain ⟨aP, _, rfl, ⟨A2, c2, rfl, l2, r2⟩, hc'⟩ := hP.at hpr
  have q0 := hc1 (n := b * 1) hc'
  rw [Nat.mul_one] at q0
  have HREG := Lib.hid (fun (v : Int) (h0 : 0 ≤ v ∧ v < s.cells.length) => show w.cell? ⟨D, v.toNat, none⟩ = some (.int .i64 (getI s.cells v)) from (h2.reg (r := v) (by omega)).1)
  have HFR := Lib.hid (fun o => h1.frozen o)
  have HPA := Lib.hid hpa
  have HKI := Lib.hid hki
  have HST := Lib.hid h
  have hD0 : W0.heap.size ≤ D := h2.2.2.2.2.1
  have HRS := Lib.hid h2
  have hkl : k < pr.length := (List.getElem?_eq_some_iff.1 hk).1
  clear hc hc' p1 p2 p3 p4 p5 r2' hpa hki h h1 h2 hb hpr
  go_enter Tryd.func73, Tryd.ntmps73
  go_wp2
  go_loopw [6] (fun t wr => ∃ j : Nat, j ≤ k ∧ t = .int .i64 j ∧ w = wr) (fun t _ => k - (intOf t).toNat)
  case atStart => exact ⟨0, by omega, rfl, rfl⟩
  case round =>
    obtain ⟨j, hj, rfl, rfl⟩ := hrel
    obtain ⟨v, ev⟩ := get_of_lt (show j < pr.length by omega)
    obtain ⟨a2, _, rfl, rfl, hc⟩ := r2.at ev
    have u0 := hc1 (n := j * 1) hc
    rw [Nat.mul_one] at u0
    have hjl : j < pr.length := by omega
    by_cases hjk : j = k
    · subst hjk
      obtain rfl : v = (p : Int) := Option.some.inj (ev.symm.trans hk)
      clear hc hj
      have HOL := Lib.hid (fun (i : Nat) (y : Phi) (h : x.phis[i]? = some y) => old_snoc (cells := s.cells) (k := j) h)
      obtain ⟨olds, holds⟩ : ∃ olds, (x.phis.map fun y => getI s.cells (y.args.getD j 0)) = olds := ⟨_, rfl⟩
      have holl : olds.length = x.phis.length := by rw [← holds]; simp
      have HOG := Lib.hid (show ∀ (i : Nat) y, x.phis[i]? = some y → olds[i]? = some (getI s.cells (y.args.getD j 0)) from fun i y h => by rw [← holds]; simp [h])
      simp only [holds] at HOL
      clear holds
      have KS := Lib.hid (fun w' (hb : Below w.heap.size w w') => (⟨(hb.cell zB).trans c5, (hb.cell zB).trans c8, (hb.cell (World.block_lt_of_cell? w _ p0)).trans p0, fun v h0 => (hb.cell zD).trans (HREG.out v h0)⟩ : w'.cell? ⟨B, 5, none⟩ = some (.slice (some ⟨D, 0, none⟩) s.cells.length cD) ∧ w'.cell? ⟨B, 8, none⟩ = some (.slice (some a) m.blocks.length c) ∧ w'.cell? (a.add (b * 6)) = some (.slice A1 x.phis.length c1) ∧ ∀ v : Int, 0 ≤ v ∧ v < s.cells.length → w'.cell? ⟨D, v.toNat, none⟩ = some (.int .i64 (getI s.cells v))))
      have zp0 := World.block_lt_of_cell? w _ p0
      go_wp2
      go_loopw [7, 37] (fun t i wr => ∃ (ys : List Int) (fp : List Nat), ys.length ≤ x.phis.length ∧ ys = olds.take ys.length ∧ i = .int .i64 ys.length ∧ Row 2 kI64 wr t ys fp ∧ (∀ q ∈ fp, w.heap.size ≤ q) ∧ Below w.heap.size w wr) (fun _ i _ => x.phis.length - (intOf i).toNat)
      case atStart => exact ⟨[], [w.heap.size], by simp, rfl, rfl, Row.empty0 (by simp), by simp, by repeat (first | (with_reducible first | exact Below.refl _ _ | assumption | exact ext_box _) | (with_reducible apply Below.drew) | ((with_reducible refine Below.setCell ?_ ?hs _); (case hs => first | (simp; done) | (simp; omega) | omega)) | ((with_reducible refine Below.alloc ?_ ?hs _); (case hs => first | (simp; done) | (simp; omega) | omega)))⟩
      case round =>
        obtain ⟨ys, fp, hl, hys, rfl, hr, hf, hbw⟩ := hrel
        have HR := Lib.hid hr
        have HF := Lib.hid hf
        have HB := Lib.hid hbw
        have HYS := Lib.hid hys
        obtain ⟨A9, c9', rfl, hl9⟩ := hr.form
        obtain ⟨k5, k8, kp, kr⟩ := KS.out wr hbw
        have zDw : D < wr.heap.size := by have := hbw.size; omega
        have zBw : B < wr.heap.size := by have := hbw.size; omega
        clear hr hf hbw hys
        by_cases hlt : ys.length < x.phis.length
        · obtain ⟨y, ey⟩ := get_of_lt hlt
          have hpy := HPA.out _ _ ey
          obtain ⟨a3, _, rfl, ⟨_, _, rfl, rfl, ⟨A3, c3, rfl, l3, r3⟩⟩, hc⟩ := r1.at ey
          obtain ⟨w0, w1⟩ := hc2 (n := ys.length * 2) hc
          obtain ⟨hp1, hp2, hp3, hp4⟩ := hpy
          have ek := getD_get hp2
          obtain ⟨a4, _, rfl, rfl, hc'⟩ := r3.at ek
          have w2 := hc1 (n := j * 1) hc'
          rw [Nat.mul_one] at w2
          obtain ⟨v, hv⟩ : ∃ v : Nat, y.args.getD j 0 = (v : Int) := ⟨(y.args.getD j 0).toNat, by have := hp4 _ (List.mem_of_getElem? ek); omega⟩
          have hv2 := hp4 _ (List.mem_of_getElem? ek)
          rw [hv] at w2 hv2
          have HSN := Lib.hid (show ys ++ [getI s.cells (v : Int)] = olds.take (ys.length + 1) by rw [take_snoc (HOG.out _ _ ey), hv, ← HYS.out])
          have kv := kr v hv2
          rw [Int.toNat_natCast] at kv
          have H0r := H4.out.trans (HB.out.mono H4.out.size)
          have w0' := (H0r.cell (World.block_lt_of_cell? W0 _ w0)).trans w0
          have w1' := (H0r.cell (World.block_lt_of_cell? W0 _ w1)).trans w1
          have w2' := (H0r.cell (World.block_lt_of_cell? W0 _ w2)).trans w2
          have z4 : (a4.add j).block < wr.heap.size := World.block_lt_of_cell? wr _ w2'
          have z4w : (a4.add j).block < w.heap.size := Nat.lt_of_lt_of_le (World.block_lt_of_cell? W0 _ w2) H4.out.size
          clear H0r
          obtain ⟨hv3, hv4⟩ := hv2
          clear hc hc' ek hp3 hp4 hv kr kp k8
          go_upto_region 7 with (fail)
          have hW1 : Below wr.heap.size wr (wr.alloc (.cells #[.int .i64 y.dst, .slice (some a4) y.args.length c3] 84)) := (Below.refl _ _).alloc (Nat.le_refl _) _
          have KS2 := Lib.hid (fun w' (hc : Chg (fun q => q ∈ fp) (wr.alloc (.cells #[.int .i64 y.dst, .slice (some a4) y.args.length c3] 84)) w') => show w'.cell? ⟨B, 5, none⟩ = some (.slice (some ⟨D, 0, none⟩) s.cells.length cD) ∧ w'.cell? ⟨wr.heap.size, 1, none⟩ = some (.slice (some a4) y.args.length c3) ∧ w'.cell? (a4.add j) = some (.int .i64 v) ∧ w'.cell? ⟨D, v, none⟩ = some (.int .i64 (getI s.cells v)) from by
            have nB : B ∉ fp := fun hm => by have := HF.out B hm; omega
            have nD : D ∉ fp := fun hm => by have := HF.out D hm; omega
            have n4 : (a4.add j).block ∉ fp := fun hm => by have := HF.out _ hm; omega
            have nN : wr.heap.size ∉ fp := fun hm => Nat.lt_irrefl _ (HR.out.lt _ hm)
            exact ⟨(hc.cell (p := ⟨B, 5, none⟩) (by simp; omega) nB).trans ((hW1.cell zBw).trans k5), (hc.cell (p := ⟨wr.heap.size, 1, none⟩) (by simp) nN).trans (by simp), (hc.cell (p := a4.add j) (by simp; omega) n4).trans ((hW1.cell z4).trans w2'), (hc.cell (p := ⟨D, v, none⟩) (by simp; omega) nD).trans ((hW1.cell zDw).trans kv)⟩)
          obtain ⟨j5, jN, j4, jD⟩ := KS2.out _ (Chg.refl _ _)
          obtain ⟨zB1, zD1, zN1, z41⟩ : B < (wr.alloc (.cells #[.int .i64 y.dst, .slice (some a4) y.args.length c3] 84)).heap.size ∧ D < (wr.alloc (.cells #[.int .i64 y.dst, .slice (some a4) y.args.length c3] 84)).heap.size ∧ wr.heap.size < (wr.alloc (.cells #[.int .i64 y.dst, .slice (some a4) y.args.length c3] 84)).heap.size ∧ (a4.add j).block < (wr.alloc (.cells #[.int .i64 y.dst, .slice (some a4) y.args.length c3] 84)).heap.size := by simp; omega
          have HR1 := Lib.hid (HR.out.chg (chg_of hW1) (by simp))
          generalize wr.alloc (.cells #[.int .i64 y.dst, .slice (some a4) y.args.length c3] 84) = W1 at *
          clear KS KS2
          go_region_law
            (first
            | (refine step_append_row kI64 rfl _ _ 49 rfl 2 i0 _ 8 Tryd.underlying49 hi hz0 hz1 hz2 rfl (by decide) _ ys fp rfl (HR1.out.chg (S := fun _ => False) (by (repeat (first | (with_reducible first | exact Chg.refl _ _ | assumption) | (with_reducible refine Chg.drew ?_) | ((with_reducible refine Chg.setCell ?_ ?hs _); (case hs => first | (simp; done) | (simp; omega) | omega)) | (with_reducible refine Chg.alloc ?_ _)))) (by simp)) _ _ [.int .i64 (getI s.cells v)] (getI s.cells v) [] rfl ⟨rfl, rfl⟩ (by simp) (box_news (by simp)) (by simp [maxLen]; omega) (by omega) ?_; intro g cap w3 fp3 hr3 hf3 hC3))
          all_goals
            have HB3 := Lib.hid (Chg.below (S := fun q => w.heap.size ≤ q) (Chg.trans (Chg.trans (Chg.of_below HB.out) ((chg_of hW1).mono fun _ _ h => h.elim)) (Chg.trans (by (repeat (first | (with_reducible first | exact Chg.refl _ _ | assumption) | (with_reducible refine Chg.drew ?_) | ((with_reducible refine Chg.setCell ?_ ?hs _); (case hs => first | (simp; done) | (simp; omega) | omega)) | (with_reducible refine Chg.alloc ?_ _)))) (hC3.mono fun q _ hq => HF.out q hq))) (Nat.le_refl _) (fun _ h => h))
            go_wp2
            go_roundw
            case rel => exact ⟨ys ++ [getI s.cells v], fp3, by simp; omega, by rw [List.length_append]; exact HSN.out, by simp, hr3, fun q hq => by
              rcases hf3 q hq with h | h | h
              · exact HF.out q h
              · simp at h
              · have h1 := HB.out.size; have h2 := hW1.size; simp at h; omega, HB3.out⟩
            case measure => simp [intOf]; omega
        · have hle : ys.length = x.phis.length := by omega
          have HYE := Lib.hid (show ys = olds by rw [HYS.out, hle, ← holl, List.take_length])
          have HFD := Lib.hid (show ∀ q ∈ fp, ¬ q = D from fun q hq e => by have := HF.out q hq; omega)
          have HST1 := Lib.hid (HST.out.below HB.out)
          have HYR := Lib.hid (show ∀ W, C kI64 W A9 ys → ∀ (i : Nat) y, x.phis[i]? = some y → ∃ a9, A9 = some a9 ∧ W.cell? (a9.add i) = some (.int .i64 (getI s.cells (y.args.getD j 0))) from fun W hC i y hy => by
            obtain ⟨a9, _, h1, rfl, hc⟩ := hC.at (by rw [HYE.out]; exact HOG.out i y hy)
            have := hc1 (n := i * 1) hc
            rw [Nat.mul_one] at this
            exact ⟨a9, h1, this⟩)
          have HW := Lib.hid (show ∀ W, Chg (fun q => q = D) wr W → C kI64 W A9 ys ∧ W.cell? ⟨B, 5, none⟩ = some (.slice (some ⟨D, 0, none⟩) s.cells.length cD) ∧ W.cell? ⟨B, 8, none⟩ = some (.slice (some a) m.blocks.length c) ∧ ∀ p : Addr, p.block < w.heap.size → p.block ≠ D → W.cell? p = w.cell? p from fun W hC =>
            ⟨(HR.out.chg hC HFD.out).reads, (hC.cell (p := ⟨B, 5, none⟩) zBw hBD).trans k5, (hC.cell (p := ⟨B, 8, none⟩) zBw hBD).trans k8, fun p h1 h2 => (hC.cell (by have := HB.out.size; omega) h2).trans (HB.out.cell h1)⟩)
          clear KS kr HYE HYS HOG HOL
          go_wp2
          go_loopw [67] (fun i wv => ∃ l : Nat, l ≤ x.phis.length ∧ i = .int .i64 l ∧ St W0 X B 124 [.int .i64 m.values, .slice (some a) m.blocks.length c, .slice (some aP) P.length cP] A ca D cD G cG { s with cells := phiSets j s.cells (x.phis.take l) s.cells } wv ∧ Chg (fun q => q = D) wr wv) (fun i _ => x.phis.length - (intOf i).toNat)
          case atStart => exact ⟨0, by omega, rfl, HST1.out, Chg.refl _ _⟩
          case round =>
            obtain ⟨l, hl2, rfl, hst, hch⟩ := hrel
            obtain ⟨hC9, n5, n8, -⟩ := HW.out _ hch
            obtain ⟨At2, ct2, g1, g2, g3, g4, g5, g6⟩ := id hst
            have zB2 := g1.lt
            have zD2 := g2.lt.1
            have HS2 := Lib.hid hst
            have HC2 := Lib.hid hch
            clear hst hch
            by_cases hlt2 : l < x.phis.length
            · obtain ⟨y, ey⟩ := get_of_lt hlt2
              obtain ⟨hp1, hp2, hp3, -⟩ := HPA.out _ _ ey
              obtain ⟨a3, _, rfl, ⟨_, _, rfl, rfl, ⟨A3, c3, rfl, l3, r3⟩⟩, hc⟩ := r1.at ey
              obtain ⟨w0, w1⟩ := hc2 (n := l * 2) hc
              replace w0 : wr.cell? (a3.add (l * 2)) = some (.int .i64 y.dst) := (g4.cell (World.block_lt_of_cell? W0 _ w0)).trans w0
              replace w1 : wr.cell? ⟨(a3.add (l * 2)).block, (a3.add (l * 2)).off + 1, none⟩ = some (.slice A3 y.args.length c3) := (g4.cell (World.block_lt_of_cell? W0 _ w1)).trans w1
              obtain ⟨a9, rfl, w9⟩ := HYR.out _ hC9 _ _ ey
              have z9 := World.block_lt_of_cell? _ _ w9
              obtain ⟨r, hr⟩ : ∃ r : Nat, y.dst = (r : Int) := ⟨y.dst.toNat, by omega⟩
              have hrl : r < s.cells.length := by omega
              obtain ⟨qd, pd⟩ := g2.reg (r := y.dst) (by simp only [phiSets_len]; omega)
              rw [hr] at w0 qd pd
              rw [Int.toNat_natCast] at qd pd
              have hlys : l < ys.length := by omega
              have HSN := Lib.hid (phiSets_snoc (k := j) (old := s.cells) (c := s.cells) ey)
              rw [hr] at HSN
              clear g1 g2 g3 g4 g5 g6 hp2 hp3 hc ey hC9 hr
              go_upto_region 12 with (fail)
              refine wp_region_still_tail 11 (by kernel_rfl) (by kernel_rfl) ?_; simp only [List.take_succ_cons, List.take_zero, List.drop_succ_cons, List.drop_zero]; change wpStill _ _ (World.drew _) _ _ _
              repeat still_step
              refine wpStill_nil ?_
              change wpList _ _ _ _ _ (World.drew _)
              go_wp2
              have hfin := HS2.out.phi (r := r) (by simp only [phiSets_len]; omega) (getI s.cells (y.args[j]?.getD 0))
              rw [List.getD_eq_getElem?_getD] at HSN
              rw [← HSN.out] at hfin
              have HFI := Lib.hid hfin
              clear hfin
              go_roundw
              case rel => exact ⟨_, _, .int .i64 ((l + 1 : Nat) : Int), ⟨l + 1, by omega, rfl, HFI.out.1.below ((Below.refl _ _).alloc (Nat.le_refl _) _).drew, HC2.out.trans ((HFI.out.2.alloc _).drew)⟩, rfl, rfl, by simp⟩
              case measure => simp [intOf]; omega
            · have hle2 : l = x.phis.length := by omega
              subst hle2
              have HFI := Lib.hid HS2.out
              rw [List.take_length] at HFI
              clear g1 g2 g3 g4 g5 g6 hC9
              go_wp2
              refine bodyPost_end (v := .tuple #[]) (by simp [results, Tryd.results73, go_sem]) rfl ?_
              exact ⟨rfl, HFI.out, ((chg_of HB.out).mono fun _ _ h => h.elim).trans HC2.out⟩
    · have hne : v ≠ (p : Int) := fun e => hjk (HKI.out j (by rw [ev, e]))
      have g1 : (v != (p : Int)) = true := by simp [hne]
      have hjk2 : j < k := by omega
      clear hc ev hne
      go_wp2
      go_roundw
      case rel => exact ⟨j + 1, by omega, by go_num, by first | rfl | trivial⟩
      case measure => simp [intOf]; omega
end Go.Proofs.YtnnfjjgohhicjaaDoor
namespace Go.Proofs.YtnnfjjgohhicjaaDoor
open Go.RowKit
set_option linter.unusedSimpArgs false
set_option linter.unusedVariables false
set_option maxRecDepth 100000

abbrev W0F (w : World) (m : Func) (A : Option Addr) (c : Nat) : World := w.alloc (.cells #[.int .i64 m.values, .slice A m.blocks.length c] 40)
theorem info_int : (Tryd.prog.info? 3).map (fun i => (i.zero, i.size, i.bytes)) = some (some (.int .i64 0), 1, 8) := by kernel_rfl
theorem chg_set {G o : Nat} {v : Value} {w w' : World} (h : Below w.heap.size w w') : Chg (fun k => k = G) w (w'.setCell ⟨G, o, none⟩ v) := Chg.setCell (p := ⟨G, o, none⟩) ((chg_of h).mono (T := fun k => k = G) (fun _ _ h => h.elim)) (.inl rfl) v
set_option maxHeartbeats 16000000 in
theorem validF_i (A : Option Addr) (c : Nat) (m : Func) (w : World) (hx : C (kBlock 0 0 0) w A m.blocks) (hS : Shapes w) (hm : m.blocks.length ≤ 1048576) (hs : ∀ (i : Nat) b, m.blocks[i]? = some b → okBlk 1048576 b) :
    Calls Tryd.prog 17 #[.agg #[.int .i64 m.values, .slice A m.blocks.length c]] w fun e w' => e = .returned (.bool (validF m)) ∧ Below w.heap.size w w' := by
  by_cases hr : 0 ≤ m.values ∧ m.values ≤ 2000
  · have hd1 : decide (0 ≤ m.values ∧ m.values ≤ 2000) = true := by simpa using hr
    by_cases hn : 1 ≤ m.blocks.length ∧ m.blocks.length ≤ 1000
    · have hd2 : decide (1 ≤ (m.blocks.length : Int) ∧ (m.blocks.length : Int) ≤ 1000) = true := by simp; omega
      obtain ⟨i0, hi, hz0, hz1, hz2⟩ := info_parts info_int
      go_enter Tryd.func17, Tryd.ntmps17
      go_wp2_with (go_at_call 43; (with_reducible refine (within_c _ _ _ _).mono ?_); rintro e w1 ⟨rfl, rfl⟩)
      have HN := Lib.hid hn
      have HRR := Lib.hid hr
      have HO := Lib.hid hs
      have HDL := Lib.hid (show ∀ k, (defs (m.blocks.take k)).length ≤ 2199023255552 from fun k => by have h1 := defs_len hs k; omega)
      have HPD := Lib.hid (fun W (h : C (kBlock 0 0 0) W A m.blocks) ht => predecessors_c A c m W h hm ht)
      obtain ⟨n1, n2⟩ := hn
      obtain ⟨v1, v2⟩ := hr
      clear hd1 hd2 hs
      go_loopw [4, 36] (fun t i wr => ∃ (k : Nat) (u : Ext (W0F w m A c)), k ≤ m.blocks.length ∧ i = .int .i64 k ∧ t = .int .i64 (sizeF (m.blocks.take k) : Int) ∧ sizeF (m.blocks.take k) ≤ 4000 ∧ TermsUpTo m k ∧ wr = u.w) (fun _ i _ => m.blocks.length - (intOf i).toNat)
      case atStart => exact ⟨0, Ext.self _, by omega, rfl, rfl, by simp [sizeF], fun j b hj => by omega, rfl⟩
      case round =>
        obtain ⟨k, u, hk, rfl, rfl, hz, hall, rfl⟩ := hrel
        have HA := Lib.hid hall
        clear hall
        obtain ⟨b0, b1, -⟩ := box_at u
        have hzu := u.lt
        by_cases hlt : k < m.blocks.length
        · obtain ⟨x, ex⟩ := get_of_lt hlt
          obtain ⟨a, _, rfl, ⟨_, _, rfl, ⟨A1', c1', rfl, l1', r1'⟩, _, _, rfl, ⟨A2', c2', rfl, l2', r2'⟩, rfl⟩, hc⟩ := (hx.below (ext_box u)).at ex
          obtain ⟨p0, p1, p2, p3, p4, p5⟩ := hc6 (n := k * 6) hc
          clear hc
          have hbo := HO.out _ _ ex
          have hb1 := hbo.1
          have hb3 := hbo.2.2
          have HBO := Lib.hid hbo.2.1
          have HZ := Lib.hid (show sizeF (m.blocks.take (k + 1)) = sizeF (m.blocks.take k) + (1 + x.instrs.length + x.phis.length) + argsN x.phis by rw [sizeF_snoc ex, sizeB, sizePhis_args]; omega)
          have HAL := Lib.hid (fun j => argsN_le HBO.out j)
          have HE := Lib.hid ex
          clear ex hbo
          go_wp2
          go_loopw [4, 53] (fun t i wr => ∃ (j : Nat) (v : Ext (u.w.alloc (.cells #[.slice A1' x.phis.length c1', .slice A2' x.instrs.length c2', .int .i64 x.term.kind, .int .i64 x.term.a, .int .i64 x.term.to, .int .i64 x.term.els] 81))), j ≤ x.phis.length ∧ i = .int .i64 j ∧ t = .int .i64 ((sizeF (m.blocks.take k) : Int) + (1 + (x.instrs.length : Int) + (x.phis.length : Int)) + (argsN (x.phis.take j) : Int)) ∧ wr = v.w) (fun _ i _ => x.phis.length - (intOf i).toNat)
          case atStart => exact ⟨0, Ext.self _, by omega, rfl, by simp [argsN], rfl⟩
          case round =>
            obtain ⟨j, v, hj, rfl, rfl, rfl⟩ := hrel
            have hbv := ext_box v
            have hzv := v.lt
            clear p0 p1 p2 p3 p4 p5
            have haj := HAL.out j
            by_cases hlj : j < x.phis.length
            · obtain ⟨p, ep⟩ := get_of_lt hlj
              obtain ⟨a', _, rfl, ⟨_, _, rfl, rfl, ⟨A3', c3', rfl, l3', r3'⟩⟩, hc⟩ := (r1'.below hbv).at ep
              obtain ⟨q0, q1⟩ := hc2 (n := j * 2) hc
              clear hc
              have hal : p.args.length ≤ 1048576 := HBO.out _ _ ep
              have HZP := Lib.hid (argsN_snoc ep)
              have haj2 : x.phis.length * 1048576 ≤ 1048576 * 1048576 := Nat.mul_le_mul_right _ hb1
              clear ep
              go_wp2
              go_roundw
              case rel => exact ⟨j + 1, v.step (w' := v.w.alloc (.cells #[.int .i64 p.dst, .slice A3' p.args.length c3'] 84)) (by repeat (first | (with_reducible first | exact Below.refl _ _ | assumption | exact ext_box _) | (with_reducible apply Below.drew) | ((with_reducible refine Below.setCell ?_ ?hs _); (case hs => first | (simp; done) | (simp; omega) | omega)) | ((with_reducible refine Below.alloc ?_ ?hs _); (case hs => first | (simp; done) | (simp; omega) | omega)))), by omega, by go_num, by rw [HZP.out]; go_num, rfl⟩
              case measure => simp [intOf]; omega
            · have hjn : x.phis.take j = x.phis := List.take_of_length_le (by omega)
              rw [hjn] at haj ⊢
              have hZ := HZ.out
              clear hjn
              have d0 := (hbv.cell (p := ⟨w.heap.size, 0, none⟩) hzu).trans b0
              have hzz : w.heap.size < v.w.heap.size := by omega
              obtain ⟨e0, e1, e2, e3, e4, e5, -⟩ := box_at v
              by_cases hsz : sizeF (m.blocks.take (k + 1)) ≤ 4000
              · cases hg : goodTerm x.term m.values 1 m.blocks.length
                · have HV := Lib.hid (vf_term HE.out hg)
                  have hgi := fun W => termOK_c x.term m.values 1 m.blocks.length W v1 (by omega) (by omega) (by omega)
                  rw [hg] at hgi
                  clear hg
                  go_wp2_with (go_at_call 44; refine (hgi _).mono ?_; rintro e w1 ⟨rfl, hb1⟩; have HB1 := Below.then_ (w := v.w) (by repeat (first | (with_reducible first | exact Below.refl _ _ | assumption | exact ext_box _) | (with_reducible apply Below.drew) | ((with_reducible refine Below.setCell ?_ ?hs _); (case hs => first | (simp; done) | (simp; omega) | omega)) | ((with_reducible refine Below.alloc ?_ ?hs _); (case hs => first | (simp; done) | (simp; omega) | omega)))) hb1)
                  go_ret
                  exact ⟨ret_bool HV.out.symm, ext_end u (Below.trans hbv (HB1.mono (by omega)))⟩
                · have HG := Lib.hid hg
                  have hgi := fun W => termOK_c x.term m.values 1 m.blocks.length W v1 (by omega) (by omega) (by omega)
                  rw [hg] at hgi
                  clear hg
                  by_cases h2 : x.term.kind = 2
                  · by_cases h3 : x.term.to = x.term.els
                    · have HV := Lib.hid (vf_same HE.out h2 h3)
                      have t2 : (x.term.kind == 2) = true := by simp [h2]
                      have t3 : (x.term.to == x.term.els) = true := by simp [h3]
                      clear h2 h3
                      go_wp2_with (go_at_call 44; refine (hgi _).mono ?_; rintro e w1 ⟨rfl, hb1⟩; have HB1 := Below.then_ (w := v.w) (by repeat (first | (with_reducible first | exact Below.refl _ _ | assumption | exact ext_box _) | (with_reducible apply Below.drew) | ((with_reducible refine Below.setCell ?_ ?hs _); (case hs => first | (simp; done) | (simp; omega) | omega)) | ((with_reducible refine Below.alloc ?_ ?hs _); (case hs => first | (simp; done) | (simp; omega) | omega)))) hb1; have i2 := (HB1.cell hzv).trans e2; have i4 := (HB1.cell hzv).trans e4; have i5 := (HB1.cell hzv).trans e5)
                      go_ret
                      exact ⟨ret_bool HV.out.symm, ext_end u (Below.trans hbv (HB1.mono (by omega)))⟩
                    · have HSE := Lib.hid (show sameEnds x.term = false by simp [sameEnds, h3])
                      have t2 : (x.term.kind == 2) = true := by simp [h2]
                      have t3 : (x.term.to == x.term.els) = false := by simp [h3]
                      clear h2 h3
                      go_wp2_with (go_at_call 44; refine (hgi _).mono ?_; rintro e w1 ⟨rfl, hb1⟩; have HB1 := Below.then_ (w := v.w) (by repeat (first | (with_reducible first | exact Below.refl _ _ | assumption | exact ext_box _) | (with_reducible apply Below.drew) | ((with_reducible refine Below.setCell ?_ ?hs _); (case hs => first | (simp; done) | (simp; omega) | omega)) | ((with_reducible refine Below.alloc ?_ ?hs _); (case hs => first | (simp; done) | (simp; omega) | omega)))) hb1; have i2 := (HB1.cell hzv).trans e2; have i4 := (HB1.cell hzv).trans e4; have i5 := (HB1.cell hzv).trans e5)
                      obtain ⟨u1, rfl⟩ := u.more (Below.trans hbv (HB1.mono (by omega)))
                      go_roundw
                      case rel => exact ⟨k + 1, u1, by omega, by go_num, by rw [HZ.out]; go_num, hsz, termsUpTo_snoc HA.out HE.out HG.out HSE.out, rfl⟩
                      case measure => simp [intOf]; omega
                  · have HSE := Lib.hid (show sameEnds x.term = false by simp [sameEnds, h2])
                    have t2 : (x.term.kind == 2) = false := by simp [h2]
                    clear h2
                    go_wp2_with (go_at_call 44; refine (hgi _).mono ?_; rintro e w1 ⟨rfl, hb1⟩; have HB1 := Below.then_ (w := v.w) (by repeat (first | (with_reducible first | exact Below.refl _ _ | assumption | exact ext_box _) | (with_reducible apply Below.drew) | ((with_reducible refine Below.setCell ?_ ?hs _); (case hs => first | (simp; done) | (simp; omega) | omega)) | ((with_reducible refine Below.alloc ?_ ?hs _); (case hs => first | (simp; done) | (simp; omega) | omega)))) hb1; have i2 := (HB1.cell hzv).trans e2)
                    obtain ⟨u1, rfl⟩ := u.more (Below.trans hbv (HB1.mono (by omega)))
                    go_roundw
                    case rel => exact ⟨k + 1, u1, by omega, by go_num, by rw [HZ.out]; go_num, hsz, termsUpTo_snoc HA.out HE.out HG.out HSE.out, rfl⟩
                    case measure => simp [intOf]; omega
              · have HV := Lib.hid (vf_size' (m := m) (k := k + 1) (show 4000 < sizeF (m.blocks.take (k + 1)) by omega) (Nat.le_refl _))
                go_wp2
                go_ret
                exact ⟨ret_bool HV.out.symm, ext_end u hbv⟩
        · have HT := Lib.hid (show TermsUpTo m m.blocks.length by have := HA.out; rwa [show k = m.blocks.length by omega] at this)
          have HSZ := Lib.hid (show sizeF m.blocks ≤ 4000 by rwa [List.take_of_length_le (by omega)] at hz)
          clear HA hz
          have HTG := Lib.hid (show ∀ (i : Nat) b, m.blocks[i]? = some b → ∀ q ∈ targets b.term, 0 ≤ q ∧ q < m.blocks.length from fun i b hb => good_targets (HT.out i b (List.getElem?_eq_some_iff.1 hb).1 hb).1 (by omega))
          obtain ⟨V, hV⟩ : ∃ V : Nat, m.values = V := ⟨m.values.toNat, by omega⟩
          have HVV := Lib.hid hV
          have hV2 : V ≤ 2000 := by omega
          clear hV
          go_wp2_with (first
            | (at_make; refine wpList_make_row (kInt .i64) 0 [.int .i64 0] _ rfl _ _ 88 rfl 3 i0 _ Tryd.underlying88 hi hz0 hz1 rfl (by decide) (fun _ => ⟨rfl, rfl⟩) m.values V rfl rfl HVV.out (by rw [hz2]; omega) (by simp only [maxLen]; omega) ?_; intro w1 hr1 hb1 hz1'; have HR1 := Lib.hid hr1; have b0' := (hb1.cell (p := ⟨w.heap.size, 0, none⟩) hzu).trans b0; have b1' := (hb1.cell (p := ⟨w.heap.size, 1, none⟩) hzu).trans b1; clear hr1)
            | (go_at_call 53; refine (HPD.out _ (hx.below (Below.trans (ext_box u) (Below.mono hb1 (by omega)))) HTG.out).mono ?_; rintro e w2 ⟨v10, fp10, rfl, hr2, hf2, hb2⟩; have HR2 := Lib.hid hr2; have HF2 := Lib.hid hf2; obtain ⟨A10, c10, rfl, hl10⟩ := hr2.form; have b0'' := (hb2.cell (p := ⟨w.heap.size, 0, none⟩) (by omega)).trans b0'; have b1'' := (hb2.cell (p := ⟨w.heap.size, 1, none⟩) (by omega)).trans b1'; clear hr2 hf2))
          refine (HPD.out _ (hx.below (Below.trans (ext_box u) (Below.mono hb1 (by omega)))) HTG.out).mono ?_
          rintro e w2 ⟨v10, fp10, rfl, hr2, hf2, hb2⟩
          obtain ⟨g10, c10, rfl, hg10⟩ : ∃ g cap, v10 = .slice (some ⟨g, 0, none⟩) m.blocks.length cap ∧ g ∈ fp10 := by
            rcases hr2.form' with ⟨_, h, _⟩ | ⟨g, cap, rfl, hg, _⟩
            · have := congrArg List.length h; rw [tab_len, List.length_nil] at this; omega
            · exact ⟨g, cap, by rw [tab_len], hg⟩
          have HVI : Hid (VI u.w.heap.size V (.slice (some ⟨g10, 0, none⟩) m.blocks.length c10) (tab m.blocks.length fun t => predM t m.blocks 0) [] w2) := Lib.hid ⟨by rw [cnt_nil]; exact HR1.out.chg (chg_of hb2) (by simp), fp10, hr2, fun hm => absurd (hf2 _ hm) (Nat.not_le.2 hz1')⟩
          have hG : w.heap.size < u.w.heap.size := hzu
          have hB12 : Below u.w.heap.size u.w w2 := Below.trans hb1 (hb2.mono (by omega))
          obtain ⟨U2, rfl⟩ := u.more hB12
          have hlt2 : u.w.heap.size < U2.w.heap.size := HVI.out.lt
          clear hr2 hf2 hg10 HR1 b0' b1' b0 b1 hzu hB12 hb1 hb2 hz1' HPD HTG
          generalize u.w.heap.size = G at *
          obtain ⟨b0, b1, -⟩ := box_at U2
          go_wp2
          clear b0 b1
          go_loopw [98] (fun i wr => ∃ (k : Nat) (u : Ext (W0F w m A c)), k ≤ m.blocks.length ∧ i = .int .i64 k ∧ VI G V (.slice (some ⟨g10, 0, none⟩) m.blocks.length c10) (tab m.blocks.length fun t => predM t m.blocks 0) (defs (m.blocks.take k)) wr ∧ BlksUpTo m k ∧ wr = u.w) (fun i _ => m.blocks.length - (intOf i).toNat)
          case atStart => exact ⟨0, U2, by omega, rfl, HVI.out, fun j b hj => by omega, rfl⟩
          case round =>
            clear HVI hlt2 U2 hk hlt
            obtain ⟨k, u, hk, rfl, hvi, hall, rfl⟩ := hrel
            have HVI := Lib.hid hvi
            have HB := Lib.hid hall
            clear hall hvi
            by_cases hlt : k < m.blocks.length
            · obtain ⟨x, ex⟩ := get_of_lt hlt
              obtain ⟨a, _, rfl, ⟨_, _, rfl, ⟨A1', c1', rfl, l1', r1'⟩, _, _, rfl, ⟨A2', c2', rfl, l2', r2'⟩, rfl⟩, hc⟩ := hx.at ex
              obtain ⟨o0, o1, o2, o3, o4, o5⟩ := hc6 (n := k * 6) hc
              have p0 := u.old o0
              have p1 := u.old o1
              have p2 := u.old o2
              have p3 := u.old o3
              have p4 := u.old o4
              have p5 := u.old o5
              clear hc o0 o1 o2 o3 o4 o5
              have hbo := HO.out _ _ ex
              have hb1 := hbo.1
              have hb3 := hbo.2.2
              have HBO := Lib.hid hbo.2.1
              have HE := Lib.hid ex
              have hdl := HDL.out k
              have HDS := Lib.hid (defs_snoc ex)
              have hGu : G < u.w.heap.size := HVI.out.lt
              obtain ⟨b0, b1, -⟩ := box_at u
              have hzu := u.lt
              clear ex hbo
              have hpl := congrArg List.length (pred_len HT.out k)
              have HPL := Lib.hid hpl
              clear hpl
              go_wp2
              have hvi0 := HVI.out.chg (w' := u.w.alloc (.cells #[.slice A1' x.phis.length c1', .slice A2' x.instrs.length c2', .int .i64 x.term.kind, .int .i64 x.term.a, .int .i64 x.term.to, .int .i64 x.term.els] 81)) (by (repeat (first | (with_reducible first | exact Chg.refl _ _ | assumption) | (with_reducible refine Chg.drew ?_) | ((with_reducible refine Chg.setCell ?_ ?hs _); (case hs => first | (simp; done) | (simp; omega) | omega)) | (with_reducible refine Chg.alloc ?_ _))))
              have HVI0 := Lib.hid hvi0
              have hx1 : (u.w.alloc (.cells #[.slice A1' x.phis.length c1', .slice A2' x.instrs.length c2', .int .i64 x.term.kind, .int .i64 x.term.a, .int .i64 x.term.to, .int .i64 x.term.els] 81)).cell? ⟨u.w.heap.size, 1, none⟩ = some (.slice A2' x.instrs.length c2') := new_cell _ _ _ 1 (.slice A2' x.instrs.length c2') rfl
              have HX1 := Lib.hid hx1
              obtain ⟨u0, hu0⟩ : ∃ u0 : Ext (W0F w m (some a) c), u.w.alloc (.cells #[.slice A1' x.phis.length c1', .slice A2' x.instrs.length c2', .int .i64 x.term.kind, .int .i64 x.term.a, .int .i64 x.term.to, .int .i64 x.term.els] 81) = u0.w := ⟨u.step (w' := u.w.alloc (.cells #[.slice A1' x.phis.length c1', .slice A2' x.instrs.length c2', .int .i64 x.term.kind, .int .i64 x.term.a, .int .i64 x.term.to, .int .i64 x.term.els] 81)) (by repeat (first | (with_reducible first | exact Below.refl _ _ | assumption | exact ext_box _) | (with_reducible apply Below.drew) | ((with_reducible refine Below.setCell ?_ ?hs _); (case hs => first | (simp; done) | (simp; omega) | omega)) | ((with_reducible refine Below.alloc ?_ ?hs _); (case hs => first | (simp; done) | (simp; omega) | omega)))), rfl⟩
              clear hvi0 hx1 HVI b0 b1 p0 p1 p2 p3 p4 p5
              rw [hu0] at HVI0 HX1 ⊢
              clear hu0
              generalize u.w.heap.size = B at *
              go_loopw [106] (fun i wr => ∃ (j : Nat) (v : Ext (W0F w m (some a) c)), j ≤ x.phis.length ∧ i = .int .i64 j ∧ VI G V (.slice (some ⟨g10, 0, none⟩) m.blocks.length c10) (tab m.blocks.length fun t => predM t m.blocks 0) (defs (m.blocks.take k) ++ (x.phis.take j).map (·.dst)) wr ∧ (x.phis.take j).all (fun p => phiOK m.values (preds m.blocks k).length p && inR m.values p.dst) = true ∧ wr.cell? ⟨B, 1, none⟩ = some (.slice A2' x.instrs.length c2') ∧ wr = v.w) (fun i _ => x.phis.length - (intOf i).toNat)
              case atStart => exact ⟨0, u0, by omega, rfl, by simpa using HVI0.out, by simp, HX1.out, rfl⟩
              case round =>
                clear HVI0 HX1 u0
                obtain ⟨j, v, hj, rfl, hvi, hall, hx1, rfl⟩ := hrel
                obtain ⟨L, hL⟩ : ∃ L, defs (m.blocks.take k) ++ (x.phis.take j).map (·.dst) = L := ⟨_, rfl⟩
                rw [hL] at hvi
                have HLL := Lib.hid hL
                have hLl : L.length ≤ 2199024304128 := by rw [← hL, List.length_append, List.length_map, List.length_take]; omega
                clear hL
                have HVI := Lib.hid hvi
                have HPA := Lib.hid hall
                have HX1 := Lib.hid hx1
                clear hvi hall hx1
                obtain ⟨b0, b1, -⟩ := box_at v
                have hzv := v.lt
                have hGv : G < v.w.heap.size := HVI.out.lt
                by_cases hlj : j < x.phis.length
                · obtain ⟨⟨pd, pargs⟩, ep⟩ := get_of_lt hlj
                  obtain ⟨a', _, rfl, ⟨_, _, rfl, rfl, ⟨A3', c3', rfl, l3', r3'⟩⟩, hc⟩ := (r1'.below (ext_box v)).at ep
                  obtain ⟨q0, q1⟩ := hc2 (n := j * 2) hc
                  have hal : pargs.length ≤ 1048576 := HBO.out _ _ ep
                  have HEP := Lib.hid ep
                  clear hc ep
                  dsimp only at *
                  obtain ⟨Aq, cq, tq⟩ := HVI.out.pred (tab_len _ _) (tab_get _ hlt)
                  have hWp : ∀ z : Ext (v.w.alloc (.cells #[.int .i64 pd, .slice A3' pargs.length c3'] 84)), Below v.w.heap.size v.w z.w := fun z => ext_box z
                  have f0 := fun z : Ext (v.w.alloc (.cells #[.int .i64 pd, .slice A3' pargs.length c3'] 84)) => (box_at z).1
                  have f1 := fun z : Ext (v.w.alloc (.cells #[.int .i64 pd, .slice A3' pargs.length c3'] 84)) => (box_at z).2.1
                  have f2 := fun z : Ext (v.w.alloc (.cells #[.int .i64 pd, .slice A3' pargs.length c3'] 84)) => bat (hWp z) b0 hzv
                  have f3 := fun z : Ext (v.w.alloc (.cells #[.int .i64 pd, .slice A3' pargs.length c3'] 84)) => bat (hWp z) tq (World.block_lt_of_cell? v.w _ tq)
                  have HTQ := Lib.hid tq
                  have HW := Lib.hid (show IntKind.i64.wrap (m.values - 1) = m.values - 1 from IntWalk.i64_in _ (by omega))
                  clear tq
                  by_cases hin : inR m.values pd = true
                  · have hin' := inR_iff.1 hin
                    have hd : decide (0 ≤ pd ∧ pd ≤ m.values - 1) = true := by simp; omega
                    have HIN' := Lib.hid hin'
                    clear hin'
                    by_cases h0 : pargs.length = 0
                    · have HV := Lib.hid (vf_phi HE.out HEP.out (phi_len (np := (preds m.blocks k).length) (by simp only; omega)))
                      have hd0 : ((pargs.length : Int) == 0) = true := by simp [h0]
                      clear h0 hin
                      go_wp2
                      have hw := HW.out
                      refine wp_region_ext (W := v.w.alloc (.cells #[.int .i64 pd, .slice A3' pargs.length c3'] 84)) (by kernel_rfl) (by kernel_rfl) ⟨Ext.self _, rfl⟩ ?_
                      repeat (go_big_quiet_step ((go_at_call 43; exact ext_same (within_c _ _ _ _))))
                      refine wpQuiet_nil ?_
                      rintro _ ⟨z, rfl⟩
                      clear hw
                      go_wp2
                      go_ret
                      exact ⟨ret_bool HV.out.symm, ext_end v (hWp z)⟩
                    · have hd0 : ((pargs.length : Int) == 0) = false := by simp [h0]
                      by_cases hl2 : pargs.length = (preds m.blocks k).length
                      · have HL := Lib.hid (show 1 ≤ pargs.length ∧ pargs.length = (preds m.blocks k).length by omega)
                        have hd3 : ((pargs.length : Int) != ((predM k m.blocks 0).length : Int)) = false := by rw [HPL.out, hl2]; simp
                        clear hl2
                        have HIN := Lib.hid hin
                        clear hin
                        go_wp2
                        have hw := HW.out
                        refine wp_region_ext (W := v.w.alloc (.cells #[.int .i64 pd, .slice A3' pargs.length c3'] 84)) (by kernel_rfl) (by kernel_rfl) ⟨Ext.self _, rfl⟩ ?_
                        repeat (go_big_quiet_step ((go_at_call 43; exact ext_same (within_c _ _ _ _))))
                        refine wpQuiet_nil ?_
                        rintro _ ⟨z, rfl⟩
                        (try rw [hw])
                        (try rw [hd])
                        clear hw
                        have i0' := f0 z
                        have i1' := f1 z
                        have i2' := f2 z
                        have r3z := Lib.hid (r3'.below (hWp z))
                        have HZ := Lib.hid (hWp z)
                        have HVZ := Lib.hid (HVI.out.chg (chg_of (hWp z)))
                        have HXZ := Lib.hid (bat (hWp z) HX1.out (World.block_lt_of_cell? v.w _ HX1.out))
                        have hzz : w.heap.size < z.w.heap.size := by have := (hWp z).size; omega
                        clear f0 f1 f2 f3 hWp hd hd0 hd3 b0 b1 q0 q1
                        go_wp2
                        go_loop [137] (fun i => ∃ l : Nat, l ≤ pargs.length ∧ i = .int .i64 l ∧ (pargs.take l).all (inR m.values) = true) (fun i => pargs.length - (intOf i).toNat)
                        case atStart => exact ⟨0, by omega, rfl, by simp⟩
                        case round =>
                          obtain ⟨l, hl, rfl, hall4⟩ := hrel
                          have HA5 := Lib.hid hall4
                          clear hall4
                          by_cases hll : l < pargs.length
                          · obtain ⟨y, ey⟩ := get_of_lt hll
                            obtain ⟨a4, _, rfl, rfl, hc⟩ := r3z.out.at ey
                            have s0 := hc1 (n := l * 1) hc
                            rw [Nat.mul_one] at s0
                            have EY := Lib.hid ey
                            clear hc ey
                            by_cases hy : inR m.values y = true
                            · have HY := Lib.hid hy
                              have hd : decide (0 ≤ y ∧ y ≤ m.values - 1) = true := by have := inR_iff.1 hy; simp; omega
                              clear hy
                              go_wp2_with (go_at_call 43; (with_reducible refine (within_c _ _ _ _).mono ?_); rintro e w1 ⟨rfl, rfl⟩)
                              go_round
                              case rel => exact ⟨l + 1, by omega, by go_num, all_snoc EY.out HA5.out HY.out⟩
                              case measure => simp [intOf]; omega
                            · have hy' : inR m.values y = false := by simpa using hy
                              have HV := Lib.hid (vf_phi HE.out HEP.out (phi_arg EY.out hy'))
                              have hd : decide (0 ≤ y ∧ y ≤ m.values - 1) = false := by have := inR_not.1 hy'; simp; omega
                              clear hy hy'
                              go_wp2_with (go_at_call 43; (with_reducible refine (within_c _ _ _ _).mono ?_); rintro e w1 ⟨rfl, rfl⟩)
                              go_ret
                              exact ⟨ret_bool HV.out.symm, ext_end v HZ.out⟩
                          · have hall5 : pargs.all (inR m.values) = true := by have := HA5.out; rwa [List.take_of_length_le (show pargs.length ≤ l by omega)] at this
                            have HOK := Lib.hid (show (phiOK m.values (preds m.blocks k).length ⟨pd, pargs⟩ && inR m.values pd) = true by rw [phi_ok (p := ⟨pd, pargs⟩) HL.out hall5, HIN.out]; rfl)
                            clear hall5
                            have hin' := HIN'.out
                            obtain ⟨d, rfl⟩ : ∃ d : Nat, pd = d := ⟨pd.toNat, by omega⟩
                            have hdV : d < V := by have := HVV.out; omega
                            obtain ⟨s1, s2⟩ := HVZ.out.cell hdV
                            have hcb := List.count_le_length (a := (d : Int)) (l := L)
                            have HST := Lib.hid (HVZ.out.store hdV)
                            have HL2 := Lib.hid (show defs (m.blocks.take k) ++ (x.phis.take (j + 1)).map (·.dst) = L ++ [(d : Int)] by rw [take_snoc HEP.out, ← HLL.out]; simp)
                            have hBG : ¬ B = G := by omega
                            go_wp2
                            have hC := chg_set (G := G) (o := d) (v := .int .i64 ((L.count (d : Int) : Nat) + 1 : Int)) HZ.out
                            go_roundw
                            case rel => exact ⟨j + 1, v.chg hC (fun q hq => by subst hq; simp; omega), by omega, by go_num, by rw [HL2.out]; exact HST.out, all_snoc HEP.out HPA.out HOK.out, hC.at HX1.out hBG, rfl⟩
                            case measure => simp [intOf]; omega
                      · have HV := Lib.hid (vf_phi HE.out HEP.out (phi_len (np := (preds m.blocks k).length) (by simp only; omega)))
                        have hd3 : ((pargs.length : Int) != ((predM k m.blocks 0).length : Int)) = true := by rw [HPL.out]; simp; omega
                        clear hl2 h0 hin
                        go_wp2
                        have hw := HW.out
                        refine wp_region_ext (W := v.w.alloc (.cells #[.int .i64 pd, .slice A3' pargs.length c3'] 84)) (by kernel_rfl) (by kernel_rfl) ⟨Ext.self _, rfl⟩ ?_
                        repeat (go_big_quiet_step ((go_at_call 43; exact ext_same (within_c _ _ _ _))))
                        refine wpQuiet_nil ?_
                        rintro _ ⟨z, rfl⟩
                        clear hw
                        go_wp2
                        go_ret
                        exact ⟨ret_bool HV.out.symm, ext_end v (hWp z)⟩
                  · have hin' : inR m.values pd = false := by simpa using hin
                    have HV := Lib.hid (vf_dst HE.out HEP.out hin')
                    have hd : decide (0 ≤ pd ∧ pd ≤ m.values - 1) = false := by have := inR_not.1 hin'; simp; omega
                    clear hin hin'
                    go_wp2
                    have hw := HW.out
                    refine wp_region_ext (W := v.w.alloc (.cells #[.int .i64 pd, .slice A3' pargs.length c3'] 84)) (by kernel_rfl) (by kernel_rfl) ⟨Ext.self _, rfl⟩ ?_
                    repeat (go_big_quiet_step ((go_at_call 43; exact ext_same (within_c _ _ _ _))))
                    refine wpQuiet_nil ?_
                    rintro _ ⟨z, rfl⟩
                    go_wp2
                    go_ret
                    exact ⟨ret_bool HV.out.symm, ext_end v (hWp z)⟩
                · have HPB := Lib.hid (all_take HPA.out (by omega))
                  have HVJ : Hid (VI G V (.slice (some ⟨g10, 0, none⟩) m.blocks.length c10) (tab m.blocks.length fun t => predM t m.blocks 0) (defs (m.blocks.take k) ++ x.phis.map (·.dst)) v.w) := Lib.hid (by have := HVI.out; rwa [← HLL.out, List.take_of_length_le (show x.phis.length ≤ j by omega)] at this)
                  have hx1 := HX1.out
                  clear HPA HVI
                  go_wp2
                  clear hx1 HX1 b0 b1 hj hlj
                  go_loopw [159] (fun i wr => ∃ (j : Nat) (v : Ext (W0F w m (some a) c)), j ≤ x.instrs.length ∧ i = .int .i64 j ∧ VI G V (.slice (some ⟨g10, 0, none⟩) m.blocks.length c10) (tab m.blocks.length fun t => predM t m.blocks 0) (defs (m.blocks.take k) ++ x.phis.map (·.dst) ++ dstsI (x.instrs.take j)) wr ∧ (x.instrs.take j).all (fun x => goodInstr x m.values 10) = true ∧ wr = v.w) (fun i _ => x.instrs.length - (intOf i).toNat)
                  case atStart => exact ⟨0, v, by omega, rfl, by simpa [dstsI] using HVJ.out, by simp, rfl⟩
                  case round =>
                    clear HVJ hzv hGv v
                    obtain ⟨j, v, hj, rfl, hvi, hall, rfl⟩ := hrel
                    obtain ⟨L, hL⟩ : ∃ L, defs (m.blocks.take k) ++ x.phis.map (·.dst) ++ dstsI (x.instrs.take j) = L := ⟨_, rfl⟩
                    rw [hL] at hvi
                    have HLL := Lib.hid hL
                    have hLl : L.length ≤ 2199025352704 := by rw [← hL, List.length_append, List.length_append, List.length_map]; have hdi := dstsI_len (x.instrs.take j); rw [List.length_take] at hdi; omega
                    clear hL
                    have HVI := Lib.hid hvi
                    have HIA := Lib.hid hall
                    clear hvi hall
                    obtain ⟨b0, b1, -⟩ := box_at v
                    have hzv := v.lt
                    have hGv : G < v.w.heap.size := HVI.out.lt
                    by_cases hlj : j < x.instrs.length
                    · obtain ⟨⟨op, dst, ya, yb, yi⟩, ey⟩ := get_of_lt hlj
                      obtain ⟨a', _, rfl, rfl, hc⟩ := (r2'.below (ext_box v)).at ey
                      obtain ⟨q0, q1, q2, q3, q4⟩ := hc5 (n := j * 5) hc
                      dsimp only at *
                      have HEY := Lib.hid ey
                      clear hc ey
                      have hgi := fun W h => instrOK_c ⟨op, dst, ya, yb, yi⟩ 10 m.values W h v1 (by omega) (by omega)
                      simp only [Instr.v] at hgi
                      have hSB := Lib.hid (fun W (h : Below v.w.heap.size v.w W) => hS.below (B := w.heap.size) (Below.trans (ext_box v) (h.mono (by omega))) hS.pos)
                      cases hg : goodInstr ⟨op, dst, ya, yb, yi⟩ m.values 10
                      · have HV := Lib.hid (vf_instr HE.out HEY.out hg)
                        rw [hg] at hgi
                        clear hg
                        go_wp2_with (go_at_call 45; refine (hgi _ (hSB.out _ (by repeat (first | (with_reducible first | exact Below.refl _ _ | assumption | exact ext_box _) | (with_reducible apply Below.drew) | ((with_reducible refine Below.setCell ?_ ?hs _); (case hs => first | (simp; done) | (simp; omega) | omega)) | ((with_reducible refine Below.alloc ?_ ?hs _); (case hs => first | (simp; done) | (simp; omega) | omega)))))).mono ?_; rintro e w1 ⟨rfl, hb1⟩; have HB1 := Below.then_ (w := v.w) (by repeat (first | (with_reducible first | exact Below.refl _ _ | assumption | exact ext_box _) | (with_reducible apply Below.drew) | ((with_reducible refine Below.setCell ?_ ?hs _); (case hs => first | (simp; done) | (simp; omega) | omega)) | ((with_reducible refine Below.alloc ?_ ?hs _); (case hs => first | (simp; done) | (simp; omega) | omega)))) hb1)
                        go_ret
                        exact ⟨ret_bool HV.out.symm, ext_end v HB1⟩
                      · have HG := Lib.hid hg
                        rw [hg] at hgi
                        obtain ⟨o, rfl⟩ : ∃ o : Nat, op = o := ⟨op.toNat, by have := ((goodInstr_iff _ _ _).1 hg).1; simp only at this; omega⟩
                        have K0 := Lib.hid (new_cell v.w #[.int .i64 (o : Int), .int .i64 dst, .int .i64 ya, .int .i64 yb, .int .i64 yi] 72 0 (.int .i64 (o : Int)) rfl)
                        have ho10 : o ≤ 10 := by have := ((goodInstr_iff _ _ _).1 hg).2.1; simp only at this; omega
                        cases hd : usedD (o : Int)
                        · have HDI := Lib.hid (show dstsI (x.instrs.take (j + 1)) = dstsI (x.instrs.take j) by rw [dstsI_snoc HEY.out, hd]; simp)
                          have HSD : Hid (∀ W, Shapes W → W.cell? ⟨0, o * 4, none⟩ = some (.bool (usedD o))) := Lib.hid fun W h => h o (by omega) 0 _ rfl
                          rw [hd] at HSD
                          clear hd hg
                          go_wp2_with (go_at_call 45; refine (hgi _ (hSB.out _ (by repeat (first | (with_reducible first | exact Below.refl _ _ | assumption | exact ext_box _) | (with_reducible apply Below.drew) | ((with_reducible refine Below.setCell ?_ ?hs _); (case hs => first | (simp; done) | (simp; omega) | omega)) | ((with_reducible refine Below.alloc ?_ ?hs _); (case hs => first | (simp; done) | (simp; omega) | omega)))))).mono ?_; rintro e w1 ⟨rfl, hb1⟩; have HB1 : Below v.w.heap.size v.w w1 := Below.then_ (by repeat (first | (with_reducible first | exact Below.refl _ _ | assumption | exact ext_box _) | (with_reducible apply Below.drew) | ((with_reducible refine Below.setCell ?_ ?hs _); (case hs => first | (simp; done) | (simp; omega) | omega)) | ((with_reducible refine Below.alloc ?_ ?hs _); (case hs => first | (simp; done) | (simp; omega) | omega)))) hb1; have i0' := bat hb1 K0.out (by simp); have s0 := HSD.out _ (hSB.out _ HB1))
                          go_roundw
                          case rel => exact ⟨j + 1, v.step HB1, by omega, by go_num, by rw [HDI.out, HLL.out]; exact HVI.out.chg (chg_of HB1), all_snoc HEY.out HIA.out HG.out, rfl⟩
                          case measure => simp [intOf]; omega
                        · have hur := used_range hg hd
                          dsimp only at hur
                          obtain ⟨d, rfl⟩ : ∃ d : Nat, dst = d := ⟨dst.toNat, by omega⟩
                          have K1 := Lib.hid (new_cell v.w #[.int .i64 (o : Int), .int .i64 (d : Int), .int .i64 ya, .int .i64 yb, .int .i64 yi] 72 1 (.int .i64 (d : Int)) rfl)
                          have hdV : d < V := by have := HVV.out; omega
                          have HDI := Lib.hid (show dstsI (x.instrs.take (j + 1)) = dstsI (x.instrs.take j) ++ [(d : Int)] by rw [dstsI_snoc HEY.out, hd]; simp)
                          have HSD : Hid (∀ W, Shapes W → W.cell? ⟨0, o * 4, none⟩ = some (.bool (usedD o))) := Lib.hid fun W h => h o (by omega) 0 _ rfl
                          rw [hd] at HSD
                          have HVF := Lib.hid (fun W (h : Below v.w.heap.size v.w W) => (HVI.out.chg (chg_of h)).cell hdV)
                          have hcb := List.count_le_length (a := (d : Int)) (l := L)
                          clear hd hg
                          go_wp2_with (go_at_call 45; refine (hgi _ (hSB.out _ (by repeat (first | (with_reducible first | exact Below.refl _ _ | assumption | exact ext_box _) | (with_reducible apply Below.drew) | ((with_reducible refine Below.setCell ?_ ?hs _); (case hs => first | (simp; done) | (simp; omega) | omega)) | ((with_reducible refine Below.alloc ?_ ?hs _); (case hs => first | (simp; done) | (simp; omega) | omega)))))).mono ?_; rintro e w1 ⟨rfl, hb1⟩; have HB1 : Below v.w.heap.size v.w w1 := Below.then_ (by repeat (first | (with_reducible first | exact Below.refl _ _ | assumption | exact ext_box _) | (with_reducible apply Below.drew) | ((with_reducible refine Below.setCell ?_ ?hs _); (case hs => first | (simp; done) | (simp; omega) | omega)) | ((with_reducible refine Below.alloc ?_ ?hs _); (case hs => first | (simp; done) | (simp; omega) | omega)))) hb1; have i0' := bat hb1 K0.out (by simp); have i1' := bat hb1 K1.out (by simp); have s0 := HSD.out _ (hSB.out _ HB1); obtain ⟨s1, s2⟩ := HVF.out _ HB1)
                          have HST := Lib.hid ((HVI.out.chg (chg_of HB1)).store hdV)
                          have hC := chg_set (G := G) (o := d) (v := .int .i64 ((L.count (d : Int) : Nat) + 1 : Int)) HB1
                          go_roundw
                          case rel => exact ⟨j + 1, v.chg hC (fun q hq => by subst hq; simp; omega), by omega, by go_num, by rw [HDI.out, ← List.append_assoc, HLL.out]; exact HST.out, all_snoc HEY.out HIA.out HG.out, rfl⟩
                          case measure => simp [intOf]; omega
                    · have HDE := Lib.hid (show defs (m.blocks.take (k + 1)) = L by rw [← HLL.out, HDS.out, List.take_of_length_le (show x.instrs.length ≤ j by omega), defsB, List.append_assoc])
                      have HIB := Lib.hid (all_take HIA.out (by omega))
                      go_wp2
                      go_roundw
                      case rel => exact ⟨k + 1, v, by omega, by go_num, by rw [HDE.out]; exact HVI.out, blksUpTo_snoc HB.out HE.out HPB.out HIB.out, rfl⟩
                      case measure => simp [intOf]; omega
            · have HBE := Lib.hid (show BlksUpTo m m.blocks.length by have := HB.out; rwa [show k = m.blocks.length by omega] at this)
              have HVJ : Hid (VI G V (.slice (some ⟨g10, 0, none⟩) m.blocks.length c10) (tab m.blocks.length fun t => predM t m.blocks 0) (defs m.blocks) u.w) := Lib.hid (by have := HVI.out; rwa [List.take_of_length_le (show m.blocks.length ≤ k by omega)] at this)
              clear HB HVI
              go_wp2
              go_loop [184] (fun i => ∃ j : Nat, j ≤ V ∧ i = .int .i64 j ∧ ∀ v : Nat, v < j → (defs m.blocks).count (v : Int) = 1) (fun i => V - (intOf i).toNat)
              case atStart => exact ⟨0, by omega, rfl, by omega⟩
              case round =>
                obtain ⟨j, hj, rfl, hin⟩ := hrel
                have HIN := Lib.hid hin
                clear hin
                by_cases hlj : j < V
                · obtain ⟨s1, s2⟩ := HVJ.out.cell hlj
                  by_cases hc1 : (defs m.blocks).count (j : Int) = 1
                  · have HC1 := Lib.hid hc1
                    have hd1 : ((((defs m.blocks).count (j : Int) : Nat) : Int) != 1) = false := by simp [hc1]
                    clear hc1
                    go_wp2
                    go_round
                    case rel => exact ⟨j + 1, by omega, by go_num, fun v hv => by rcases Nat.lt_or_eq_of_le (Nat.le_of_lt_succ hv) with h | rfl; exact HIN.out v h; exact HC1.out⟩
                    case measure => simp [intOf]; omega
                  · have HV := Lib.hid (vf_count (m := m) (v := j) (by have := HVV.out; omega) hc1)
                    have hd1 : ((((defs m.blocks).count (j : Int) : Nat) : Int) != 1) = true := by simp; omega
                    clear hc1
                    go_wp2
                    go_ret
                    exact ⟨ret_bool HV.out.symm, ext_box u⟩
                · have HV := Lib.hid (vf_end HRR.out HN.out HSZ.out HT.out HBE.out fun v hv => HIN.out v (by have := HVV.out; omega))
                  go_wp2
                  go_ret
                  exact ⟨ret_bool HV.out.symm, ext_box u⟩
    · have hd2 : decide (1 ≤ (m.blocks.length : Int) ∧ (m.blocks.length : Int) ≤ 1000) = false := by simp; omega
      have HV := Lib.hid (vf_n hn)
      go_enter Tryd.func17, Tryd.ntmps17
      go_wp2_with (go_at_call 43; (with_reducible refine (within_c _ _ _ _).mono ?_); rintro e w1 ⟨rfl, rfl⟩)
      go_ret
      exact ⟨ret_bool HV.out.symm, by repeat (first | (with_reducible first | exact Below.refl _ _ | assumption | exact ext_box _) | (with_reducible apply Below.drew) | ((with_reducible refine Below.setCell ?_ ?hs _); (case hs => first | (simp; done) | (simp; omega) | omega)) | ((with_reducible refine Below.alloc ?_ ?hs _); (case hs => first | (simp; done) | (simp; omega) | omega)))⟩
  · have hd1 : decide (0 ≤ m.values ∧ m.values ≤ 2000) = false := by simpa using hr
    have HV := Lib.hid (vf_values hr)
    clear hr
    go_enter Tryd.func17, Tryd.ntmps17
    go_wp2_with (go_at_call 43; (with_reducible refine (within_c _ _ _ _).mono ?_); rintro e w1 ⟨rfl, rfl⟩)
    go_ret
    exact ⟨ret_bool HV.out.symm, by repeat (first | (with_reducible first | exact Below.refl _ _ | assumption | exact ext_box _) | (with_reducible apply Below.drew) | ((with_reducible refine Below.setCell ?_ ?hs _); (case hs => first | (simp; done) | (simp; omega) | omega)) | ((with_reducible refine Below.alloc ?_ ?hs _); (case hs => first | (simp; done) | (simp; omega) | omega)))⟩
end Go.Proofs.YtnnfjjgohhicjaaDoor
