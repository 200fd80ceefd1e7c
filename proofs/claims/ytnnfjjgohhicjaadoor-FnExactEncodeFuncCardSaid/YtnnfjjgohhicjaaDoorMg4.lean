/- Contracts: comparisons of what is read, field by field. (Printed by kgen.py.) -/
import Derived.Test.YtnnfjjgohhicjaaDoorMg2
import Derived.Test.YtnnfjjgohhicjaaDoorKxa
import Derived.Test.YtnnfjjgohhicjaaDoorMg3
import Derived.Test.YtnnfjjgohhicjaaDoorRi
import Derived.Test.YtnnfjjgohhicjaaDoorKt
import Derived.Test.YtnnfjjgohhicjaaDoorKu
namespace Go.Proofs.YtnnfjjgohhicjaaDoor
open Go.RowKit
set_option linter.unusedSimpArgs false
set_option linter.unusedVariables false
set_option maxRecDepth 100000

set_option maxHeartbeats 8000000 in
theorem encFunc_i (L : Option Addr) (c : Nat) (m : Func) (w : World) (hx : C (kBlock 0 0 0) w L m.blocks) (hG : Globs w) (hm : m.blocks.length ≤ 1048576) (hs : ∀ (i : Nat) b, m.blocks[i]? = some b → okBlk 1048576 b) :
    Calls Tryd.prog 34 #[.agg #[.int .i64 m.values, .slice L m.blocks.length c]] w (RetW w (encFunc m)) := by
  obtain ⟨i0, hi, hz0, hz1, hz2⟩ := info_parts info_i64
  have HIV := Lib.hid (fun W (h : Below w.heap.size w W) => validF_i L c m W (hx.below h) (hG.bel h).sh hm hs)
  have HG := Lib.hid hG
  have hpos := hG.pos
  clear hG
  cases hv : validF m
  · have HR := Lib.hid (show encFunc m = [] by simp [encFunc, hv])
    have HV := Lib.hid hv
    clear hv
    go_enter Tryd.func34, Tryd.ntmps34
    go_wp2_with (go_at_call 17; have hiv := HIV.out; rw [HV.out] at hiv; refine (hiv _ (by repeat (first | (with_reducible first | exact Below.refl _ _ | assumption | exact ext_box _) | (with_reducible apply Below.drew) | ((with_reducible refine Below.setCell ?_ ?hs _); (case hs => first | (simp; done) | (simp; omega) | omega)) | ((with_reducible refine Below.alloc ?_ ?hs _); (case hs => first | (simp; done) | (simp; omega) | omega))))).mono ?_; rintro e w1 ⟨rfl, hb1⟩; have HB1 : Below w.heap.size w w1 := Below.then_ (by repeat (first | (with_reducible first | exact Below.refl _ _ | assumption | exact ext_box _) | (with_reducible apply Below.drew) | ((with_reducible refine Below.setCell ?_ ?hs _); (case hs => first | (simp; done) | (simp; omega) | omega)) | ((with_reducible refine Below.alloc ?_ ?hs _); (case hs => first | (simp; done) | (simp; omega) | omega)))) hb1)
    go_ret
    rw [HR.out]
    exact ⟨HB1, .inl ⟨0, rfl, rfl⟩⟩
  · have HR' := Lib.hid (show encFunc m = funcL m by simp [encFunc, hv])
    have HV := Lib.hid hv
    have HFT := Lib.hid (validF_FT hv)
    have hml := HFT.out.len
    clear hv
    go_enter Tryd.func34, Tryd.ntmps34
    go_upto_region 4 with (
      go_at_call 17; have hiv := HIV.out; rw [HV.out] at hiv; refine (hiv _ (by repeat (first | (with_reducible first | exact Below.refl _ _ | assumption | exact ext_box _) | (with_reducible apply Below.drew) | ((with_reducible refine Below.setCell ?_ ?hs _); (case hs => first | (simp; done) | (simp; omega) | omega)) | ((with_reducible refine Below.alloc ?_ ?hs _); (case hs => first | (simp; done) | (simp; omega) | omega))))).mono ?_; rintro e w1 ⟨rfl, hb1⟩; have HB1 : Below w.heap.size w w1 := Below.then_ (by repeat (first | (with_reducible first | exact Below.refl _ _ | assumption | exact ext_box _) | (with_reducible apply Below.drew) | ((with_reducible refine Below.setCell ?_ ?hs _); (case hs => first | (simp; done) | (simp; omega) | omega)) | ((with_reducible refine Below.alloc ?_ ?hs _); (case hs => first | (simp; done) | (simp; omega) | omega)))) hb1; have zw1 : w.heap.size < w1.heap.size := (by have := hb1.size; simp at this; omega); have K0 := Lib.hid ((Bk.made w 40 [.int .i64 m.values, .slice L m.blocks.length c]).below hb1); clear hb1)
    have y0 := (K0.out.below ((Below.refl _ _).alloc (Nat.le_refl _) (.cells #[.pointer none, .slice none 0 0] 102))).cell 0 (v := .int .i64 m.values) rfl
    have HP0 := Lib.hid (rowL1 w1.heap.size w1.heap.size [] _ (pg_new w1) (by omega) (HG.out.bel (HB1.alloc HB1.size _)))
    go_upto_region 5 with (
      go_at_call 58; (with_reducible refine (HP0.out m.values funcW _ _ (by simp) (by (repeat (first | (with_reducible first | exact Below.refl _ _ | assumption | exact ext_box _) | (with_reducible apply Below.drew) | ((with_reducible refine Below.setCell ?_ ?hs _); (case hs => first | (simp; done) | (simp; omega) | omega)) | ((with_reducible refine Below.alloc ?_ ?hs _); (case hs => first | (simp; done) | (simp; omega) | omega))))) HFT.out.vals (by decide) (by decide)).mono ?_); rintro e w2 ⟨rfl, hp2, hc2⟩)
    rw [List.nil_append] at hp2
    have HB2 := Lib.hid (show Below w1.heap.size w1 w2 from ((Below.refl _ w1).alloc (Nat.le_refl _) _).trans (PgS.below hc2 (by simp)))
    obtain ⟨HD, hHD⟩ : ∃ HD, lineB funcW [m.values] = HD := ⟨_, rfl⟩
    have HDL := Lib.hid (show HD.length ≤ 27 by rw [← hHD]; have := line_len (word := funcW) HFT.out.vals; simp at this ⊢; omega)
    have HDN := Lib.hid (show HD ≠ [] by rw [← hHD]; exact lineB_ne _ _)
    have HML := Lib.hid (show funcL m = HD ++ m.blocks.flatMap blockL by rw [funcL, hHD])
    rw [hHD] at hp2
    have HP2 := Lib.hid hp2
    have y1 := (K0.out.below HB2.out).cell 1 (v := .slice L m.blocks.length c) rfl
    clear hHD hp2 hc2 HP0 y0
    go_wp2
    go_loopw [20] (fun t20 wr => ∃ (k : Nat) (u : Ext w1), k ≤ m.blocks.length ∧ t20 = .int .i64 k ∧ Pg w1.heap.size w1.heap.size (HD ++ (m.blocks.take k).flatMap blockL) wr ∧ wr = u.w) (fun t20 _ => m.blocks.length - (intOf t20).toNat)
    case atStart => exact ⟨0, ⟨w2, HB2.out⟩, by omega, rfl, by simpa using HP2.out, rfl⟩
    case round =>
      clear HP2 HB2 y1
      obtain ⟨k, u, hk, rfl, hp, rfl⟩ := hrel
      have hup := HFT.out.upto k
      obtain ⟨ys, hys⟩ : ∃ ys, HD ++ (m.blocks.take k).flatMap blockL = ys := ⟨_, rfl⟩
      have hyl : ys.length ≤ 27 + 1000 * 401000000 := by rw [← hys, List.length_append]; have := HDL.out; omega
      have HYS := Lib.hid hys
      rw [hys] at hp
      have HPU := Lib.hid hp
      have HWu := Lib.hid (HB1.trans (u.hb.mono HB1.size))
      have hpu := hp.lt
      clear hys hup hp
      by_cases hlt : k < m.blocks.length
      · obtain ⟨x, ex⟩ := get_of_lt hlt
        have hil := HFT.out.il _ _ ex
        have HIN := Lib.hid (HFT.out.ins _ _ ex)
        have HTM := Lib.hid (HFT.out.term _ _ ex)
        have HSN := Lib.hid (show ys ++ blockL x = HD ++ (m.blocks.take (k + 1)).flatMap blockL by rw [flatMap_snoc ex, ← HYS.out, List.append_assoc])
        have hpl := HFT.out.pl _ _ ex
        have HPH := Lib.hid (HFT.out.phi _ _ ex)
        have HPL := Lib.hid (HFT.out.phisL ex)
        obtain ⟨a, _, rfl, ⟨_, _, rfl, ⟨A0, c0, rfl, l0, rp⟩, _, _, rfl, ⟨A', c', rfl, l', r'⟩, rfl⟩, hc⟩ := hx.at ex
        obtain ⟨r00, r0, r1, r2, r3, r4⟩ := hc6 (n := k * 6) hc
        replace r00 : w.cell? (a.add (k * 6)) = some (.slice A0 x.phis.length c0) := r00
        replace r0 : w.cell? ⟨(a.add (k * 6)).block, (a.add (k * 6)).off + 1, none⟩ = some (.slice A' x.instrs.length c') := r0
        replace r1 : w.cell? ⟨(a.add (k * 6)).block, (a.add (k * 6)).off + 2, none⟩ = some (.int .i64 x.term.kind) := r1
        replace r2 : w.cell? ⟨(a.add (k * 6)).block, (a.add (k * 6)).off + 3, none⟩ = some (.int .i64 x.term.a) := r2
        replace r3 : w.cell? ⟨(a.add (k * 6)).block, (a.add (k * 6)).off + 4, none⟩ = some (.int .i64 x.term.to) := r3
        replace r4 : w.cell? ⟨(a.add (k * 6)).block, (a.add (k * 6)).off + 5, none⟩ = some (.int .i64 x.term.els) := r4
        have p00 := (HWu.out.cell (World.block_lt_of_cell? w _ r00)).trans r00
        have p0 := (HWu.out.cell (World.block_lt_of_cell? w _ r0)).trans r0
        have p1 := (HWu.out.cell (World.block_lt_of_cell? w _ r1)).trans r1
        have p2 := (HWu.out.cell (World.block_lt_of_cell? w _ r2)).trans r2
        have p3 := (HWu.out.cell (World.block_lt_of_cell? w _ r3)).trans r3
        have p4 := (HWu.out.cell (World.block_lt_of_cell? w _ r4)).trans r4
        clear hc ex r00 r0 r1 r2 r3 r4
        have HCL := Lib.hid (fun (cs : Array Value) => rowL0 w1.heap.size w1.heap.size ys (u.w.alloc (.cells cs 81)) (HPU.out.below ((Below.refl _ _).alloc (Nat.le_refl _) _)) (by omega) (HG.out.bel (HWu.out.alloc HWu.out.size _)) blockW (by omega) (by decide))
        go_upto_region 9 with (
          go_at_call 58; (with_reducible refine (HCL.out _).mono ?_); rintro e w4 ⟨rfl, hp4, hc4⟩)
        have K4 := Lib.hid ((Bk.made u.w 81 [.slice A0 x.phis.length c0, .slice A' x.instrs.length c', .int .i64 x.term.kind, .int .i64 x.term.a, .int .i64 x.term.to, .int .i64 x.term.els]).pgs hc4 (by omega) (by decide))
        have HB4 := Lib.hid (show Below w1.heap.size w1 w4 from (u.hb.alloc u.hb.size _).trans (PgS.below hc4 (by simp; omega)))
        have z4 : u.w.heap.size < w4.heap.size := by have := hc4.size; simp at this; omega
        have hbl : (lineB blockW []).length = 6 := by decide
        obtain ⟨zs0, hzs0⟩ : ∃ zs0, ys ++ lineB blockW [] = zs0 := ⟨_, rfl⟩
        have hz0l : zs0.length ≤ 27 + 1000 * 401000000 + 6 := by rw [← hzs0, List.length_append, hbl]; omega
        have HZ0 := Lib.hid (show zs0 ++ (x.phis.flatMap phiL ++ (x.instrs.flatMap instrL ++ termL x.term)) = ys ++ blockL x by rw [← hzs0, blockL, List.append_assoc])
        rw [hzs0] at hp4
        have HP4 := Lib.hid hp4
        have q0 := K4.out.cell 0 (v := .slice A0 x.phis.length c0) rfl
        clear hzs0 hbl hp4 hc4 p00 p0 p1 p2 p3 p4 HCL
        go_wp2
        go_loopw [28] (fun t28 wr => ∃ (j : Nat), j ≤ x.phis.length ∧ t28 = .int .i64 j ∧ Pg w1.heap.size w1.heap.size (zs0 ++ (x.phis.take j).flatMap phiL) wr ∧ Chg (PgS w1.heap.size w1.heap.size w4) w4 wr) (fun t28 _ => x.phis.length - (intOf t28).toNat)
        case atStart => exact ⟨0, by omega, rfl, by simpa using HP4.out, Chg.refl _ _⟩
        case round =>
          clear HP4 q0
          obtain ⟨j, hj, rfl, hp, hc⟩ := hrel
          have hfl := HPL.out j
          obtain ⟨zs, hzs⟩ : ∃ zs, zs0 ++ (x.phis.take j).flatMap phiL = zs := ⟨_, rfl⟩
          have hzl : zs.length ≤ 27 + 1000 * 401000000 + 6 + 4000 * 100000 := by rw [← hzs, List.length_append]; omega
          have HZS := Lib.hid hzs
          rw [hzs] at hp
          have HPQ := Lib.hid hp
          have K6 := Lib.hid (K4.out.pgs hc (by omega) (by decide))
          have hs6 := hc.size
          have HB6 := Lib.hid (HB4.out.trans (PgS.below hc (by omega)))
          have HW6 := Lib.hid (HB1.trans (HB6.out.mono HB1.size))
          have HC6 := Lib.hid hc
          clear hzs hfl hp hc
          by_cases hlt2 : j < x.phis.length
          · obtain ⟨y, ey⟩ := get_of_lt hlt2
            have HIY := Lib.hid (HPH.out _ _ ey)
            have hal := HIY.out.2
            have HSN2 := Lib.hid (show zs ++ phiL y = zs0 ++ (x.phis.take (j + 1)).flatMap phiL by rw [flatMap_snoc ey, ← HZS.out, List.append_assoc])
            obtain ⟨a2, _, rfl, ⟨_, _, rfl, rfl, ⟨A3, c3, rfl, l3, r3⟩⟩, hc⟩ := rp.at ey
            obtain ⟨p0, p1⟩ := hc2 (n := j * 2) hc
            replace p0 : w.cell? (a2.add (j * 2)) = some (.int .i64 y.dst) := p0
            replace p1 : w.cell? ⟨(a2.add (j * 2)).block, (a2.add (j * 2)).off + 1, none⟩ = some (.slice A3 y.args.length c3) := p1
            have v0 := (HW6.out.cell (World.block_lt_of_cell? w _ p0)).trans p0
            have v1 := (HW6.out.cell (World.block_lt_of_cell? w _ p1)).trans p1
            have HC3 := Lib.hid (show C kI64 wr A3 y.args from C.below r3 HW6.out)
            have HSM := Lib.hid HIY.out.1
            have HNL := Lib.hid (show ([y.dst] ++ y.args).length ≤ 4001 by simp; omega)
            have HPE := Lib.hid (show phiL y = lineB phiW ([y.dst] ++ y.args) from rfl)
            clear hc p0 p1 ey HIY
            go_wp2_with (first
              | (at_builtin; refine wpList_append_flat kI64 (flat_int .i64) rfl _ _ 49 rfl 2 i0 _ 8 Tryd.underlying49 hi hz0 hz1 hz2 rfl (by decide) _ [y.dst] [wr.heap.size + 1] rfl (row_of_bk (bk_newl (by simp)) (by simp [maxLen])) A3 c3 y.args rfl (HC3.out.below (by (repeat (first | (with_reducible first | exact Below.refl _ _ | assumption | exact ext_box _) | (with_reducible apply Below.drew) | ((with_reducible refine Below.setCell ?_ ?hs _); (case hs => first | (simp; done) | (simp; omega) | omega)) | ((with_reducible refine Below.alloc ?_ ?hs _); (case hs => first | (simp; done) | (simp; omega) | omega)))))) (by simp [maxLen]; omega) (by simp; omega) ?_; intro A7 c7 w7 fp7 hr7 hf7 hc7 hne7
                 have HC47 := Lib.hid (show Chg (fun q => wr.heap.size ≤ q) wr w7 from Chg.trans (by (repeat (first | (with_reducible first | exact Chg.refl _ _ | assumption) | (with_reducible refine Chg.drew ?_) | ((with_reducible refine Chg.setCell ?_ ?hs _); (case hs => first | (simp; done) | (simp; omega) | omega)) | (with_reducible refine Chg.alloc ?_ _)))) (hc7.mono fun q _ hq => by simp at hq; omega))
                 have HB67 := Lib.hid (show Below wr.heap.size wr w7 from HC47.out.below (Nat.le_refl _) fun _ h => h)
                 clear hf7 hc7 hne7
                 generalize [y.dst] ++ y.args = ns at *
                 have HPR := Lib.hid (row_c w1.heap.size w1.heap.size zs phiW (.slice A7 ns.length c7) ns fp7 w7 (HPQ.out.below HB67.out) (by omega) (HG.out.bel (HW6.out.trans (HB67.out.mono HW6.out.size))) hr7 HSM.out (by have := HNL.out; omega) (by omega) (by decide))
                 clear hr7)
              | (go_at_call 58; (with_reducible refine HPR.out.mono ?_); rintro e w5 ⟨rfl, hp5, hc5⟩))
            have HC5 := Lib.hid (PgS.trans HC6.out (PgS.trans (PgS.of (chg_of HB67.out)) hc5))
            rw [← HPE.out, HSN2.out] at hp5
            go_roundw
            case rel => exact ⟨j + 1, by omega, by go_num, hp5, HC5.out⟩
            case measure => simp [intOf]; omega
          · have hje : j = x.phis.length := by omega
            subst hje
            rw [List.take_length] at HZS
            have HZP := Lib.hid (show zs ++ (x.instrs.flatMap instrL ++ termL x.term) = ys ++ blockL x by rw [← HZ0.out, ← HZS.out, List.append_assoc])
            have q1 := K6.out.cell 1 (v := .slice A' x.instrs.length c') rfl
            go_wp2
            go_loopw [43] (fun t43 wr => ∃ (i : Nat), i ≤ x.instrs.length ∧ t43 = .int .i64 i ∧ Pg w1.heap.size w1.heap.size (zs ++ (x.instrs.take i).flatMap instrL) wr ∧ Chg (PgS w1.heap.size w1.heap.size w4) w4 wr) (fun t43 _ => x.instrs.length - (intOf t43).toNat)
            case atStart => exact ⟨0, by omega, rfl, by simpa using HPQ.out, HC6.out⟩
            case round =>
              clear HPQ HC6 K6 HB6 HW6 hs6 q1
              obtain ⟨i, hi2, rfl, hp, hc⟩ := hrel
              have hfl := flatMap_len (f := instrL) (L := 72) (xs := x.instrs.take i) (fun y hy => by obtain ⟨i, hi⟩ := List.getElem?_of_mem (List.mem_of_mem_take hy); exact instrL_len (HIN.out i y hi).1)
              obtain ⟨qs, hqs⟩ : ∃ qs, zs ++ (x.instrs.take i).flatMap instrL = qs := ⟨_, rfl⟩
              have hql : qs.length ≤ 27 + 1000 * 401000000 + 6 + 4000 * 100000 + 4000 * 72 := by
                rw [← hqs, List.length_append]
                have : (x.instrs.take i).length * 72 ≤ 4000 * 72 := Nat.mul_le_mul_right _ (by rw [List.length_take]; omega)
                omega
              have HQS := Lib.hid hqs
              rw [hqs] at hp
              have HPR := Lib.hid hp
              have K6 := Lib.hid (K4.out.pgs hc (by omega) (by decide))
              have hs6 := hc.size
              have HB6 := Lib.hid (HB4.out.trans (PgS.below hc (by omega)))
              have HW6 := Lib.hid (HB1.trans (HB6.out.mono HB1.size))
              have HC6 := Lib.hid hc
              clear hqs hfl hp hc
              by_cases hlt2 : i < x.instrs.length
              · obtain ⟨y, ey⟩ := get_of_lt hlt2
                have HIY := Lib.hid (HIN.out _ _ ey)
                have HSN2 := Lib.hid (show qs ++ instrL y = zs ++ (x.instrs.take (i + 1)).flatMap instrL by rw [flatMap_snoc ey, ← HQS.out, List.append_assoc])
                obtain ⟨a2, _, rfl, rfl, hc⟩ := r'.at ey
                obtain ⟨p0, p1, p2, p3, p4⟩ := hc5 (n := i * 5) hc
                have v0 := (HW6.out.cell (World.block_lt_of_cell? w _ p0)).trans p0
                have v1 := (HW6.out.cell (World.block_lt_of_cell? w _ p1)).trans p1
                have v2 := (HW6.out.cell (World.block_lt_of_cell? w _ p2)).trans p2
                have v3 := (HW6.out.cell (World.block_lt_of_cell? w _ p3)).trans p3
                have v4 := (HW6.out.cell (World.block_lt_of_cell? w _ p4)).trans p4
                have HPI := Lib.hid (fun (cs : Array Value) => instr_c w1.heap.size w1.heap.size qs y (wr.alloc (.cells cs 72)) (HPR.out.below ((Below.refl _ _).alloc (Nat.le_refl _) _)) (by omega) (HG.out.bel (HW6.out.alloc HW6.out.size _)) HIY.out.2.1 HIY.out.2.2 HIY.out.1 (by omega))
                simp only [Instr.v] at HPI
                clear hc p0 p1 p2 p3 p4 ey
                go_wp2_with (
                  go_at_call 59; (with_reducible refine (HPI.out _).mono ?_); rintro e w5 ⟨rfl, hp5, hc5⟩)
                have HC5 := Lib.hid (PgS.trans HC6.out (PgS.trans (PgS.of (chg_of ((Below.refl _ wr).alloc (Nat.le_refl _) _))) hc5))
                rw [HSN2.out] at hp5
                go_roundw
                case rel => exact ⟨i + 1, by omega, by go_num, hp5, HC5.out⟩
                case measure => simp [intOf]; omega
              · have hie : i = x.instrs.length := by omega
                subst hie
                rw [List.take_length] at HQS
                have k1 := K6.out.cell 2 (v := .int .i64 x.term.kind) rfl
                have k2 := K6.out.cell 3 (v := .int .i64 x.term.a) rfl
                have k3 := K6.out.cell 4 (v := .int .i64 x.term.to) rfl
                have k4 := K6.out.cell 5 (v := .int .i64 x.term.els) rfl
                have HPT := Lib.hid (term_c w1.heap.size w1.heap.size qs x.term wr HPR.out (by omega) (HG.out.bel HW6.out) HTM.out.2.1 HTM.out.2.2 HTM.out.1 (by omega))
                simp only [Term.v] at HPT
                go_wp2_with (
                  go_at_call 60; (with_reducible refine HPT.out.mono ?_); rintro e w5 ⟨rfl, hp5, hc5⟩)
                have HSN3 := Lib.hid (show qs ++ termL x.term = HD ++ (m.blocks.take (k + 1)).flatMap blockL by rw [← HSN.out, ← HZP.out, ← HQS.out, List.append_assoc])
                have HB7 := HB6.out.trans (PgS.below hc5 (by omega))
                rw [HSN3.out] at hp5
                go_roundw
                case rel => exact ⟨k + 1, ⟨w5, HB7⟩, by omega, by go_num, hp5, rfl⟩
                case measure => simp [intOf]; omega
      · have hke : k = m.blocks.length := by omega
        subst hke
        rw [List.take_length] at HYS
        have HE := Lib.hid (show encFunc m = ys by rw [HR'.out, HML.out, HYS.out])
        have HST := Lib.hid (str_c w1.heap.size w1.heap.size ys u.w HPU.out (by rw [← HYS.out]; simp [HDN.out]) (by omega))
        go_wp2_with (
          go_at_call 61; (with_reducible refine HST.out.mono ?_); rintro e w4 ⟨rfl, hb4⟩)
        have HW9 := Lib.hid (HWu.out.trans (hb4.mono HB1.size))
        rw [conv_bytes w4 ys]
        simp only [Result.andThen]
        rw [Oper.upon_value]
        go_wp2
        go_ret
        rw [HE.out]
        exact ⟨HW9.out.trans (Joins.below_bytesWorld _ _ _ _ HW9.out.size), .inr ⟨_, _, rfl, HW9.out.size, bytes_wb w4 ys⟩⟩
end Go.Proofs.YtnnfjjgohhicjaaDoor
namespace Go.Proofs.YtnnfjjgohhicjaaDoor
open Go.RowKit
set_option linter.unusedSimpArgs false
set_option linter.unusedVariables false
set_option maxRecDepth 100000

/-- The marks of a row. -/
def mk64 (k : Int) (n : Nat) : List Int := (List.range n).map fun (i : Nat) => k + (i : Int)
theorem mk64_len (k : Int) (n : Nat) : (mk64 k n).length = n := by simp [mk64]
theorem mk64_get (k : Int) {n i : Nat} (h : i < n) : (mk64 k n)[i]? = some (k + (i : Int)) := by simp [mk64, h]
theorem mk64_snoc (k : Int) (n : Nat) : mk64 k (n + 1) = mk64 k n ++ [k + (n : Int)] := by simp [mk64, List.range_succ]
theorem mk64_set (k : Int) (xs : List Int) {j : Nat} (h : j < xs.length) : (mk64 k j ++ xs.drop j).set j (k + (j : Int)) = mk64 k (j + 1) ++ xs.drop (j + 1) := by
  rw [List.set_append_right _ _ (by rw [mk64_len]; exact Nat.le_refl _), mk64_len, Nat.sub_self, List.drop_eq_getElem_cons h, List.set_cons_zero, mk64_snoc, List.append_assoc]; rfl
def MarkPost (v : Value) (k : Int) (n : Nat) (fp : List Nat) (w : World) (e : Ending) (w' : World) : Prop := e = .returned (.int .i64 (k + (n : Int))) ∧ Row 2 kI64 w' v (mk64 k n) fp ∧ Chg (fun b => b ∈ fp) w w'
set_option maxHeartbeats 2000000 in
theorem markInt64S_c (v : Value) (xs : List Int) (fp : List Nat) (k : Int) (w : World) (h : Row 2 kI64 w v xs fp) (hk : 0 ≤ k) (hk2 : k ≤ 4611686018427387904) (hl : xs.length ≤ 1152921504606846976) :
    Calls Tryd.prog 30 #[v, .int .i64 k] w (MarkPost v k xs.length fp w) := by
  rcases h.form' with ⟨rfl, rfl, rfl⟩ | ⟨g, cap, rfl, -, -⟩
  · have HH := Lib.hid h
    clear h
    go_enter Tryd.func30, Tryd.ntmps30
    go_wp2
    go_loopw [1, 5] (fun k1 i wr => k1 = .int .i64 k ∧ i = .int .i64 0 ∧ wr = w) (fun _ _ _ => 0)
    case atStart => exact ⟨rfl, rfl, rfl⟩
    case round =>
      obtain ⟨rfl, rfl, rfl⟩ := hrel
      go_wp2
      go_ret
      exact ⟨by simp, HH.out, Chg.refl _ _⟩
  · obtain rfl : fp = [g] := row_int_fp h
    have HX := Lib.hid h
    clear h
    go_enter Tryd.func30, Tryd.ntmps30
    go_wp2
    go_loopw [1, 5] (fun k1 i wr => ∃ j : Nat, j ≤ xs.length ∧ k1 = .int .i64 (k + (j : Int)) ∧ i = .int .i64 j ∧ Row 2 kI64 wr (.slice (some ⟨g, 0, none⟩) xs.length cap) (mk64 k j ++ xs.drop j) [g] ∧ Chg (fun b => b ∈ [g]) w wr) (fun _ i _ => xs.length - (intOf i).toNat)
    case atStart => exact ⟨0, by omega, by simp, rfl, by simpa [mk64] using HX.out, Chg.refl _ _⟩
    case round =>
      obtain ⟨j, hj, rfl, rfl, hr, hc⟩ := hrel
      by_cases hlt : j < xs.length
      · have hlen : (mk64 k j ++ xs.drop j).length = xs.length := by simp [mk64_len]; omega
        obtain ⟨y, ey⟩ := get_of_lt (show j < (mk64 k j ++ xs.drop j).length by omega)
        obtain ⟨q0, f0⟩ := row_int_cell hr hlen ey
        obtain ⟨hr2, hc2⟩ := row_int_set hr hlen hlt (k + (j : Int))
        rw [mk64_set k xs hlt] at hr2
        have HR := Lib.hid hr2
        have HC := Lib.hid (hc.trans (hc2.mono fun b _ e => by simp [e]))
        clear hr hr2 hc hc2 hlen ey
        go_wp2
        go_roundw
        case rel => exact ⟨j + 1, by omega, by go_num, by go_num, HR.out, HC.out⟩
        case measure => simp [intOf]; omega
      · have hjn : j = xs.length := by omega
        subst hjn
        have HR := Lib.hid hr
        have HC := Lib.hid hc
        clear hr hc
        go_wp2
        go_ret
        exact ⟨rfl, by simpa using HR.out, HC.out⟩
set_option maxHeartbeats 2000000 in
theorem heldInt64S_c (v : Value) (n : Nat) (fp : List Nat) (k : Int) (w : World) (h : Row 2 kI64 w v (mk64 k n) fp) (hk : 0 ≤ k) (hk2 : k ≤ 4611686018427387904) (hl : n ≤ 1152921504606846976) :
    Calls Tryd.prog 69 #[v, .int .i64 k] w fun e w' => e = .returned (.int .i64 (k + (n : Int))) ∧ w = w' := by
  have hn := mk64_len k n
  rcases h.form' with ⟨rfl, h0, rfl⟩ | ⟨g, cap, rfl, -, -⟩
  · obtain rfl : n = 0 := by rw [h0] at hn; simpa using hn.symm
    clear h h0
    go_enter Tryd.func69, Tryd.ntmps69
    go_wp2
    go_loopw [1, 5] (fun k1 i wr => k1 = .int .i64 k ∧ i = .int .i64 0 ∧ wr = w) (fun _ _ _ => 0)
    case atStart => exact ⟨rfl, rfl, rfl⟩
    case round =>
      obtain ⟨rfl, rfl, rfl⟩ := hrel
      go_wp2
      go_ret
      exact ⟨by simp, by first | rfl | trivial⟩
  · have HX := Lib.hid h
    rw [hn]
    clear h
    go_enter Tryd.func69, Tryd.ntmps69
    go_wp2
    go_loopw [1, 5] (fun k1 i wr => ∃ j : Nat, j ≤ n ∧ k1 = .int .i64 (k + (j : Int)) ∧ i = .int .i64 j ∧ wr = w) (fun _ i _ => n - (intOf i).toNat)
    case atStart => exact ⟨0, by omega, by simp, rfl, rfl⟩
    case round =>
      obtain ⟨j, hj, rfl, rfl, rfl⟩ := hrel
      by_cases hlt : j < n
      · obtain ⟨q0, f0⟩ := row_int_cell (n := n) (by have := HX.out; rwa [hn] at this) hn (mk64_get k hlt)
        go_wp2
        go_roundw
        case rel => exact ⟨j + 1, by omega, by go_num, by go_num, by first | rfl | trivial⟩
        case measure => simp [intOf]; omega
      · have hjn : j = n := by omega
        subst hjn
        go_wp2
        go_ret
        exact ⟨rfl, by first | rfl | trivial⟩
abbrev outV (R : Outc) (vh vt : Value) : Value := .agg #[.int .i64 R.code, .int .i64 R.value, .int .i64 R.steps, vt, vh]
def MarkOut (R : Outc) (vh vt : Value) (k : Int) (fh ft : List Nat) (w : World) (e : Ending) (w' : World) : Prop :=
  e = .returned (.int .i64 (k + (R.trace.length : Int) + (R.heap.length : Int))) ∧ Row 2 kI64 w' vt (mk64 k R.trace.length) ft ∧ Row 2 kI64 w' vh (mk64 (k + (R.trace.length : Int)) R.heap.length) fh ∧ Chg (fun b => b ∈ ft ∨ b ∈ fh) w w'
set_option maxHeartbeats 400000 in
theorem markOutcome_c (R : Outc) (vh vt : Value) (fh ft : List Nat) (k : Int) (w : World) (hh : Row 2 kI64 w vh R.heap fh) (ht : Row 2 kI64 w vt R.trace ft) (hd : ∀ b ∈ ft, b ∉ fh) (hk : 0 ≤ k) (hk2 : k ≤ 1048576) (h1 : R.heap.length ≤ 1048576) (h2 : R.trace.length ≤ 1048576) :
    Calls Tryd.prog 31 #[outV R vh vt, .int .i64 k] w (MarkOut R vh vt k fh ft w) := by
  obtain ⟨A1, c1, rfl, -⟩ := hh.form
  obtain ⟨A2, c2, rfl, -⟩ := ht.form
  have HM1 := Lib.hid (fun W (h : Below w.heap.size w W) => markInt64S_c _ R.trace ft k W (ht.chg (chg_of h) (by simp)) hk (by omega) (by omega))
  have HM2 := Lib.hid (fun W (h : Chg (fun b => b ∈ ft) w W) => markInt64S_c _ R.heap fh (k + (R.trace.length : Int)) W (hh.chg h fun b hb hm => hd b hm hb) (by omega) (by omega) (by omega))
  have HD2 := Lib.hid hd
  have HLT := Lib.hid (show w.heap.size ∉ ft from fun hm => by have := ht.lt _ hm; omega)
  clear hh ht hd
  simp only [outV]
  go_enter Tryd.func31, Tryd.ntmps31
  go_wp2_with (first
    | (go_at_call 30; with_reducible refine (HM1.out _ (by (repeat (first | (with_reducible first | exact Below.refl _ _ | assumption | exact ext_box _) | (with_reducible apply Below.drew) | ((with_reducible refine Below.setCell ?_ ?hs _); (case hs => first | (simp; done) | (simp; omega) | omega)) | ((with_reducible refine Below.alloc ?_ ?hs _); (case hs => first | (simp; done) | (simp; omega) | omega)))))).mono ?_; intro e w1 hp1; unfold MarkPost at hp1; obtain ⟨rfl, hr1, hc1⟩ := hp1
       have hb1 := (Bk.made w 51 [.int .i64 R.code, .int .i64 R.value, .int .i64 R.steps, .slice A2 R.trace.length c2, .slice A1 R.heap.length c1]).chg hc1 HLT.out
       have c4 := hb1.cell 4 (v := .slice A1 R.heap.length c1) rfl
       have HR1 := Lib.hid hr1
       have HC1 := Lib.hid (show Chg (fun b => b ∈ ft) w w1 from Chg.trans (by (repeat (first | (with_reducible first | exact Chg.refl _ _ | assumption) | (with_reducible refine Chg.drew ?_) | ((with_reducible refine Chg.setCell ?_ ?hs _); (case hs => first | (simp; done) | (simp; omega) | omega)) | (with_reducible refine Chg.alloc ?_ _)))) hc1)
       clear hr1 hc1 hb1)
    | (go_at_call 30; with_reducible refine (HM2.out _ HC1.out).mono ?_; intro e w2 hp2; unfold MarkPost at hp2; obtain ⟨rfl, hr2, hc2⟩ := hp2
       have HR2 := Lib.hid hr2
       have HC2 := Lib.hid hc2
       clear hr2 hc2))
  go_ret
  exact ⟨rfl, HR1.out.chg HC2.out HD2.out, HR2.out, (HC1.out.mono fun b _ h => .inl h).trans (HC2.out.mono fun b _ h => .inr h)⟩
set_option maxHeartbeats 400000 in
theorem heldOutcome_c (R : Outc) (vh vt : Value) (fh ft : List Nat) (k : Int) (w : World) (ht : Row 2 kI64 w vt (mk64 k R.trace.length) ft) (hh : Row 2 kI64 w vh (mk64 (k + (R.trace.length : Int)) R.heap.length) fh) (hk : 0 ≤ k) (hk2 : k ≤ 1048576) (h1 : R.heap.length ≤ 1048576) (h2 : R.trace.length ≤ 1048576) :
    Calls Tryd.prog 32 #[outV R vh vt, .int .i64 k] w fun e w' => e = .returned (.int .i64 (k + (R.trace.length : Int) + (R.heap.length : Int))) ∧ Below w.heap.size w w' := by
  obtain ⟨A1, c1, e1, -⟩ := hh.form
  obtain ⟨A2, c2, e2, -⟩ := ht.form
  rw [mk64_len] at e1 e2
  subst e1 e2
  have HH := Lib.hid (fun W (h : Below w.heap.size w W) => heldInt64S_c _ R.heap.length fh (k + (R.trace.length : Int)) W (hh.chg (chg_of h) (by simp)) (by omega) (by omega) (by omega))
  have HT := Lib.hid (fun W (h : Below w.heap.size w W) => heldInt64S_c _ R.trace.length ft k W (ht.chg (chg_of h) (by simp)) hk (by omega) (by omega))
  clear hh ht
  simp only [outV]
  go_enter Tryd.func32, Tryd.ntmps32
  go_wp2_with (first
    | (go_at_call 69; with_reducible refine (HT.out _ (by (repeat (first | (with_reducible first | exact Below.refl _ _ | assumption | exact ext_box _) | (with_reducible apply Below.drew) | ((with_reducible refine Below.setCell ?_ ?hs _); (case hs => first | (simp; done) | (simp; omega) | omega)) | ((with_reducible refine Below.alloc ?_ ?hs _); (case hs => first | (simp; done) | (simp; omega) | omega)))))).mono ?_; rintro e w1 ⟨rfl, rfl⟩)
    | (go_at_call 69; refine (HH.out _ (by (repeat (first | (with_reducible first | exact Below.refl _ _ | assumption | exact ext_box _) | (with_reducible apply Below.drew) | ((with_reducible refine Below.setCell ?_ ?hs _); (case hs => first | (simp; done) | (simp; omega) | omega)) | ((with_reducible refine Below.alloc ?_ ?hs _); (case hs => first | (simp; done) | (simp; omega) | omega)))))).mono ?_; rintro e w2 ⟨rfl, rfl⟩))
  go_ret
  exact ⟨rfl, by repeat (first | (with_reducible first | exact Below.refl _ _ | assumption | exact ext_box _) | (with_reducible apply Below.drew) | ((with_reducible refine Below.setCell ?_ ?hs _); (case hs => first | (simp; done) | (simp; omega) | omega)) | ((with_reducible refine Below.alloc ?_ ?hs _); (case hs => first | (simp; done) | (simp; omega) | omega)))⟩
end Go.Proofs.YtnnfjjgohhicjaaDoor
namespace Go.Proofs.YtnnfjjgohhicjaaDoor
open Go.RowKit
set_option linter.unusedSimpArgs false
set_option linter.unusedVariables false
set_option maxRecDepth 100000

theorem eqInstr_c (x y : Instr) (w : World) : Calls Tryd.prog 115 #[x.v, y.v] w fun e w' => e = .returned (.bool (decide (x = y))) ∧ Below w.heap.size w w' := by
  obtain ⟨a0, a1, a2, a3, a4⟩ := x
  obtain ⟨b0, b1, b2, b3, b4⟩ := y
  simp only [Instr.v]
  go_enter Tryd.func115, Tryd.ntmps115
  go_wp2
  all_goals go_ret
  all_goals go_light
  all_goals exact ⟨by simp_all, by repeat (first | (with_reducible first | exact Below.refl _ _ | assumption | exact ext_box _) | (with_reducible apply Below.drew) | ((with_reducible refine Below.setCell ?_ ?hs _); (case hs => first | (simp; done) | (simp; omega) | omega)) | ((with_reducible refine Below.alloc ?_ ?hs _); (case hs => first | (simp; done) | (simp; omega) | omega)))⟩
theorem eqTerm_c (x y : Term) (w : World) : Calls Tryd.prog 106 #[x.v, y.v] w fun e w' => e = .returned (.bool (decide (x = y))) ∧ Below w.heap.size w w' := by
  obtain ⟨a0, a1, a2, a3⟩ := x
  obtain ⟨b0, b1, b2, b3⟩ := y
  simp only [Term.v]
  go_enter Tryd.func106, Tryd.ntmps106
  go_wp2
  all_goals go_ret
  all_goals go_light
  all_goals exact ⟨by simp_all, by repeat (first | (with_reducible first | exact Below.refl _ _ | assumption | exact ext_box _) | (with_reducible apply Below.drew) | ((with_reducible refine Below.setCell ?_ ?hs _); (case hs => first | (simp; done) | (simp; omega) | omega)) | ((with_reducible refine Below.alloc ?_ ?hs _); (case hs => first | (simp; done) | (simp; omega) | omega)))⟩
set_option maxHeartbeats 2000000 in
theorem eqInstrS_c (A0 A1 : Option Addr) (c0 c1 : Nat) (xs ys : List Instr) (w : World) (hx : C kInstr w A0 xs) (hy : C kInstr w A1 ys) (hm : xs.length ≤ 140737488351232) (hm2 : ys.length ≤ 140737488351232) :
    Calls Tryd.prog 105 #[.slice A0 xs.length c0, .slice A1 ys.length c1] w fun e w' => e = .returned (.bool (decide (xs = ys))) ∧ Below w.heap.size w w' := by
  go_enter Tryd.func105, Tryd.ntmps105
  by_cases hl : xs.length = ys.length
  · have hb : ((xs.length : Int) != ys.length) = false := by simp [hl]
    have HL := Lib.hid hl
    clear hl
    go_wp2
    go_loopw [5] (fun i wr => ∃ k : Nat, k ≤ xs.length ∧ i = .int .i64 k ∧ xs.take k = ys.take k ∧ ∃ u : Ext w, wr = u.w) (fun i _ => xs.length - (intOf i).toNat)
    case atStart => exact ⟨0, by omega, rfl, by simp, Ext.self w, rfl⟩
    case round =>
      obtain ⟨k, hk, rfl, ht, u, rfl⟩ := hrel
      have HT := Lib.hid ht
      clear ht
      by_cases hlt : k < xs.length
      · obtain ⟨x, ex⟩ := get_of_lt hlt
        obtain ⟨y, ey⟩ := get_of_lt (HL.out ▸ hlt)
        obtain ⟨a0, _, rfl, rfl, hxc⟩ := hx.at ex
        have P0 := hc5E (n := k * 5) hxc
        clear hxc
        obtain ⟨a1, _, rfl, rfl, hyc⟩ := hy.at ey
        have P1 := hc5E (n := k * 5) hyc
        clear hyc
        have hlt2 : k < ys.length := HL.out ▸ hlt
        have EX := Lib.hid ex
        have EY := Lib.hid ey
        by_cases he : x = y
        · have hd : decide (x = y) = true := by simp [he]
          have HE := Lib.hid he
          clear he ex ey
          go_wp2
          refine wp_region_ext (W := w) (by kernel_rfl) (by kernel_rfl) ⟨_, rfl⟩ ?_
          repeat quiet_step ((first | (go_at_call 115; exact ext_of (eqInstr_c x y _))))
          refine wpQuiet_nil ?_
          rintro _ ⟨u, rfl⟩
          go_wp2
          go_roundw
          case rel => exact ⟨k + 1, by omega, by go_num, by rw [take_snoc EX.out, take_snoc EY.out, HT.out, HE.out], _, rfl⟩
          case measure => simp [intOf]; omega
        · have hd : decide (x = y) = false := by simp [he]
          have HE := Lib.hid (show xs ≠ ys by rintro rfl; rw [ex] at ey; injection ey with e; exact he e)
          clear he ex ey
          go_wp2
          refine wp_region_ext (W := w) (by kernel_rfl) (by kernel_rfl) ⟨_, rfl⟩ ?_
          repeat quiet_step ((first | (go_at_call 115; exact ext_of (eqInstr_c x y _))))
          refine wpQuiet_nil ?_
          rintro _ ⟨u, rfl⟩
          go_wp2
          go_ret
          exact ⟨ret_bool (by simp [HE.out]), u.hb⟩
      · have HR := Lib.hid (show xs = ys by have := HT.out; rwa [List.take_of_length_le (by omega), List.take_of_length_le (by have := HL.out; omega)] at this)
        go_wp2
        go_ret
        exact ⟨ret_bool (by simp [HR.out]), u.hb⟩
  · have hb : ((xs.length : Int) != ys.length) = true := by simp; omega
    have HN := Lib.hid (show xs ≠ ys from fun e => hl (by rw [e]))
    clear hl
    go_wp2
    go_ret
    exact ⟨ret_bool (by simp [HN.out]), Below.refl _ _⟩
end Go.Proofs.YtnnfjjgohhicjaaDoor
namespace Go.Proofs.YtnnfjjgohhicjaaDoor
open Go.RowKit
set_option linter.unusedSimpArgs false
set_option linter.unusedVariables false
set_option maxRecDepth 100000

set_option maxHeartbeats 2000000 in
theorem eqInt64S_c (A0 A1 : Option Addr) (c0 c1 : Nat) (xs ys : List Int) (w : World) (hx : C (kInt .i64) w A0 xs) (hy : C (kInt .i64) w A1 ys) (hm : xs.length ≤ 140737488351232) (hm2 : ys.length ≤ 140737488351232) :
    Calls Tryd.prog 29 #[.slice A0 xs.length c0, .slice A1 ys.length c1] w fun e w' => e = .returned (.bool (decide (xs = ys))) ∧ Below w.heap.size w w' := by
  go_enter Tryd.func29, Tryd.ntmps29
  by_cases hl : xs.length = ys.length
  · have hb : ((xs.length : Int) != ys.length) = false := by simp [hl]
    have HL := Lib.hid hl
    clear hl
    go_wp2
    go_loopw [5] (fun i wr => ∃ k : Nat, k ≤ xs.length ∧ i = .int .i64 k ∧ xs.take k = ys.take k ∧ ∃ u : Ext w, wr = u.w) (fun i _ => xs.length - (intOf i).toNat)
    case atStart => exact ⟨0, by omega, rfl, by simp, Ext.self w, rfl⟩
    case round =>
      obtain ⟨k, hk, rfl, ht, u, rfl⟩ := hrel
      have HT := Lib.hid ht
      clear ht
      by_cases hlt : k < xs.length
      · obtain ⟨x, ex⟩ := get_of_lt hlt
        obtain ⟨y, ey⟩ := get_of_lt (HL.out ▸ hlt)
        obtain ⟨a0, _, rfl, rfl, hxc⟩ := hx.at ex
        have P0 := hc1E (n := k * 1) hxc
        rw [Nat.mul_one] at P0
        clear hxc
        obtain ⟨a1, _, rfl, rfl, hyc⟩ := hy.at ey
        have P1 := hc1E (n := k * 1) hyc
        rw [Nat.mul_one] at P1
        clear hyc
        have hlt2 : k < ys.length := HL.out ▸ hlt
        have EX := Lib.hid ex
        have EY := Lib.hid ey
        by_cases he : x = y
        · have hd : (x != y) = false := by simp [he]
          have HE := Lib.hid he
          clear he ex ey
          go_wp2
          refine wp_region_ext (W := w) (by kernel_rfl) (by kernel_rfl) ⟨_, rfl⟩ ?_
          repeat quiet_step ((fail))
          refine wpQuiet_nil ?_
          rintro _ ⟨u, rfl⟩
          go_wp2
          go_roundw
          case rel => exact ⟨k + 1, by omega, by go_num, by rw [take_snoc EX.out, take_snoc EY.out, HT.out, HE.out], _, rfl⟩
          case measure => simp [intOf]; omega
        · have hd : (x != y) = true := by simp [he]
          have HE := Lib.hid (show xs ≠ ys by rintro rfl; rw [ex] at ey; injection ey with e; exact he e)
          clear he ex ey
          go_wp2
          refine wp_region_ext (W := w) (by kernel_rfl) (by kernel_rfl) ⟨_, rfl⟩ ?_
          repeat quiet_step ((fail))
          refine wpQuiet_nil ?_
          rintro _ ⟨u, rfl⟩
          go_wp2
          go_ret
          exact ⟨ret_bool (by simp [HE.out]), u.hb⟩
      · have HR := Lib.hid (show xs = ys by have := HT.out; rwa [List.take_of_length_le (by omega), List.take_of_length_le (by have := HL.out; omega)] at this)
        go_wp2
        go_ret
        exact ⟨ret_bool (by simp [HR.out]), u.hb⟩
  · have hb : ((xs.length : Int) != ys.length) = true := by simp; omega
    have HN := Lib.hid (show xs ≠ ys from fun e => hl (by rw [e]))
    clear hl
    go_wp2
    go_ret
    exact ⟨ret_bool (by simp [HN.out]), Below.refl _ _⟩
set_option maxHeartbeats 2000000 in
theorem eqPhi_c (X1 Y1 : Option Addr) (cX1 cY1 : Nat) (x y : Phi) (w : World) (hx1 : C (kInt .i64) w X1 x.args) (hy1 : C (kInt .i64) w Y1 y.args) (lx1 : x.args.length ≤ 140737488351232) (ly1 : y.args.length ≤ 140737488351232) :
    Calls Tryd.prog 118 #[.agg #[.int .i64 x.dst, .slice X1 x.args.length cX1], .agg #[.int .i64 y.dst, .slice Y1 y.args.length cY1]] w fun e w' => e = .returned (.bool (decide (x = y))) ∧ Below w.heap.size w w' := by
  obtain ⟨x0, x1⟩ := x
  obtain ⟨y0, y1⟩ := y
  dsimp only at *
  go_enter Tryd.func118, Tryd.ntmps118
  go_wp2_with (first | (go_at_call 29; refine (eqInt64S_c _ _ _ _ _ _ _ (hx1.below (by first | assumption | (repeat (first | (with_reducible first | exact Below.refl _ _ | assumption | exact ext_box _) | (with_reducible apply Below.drew) | ((with_reducible refine Below.setCell ?_ ?hs _); (case hs => first | (simp; done) | (simp; omega) | omega)) | ((with_reducible refine Below.alloc ?_ ?hs _); (case hs => first | (simp; done) | (simp; omega) | omega)))))) (hy1.below (by first | assumption | (repeat (first | (with_reducible first | exact Below.refl _ _ | assumption | exact ext_box _) | (with_reducible apply Below.drew) | ((with_reducible refine Below.setCell ?_ ?hs _); (case hs => first | (simp; done) | (simp; omega) | omega)) | ((with_reducible refine Below.alloc ?_ ?hs _); (case hs => first | (simp; done) | (simp; omega) | omega)))))) lx1 ly1).mono ?_; rintro e w2 ⟨rfl, hb2⟩; have HB2 : Below w.heap.size w w2 := Below.then_ (by first | exact Below.drew ‹Below w.heap.size w _› | assumption | (repeat (first | (with_reducible first | exact Below.refl _ _ | assumption | exact ext_box _) | (with_reducible apply Below.drew) | ((with_reducible refine Below.setCell ?_ ?hs _); (case hs => first | (simp; done) | (simp; omega) | omega)) | ((with_reducible refine Below.alloc ?_ ?hs _); (case hs => first | (simp; done) | (simp; omega) | omega))))) hb2; obtain ⟨hc2, hf2⟩ := bcell hb2; have hz2 := hb2.size; have za2 : w.heap.size < w2.heap.size := (by have := hb2.size; (try simp at this); omega); have zb2 : w.heap.size + 1 < w2.heap.size := (by have := hb2.size; (try simp at this); omega)))
  all_goals go_ret
  all_goals go_light
  all_goals exact ⟨by first | (simp_all; done) | (simp_all; omega), by first | assumption | (repeat (first | (with_reducible first | exact Below.refl _ _ | assumption | exact ext_box _) | (with_reducible apply Below.drew) | ((with_reducible refine Below.setCell ?_ ?hs _); (case hs => first | (simp; done) | (simp; omega) | omega)) | ((with_reducible refine Below.alloc ?_ ?hs _); (case hs => first | (simp; done) | (simp; omega) | omega))))⟩
set_option maxHeartbeats 2000000 in
theorem eqPhiS_c (A0 A1 : Option Addr) (c0 c1 : Nat) (xs ys : List Phi) (w : World) (hx : C (kPhi 0) w A0 xs) (hy : C (kPhi 0) w A1 ys) (hm : xs.length ≤ 140737488351232) (hm2 : ys.length ≤ 140737488351232) (bx_ : ∀ (i : Nat) z, xs[i]? = some z → okPhi 140737488351232 z) (by_ : ∀ (i : Nat) z, ys[i]? = some z → okPhi 140737488351232 z) :
    Calls Tryd.prog 109 #[.slice A0 xs.length c0, .slice A1 ys.length c1] w fun e w' => e = .returned (.bool (decide (xs = ys))) ∧ Below w.heap.size w w' := by
  go_enter Tryd.func109, Tryd.ntmps109
  by_cases hl : xs.length = ys.length
  · have hb : ((xs.length : Int) != ys.length) = false := by simp [hl]
    have HL := Lib.hid hl
    clear hl
    go_wp2
    go_loopw [5] (fun i wr => ∃ k : Nat, k ≤ xs.length ∧ i = .int .i64 k ∧ xs.take k = ys.take k ∧ ∃ u : Ext w, wr = u.w) (fun i _ => xs.length - (intOf i).toNat)
    case atStart => exact ⟨0, by omega, rfl, by simp, Ext.self w, rfl⟩
    case round =>
      obtain ⟨k, hk, rfl, ht, u, rfl⟩ := hrel
      have HT := Lib.hid ht
      clear ht
      by_cases hlt : k < xs.length
      · obtain ⟨x, ex⟩ := get_of_lt hlt
        obtain ⟨y, ey⟩ := get_of_lt (HL.out ▸ hlt)
        obtain ⟨a0, _, rfl, ⟨_, _, rfl, rfl, ⟨Ax, cx, rfl, lx, rx⟩⟩, hxc⟩ := hx.at ex
        have P0 := hc2E (n := k * 2) hxc
        have rxE := fun u : Ext w => C.ext rx u
        have mx := bx_ _ _ ex
        clear hxc
        obtain ⟨a1, _, rfl, ⟨_, _, rfl, rfl, ⟨Ay, cy, rfl, ly, ry⟩⟩, hyc⟩ := hy.at ey
        have P1 := hc2E (n := k * 2) hyc
        have ryE := fun u : Ext w => C.ext ry u
        have my := by_ _ _ ey
        clear hyc
        have hlt2 : k < ys.length := HL.out ▸ hlt
        have EX := Lib.hid ex
        have EY := Lib.hid ey
        by_cases he : x = y
        · have hd : decide (x = y) = true := by simp [he]
          have HE := Lib.hid he
          clear he ex ey
          go_wp2
          refine wp_region_ext (W := w) (by kernel_rfl) (by kernel_rfl) ⟨_, rfl⟩ ?_
          repeat quiet_step ((first | (go_at_call 118; exact ext_of (eqPhi_c _ _ _ _ x y _ (rxE _) (ryE _) mx my))))
          refine wpQuiet_nil ?_
          rintro _ ⟨u, rfl⟩
          go_wp2
          go_roundw
          case rel => exact ⟨k + 1, by omega, by go_num, by rw [take_snoc EX.out, take_snoc EY.out, HT.out, HE.out], _, rfl⟩
          case measure => simp [intOf]; omega
        · have hd : decide (x = y) = false := by simp [he]
          have HE := Lib.hid (show xs ≠ ys by rintro rfl; rw [ex] at ey; injection ey with e; exact he e)
          clear he ex ey
          go_wp2
          refine wp_region_ext (W := w) (by kernel_rfl) (by kernel_rfl) ⟨_, rfl⟩ ?_
          repeat quiet_step ((first | (go_at_call 118; exact ext_of (eqPhi_c _ _ _ _ x y _ (rxE _) (ryE _) mx my))))
          refine wpQuiet_nil ?_
          rintro _ ⟨u, rfl⟩
          go_wp2
          go_ret
          exact ⟨ret_bool (by simp [HE.out]), u.hb⟩
      · have HR := Lib.hid (show xs = ys by have := HT.out; rwa [List.take_of_length_le (by omega), List.take_of_length_le (by have := HL.out; omega)] at this)
        go_wp2
        go_ret
        exact ⟨ret_bool (by simp [HR.out]), u.hb⟩
  · have hb : ((xs.length : Int) != ys.length) = true := by simp; omega
    have HN := Lib.hid (show xs ≠ ys from fun e => hl (by rw [e]))
    clear hl
    go_wp2
    go_ret
    exact ⟨ret_bool (by simp [HN.out]), Below.refl _ _⟩
set_option maxHeartbeats 2000000 in
theorem eqBlock_c (X0 Y0 : Option Addr) (cX0 cY0 : Nat) (X1 Y1 : Option Addr) (cX1 cY1 : Nat) (x y : Block) (w : World) (hx0 : C (kPhi 0) w X0 x.phis) (hy0 : C (kPhi 0) w Y0 y.phis) (lx0 : x.phis.length ≤ 140737488351232) (ly0 : y.phis.length ≤ 140737488351232) (hx1 : C kInstr w X1 x.instrs) (hy1 : C kInstr w Y1 y.instrs) (lx1 : x.instrs.length ≤ 140737488351232) (ly1 : y.instrs.length ≤ 140737488351232) (px_ : ∀ (i : Nat) z, x.phis[i]? = some z → okPhi 140737488351232 z) (py_ : ∀ (i : Nat) z, y.phis[i]? = some z → okPhi 140737488351232 z) :
    Calls Tryd.prog 84 #[.agg #[.slice X0 x.phis.length cX0, .slice X1 x.instrs.length cX1, .int .i64 x.term.kind, .int .i64 x.term.a, .int .i64 x.term.to, .int .i64 x.term.els], .agg #[.slice Y0 y.phis.length cY0, .slice Y1 y.instrs.length cY1, .int .i64 y.term.kind, .int .i64 y.term.a, .int .i64 y.term.to, .int .i64 y.term.els]] w fun e w' => e = .returned (.bool (decide (x = y))) ∧ Below w.heap.size w w' := by
  obtain ⟨x0, x1, ⟨x2, x3, x4, x5⟩⟩ := x
  obtain ⟨y0, y1, ⟨y2, y3, y4, y5⟩⟩ := y
  dsimp only at *
  go_enter Tryd.func84, Tryd.ntmps84
  go_wp2_with (first | (go_at_call 109; refine (eqPhiS_c _ _ _ _ _ _ _ (hx0.below (by first | assumption | (repeat (first | (with_reducible first | exact Below.refl _ _ | assumption | exact ext_box _) | (with_reducible apply Below.drew) | ((with_reducible refine Below.setCell ?_ ?hs _); (case hs => first | (simp; done) | (simp; omega) | omega)) | ((with_reducible refine Below.alloc ?_ ?hs _); (case hs => first | (simp; done) | (simp; omega) | omega)))))) (hy0.below (by first | assumption | (repeat (first | (with_reducible first | exact Below.refl _ _ | assumption | exact ext_box _) | (with_reducible apply Below.drew) | ((with_reducible refine Below.setCell ?_ ?hs _); (case hs => first | (simp; done) | (simp; omega) | omega)) | ((with_reducible refine Below.alloc ?_ ?hs _); (case hs => first | (simp; done) | (simp; omega) | omega)))))) lx0 ly0 px_ py_).mono ?_; rintro e w1 ⟨rfl, hb1⟩; have HB1 : Below w.heap.size w w1 := Below.then_ (by first | exact Below.drew ‹Below w.heap.size w _› | assumption | (repeat (first | (with_reducible first | exact Below.refl _ _ | assumption | exact ext_box _) | (with_reducible apply Below.drew) | ((with_reducible refine Below.setCell ?_ ?hs _); (case hs => first | (simp; done) | (simp; omega) | omega)) | ((with_reducible refine Below.alloc ?_ ?hs _); (case hs => first | (simp; done) | (simp; omega) | omega))))) hb1; obtain ⟨hc1, hf1⟩ := bcell hb1; have hz1 := hb1.size; have za1 : w.heap.size < w1.heap.size := (by have := hb1.size; (try simp at this); omega); have zb1 : w.heap.size + 1 < w1.heap.size := (by have := hb1.size; (try simp at this); omega)) | (go_at_call 105; refine (eqInstrS_c _ _ _ _ _ _ _ (hx1.below (by first | assumption | (repeat (first | (with_reducible first | exact Below.refl _ _ | assumption | exact ext_box _) | (with_reducible apply Below.drew) | ((with_reducible refine Below.setCell ?_ ?hs _); (case hs => first | (simp; done) | (simp; omega) | omega)) | ((with_reducible refine Below.alloc ?_ ?hs _); (case hs => first | (simp; done) | (simp; omega) | omega)))))) (hy1.below (by first | assumption | (repeat (first | (with_reducible first | exact Below.refl _ _ | assumption | exact ext_box _) | (with_reducible apply Below.drew) | ((with_reducible refine Below.setCell ?_ ?hs _); (case hs => first | (simp; done) | (simp; omega) | omega)) | ((with_reducible refine Below.alloc ?_ ?hs _); (case hs => first | (simp; done) | (simp; omega) | omega)))))) lx1 ly1).mono ?_; rintro e w2 ⟨rfl, hb2⟩; have HB2 : Below w.heap.size w w2 := Below.then_ (by first | exact Below.drew ‹Below w.heap.size w _› | assumption | (repeat (first | (with_reducible first | exact Below.refl _ _ | assumption | exact ext_box _) | (with_reducible apply Below.drew) | ((with_reducible refine Below.setCell ?_ ?hs _); (case hs => first | (simp; done) | (simp; omega) | omega)) | ((with_reducible refine Below.alloc ?_ ?hs _); (case hs => first | (simp; done) | (simp; omega) | omega))))) hb2; obtain ⟨hc2, hf2⟩ := bcell hb2; have hz2 := hb2.size; have za2 : w.heap.size < w2.heap.size := (by have := hb2.size; (try simp at this); omega); have zb2 : w.heap.size + 1 < w2.heap.size := (by have := hb2.size; (try simp at this); omega)) | (go_at_call 106; refine (eqTerm_c ⟨_, _, _, _⟩ ⟨_, _, _, _⟩ _).mono ?_; rintro e w3 ⟨rfl, hb3⟩; have HB3 : Below w.heap.size w w3 := Below.then_ (by first | exact Below.drew ‹Below w.heap.size w _› | assumption | (repeat (first | (with_reducible first | exact Below.refl _ _ | assumption | exact ext_box _) | (with_reducible apply Below.drew) | ((with_reducible refine Below.setCell ?_ ?hs _); (case hs => first | (simp; done) | (simp; omega) | omega)) | ((with_reducible refine Below.alloc ?_ ?hs _); (case hs => first | (simp; done) | (simp; omega) | omega))))) hb3; obtain ⟨hc3, hf3⟩ := bcell hb3; have hz3 := hb3.size; have za3 : w.heap.size < w3.heap.size := (by have := hb3.size; (try simp at this); omega); have zb3 : w.heap.size + 1 < w3.heap.size := (by have := hb3.size; (try simp at this); omega)))
  all_goals go_ret
  all_goals go_light
  all_goals exact ⟨by first | (simp_all; done) | (simp_all; omega), by first | assumption | (repeat (first | (with_reducible first | exact Below.refl _ _ | assumption | exact ext_box _) | (with_reducible apply Below.drew) | ((with_reducible refine Below.setCell ?_ ?hs _); (case hs => first | (simp; done) | (simp; omega) | omega)) | ((with_reducible refine Below.alloc ?_ ?hs _); (case hs => first | (simp; done) | (simp; omega) | omega))))⟩
set_option maxHeartbeats 2000000 in
theorem eqBlockS_c (A0 A1 : Option Addr) (c0 c1 : Nat) (xs ys : List Block) (w : World) (hx : C (kBlock 0 0 0) w A0 xs) (hy : C (kBlock 0 0 0) w A1 ys) (hm : xs.length ≤ 140737488351232) (hm2 : ys.length ≤ 140737488351232) (bx_ : ∀ (i : Nat) z, xs[i]? = some z → okBlk 140737488351232 z) (by_ : ∀ (i : Nat) z, ys[i]? = some z → okBlk 140737488351232 z) :
    Calls Tryd.prog 54 #[.slice A0 xs.length c0, .slice A1 ys.length c1] w fun e w' => e = .returned (.bool (decide (xs = ys))) ∧ Below w.heap.size w w' := by
  go_enter Tryd.func54, Tryd.ntmps54
  by_cases hl : xs.length = ys.length
  · have hb : ((xs.length : Int) != ys.length) = false := by simp [hl]
    have HL := Lib.hid hl
    clear hl
    go_wp2
    go_loopw [5] (fun i wr => ∃ k : Nat, k ≤ xs.length ∧ i = .int .i64 k ∧ xs.take k = ys.take k ∧ ∃ u : Ext w, wr = u.w) (fun i _ => xs.length - (intOf i).toNat)
    case atStart => exact ⟨0, by omega, rfl, by simp, Ext.self w, rfl⟩
    case round =>
      obtain ⟨k, hk, rfl, ht, u, rfl⟩ := hrel
      have HT := Lib.hid ht
      clear ht
      by_cases hlt : k < xs.length
      · obtain ⟨x, ex⟩ := get_of_lt hlt
        obtain ⟨y, ey⟩ := get_of_lt (HL.out ▸ hlt)
        obtain ⟨a0, _, rfl, ⟨_, _, rfl, ⟨Ax, cx, rfl, lx, rx⟩, _, _, rfl, ⟨Bx, dx, rfl, kx, sx⟩, rfl⟩, hxc⟩ := hx.at ex
        have P0 := hc6E (n := k * 6) hxc
        have rxE := fun u : Ext w => C.ext rx u
        have sxE := fun u : Ext w => C.ext sx u
        have mx := bx_ _ _ ex
        clear hxc
        obtain ⟨a1, _, rfl, ⟨_, _, rfl, ⟨Ay, cy, rfl, ly, ry⟩, _, _, rfl, ⟨By, dy, rfl, ky, sy⟩, rfl⟩, hyc⟩ := hy.at ey
        have P1 := hc6E (n := k * 6) hyc
        have ryE := fun u : Ext w => C.ext ry u
        have syE := fun u : Ext w => C.ext sy u
        have my := by_ _ _ ey
        clear hyc
        have hlt2 : k < ys.length := HL.out ▸ hlt
        have EX := Lib.hid ex
        have EY := Lib.hid ey
        by_cases he : x = y
        · have hd : decide (x = y) = true := by simp [he]
          have HE := Lib.hid he
          clear he ex ey
          go_wp2
          refine wp_region_ext (W := w) (by kernel_rfl) (by kernel_rfl) ⟨_, rfl⟩ ?_
          repeat quiet_step ((first | (go_at_call 84; exact ext_of (eqBlock_c _ _ _ _ _ _ _ _ x y _ (rxE _) (ryE _) mx.1 my.1 (sxE _) (syE _) mx.2.2 my.2.2 mx.2.1 my.2.1))))
          refine wpQuiet_nil ?_
          rintro _ ⟨u, rfl⟩
          go_wp2
          go_roundw
          case rel => exact ⟨k + 1, by omega, by go_num, by rw [take_snoc EX.out, take_snoc EY.out, HT.out, HE.out], _, rfl⟩
          case measure => simp [intOf]; omega
        · have hd : decide (x = y) = false := by simp [he]
          have HE := Lib.hid (show xs ≠ ys by rintro rfl; rw [ex] at ey; injection ey with e; exact he e)
          clear he ex ey
          go_wp2
          refine wp_region_ext (W := w) (by kernel_rfl) (by kernel_rfl) ⟨_, rfl⟩ ?_
          repeat quiet_step ((first | (go_at_call 84; exact ext_of (eqBlock_c _ _ _ _ _ _ _ _ x y _ (rxE _) (ryE _) mx.1 my.1 (sxE _) (syE _) mx.2.2 my.2.2 mx.2.1 my.2.1))))
          refine wpQuiet_nil ?_
          rintro _ ⟨u, rfl⟩
          go_wp2
          go_ret
          exact ⟨ret_bool (by simp [HE.out]), u.hb⟩
      · have HR := Lib.hid (show xs = ys by have := HT.out; rwa [List.take_of_length_le (by omega), List.take_of_length_le (by have := HL.out; omega)] at this)
        go_wp2
        go_ret
        exact ⟨ret_bool (by simp [HR.out]), u.hb⟩
  · have hb : ((xs.length : Int) != ys.length) = true := by simp; omega
    have HN := Lib.hid (show xs ≠ ys from fun e => hl (by rw [e]))
    clear hl
    go_wp2
    go_ret
    exact ⟨ret_bool (by simp [HN.out]), Below.refl _ _⟩
set_option maxHeartbeats 2000000 in
theorem eqFunc_c (X1 Y1 : Option Addr) (cX1 cY1 : Nat) (x y : Func) (w : World) (hx1 : C (kBlock 0 0 0) w X1 x.blocks) (hy1 : C (kBlock 0 0 0) w Y1 y.blocks) (lx1 : x.blocks.length ≤ 140737488351232) (ly1 : y.blocks.length ≤ 140737488351232) (bx_ : ∀ (i : Nat) z, x.blocks[i]? = some z → okBlk 140737488351232 z) (by_ : ∀ (i : Nat) z, y.blocks[i]? = some z → okBlk 140737488351232 z) :
    Calls Tryd.prog 18 #[.agg #[.int .i64 x.values, .slice X1 x.blocks.length cX1], .agg #[.int .i64 y.values, .slice Y1 y.blocks.length cY1]] w fun e w' => e = .returned (.bool (decide (x = y))) ∧ Below w.heap.size w w' := by
  obtain ⟨x0, x1⟩ := x
  obtain ⟨y0, y1⟩ := y
  dsimp only at *
  go_enter Tryd.func18, Tryd.ntmps18
  go_wp2_with (first | (go_at_call 54; refine (eqBlockS_c _ _ _ _ _ _ _ (hx1.below (by first | assumption | (repeat (first | (with_reducible first | exact Below.refl _ _ | assumption | exact ext_box _) | (with_reducible apply Below.drew) | ((with_reducible refine Below.setCell ?_ ?hs _); (case hs => first | (simp; done) | (simp; omega) | omega)) | ((with_reducible refine Below.alloc ?_ ?hs _); (case hs => first | (simp; done) | (simp; omega) | omega)))))) (hy1.below (by first | assumption | (repeat (first | (with_reducible first | exact Below.refl _ _ | assumption | exact ext_box _) | (with_reducible apply Below.drew) | ((with_reducible refine Below.setCell ?_ ?hs _); (case hs => first | (simp; done) | (simp; omega) | omega)) | ((with_reducible refine Below.alloc ?_ ?hs _); (case hs => first | (simp; done) | (simp; omega) | omega)))))) lx1 ly1 bx_ by_).mono ?_; rintro e w2 ⟨rfl, hb2⟩; have HB2 : Below w.heap.size w w2 := Below.then_ (by first | exact Below.drew ‹Below w.heap.size w _› | assumption | (repeat (first | (with_reducible first | exact Below.refl _ _ | assumption | exact ext_box _) | (with_reducible apply Below.drew) | ((with_reducible refine Below.setCell ?_ ?hs _); (case hs => first | (simp; done) | (simp; omega) | omega)) | ((with_reducible refine Below.alloc ?_ ?hs _); (case hs => first | (simp; done) | (simp; omega) | omega))))) hb2; obtain ⟨hc2, hf2⟩ := bcell hb2; have hz2 := hb2.size; have za2 : w.heap.size < w2.heap.size := (by have := hb2.size; (try simp at this); omega); have zb2 : w.heap.size + 1 < w2.heap.size := (by have := hb2.size; (try simp at this); omega)))
  all_goals go_ret
  all_goals go_light
  all_goals exact ⟨by first | (simp_all; done) | (simp_all; omega), by first | assumption | (repeat (first | (with_reducible first | exact Below.refl _ _ | assumption | exact ext_box _) | (with_reducible apply Below.drew) | ((with_reducible refine Below.setCell ?_ ?hs _); (case hs => first | (simp; done) | (simp; omega) | omega)) | ((with_reducible refine Below.alloc ?_ ?hs _); (case hs => first | (simp; done) | (simp; omega) | omega))))⟩
end Go.Proofs.YtnnfjjgohhicjaaDoor
