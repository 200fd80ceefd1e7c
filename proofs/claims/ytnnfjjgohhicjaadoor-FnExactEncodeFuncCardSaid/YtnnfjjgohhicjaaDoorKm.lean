/- Contract: impl.ValidMach -/
import Derived.Test.YtnnfjjgohhicjaaDoorKi
import Derived.Test.YtnnfjjgohhicjaaDoorPm
namespace Go.Proofs.YtnnfjjgohhicjaaDoor
open Go.RowKit
set_option linter.unusedSimpArgs false
set_option linter.unusedVariables false
set_option maxRecDepth 100000

set_option maxHeartbeats 4000000 in
theorem validMach_i (A : Option Addr) (c : Nat) (m : Mach) (w : World) (hx : C (kMB 0) w A m.blocks) (hS : Shapes w) (hm : m.blocks.length ≤ 1048576) (hs : ∀ (i : Nat) b, m.blocks[i]? = some b → b.instrs.length ≤ 1048576) :
    Calls Tryd.prog 12 #[.agg #[.int .i64 m.regs, .slice A m.blocks.length c]] w fun e w' => e = .returned (.bool (validMach m)) ∧ Below w.heap.size w w' := by
  by_cases hr : 1 ≤ m.regs ∧ m.regs ≤ 64
  · have hd1 : decide (1 ≤ m.regs ∧ m.regs ≤ 64) = true := by simpa using hr
    by_cases hn : 1 ≤ m.blocks.length ∧ m.blocks.length ≤ 3000
    · have hd2 : decide (1 ≤ (m.blocks.length : Int) ∧ (m.blocks.length : Int) ≤ 3000) = true := by simp; omega
      go_enter Tryd.func12, Tryd.ntmps12
      go_wp2_with (go_at_call 43; (with_reducible refine (within_c _ _ _ _).mono ?_); rintro e w1 ⟨rfl, rfl⟩)
      have HN := Lib.hid hn
      have HRR := Lib.hid hr
      obtain ⟨n1, n2⟩ := hn
      clear hd1 hd2
      go_loopw [4, 29] (fun t i wr => ∃ (k : Nat) (u : Ext (w.alloc (.cells #[.int .i64 m.regs, .slice A m.blocks.length c] 29))), k ≤ m.blocks.length ∧ i = .int .i64 k ∧ t = .int .i64 ((m.blocks.length : Int) + (lens (m.blocks.take k) : Int)) ∧ m.blocks.length + lens (m.blocks.take k) ≤ 20000 ∧ (m.blocks.take k).all (fun b => goodTerm b.term m.regs 0 m.blocks.length) = true ∧ wr = u.w) (fun _ i _ => m.blocks.length - (intOf i).toNat)
      case atStart => exact ⟨0, Ext.self _, by omega, rfl, rfl, by simp [lens]; omega, by simp, rfl⟩
      case round =>
        obtain ⟨k, u, hk, rfl, rfl, hz, hall, rfl⟩ := hrel
        have HA := Lib.hid hall
        clear hall
        obtain ⟨b0, b1, -⟩ := box_at u
        have hzu : w.heap.size < u.w.heap.size := by have := u.hb.size; simp at this; omega
        have hxu := (hx.below (ext_box u))
        by_cases hlt : k < m.blocks.length
        · obtain ⟨b, eb⟩ := get_of_lt hlt
          obtain ⟨a, _, rfl, ⟨_, _, rfl, ⟨A', c', rfl, l', r'⟩, rfl⟩, hc⟩ := hxu.at eb
          obtain ⟨p0, p1, p2, p3, p4⟩ := hc5 (n := k * 5) hc
          clear hc
          have hb := hs _ _ eb
          have HZ := Lib.hid (lens_snoc eb)
          have HE := Lib.hid eb
          clear eb
          by_cases hsz : m.blocks.length + lens (m.blocks.take k) + b.instrs.length ≤ 20000
          · cases hg : goodTerm b.term m.regs 0 m.blocks.length
            all_goals
              have HG := Lib.hid hg
              clear hg
              go_wp2_with (first | (go_at_call 44; refine (termOK_c b.term m.regs 0 m.blocks.length _ (by omega) (by omega) (by omega) (by omega)).mono ?_; rw [HG.out]; rintro e w1 ⟨rfl, hb1⟩; have HB1 := Below.then_ (w := u.w) (by repeat (first | (with_reducible first | exact Below.refl _ _ | assumption | exact ext_box _) | (with_reducible apply Below.drew) | ((with_reducible refine Below.setCell ?_ ?hs _); (case hs => first | (simp; done) | (simp; omega) | omega)) | ((with_reducible refine Below.alloc ?_ ?hs _); (case hs => first | (simp; done) | (simp; omega) | omega)))) hb1))
            · go_ret
              exact ⟨ret_bool (vm_term HE.out HG.out).symm, Below.trans (ext_box u) (HB1.mono (by omega))⟩
            · obtain ⟨u1, rfl⟩ := u.more HB1
              go_roundw
              case rel => exact ⟨k + 1, u1, by omega, by go_num, by rw [HZ.out]; go_num, by rw [HZ.out]; omega, all_snoc HE.out HA.out HG.out, rfl⟩
              case measure => simp [intOf]; omega
          · have HV := Lib.hid (vm_size (m := m) (by rw [machSize_eq]; have := lens_le m.blocks (k + 1); rw [HZ.out] at this; omega))
            go_wp2
            go_ret
            exact ⟨ret_bool HV.out.symm, Below.trans (ext_box u) (Below.mono (by (repeat (first | (with_reducible first | exact Below.refl _ _ | assumption | exact ext_box _) | (with_reducible apply Below.drew) | ((with_reducible refine Below.setCell ?_ ?hs _); (case hs => first | (simp; done) | (simp; omega) | omega)) | ((with_reducible refine Below.alloc ?_ ?hs _); (case hs => first | (simp; done) | (simp; omega) | omega))))) (show w.heap.size ≤ u.w.heap.size by omega))⟩
        · have hkn : k = m.blocks.length := by omega
          have HS := Lib.hid (show machSize m ≤ 20000 by rw [machSize_eq]; rw [List.take_of_length_le (by omega)] at hz; exact hz)
          have HA2 := Lib.hid (show m.blocks.all (fun b => goodTerm b.term m.regs 0 m.blocks.length) = true by have := HA.out; rwa [List.take_of_length_le (by omega)] at this)
          clear hz HA hkn
          go_wp2
          go_loopw [53] (fun i wr => ∃ (k : Nat) (u : Ext (w.alloc (.cells #[.int .i64 m.regs, .slice A m.blocks.length c] 29))), k ≤ m.blocks.length ∧ i = .int .i64 k ∧ (m.blocks.take k).all (fun b => b.instrs.all fun x => goodInstr x m.regs 13) = true ∧ wr = u.w) (fun i _ => m.blocks.length - (intOf i).toNat)
          case atStart => exact ⟨0, u, by omega, rfl, by simp, rfl⟩
          case round =>
            obtain ⟨k, u, hk, rfl, hall, rfl⟩ := hrel
            have HA := Lib.hid hall
            clear hall b0 b1 hzu hxu
            obtain ⟨b0, b1, -⟩ := box_at u
            have hzu : w.heap.size < u.w.heap.size := by have := u.hb.size; simp at this; omega
            have hxu := (hx.below (ext_box u))
            by_cases hlt : k < m.blocks.length
            · obtain ⟨b, eb⟩ := get_of_lt hlt
              obtain ⟨a, _, rfl, ⟨_, _, rfl, ⟨A', c', rfl, l', r'⟩, rfl⟩, hc⟩ := hxu.at eb
              obtain ⟨p0, p1, p2, p3, p4⟩ := hc5 (n := k * 5) hc
              clear hc
              have hb := hs _ _ eb
              have HE := Lib.hid eb
              clear eb
              go_wp2
              go_loopw [60] (fun i wr => ∃ (j : Nat) (v : Ext u.w), j ≤ b.instrs.length ∧ i = .int .i64 j ∧ (b.instrs.take j).all (fun x => goodInstr x m.regs 13) = true ∧ wr = v.w) (fun i _ => b.instrs.length - (intOf i).toNat)
              case atStart => exact ⟨0, ⟨u.w.alloc (.cells #[.slice A' b.instrs.length c', .int .i64 b.term.kind, .int .i64 b.term.a, .int .i64 b.term.to, .int .i64 b.term.els] 69), by (repeat (first | (with_reducible first | exact Below.refl _ _ | assumption | exact ext_box _) | (with_reducible apply Below.drew) | ((with_reducible refine Below.setCell ?_ ?hs _); (case hs => first | (simp; done) | (simp; omega) | omega)) | ((with_reducible refine Below.alloc ?_ ?hs _); (case hs => first | (simp; done) | (simp; omega) | omega))))⟩, by omega, rfl, by simp, rfl⟩
              case round =>
                obtain ⟨j, v, hj, rfl, hall2, rfl⟩ := hrel
                have HA3 := Lib.hid hall2
                clear hall2
                have d1 := Ext.cell b0 v
                have hzv : w.heap.size < v.w.heap.size := by have := v.hb.size; omega
                by_cases hlj : j < b.instrs.length
                · obtain ⟨x, ex⟩ := get_of_lt hlj
                  obtain ⟨a', _, rfl, rfl, hc⟩ := (r'.ext v).at ex
                  obtain ⟨q0, q1, q2, q3, q4⟩ := hc5 (n := j * 5) hc
                  clear hc
                  have EX := Lib.hid ex
                  clear ex
                  cases hg : goodInstr x m.regs 13
                  all_goals
                    have HG := Lib.hid hg
                    clear hg
                    go_wp2_with (first | (go_at_call 45; refine (instrOK_c x 13 m.regs _ (hS.below (B := w.heap.size) (Below.trans (Below.trans (ext_box u) (v.hb.mono (by omega))) (Below.mono (B := v.w.heap.size) (by (repeat (first | (with_reducible first | exact Below.refl _ _ | assumption | exact ext_box _) | (with_reducible apply Below.drew) | ((with_reducible refine Below.setCell ?_ ?hs _); (case hs => first | (simp; done) | (simp; omega) | omega)) | ((with_reducible refine Below.alloc ?_ ?hs _); (case hs => first | (simp; done) | (simp; omega) | omega))))) (by omega))) hS.pos) (by omega) (by omega) (by omega)).mono ?_; rw [HG.out]; rintro e w1 ⟨rfl, hb1⟩; have HB1 := Below.then_ (w := v.w) (by repeat (first | (with_reducible first | exact Below.refl _ _ | assumption | exact ext_box _) | (with_reducible apply Below.drew) | ((with_reducible refine Below.setCell ?_ ?hs _); (case hs => first | (simp; done) | (simp; omega) | omega)) | ((with_reducible refine Below.alloc ?_ ?hs _); (case hs => first | (simp; done) | (simp; omega) | omega)))) hb1))
                  · go_ret
                    exact ⟨ret_bool (vm_instr HE.out EX.out HG.out).symm, Below.trans (Below.trans (ext_box u) (v.hb.mono (by omega))) (HB1.mono (by omega))⟩
                  · obtain ⟨v1, rfl⟩ := v.more HB1
                    go_roundw
                    case rel => exact ⟨j + 1, v1, by omega, by go_num, all_snoc EX.out HA3.out HG.out, rfl⟩
                    case measure => simp [intOf]; omega
                · have HA4 := Lib.hid (show (b.instrs.all fun x => goodInstr x m.regs 13) = true by have := HA3.out; rwa [List.take_of_length_le (by omega)] at this)
                  obtain ⟨u1, hu1⟩ := u.more v.hb
                  have HU := Lib.hid hu1
                  clear hu1
                  go_wp2
                  go_roundw
                  case rel => exact ⟨k + 1, u1, by omega, by go_num, all_snoc HE.out HA.out HA4.out, HU.out⟩
                  case measure => simp [intOf]; omega
            · have HV := Lib.hid (vm_true HRR.out HN.out HS.out (by have := HA.out; rwa [List.take_of_length_le (by omega)] at this) HA2.out)
              go_wp2
              go_ret
              exact ⟨ret_bool HV.out.symm, ext_box u⟩
    · have hd2 : decide (1 ≤ (m.blocks.length : Int) ∧ (m.blocks.length : Int) ≤ 3000) = false := by simp; omega
      have HV := Lib.hid (vm_n hn)
      go_enter Tryd.func12, Tryd.ntmps12
      go_wp2_with (go_at_call 43; (with_reducible refine (within_c _ _ _ _).mono ?_); rintro e w1 ⟨rfl, rfl⟩)
      go_ret
      exact ⟨ret_bool HV.out.symm, by repeat (first | (with_reducible first | exact Below.refl _ _ | assumption | exact ext_box _) | (with_reducible apply Below.drew) | ((with_reducible refine Below.setCell ?_ ?hs _); (case hs => first | (simp; done) | (simp; omega) | omega)) | ((with_reducible refine Below.alloc ?_ ?hs _); (case hs => first | (simp; done) | (simp; omega) | omega)))⟩
  · have hd1 : decide (1 ≤ m.regs ∧ m.regs ≤ 64) = false := by simpa using hr
    have HV := Lib.hid (vm_regs hr)
    clear hr
    go_enter Tryd.func12, Tryd.ntmps12
    go_wp2_with (go_at_call 43; (with_reducible refine (within_c _ _ _ _).mono ?_); rintro e w1 ⟨rfl, rfl⟩)
    go_ret
    exact ⟨ret_bool HV.out.symm, by repeat (first | (with_reducible first | exact Below.refl _ _ | assumption | exact ext_box _) | (with_reducible apply Below.drew) | ((with_reducible refine Below.setCell ?_ ?hs _); (case hs => first | (simp; done) | (simp; omega) | omega)) | ((with_reducible refine Below.alloc ?_ ?hs _); (case hs => first | (simp; done) | (simp; omega) | omega)))⟩
end Go.Proofs.YtnnfjjgohhicjaaDoor
