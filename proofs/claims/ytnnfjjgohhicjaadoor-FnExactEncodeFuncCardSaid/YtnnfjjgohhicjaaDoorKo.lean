/- Contracts: spec.l4Size, spec.ValidMach. -/
import Derived.Test.YtnnfjjgohhicjaaDoorKg
import Derived.Test.YtnnfjjgohhicjaaDoorKn
namespace Go.Proofs.YtnnfjjgohhicjaaDoor
open Go.RowKit
set_option linter.unusedSimpArgs false
set_option linter.unusedVariables false
set_option maxRecDepth 100000

theorem lens_bound {bs : List MBlock} (h : ∀ (i : Nat) b, bs[i]? = some b → b.instrs.length ≤ 1048576) : lens bs ≤ bs.length * 1048576 := by
  induction bs with
  | nil => simp [lens]
  | cons b r ih =>
    have h0 := h 0 b rfl
    have h1 := ih fun i c hc => h (i + 1) c (by simpa using hc)
    simp only [lens, List.map_cons, List.sum_cons, List.length_cons] at *
    omega
theorem l4Size_c (A : Option Addr) (c : Nat) (m : Mach) (w : World) (hx : C (kMB 0) w A m.blocks) (hm : m.blocks.length ≤ 1048576) (hs : ∀ (i : Nat) b, m.blocks[i]? = some b → b.instrs.length ≤ 1048576) :
    Calls Tryd.prog 39 #[.agg #[.int .i64 m.regs, .slice A m.blocks.length c]] w fun e w' => e = .returned (.int .i64 (machSize m)) ∧ Below w.heap.size w w' := by
  have hxu := hx.below (w' := w.alloc (.cells #[.int .i64 m.regs, .slice A m.blocks.length c] 29)) (by repeat (first | (with_reducible first | exact Below.refl _ _ | assumption | exact ext_box _) | (with_reducible apply Below.drew) | ((with_reducible refine Below.setCell ?_ ?hs _); (case hs => first | (simp; done) | (simp; omega) | omega)) | ((with_reducible refine Below.alloc ?_ ?hs _); (case hs => first | (simp; done) | (simp; omega) | omega))))
  go_enter Tryd.func39, Tryd.ntmps39
  go_wp2
  go_loop [3, 4] (fun t i => ∃ k : Nat, k ≤ m.blocks.length ∧ i = .int .i64 k ∧ t = .int .i64 ((k : Int) + (lens (m.blocks.take k) : Int))) (fun _ i => m.blocks.length - (intOf i).toNat)
  case atStart => exact ⟨0, by omega, rfl, by simp [lens]⟩
  case round =>
    obtain ⟨k, hk, rfl, rfl⟩ := hrel
    by_cases hlt : k < m.blocks.length
    · obtain ⟨b, eb⟩ := get_of_lt hlt
      obtain ⟨a, _, rfl, ⟨_, _, rfl, ⟨A', c', rfl, l', r'⟩, rfl⟩, hc⟩ := hxu.at eb
      obtain ⟨p0, p1, p2, p3, p4⟩ := hc5 (n := k * 5) hc
      clear hc
      have hb := hs _ _ eb
      have hl := lens_le m.blocks k
      have hl2 := lens_bound hs
      have HZ := Lib.hid (lens_snoc eb)
      clear eb
      go_wp2
      go_round
      case rel => exact ⟨k + 1, by omega, by go_num, by rw [HZ.out]; go_num⟩
      case measure => simp [intOf]; omega
    · have hkn : k = m.blocks.length := by omega
      go_wp2
      go_ret
      exact ⟨ret_int (by subst hkn; simp [machSize_eq]), by repeat (first | (with_reducible first | exact Below.refl _ _ | assumption | exact ext_box _) | (with_reducible apply Below.drew) | ((with_reducible refine Below.setCell ?_ ?hs _); (case hs => first | (simp; done) | (simp; omega) | omega)) | ((with_reducible refine Below.alloc ?_ ?hs _); (case hs => first | (simp; done) | (simp; omega) | omega)))⟩
theorem vm_all {m : Mach} (h1 : 1 ≤ m.regs ∧ m.regs ≤ 64) (h2 : 1 ≤ m.blocks.length ∧ m.blocks.length ≤ 3000) (h3 : machSize m ≤ 20000) (h4 : m.blocks.all (fun b => (b.instrs.all fun x => goodInstr x m.regs 13) && goodTerm b.term m.regs 0 m.blocks.length) = true) : validMach m = true := by
  simp only [validMach, Bool.and_eq_true, decide_eq_true_eq]
  exact ⟨⟨⟨h1, h2⟩, h3⟩, h4⟩
set_option maxHeartbeats 4000000 in
theorem validMachS_c (A : Option Addr) (c : Nat) (m : Mach) (w : World) (hx : C (kMB 0) w A m.blocks) (hm : m.blocks.length ≤ 1048576) (hs : ∀ (i : Nat) b, m.blocks[i]? = some b → b.instrs.length ≤ 1048576) :
    Calls Tryd.prog 10 #[.agg #[.int .i64 m.regs, .slice A m.blocks.length c]] w fun e w' => e = .returned (.bool (validMach m)) ∧ Below w.heap.size w w' := by
  have HSZ := Lib.hid (fun W (h : C (kMB 0) W A m.blocks) => l4Size_c A c m W h hm hs)
  by_cases hr1 : m.regs < 1
  · have HV := Lib.hid (vm_regs (m := m) (by omega))
    go_enter Tryd.func10, Tryd.ntmps10
    go_wp2
    go_ret
    exact ⟨ret_bool HV.out.symm, by repeat (first | (with_reducible first | exact Below.refl _ _ | assumption | exact ext_box _) | (with_reducible apply Below.drew) | ((with_reducible refine Below.setCell ?_ ?hs _); (case hs => first | (simp; done) | (simp; omega) | omega)) | ((with_reducible refine Below.alloc ?_ ?hs _); (case hs => first | (simp; done) | (simp; omega) | omega)))⟩
  by_cases hr2 : m.regs > 64
  · have HV := Lib.hid (vm_regs (m := m) (by omega))
    go_enter Tryd.func10, Tryd.ntmps10
    go_wp2
    go_ret
    exact ⟨ret_bool HV.out.symm, by repeat (first | (with_reducible first | exact Below.refl _ _ | assumption | exact ext_box _) | (with_reducible apply Below.drew) | ((with_reducible refine Below.setCell ?_ ?hs _); (case hs => first | (simp; done) | (simp; omega) | omega)) | ((with_reducible refine Below.alloc ?_ ?hs _); (case hs => first | (simp; done) | (simp; omega) | omega)))⟩
  by_cases hn1 : (m.blocks.length : Int) < 1
  · have HV := Lib.hid (vm_n (m := m) (by omega))
    go_enter Tryd.func10, Tryd.ntmps10
    go_wp2
    go_ret
    exact ⟨ret_bool HV.out.symm, by repeat (first | (with_reducible first | exact Below.refl _ _ | assumption | exact ext_box _) | (with_reducible apply Below.drew) | ((with_reducible refine Below.setCell ?_ ?hs _); (case hs => first | (simp; done) | (simp; omega) | omega)) | ((with_reducible refine Below.alloc ?_ ?hs _); (case hs => first | (simp; done) | (simp; omega) | omega)))⟩
  by_cases hn2 : (m.blocks.length : Int) > 3000
  · have HV := Lib.hid (vm_n (m := m) (by omega))
    go_enter Tryd.func10, Tryd.ntmps10
    go_wp2
    go_ret
    exact ⟨ret_bool HV.out.symm, by repeat (first | (with_reducible first | exact Below.refl _ _ | assumption | exact ext_box _) | (with_reducible apply Below.drew) | ((with_reducible refine Below.setCell ?_ ?hs _); (case hs => first | (simp; done) | (simp; omega) | omega)) | ((with_reducible refine Below.alloc ?_ ?hs _); (case hs => first | (simp; done) | (simp; omega) | omega)))⟩
  by_cases hz : machSize m > 20000
  · have HV := Lib.hid (vm_size (m := m) hz)
    have HZ := Lib.hid (show (machSize m : Int) > 20000 by omega)
    go_enter Tryd.func10, Tryd.ntmps10
    go_wp2_with (go_at_call 39; refine (HSZ.out _ (hx.below (by repeat (first | (with_reducible first | exact Below.refl _ _ | assumption | exact ext_box _) | (with_reducible apply Below.drew) | ((with_reducible refine Below.setCell ?_ ?hs _); (case hs => first | (simp; done) | (simp; omega) | omega)) | ((with_reducible refine Below.alloc ?_ ?hs _); (case hs => first | (simp; done) | (simp; omega) | omega)))))).mono ?_; rintro e w1 ⟨rfl, hb1⟩; have HB1 := Below.then_ (w := w) (by repeat (first | (with_reducible first | exact Below.refl _ _ | assumption | exact ext_box _) | (with_reducible apply Below.drew) | ((with_reducible refine Below.setCell ?_ ?hs _); (case hs => first | (simp; done) | (simp; omega) | omega)) | ((with_reducible refine Below.alloc ?_ ?hs _); (case hs => first | (simp; done) | (simp; omega) | omega)))) hb1; have hz' := HZ.out)
    go_ret
    exact ⟨ret_bool HV.out.symm, HB1⟩
  have HZ := Lib.hid (show ¬ (machSize m : Int) > 20000 by omega)
  go_enter Tryd.func10, Tryd.ntmps10
  go_wp2_with (go_at_call 39; refine (HSZ.out _ (hx.below (by repeat (first | (with_reducible first | exact Below.refl _ _ | assumption | exact ext_box _) | (with_reducible apply Below.drew) | ((with_reducible refine Below.setCell ?_ ?hs _); (case hs => first | (simp; done) | (simp; omega) | omega)) | ((with_reducible refine Below.alloc ?_ ?hs _); (case hs => first | (simp; done) | (simp; omega) | omega)))))).mono ?_; rintro e w1 ⟨rfl, hb1⟩; have hz' := HZ.out)
  have HN := Lib.hid (show 1 ≤ m.blocks.length ∧ m.blocks.length ≤ 3000 by omega)
  have HRR := Lib.hid (show 1 ≤ m.regs ∧ m.regs ≤ 64 by omega)
  have HS := Lib.hid (show machSize m ≤ 20000 by omega)
  clear hz' hz HZ hr1 hr2
  obtain ⟨u0, rfl⟩ := (Ext.self (w.alloc (.cells #[.int .i64 m.regs, .slice A m.blocks.length c] 29))).more hb1
  clear hb1
  go_loopw [4] (fun i wr => ∃ (k : Nat) (u : Ext (w.alloc (.cells #[.int .i64 m.regs, .slice A m.blocks.length c] 29))), k ≤ m.blocks.length ∧ i = .int .i64 k ∧ (m.blocks.take k).all (fun b => (b.instrs.all fun x => goodInstr x m.regs 13) && goodTerm b.term m.regs 0 m.blocks.length) = true ∧ wr = u.w) (fun i _ => m.blocks.length - (intOf i).toNat)
  case atStart => exact ⟨0, u0, by omega, rfl, by simp, rfl⟩
  case round =>
    obtain ⟨k, u, hk, rfl, hall, rfl⟩ := hrel
    have HA := Lib.hid hall
    clear hall
    obtain ⟨b0, b1, -⟩ := box_at u
    have hzu : w.heap.size < u.w.heap.size := by have := u.hb.size; simp at this; omega
    have hxu := (hx.below (ext_box u))
    by_cases hlt : k < m.blocks.length
    · obtain ⟨b, eb⟩ := get_of_lt hlt
      obtain ⟨a, _, rfl, ⟨_, _, rfl, ⟨A', c', rfl, l', r'⟩, rfl⟩, hc⟩ := hxu.at eb
      obtain ⟨p0, p1, p2, p3, p4⟩ := hc5 (n := k * 5) hc
      clear hc
      have hb := hs _ _ eb
      have HE := Lib.hid eb
      clear eb
      go_wp2
      go_loopw [5] (fun i wr => ∃ (j : Nat) (v : Ext u.w), j ≤ b.instrs.length ∧ i = .int .i64 j ∧ (b.instrs.take j).all (fun x => goodInstr x m.regs 13) = true ∧ wr = v.w) (fun i _ => b.instrs.length - (intOf i).toNat)
      case atStart => exact ⟨0, Ext.self _, by omega, rfl, by simp, rfl⟩
      case round =>
        obtain ⟨j, v, hj, rfl, hall2, rfl⟩ := hrel
        have HA3 := Lib.hid hall2
        clear hall2
        have d0 := Ext.cell b0 v
        have d1 := Ext.cell b1 v
        have e0 := Ext.cell p0 v
        have e1 := Ext.cell p1 v
        have e2 := Ext.cell p2 v
        have e3 := Ext.cell p3 v
        have e4 := Ext.cell p4 v
        have hzv : w.heap.size < v.w.heap.size := by have := v.hb.size; omega
        by_cases hlj : j < b.instrs.length
        · obtain ⟨x, ex⟩ := get_of_lt hlj
          obtain ⟨a', _, rfl, rfl, hc⟩ := (r'.ext v).at ex
          have EX := Lib.hid ex
          clear ex
          have q := fun z : Ext v.w => hc5E (n := j * 5) hc z
          have q0 := fun z : Ext v.w => (q z).1
          have q1 := fun z : Ext v.w => (q z).2.1
          have q2 := fun z : Ext v.w => (q z).2.2.1
          have q3 := fun z : Ext v.w => (q z).2.2.2.1
          have q4 := fun z : Ext v.w => (q z).2.2.2.2
          clear hc q
          have f0 := fun z : Ext v.w => Ext.cell d0 z
          have f1 := fun z : Ext v.w => Ext.cell d1 z
          have g0 := fun z : Ext v.w => Ext.cell e0 z
          cases hg : goodInstr x m.regs 13
          all_goals
            have HG := Lib.hid hg
            have hgi := fun W => goodInstr_c x m.regs 13 W (by omega)
            rw [hg] at hgi
            clear hg
            go_wp2
            refine wp_region_ext (W := v.w) (by kernel_rfl) (by kernel_rfl) ⟨Ext.self v.w, rfl⟩ ?_
            repeat quiet_step ((first | (go_at_call 40; exact ext_of (hgi _))))
            refine wpQuiet_nil ?_
            rintro _ ⟨z, rfl⟩
            go_wp2
          · go_ret
            exact ⟨ret_bool (vm_instr HE.out EX.out HG.out).symm, Below.trans (ext_box u) (Below.trans (v.hb.mono (by omega)) (z.hb.mono (by omega)))⟩
          · obtain ⟨v1, hv1⟩ := v.more z.hb
            have HV1 := Lib.hid hv1
            clear hv1
            go_roundw
            case rel => exact ⟨j + 1, v1, by omega, by go_num, all_snoc EX.out HA3.out HG.out, HV1.out⟩
            case measure => simp [intOf]; omega
        · have HA4 := Lib.hid (show (b.instrs.all fun x => goodInstr x m.regs 13) = true by have := HA3.out; rwa [List.take_of_length_le (by omega)] at this)
          have f0 := fun z : Ext v.w => Ext.cell d0 z
          have f1 := fun z : Ext v.w => Ext.cell d1 z
          have g1 := fun z : Ext v.w => Ext.cell e1 z
          have g2 := fun z : Ext v.w => Ext.cell e2 z
          have g3 := fun z : Ext v.w => Ext.cell e3 z
          have g4 := fun z : Ext v.w => Ext.cell e4 z
          cases hg : goodTerm b.term m.regs 0 m.blocks.length
          all_goals
            have HG := Lib.hid hg
            have hgi := fun W => goodTermS_c b.term m.regs 0 m.blocks.length W
            rw [hg] at hgi
            clear hg
            go_wp2
            refine wp_region_ext (W := v.w) (by kernel_rfl) (by kernel_rfl) ⟨Ext.self v.w, rfl⟩ ?_
            repeat quiet_step ((first | (go_at_call 41; exact ext_of (hgi _))))
            refine wpQuiet_nil ?_
            rintro _ ⟨z, rfl⟩
            go_wp2
          · go_ret
            exact ⟨ret_bool (vm_term HE.out HG.out).symm, Below.trans (ext_box u) (Below.trans (v.hb.mono (by omega)) (z.hb.mono (by omega)))⟩
          · obtain ⟨u1, hu1⟩ := u.more (Below.then_ v.hb z.hb)
            have HU := Lib.hid hu1
            clear hu1
            go_roundw
            case rel => exact ⟨k + 1, u1, by omega, by go_num, all_snoc HE.out HA.out (by rw [HA4.out, HG.out]; rfl), HU.out⟩
            case measure => simp [intOf]; omega
    · have HV := Lib.hid (vm_all HRR.out HN.out HS.out (by have := HA.out; rwa [List.take_of_length_le (by omega)] at this))
      go_wp2
      go_ret
      exact ⟨ret_bool HV.out.symm, ext_box u⟩
end Go.Proofs.YtnnfjjgohhicjaaDoor
