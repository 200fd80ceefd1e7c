/- Contract: spec.ValidFunc. -/
import Derived.Test.YtnnfjjgohhicjaaDoorKg
import Derived.Test.YtnnfjjgohhicjaaDoorKd
import Derived.Test.YtnnfjjgohhicjaaDoorPw
namespace Go.Proofs.YtnnfjjgohhicjaaDoor
open Go.RowKit
set_option linter.unusedSimpArgs false
set_option linter.unusedVariables false
set_option maxRecDepth 100000

theorem ext_end {w : World} {o : Obj} (u : Ext (w.alloc o)) {w' : World} (h : Below u.w.heap.size u.w w') : Below w.heap.size w w' := (ext_box u).trans (h.mono (by have := u.hb.size; simp at this; omega))
theorem below_drewN {B : Nat} {w w' : World} (h : Below B w w') (n : Nat) : Below B w (w'.drewN n) := ⟨h.os, h.tape, h.output, h.size, h.block⟩
theorem Ext.lt {w : World} {o : Obj} (u : Ext (w.alloc o)) : w.heap.size < u.w.heap.size := by have := u.hb.size; simp at this; omega
theorem all_take {α : Type} {p : α → Bool} {xs : List α} {k : Nat} (h : (xs.take k).all p = true) (hk : xs.length ≤ k) : xs.all p = true := by rwa [List.take_of_length_le hk] at h
theorem blk_term {m : Func} {b : Block} (h1 : (b.instrs.all fun x => goodInstr x m.values 10) = true) (h2 : goodTerm b.term m.values 1 m.blocks.length = true) (h3 : sameEnds b.term = false) : blkOK m b = true := by rw [blkOK, h1, h2, h3]; rfl
def PhisUpTo (m : Func) (k : Nat) : Prop := ∀ (j : Nat) b, j < k → m.blocks[j]? = some b → ∀ (i : Nat) p, b.phis[i]? = some p → phiOK m.values (preds m.blocks j).length p = true
theorem phisUpTo_snoc {m : Func} {k : Nat} {b : Block} (h : PhisUpTo m k) (hb : m.blocks[k]? = some b) (ha : b.phis.all (phiOK m.values (preds m.blocks k).length) = true) : PhisUpTo m (k + 1) := by
  intro j c hj hc i p hp
  rcases Nat.lt_or_eq_of_le (Nat.le_of_lt_succ hj) with h1 | rfl
  · exact h j c h1 hc i p hp
  · obtain rfl := Option.some.inj (hb.symm.trans hc)
    exact List.all_eq_true.1 ha p (List.mem_of_getElem? hp)
theorem vf_all {m : Func} (h1 : 0 ≤ m.values ∧ m.values ≤ 2000) (h2 : 1 ≤ m.blocks.length ∧ m.blocks.length ≤ 1000) (h3 : sizeF m.blocks ≤ 4000) (h4 : m.blocks.all (blkOK m) = true) (h5 : PhisUpTo m m.blocks.length) (h6 : defsOK (defs m.blocks) m.values = true) : validF m = true :=
  validF_iff.2 ⟨h1, h2, h3, fun j b hb => List.all_eq_true.1 h4 b (List.mem_of_getElem? hb), fun j b hb i p hp => h5 j b (List.getElem?_eq_some_iff.1 hb).1 hb i p hp, h6⟩
theorem defs_all {L : List Int} {n : Int} (h0 : 0 ≤ n) (h1 : (L.length : Int) = n) (h2 : ∀ v : Nat, v < n → (v : Int) ∈ L) : defsOK L n = true := by
  simp only [defsOK, Bool.and_eq_true, decide_eq_true_eq, List.all_eq_true, List.mem_range]
  exact ⟨h1, fun v hv => h2 v (by omega)⟩
theorem defs_miss {L : List Int} {n : Int} {v : Nat} (hv : (v : Int) < n) (h : (v : Int) ∉ L) : defsOK L n = false := by
  cases hd : defsOK L n
  · rfl
  · simp only [defsOK, Bool.and_eq_true, decide_eq_true_eq, List.all_eq_true, List.mem_range] at hd
    exact (h (hd.2 v (by omega))).elim
theorem defs_count {L : List Int} {n : Int} (h : (L.length : Int) ≠ n) : defsOK L n = false := by simp [defsOK, h]
set_option maxHeartbeats 8000000 in
theorem validFS_c (A : Option Addr) (c : Nat) (m : Func) (w : World) (hx : C (kBlock 0 0 0) w A m.blocks) (hm : m.blocks.length ≤ 1048576) (hs : ∀ (i : Nat) b, m.blocks[i]? = some b → okBlk 1048576 b) :
    Calls Tryd.prog 15 #[.agg #[.int .i64 m.values, .slice A m.blocks.length c]] w fun e w' => e = .returned (.bool (validF m)) ∧ Below w.heap.size w w' := by
  have HSZ := Lib.hid (fun W (h : C (kBlock 0 0 0) W A m.blocks) => l1Size_c A c m W h hm hs)
  by_cases hr1 : m.values < 0
  · have HV := Lib.hid (vf_values (m := m) (by omega))
    go_enter Tryd.func15, Tryd.ntmps15
    go_wp2
    go_ret
    exact ⟨ret_bool HV.out.symm, by repeat (first | (with_reducible first | exact Below.refl _ _ | assumption | exact ext_box _) | (with_reducible apply Below.drew) | ((with_reducible refine Below.setCell ?_ ?hs _); (case hs => first | (simp; done) | (simp; omega) | omega)) | ((with_reducible refine Below.alloc ?_ ?hs _); (case hs => first | (simp; done) | (simp; omega) | omega)))⟩
  by_cases hr2 : m.values > 2000
  · have HV := Lib.hid (vf_values (m := m) (by omega))
    go_enter Tryd.func15, Tryd.ntmps15
    go_wp2
    go_ret
    exact ⟨ret_bool HV.out.symm, by repeat (first | (with_reducible first | exact Below.refl _ _ | assumption | exact ext_box _) | (with_reducible apply Below.drew) | ((with_reducible refine Below.setCell ?_ ?hs _); (case hs => first | (simp; done) | (simp; omega) | omega)) | ((with_reducible refine Below.alloc ?_ ?hs _); (case hs => first | (simp; done) | (simp; omega) | omega)))⟩
  by_cases hn1 : (m.blocks.length : Int) < 1
  · have HV := Lib.hid (vf_n (m := m) (by omega))
    go_enter Tryd.func15, Tryd.ntmps15
    go_wp2
    go_ret
    exact ⟨ret_bool HV.out.symm, by repeat (first | (with_reducible first | exact Below.refl _ _ | assumption | exact ext_box _) | (with_reducible apply Below.drew) | ((with_reducible refine Below.setCell ?_ ?hs _); (case hs => first | (simp; done) | (simp; omega) | omega)) | ((with_reducible refine Below.alloc ?_ ?hs _); (case hs => first | (simp; done) | (simp; omega) | omega)))⟩
  by_cases hn2 : (m.blocks.length : Int) > 1000
  · have HV := Lib.hid (vf_n (m := m) (by omega))
    go_enter Tryd.func15, Tryd.ntmps15
    go_wp2
    go_ret
    exact ⟨ret_bool HV.out.symm, by repeat (first | (with_reducible first | exact Below.refl _ _ | assumption | exact ext_box _) | (with_reducible apply Below.drew) | ((with_reducible refine Below.setCell ?_ ?hs _); (case hs => first | (simp; done) | (simp; omega) | omega)) | ((with_reducible refine Below.alloc ?_ ?hs _); (case hs => first | (simp; done) | (simp; omega) | omega)))⟩
  by_cases hz : sizeF m.blocks > 4000
  · have HV := Lib.hid (vf_size (m := m) hz)
    have HZ := Lib.hid (show (sizeF m.blocks : Int) > 4000 by omega)
    go_enter Tryd.func15, Tryd.ntmps15
    go_wp2_with (go_at_call 48; refine (HSZ.out _ (hx.below (by repeat (first | (with_reducible first | exact Below.refl _ _ | assumption | exact ext_box _) | (with_reducible apply Below.drew) | ((with_reducible refine Below.setCell ?_ ?hs _); (case hs => first | (simp; done) | (simp; omega) | omega)) | ((with_reducible refine Below.alloc ?_ ?hs _); (case hs => first | (simp; done) | (simp; omega) | omega)))))).mono ?_; rintro e w1 ⟨rfl, hb1⟩; have HB1 := Below.then_ (w := w) (by repeat (first | (with_reducible first | exact Below.refl _ _ | assumption | exact ext_box _) | (with_reducible apply Below.drew) | ((with_reducible refine Below.setCell ?_ ?hs _); (case hs => first | (simp; done) | (simp; omega) | omega)) | ((with_reducible refine Below.alloc ?_ ?hs _); (case hs => first | (simp; done) | (simp; omega) | omega)))) hb1; have hz' := HZ.out)
    go_ret
    exact ⟨ret_bool HV.out.symm, HB1⟩
  have HZ := Lib.hid (show ¬ (sizeF m.blocks : Int) > 4000 by omega)
  go_enter Tryd.func15, Tryd.ntmps15
  go_wp2_with (go_at_call 48; refine (HSZ.out _ (hx.below (by repeat (first | (with_reducible first | exact Below.refl _ _ | assumption | exact ext_box _) | (with_reducible apply Below.drew) | ((with_reducible refine Below.setCell ?_ ?hs _); (case hs => first | (simp; done) | (simp; omega) | omega)) | ((with_reducible refine Below.alloc ?_ ?hs _); (case hs => first | (simp; done) | (simp; omega) | omega)))))).mono ?_; rintro e w1 ⟨rfl, hb1⟩; have hz' := HZ.out)
  have HN := Lib.hid (show 1 ≤ m.blocks.length ∧ m.blocks.length ≤ 1000 by omega)
  have HRR := Lib.hid (show 0 ≤ m.values ∧ m.values ≤ 2000 by omega)
  have HS := Lib.hid (show sizeF m.blocks ≤ 4000 by omega)
  have HO := Lib.hid hs
  have HDF := Lib.hid (fun W (h : C (kBlock 0 0 0) W A m.blocks) => l1Defs_c A c m W h hm hs)
  have HDL := Lib.hid (show (defs m.blocks).length ≤ 2199023255552 by have h1 := defs_len hs m.blocks.length; rw [List.take_length] at h1; omega)
  have HPR := Lib.hid (fun b W (h : C (kBlock 0 0 0) W A m.blocks) => preds_c A c m b W h hm)
  clear hz' hz HZ hr1 hr2 hs
  obtain ⟨u0, rfl⟩ := (Ext.self (w.alloc (.cells #[.int .i64 m.values, .slice A m.blocks.length c] 40))).more hb1
  clear hb1
  go_loopw [4] (fun i wr => ∃ (k : Nat) (u : Ext (w.alloc (.cells #[.int .i64 m.values, .slice A m.blocks.length c] 40))), k ≤ m.blocks.length ∧ i = .int .i64 k ∧ (m.blocks.take k).all (blkOK m) = true ∧ wr = u.w) (fun i _ => m.blocks.length - (intOf i).toNat)
  case atStart => exact ⟨0, u0, by omega, rfl, by simp, rfl⟩
  case round =>
    clear u0
    obtain ⟨k, u, hk, rfl, hall, rfl⟩ := hrel
    have HA := Lib.hid hall
    clear hall
    obtain ⟨b0, b1, -⟩ := box_at u
    have hzu := u.lt
    by_cases hlt : k < m.blocks.length
    · obtain ⟨x, ex⟩ := get_of_lt hlt
      obtain ⟨a, _, rfl, ⟨_, _, rfl, ⟨A1', c1', rfl, l1', r1'⟩, _, _, rfl, ⟨A2', c2', rfl, l2', r2'⟩, rfl⟩, hc⟩ := (hx.below (ext_box u)).at ex
      obtain ⟨p0, p1, p2, p3, p4, p5⟩ := hc6 (n := k * 6) hc
      clear hc
      have hb : x.instrs.length ≤ 1048576 := (HO.out _ _ ex).2.2
      have HE := Lib.hid ex
      clear ex
      go_wp2
      go_loopw [6] (fun i wr => ∃ (j : Nat) (v : Ext (u.w.alloc (.cells #[.slice A1' x.phis.length c1', .slice A2' x.instrs.length c2', .int .i64 x.term.kind, .int .i64 x.term.a, .int .i64 x.term.to, .int .i64 x.term.els] 81))), j ≤ x.instrs.length ∧ i = .int .i64 j ∧ (x.instrs.take j).all (fun x => goodInstr x m.values 10) = true ∧ wr = v.w) (fun i _ => x.instrs.length - (intOf i).toNat)
      case atStart => exact ⟨0, Ext.self _, by omega, rfl, by simp, rfl⟩
      case round =>
        obtain ⟨j, v, hj, rfl, hall2, rfl⟩ := hrel
        have HA3 := Lib.hid hall2
        clear hall2 p0 p1 p2 p3 p4 p5
        have hbv := ext_box v
        have hzv := v.lt
        have d0 := (hbv.cell (p := ⟨w.heap.size, 0, none⟩) hzu).trans b0
        have d1 := (hbv.cell (p := ⟨w.heap.size, 1, none⟩) hzu).trans b1
        obtain ⟨e0, e1, e2, e3, e4, e5, -⟩ := box_at v
        have hzz : w.heap.size < v.w.heap.size := by omega
        by_cases hlj : j < x.instrs.length
        · obtain ⟨y, ey⟩ := get_of_lt hlj
          obtain ⟨a', _, rfl, rfl, hc⟩ := (r2'.below hbv).at ey
          have EX := Lib.hid ey
          clear ey
          have q := fun z : Ext v.w => hc5E (n := j * 5) hc z
          have q0 := fun z : Ext v.w => (q z).1
          have q1 := fun z : Ext v.w => (q z).2.1
          have q2 := fun z : Ext v.w => (q z).2.2.1
          have q3 := fun z : Ext v.w => (q z).2.2.2.1
          have q4 := fun z : Ext v.w => (q z).2.2.2.2
          clear hc q
          have f0 := fun z : Ext v.w => Ext.cell d0 z
          have g1 := fun z : Ext v.w => Ext.cell e1 z
          cases hg : goodInstr y m.values 10
          all_goals
            have HG := Lib.hid hg
            have hgi := fun W => goodInstr_c y m.values 10 W (by omega)
            rw [hg] at hgi
            clear hg
            go_wp2
            refine wp_region_ext (W := v.w) (by kernel_rfl) (by kernel_rfl) ⟨Ext.self v.w, rfl⟩ ?_
            repeat quiet_step ((first | (go_at_call 40; exact ext_of (hgi _))))
            refine wpQuiet_nil ?_
            rintro _ ⟨z, rfl⟩
            go_wp2
          · go_ret
            exact ⟨ret_bool (vf_instr HE.out EX.out HG.out).symm, ext_end u (Below.trans hbv (z.hb.mono (by omega)))⟩
          · obtain ⟨v1, hv1⟩ := v.more z.hb
            have HV1 := Lib.hid hv1
            clear hv1
            go_roundw
            case rel => exact ⟨j + 1, v1, by omega, by go_num, all_snoc EX.out HA3.out HG.out, HV1.out⟩
            case measure => simp [intOf]; omega
        · have HA4 := Lib.hid (all_take HA3.out (by omega))
          cases hg : goodTerm x.term m.values 1 m.blocks.length
          · have HV := Lib.hid (vf_term HE.out hg)
            have hgi := fun W => goodTermS_c x.term m.values 1 m.blocks.length W
            rw [hg] at hgi
            clear hg
            go_wp2_with (go_at_call 41; refine (hgi _).mono ?_; rintro e w1 ⟨rfl, hb1⟩; have HB1 := Below.then_ (w := v.w) (by repeat (first | (with_reducible first | exact Below.refl _ _ | assumption | exact ext_box _) | (with_reducible apply Below.drew) | ((with_reducible refine Below.setCell ?_ ?hs _); (case hs => first | (simp; done) | (simp; omega) | omega)) | ((with_reducible refine Below.alloc ?_ ?hs _); (case hs => first | (simp; done) | (simp; omega) | omega)))) hb1)
            go_ret
            exact ⟨ret_bool HV.out.symm, ext_end u (Below.trans hbv (HB1.mono (by omega)))⟩
          · have HG := Lib.hid hg
            have hgi := fun W => goodTermS_c x.term m.values 1 m.blocks.length W
            rw [hg] at hgi
            clear hg
            by_cases h2 : x.term.kind = 2
            · by_cases h3 : x.term.to = x.term.els
              · have HV := Lib.hid (vf_same HE.out h2 h3)
                have t2 : (x.term.kind == 2) = true := by simp [h2]
                have t3 : (x.term.to == x.term.els) = true := by simp [h3]
                clear h2 h3
                go_wp2_with (go_at_call 41; refine (hgi _).mono ?_; rintro e w1 ⟨rfl, hb1⟩; have HB1 := Below.then_ (w := v.w) (by repeat (first | (with_reducible first | exact Below.refl _ _ | assumption | exact ext_box _) | (with_reducible apply Below.drew) | ((with_reducible refine Below.setCell ?_ ?hs _); (case hs => first | (simp; done) | (simp; omega) | omega)) | ((with_reducible refine Below.alloc ?_ ?hs _); (case hs => first | (simp; done) | (simp; omega) | omega)))) hb1; have i2 := (HB1.cell hzv).trans e2; have i4 := (HB1.cell hzv).trans e4; have i5 := (HB1.cell hzv).trans e5)
                go_ret
                exact ⟨ret_bool HV.out.symm, ext_end u (Below.trans hbv (HB1.mono (by omega)))⟩
              · have HSE := Lib.hid (show sameEnds x.term = false by simp [sameEnds, h3])
                have t2 : (x.term.kind == 2) = true := by simp [h2]
                have t3 : (x.term.to == x.term.els) = false := by simp [h3]
                clear h2 h3
                go_wp2_with (go_at_call 41; refine (hgi _).mono ?_; rintro e w1 ⟨rfl, hb1⟩; have HB1 := Below.then_ (w := v.w) (by repeat (first | (with_reducible first | exact Below.refl _ _ | assumption | exact ext_box _) | (with_reducible apply Below.drew) | ((with_reducible refine Below.setCell ?_ ?hs _); (case hs => first | (simp; done) | (simp; omega) | omega)) | ((with_reducible refine Below.alloc ?_ ?hs _); (case hs => first | (simp; done) | (simp; omega) | omega)))) hb1; have i2 := (HB1.cell hzv).trans e2; have i4 := (HB1.cell hzv).trans e4; have i5 := (HB1.cell hzv).trans e5)
                obtain ⟨u1, rfl⟩ := u.more (Below.trans hbv (HB1.mono (by omega)))
                go_roundw
                case rel => exact ⟨k + 1, u1, by omega, by go_num, all_snoc HE.out HA.out (blk_term HA4.out HG.out HSE.out), rfl⟩
                case measure => simp [intOf]; omega
            · have HSE := Lib.hid (show sameEnds x.term = false by simp [sameEnds, h2])
              have t2 : (x.term.kind == 2) = false := by simp [h2]
              clear h2
              go_wp2_with (go_at_call 41; refine (hgi _).mono ?_; rintro e w1 ⟨rfl, hb1⟩; have HB1 := Below.then_ (w := v.w) (by repeat (first | (with_reducible first | exact Below.refl _ _ | assumption | exact ext_box _) | (with_reducible apply Below.drew) | ((with_reducible refine Below.setCell ?_ ?hs _); (case hs => first | (simp; done) | (simp; omega) | omega)) | ((with_reducible refine Below.alloc ?_ ?hs _); (case hs => first | (simp; done) | (simp; omega) | omega)))) hb1; have i2 := (HB1.cell hzv).trans e2)
              obtain ⟨u1, rfl⟩ := u.more (Below.trans hbv (HB1.mono (by omega)))
              go_roundw
              case rel => exact ⟨k + 1, u1, by omega, by go_num, all_snoc HE.out HA.out (blk_term HA4.out HG.out HSE.out), rfl⟩
              case measure => simp [intOf]; omega
    · have HA2 := Lib.hid (all_take HA.out (by omega))
      clear HA
      go_wp2
      clear hk hlt b0 b1 hzu
      go_loopw [7] (fun i wr => ∃ (k : Nat) (u : Ext (w.alloc (.cells #[.int .i64 m.values, .slice A m.blocks.length c] 40))), k ≤ m.blocks.length ∧ i = .int .i64 k ∧ PhisUpTo m k ∧ wr = u.w) (fun i _ => m.blocks.length - (intOf i).toNat)
      case atStart => exact ⟨0, u, by omega, rfl, fun j b hj => by omega, rfl⟩
      case round =>
        clear u
        obtain ⟨k, u, hk, rfl, hall, rfl⟩ := hrel
        have HA := Lib.hid hall
        clear hall
        obtain ⟨b0, b1, -⟩ := box_at u
        have hzu := u.lt
        by_cases hlt : k < m.blocks.length
        · obtain ⟨x, ex⟩ := get_of_lt hlt
          have HE := Lib.hid ex
          have hb : x.phis.length ≤ 1048576 := (HO.out _ _ ex).1
          have HOP := Lib.hid (HO.out _ _ ex).2.1
          have hpl := preds_len m.blocks (k : Int)
          clear ex
          go_wp2_with (go_at_call 49; refine (HPR.out _ _ (hx.below (by repeat (first | (with_reducible first | exact Below.refl _ _ | assumption | exact ext_box _) | (with_reducible apply Below.drew) | ((with_reducible refine Below.setCell ?_ ?hs _); (case hs => first | (simp; done) | (simp; omega) | omega)) | ((with_reducible refine Below.alloc ?_ ?hs _); (case hs => first | (simp; done) | (simp; omega) | omega)))))).mono ?_; rintro e w1 ⟨v, fp, rfl, hr, hf, hb1⟩; obtain ⟨A5, c5, rfl, hl5⟩ := hr.form; have HB1 := Below.then_ (w := u.w) (by repeat (first | (with_reducible first | exact Below.refl _ _ | assumption | exact ext_box _) | (with_reducible apply Below.drew) | ((with_reducible refine Below.setCell ?_ ?hs _); (case hs => first | (simp; done) | (simp; omega) | omega)) | ((with_reducible refine Below.alloc ?_ ?hs _); (case hs => first | (simp; done) | (simp; omega) | omega)))) hb1; clear hr hf)
          obtain ⟨u1, hu1⟩ := u.more HB1
          subst hu1
          clear b0 b1 hzu hb1 HB1
          go_loopw [9] (fun i wr => ∃ (j : Nat) (v : Ext (w.alloc (.cells #[.int .i64 m.values, .slice A m.blocks.length c] 40))), j ≤ x.phis.length ∧ i = .int .i64 j ∧ (x.phis.take j).all (phiOK m.values (preds m.blocks k).length) = true ∧ wr = v.w) (fun i _ => x.phis.length - (intOf i).toNat)
          case atStart => exact ⟨0, u1, by omega, rfl, by simp, rfl⟩
          case round =>
            clear u1 u
            obtain ⟨j, u, hj, rfl, hall2, rfl⟩ := hrel
            have HA3 := Lib.hid hall2
            clear hall2
            obtain ⟨b0, b1, -⟩ := box_at u
            have hzu := u.lt
            obtain ⟨a, _, rfl, ⟨_, _, rfl, ⟨A1', c1', rfl, l1', r1'⟩, _, _, rfl, ⟨A2', c2', rfl, l2', r2'⟩, rfl⟩, hc⟩ := (hx.below (ext_box u)).at HE.out
            obtain ⟨p0, p1, p2, p3, p4, p5⟩ := hc6 (n := k * 6) hc
            clear hc
            by_cases hlj : j < x.phis.length
            · obtain ⟨p, ep⟩ := get_of_lt hlj
              have EX := Lib.hid ep
              obtain ⟨a', _, rfl, ⟨_, _, rfl, rfl, ⟨A3', c3', rfl, l3', r3'⟩⟩, hc⟩ := r1'.at ep
              obtain ⟨q0, q1⟩ := hc2 (n := j * 2) hc
              clear hc
              have hal : p.args.length ≤ 1048576 := HOP.out _ _ ep
              clear ep
              by_cases hl1 : (p.args.length : Int) < 1
              · have HV := Lib.hid (vf_phi HE.out EX.out (phi_len (by omega)))
                go_wp2
                go_ret
                exact ⟨ret_bool HV.out.symm, ext_end u (by repeat (first | (with_reducible first | exact Below.refl _ _ | assumption | exact ext_box _) | (with_reducible apply Below.drew) | ((with_reducible refine Below.setCell ?_ ?hs _); (case hs => first | (simp; done) | (simp; omega) | omega)) | ((with_reducible refine Below.alloc ?_ ?hs _); (case hs => first | (simp; done) | (simp; omega) | omega))))⟩
              · by_cases hl2 : p.args.length = (preds m.blocks k).length
                · have HL := Lib.hid (show 1 ≤ p.args.length ∧ p.args.length = (preds m.blocks k).length by omega)
                  have hl3 : ((p.args.length : Int) != ((preds m.blocks k).length : Int)) = false := by simp [hl2]
                  clear hl2
                  go_wp2
                  go_loopw [11] (fun i wr => ∃ (l : Nat) (v : Ext (u.w.alloc (.cells #[.int .i64 p.dst, .slice A3' p.args.length c3'] 84))), l ≤ p.args.length ∧ i = .int .i64 l ∧ (p.args.take l).all (inR m.values) = true ∧ wr = v.w) (fun i _ => p.args.length - (intOf i).toNat)
                  case atStart => exact ⟨0, Ext.self _, by omega, rfl, by simp, rfl⟩
                  case round =>
                    clear p0 p1 p2 p3 p4 p5 q0 q1
                    obtain ⟨l, v, hl, rfl, hall4, rfl⟩ := hrel
                    have HA5 := Lib.hid hall4
                    clear hall4
                    have hbv := ext_box v
                    have hzv := v.lt
                    have d0 := (hbv.cell (p := ⟨w.heap.size, 0, none⟩) hzu).trans b0
                    obtain ⟨e0, e1, -⟩ := box_at v
                    have hzz : w.heap.size < v.w.heap.size := by omega
                    by_cases hll : l < p.args.length
                    · obtain ⟨y, ey⟩ := get_of_lt hll
                      obtain ⟨a4, _, rfl, rfl, hc⟩ := (r3'.below hbv).at ey
                      have s0 := hc1 (n := l * 1) hc
                      rw [Nat.mul_one] at s0
                      have EY := Lib.hid ey
                      clear hc ey
                      have s0E := fun z : Ext v.w => Ext.cell s0 z
                      have d0E := fun z : Ext v.w => Ext.cell d0 z
                      have e1E := fun z : Ext v.w => Ext.cell e1 z
                      by_cases hy : y < 0
                      · have HV := Lib.hid (vf_phi HE.out EX.out (phi_arg EY.out (inR_not.2 (by omega))))
                        go_wp2
                        go_quiet (fail)
                        go_wp2
                        go_ret
                        exact ⟨ret_bool HV.out.symm, ext_end u (below_drewN hbv _)⟩
                      · by_cases hy2 : y ≥ m.values
                        · have HV := Lib.hid (vf_phi HE.out EX.out (phi_arg EY.out (inR_not.2 (by omega))))
                          go_wp2
                          go_quiet (fail)
                          go_wp2
                          go_ret
                          exact ⟨ret_bool HV.out.symm, ext_end u (below_drewN hbv _)⟩
                        · have HIN := Lib.hid (show inR m.values y = true from inR_iff.2 (by omega))
                          go_wp2
                          go_quiet (fail)
                          go_wp2
                          go_roundw
                          case rel => exact ⟨l + 1, ⟨_, below_drewN v.hb _⟩, by omega, by go_num, all_snoc EY.out HA5.out HIN.out, rfl⟩
                          case measure => simp [intOf]; omega
                    · have HOK := Lib.hid (phi_ok HL.out (all_take HA5.out (by omega)))
                      obtain ⟨u1, hu1⟩ := u.more hbv
                      have HU := Lib.hid hu1
                      clear hu1
                      go_wp2
                      go_roundw
                      case rel => exact ⟨j + 1, u1, by omega, by go_num, all_snoc EX.out HA3.out HOK.out, HU.out⟩
                      case measure => simp [intOf]; omega
                · have HV := Lib.hid (vf_phi HE.out EX.out (phi_len (np := (preds m.blocks k).length) (by omega)))
                  have hl3 : ((p.args.length : Int) != ((preds m.blocks k).length : Int)) = true := by simp; omega
                  clear hl2
                  go_wp2
                  go_ret
                  exact ⟨ret_bool HV.out.symm, ext_end u (by repeat (first | (with_reducible first | exact Below.refl _ _ | assumption | exact ext_box _) | (with_reducible apply Below.drew) | ((with_reducible refine Below.setCell ?_ ?hs _); (case hs => first | (simp; done) | (simp; omega) | omega)) | ((with_reducible refine Below.alloc ?_ ?hs _); (case hs => first | (simp; done) | (simp; omega) | omega))))⟩
            · have HA4 := Lib.hid (all_take HA3.out (by omega))
              go_wp2
              go_roundw
              case rel => exact ⟨k + 1, u, by omega, by go_num, phisUpTo_snoc HA.out HE.out HA4.out, rfl⟩
              case measure => simp [intOf]; omega
        · have HP := Lib.hid (show PhisUpTo m m.blocks.length by have := HA.out; rwa [show k = m.blocks.length by omega] at this)
          clear HA
          by_cases hdl : ((defs m.blocks).length : Int) = m.values
          · have HD := Lib.hid hdl
            have hd1 : (((defs m.blocks).length : Int) != m.values) = false := by simp [hdl]
            clear hdl
            go_wp2_with (go_at_call 50; refine (HDF.out _ (hx.below (by repeat (first | (with_reducible first | exact Below.refl _ _ | assumption | exact ext_box _) | (with_reducible apply Below.drew) | ((with_reducible refine Below.setCell ?_ ?hs _); (case hs => first | (simp; done) | (simp; omega) | omega)) | ((with_reducible refine Below.alloc ?_ ?hs _); (case hs => first | (simp; done) | (simp; omega) | omega)))))).mono ?_; rintro e w1 ⟨v, fp, rfl, hr, hf, hb1⟩; obtain ⟨A5, c5, rfl, hl5⟩ := hr.form; have HB1 := Below.then_ (w := u.w) (by repeat (first | (with_reducible first | exact Below.refl _ _ | assumption | exact ext_box _) | (with_reducible apply Below.drew) | ((with_reducible refine Below.setCell ?_ ?hs _); (case hs => first | (simp; done) | (simp; omega) | omega)) | ((with_reducible refine Below.alloc ?_ ?hs _); (case hs => first | (simp; done) | (simp; omega) | omega)))) hb1; have HC := Lib.hid hr.reads; clear hr hf; have b0' := (HB1.cell (p := ⟨w.heap.size, 0, none⟩) hzu).trans b0)
            have HHC := Lib.hid (fun x => has_c A5 c5 (defs m.blocks) x w1 HC.out (by have := HDL.out; omega))
            have hvr := HRR.out
            have hd2 := HD.out
            clear hk hlt
            go_loop [13] (fun i => ∃ j : Nat, (j : Int) ≤ m.values ∧ i = .int .i64 j ∧ ∀ v : Nat, v < j → (v : Int) ∈ defs m.blocks) (fun i => m.values.toNat - (intOf i).toNat)
            case atStart => exact ⟨0, by omega, rfl, by omega⟩
            case round =>
              obtain ⟨j, hj, rfl, hin⟩ := hrel
              have HIN := Lib.hid hin
              clear hin
              by_cases hlj : (j : Int) < m.values
              · by_cases hmem : (j : Int) ∈ defs m.blocks
                · have HM := Lib.hid hmem
                  have hhc := HHC.out (j : Int)
                  rw [decide_eq_true hmem] at hhc
                  clear hmem hd2
                  go_wp2_with (go_at_call 51; refine hhc.mono ?_; rintro e w2 ⟨rfl, rfl⟩)
                  go_round
                  case rel => exact ⟨j + 1, by omega, by go_num, fun v hv => by rcases Nat.lt_or_eq_of_le (Nat.le_of_lt_succ hv) with h | rfl; exact HIN.out v h; exact HM.out⟩
                  case measure => simp [intOf]; omega
                · have HV := Lib.hid (vf_defs (m := m) (defs_miss hlj hmem))
                  have hhc := HHC.out (j : Int)
                  rw [decide_eq_false hmem] at hhc
                  clear hmem hd2
                  go_wp2_with (go_at_call 51; refine hhc.mono ?_; rintro e w2 ⟨rfl, rfl⟩)
                  go_ret
                  exact ⟨ret_bool HV.out.symm, ext_end u HB1⟩
              · have HV := Lib.hid (vf_all HRR.out HN.out HS.out HA2.out HP.out (defs_all HRR.out.1 HD.out fun v hv => HIN.out v (by omega)))
                clear hd2
                go_wp2
                go_ret
                exact ⟨ret_bool HV.out.symm, ext_end u HB1⟩
          · have HV := Lib.hid (vf_defs (m := m) (defs_count hdl))
            have hd1 : (((defs m.blocks).length : Int) != m.values) = true := by simp [hdl]
            clear hdl
            go_wp2_with (go_at_call 50; refine (HDF.out _ (hx.below (by repeat (first | (with_reducible first | exact Below.refl _ _ | assumption | exact ext_box _) | (with_reducible apply Below.drew) | ((with_reducible refine Below.setCell ?_ ?hs _); (case hs => first | (simp; done) | (simp; omega) | omega)) | ((with_reducible refine Below.alloc ?_ ?hs _); (case hs => first | (simp; done) | (simp; omega) | omega)))))).mono ?_; rintro e w1 ⟨v, fp, rfl, hr, hf, hb1⟩; obtain ⟨A5, c5, rfl, hl5⟩ := hr.form; have HB1 := Below.then_ (w := u.w) (by repeat (first | (with_reducible first | exact Below.refl _ _ | assumption | exact ext_box _) | (with_reducible apply Below.drew) | ((with_reducible refine Below.setCell ?_ ?hs _); (case hs => first | (simp; done) | (simp; omega) | omega)) | ((with_reducible refine Below.alloc ?_ ?hs _); (case hs => first | (simp; done) | (simp; omega) | omega)))) hb1; clear hr hf; have b0' := (HB1.cell (p := ⟨w.heap.size, 0, none⟩) hzu).trans b0)
            go_ret
            exact ⟨ret_bool HV.out.symm, ext_end u HB1⟩
end Go.Proofs.YtnnfjjgohhicjaaDoor
