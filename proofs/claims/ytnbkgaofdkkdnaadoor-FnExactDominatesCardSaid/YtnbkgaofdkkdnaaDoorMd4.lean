/- Over the laid table impl.shapes: what the walks need of it; a world for the witness. No condition. -/
import Derived.Test.YtnbkgaofdkkdnaaDoorKt
import Derived.Test.YtnbkgaofdkkdnaaDoorKu
import Derived.Test.YtnbkgaofdkkdnaaDoorKy
import Derived.Test.YtnbkgaofdkkdnaaDoorKs
import Derived.Test.YtnbkgaofdkkdnaaDoorMd3
import Derived.Deep.RegionHeld3
import Derived.ChangeArms
import Derived.ChangeVars
import Derived.OpenShut
import Derived.WideShapes
import Derived.Carry
import Derived.DataElems
import Derived.Test.YtnbkgaofdkkdnaaDoorRows
import Derived.Test.YtnbkgaofdkkdnaaDoorKh
import Derived.WalkKit
import Derived.ProofKit
import Derived.Deep.DeepHandedRow
import Derived.SizedLaws
namespace Go.Proofs.YtnbkgaofdkkdnaaDoor
open Go.RowKit
set_option linter.unusedSimpArgs false
set_option linter.unusedVariables false
set_option maxRecDepth 100000

theorem eqInstr_c (x y : Instr) (w : World) : Calls Tryd.prog 110 #[x.v, y.v] w fun e w' => e = .returned (.bool (decide (x = y))) ∧ Below w.heap.size w w' := by
  obtain ⟨a0, a1, a2, a3, a4⟩ := x
  obtain ⟨b0, b1, b2, b3, b4⟩ := y
  simp only [Instr.v]
  go_enter Tryd.func110, Tryd.ntmps110
  go_wp2
  all_goals go_ret
  all_goals go_light
  all_goals exact ⟨by simp_all, by repeat (first | (with_reducible first | exact Below.refl _ _ | assumption | exact ext_box _) | (with_reducible apply Below.drew) | ((with_reducible refine Below.setCell ?_ ?hs _); (case hs => first | (simp; done) | (simp; omega) | omega)) | ((with_reducible refine Below.alloc ?_ ?hs _); (case hs => first | (simp; done) | (simp; omega) | omega)))⟩
theorem eqTerm_c (x y : Term) (w : World) : Calls Tryd.prog 102 #[x.v, y.v] w fun e w' => e = .returned (.bool (decide (x = y))) ∧ Below w.heap.size w w' := by
  obtain ⟨a0, a1, a2, a3⟩ := x
  obtain ⟨b0, b1, b2, b3⟩ := y
  simp only [Term.v]
  go_enter Tryd.func102, Tryd.ntmps102
  go_wp2
  all_goals go_ret
  all_goals go_light
  all_goals exact ⟨by simp_all, by repeat (first | (with_reducible first | exact Below.refl _ _ | assumption | exact ext_box _) | (with_reducible apply Below.drew) | ((with_reducible refine Below.setCell ?_ ?hs _); (case hs => first | (simp; done) | (simp; omega) | omega)) | ((with_reducible refine Below.alloc ?_ ?hs _); (case hs => first | (simp; done) | (simp; omega) | omega)))⟩
set_option maxHeartbeats 2000000 in
theorem eqInstrS_c (A0 A1 : Option Addr) (c0 c1 : Nat) (xs ys : List Instr) (w : World) (hx : C kInstr w A0 xs) (hy : C kInstr w A1 ys) (hm : xs.length ≤ 140737488351232) (hm2 : ys.length ≤ 140737488351232) :
    Calls Tryd.prog 101 #[.slice A0 xs.length c0, .slice A1 ys.length c1] w fun e w' => e = .returned (.bool (decide (xs = ys))) ∧ Below w.heap.size w w' := by
  go_enter Tryd.func101, Tryd.ntmps101
  by_cases hl : xs.length = ys.length
  · have hb : ((xs.length : Int) != ys.length) = false := by simp [hl]
    have HL := Lib.hid hl
    clear hl
    go_wp2
    go_loopw [5] (fun i wr => ∃ k : Nat, k ≤ xs.length ∧ i = .int .i64 k ∧ xs.take k = ys.take k ∧ ∃ u : Ext w, wr = u.w) (fun i _ => xs.length - (intOf i).toNat)
    case atStart => exact ⟨0, by omega, rfl, by simp, Ext.self w, rfl⟩
    case round =>
      obtain ⟨k, hk, rfl, ht, u, rfl⟩ := hrel
      have HT := Lib.hid ht
      clear ht
      by_cases hlt : k < xs.length
      · obtain ⟨x, ex⟩ := get_of_lt hlt
        obtain ⟨y, ey⟩ := get_of_lt (HL.out ▸ hlt)
        obtain ⟨a0, _, rfl, rfl, hxc⟩ := hx.at ex
        have P0 := hc5E (n := k * 5) hxc
        clear hxc
        obtain ⟨a1, _, rfl, rfl, hyc⟩ := hy.at ey
        have P1 := hc5E (n := k * 5) hyc
        clear hyc
        have hlt2 : k < ys.length := HL.out ▸ hlt
        have EX := Lib.hid ex
        have EY := Lib.hid ey
        by_cases he : x = y
        · have hd : decide (x = y) = true := by simp [he]
          have HE := Lib.hid he
          clear he ex ey
          go_wp2
          refine wp_region_ext (W := w) (by kernel_rfl) (by kernel_rfl) ⟨_, rfl⟩ ?_
          repeat quiet_step ((first | (go_at_call 110; exact ext_of (eqInstr_c x y _))))
          refine wpQuiet_nil ?_
          rintro _ ⟨u, rfl⟩
          go_wp2
          go_roundw
          case rel => exact ⟨k + 1, by omega, by go_num, by rw [take_snoc EX.out, take_snoc EY.out, HT.out, HE.out], _, rfl⟩
          case measure => simp [intOf]; omega
        · have hd : decide (x = y) = false := by simp [he]
          have HE := Lib.hid (show xs ≠ ys by rintro rfl; rw [ex] at ey; injection ey with e; exact he e)
          clear he ex ey
          go_wp2
          refine wp_region_ext (W := w) (by kernel_rfl) (by kernel_rfl) ⟨_, rfl⟩ ?_
          repeat quiet_step ((first | (go_at_call 110; exact ext_of (eqInstr_c x y _))))
          refine wpQuiet_nil ?_
          rintro _ ⟨u, rfl⟩
          go_wp2
          go_ret
          exact ⟨ret_bool (by simp [HE.out]), u.hb⟩
      · have HR := Lib.hid (show xs = ys by have := HT.out; rwa [List.take_of_length_le (by omega), List.take_of_length_le (by have := HL.out; omega)] at this)
        go_wp2
        go_ret
        exact ⟨ret_bool (by simp [HR.out]), u.hb⟩
  · have hb : ((xs.length : Int) != ys.length) = true := by simp; omega
    have HN := Lib.hid (show xs ≠ ys from fun e => hl (by rw [e]))
    clear hl
    go_wp2
    go_ret
    exact ⟨ret_bool (by simp [HN.out]), Below.refl _ _⟩
end Go.Proofs.YtnbkgaofdkkdnaaDoor
namespace Go.Proofs.YtnbkgaofdkkdnaaDoor
open Go.RowKit
set_option linter.unusedSimpArgs false
set_option linter.unusedVariables false
set_option maxRecDepth 100000

set_option maxHeartbeats 2000000 in
theorem eqInt64S_c (A0 A1 : Option Addr) (c0 c1 : Nat) (xs ys : List Int) (w : World) (hx : C (kInt .i64) w A0 xs) (hy : C (kInt .i64) w A1 ys) (hm : xs.length ≤ 140737488351232) (hm2 : ys.length ≤ 140737488351232) :
    Calls Tryd.prog 41 #[.slice A0 xs.length c0, .slice A1 ys.length c1] w fun e w' => e = .returned (.bool (decide (xs = ys))) ∧ Below w.heap.size w w' := by
  go_enter Tryd.func41, Tryd.ntmps41
  by_cases hl : xs.length = ys.length
  · have hb : ((xs.length : Int) != ys.length) = false := by simp [hl]
    have HL := Lib.hid hl
    clear hl
    go_wp2
    go_loopw [5] (fun i wr => ∃ k : Nat, k ≤ xs.length ∧ i = .int .i64 k ∧ xs.take k = ys.take k ∧ ∃ u : Ext w, wr = u.w) (fun i _ => xs.length - (intOf i).toNat)
    case atStart => exact ⟨0, by omega, rfl, by simp, Ext.self w, rfl⟩
    case round =>
      obtain ⟨k, hk, rfl, ht, u, rfl⟩ := hrel
      have HT := Lib.hid ht
      clear ht
      by_cases hlt : k < xs.length
      · obtain ⟨x, ex⟩ := get_of_lt hlt
        obtain ⟨y, ey⟩ := get_of_lt (HL.out ▸ hlt)
        obtain ⟨a0, _, rfl, rfl, hxc⟩ := hx.at ex
        have P0 := hc1E (n := k * 1) hxc
        rw [Nat.mul_one] at P0
        clear hxc
        obtain ⟨a1, _, rfl, rfl, hyc⟩ := hy.at ey
        have P1 := hc1E (n := k * 1) hyc
        rw [Nat.mul_one] at P1
        clear hyc
        have hlt2 : k < ys.length := HL.out ▸ hlt
        have EX := Lib.hid ex
        have EY := Lib.hid ey
        by_cases he : x = y
        · have hd : (x != y) = false := by simp [he]
          have HE := Lib.hid he
          clear he ex ey
          go_wp2
          refine wp_region_ext (W := w) (by kernel_rfl) (by kernel_rfl) ⟨_, rfl⟩ ?_
          repeat quiet_step ((fail))
          refine wpQuiet_nil ?_
          rintro _ ⟨u, rfl⟩
          go_wp2
          go_roundw
          case rel => exact ⟨k + 1, by omega, by go_num, by rw [take_snoc EX.out, take_snoc EY.out, HT.out, HE.out], _, rfl⟩
          case measure => simp [intOf]; omega
        · have hd : (x != y) = true := by simp [he]
          have HE := Lib.hid (show xs ≠ ys by rintro rfl; rw [ex] at ey; injection ey with e; exact he e)
          clear he ex ey
          go_wp2
          refine wp_region_ext (W := w) (by kernel_rfl) (by kernel_rfl) ⟨_, rfl⟩ ?_
          repeat quiet_step ((fail))
          refine wpQuiet_nil ?_
          rintro _ ⟨u, rfl⟩
          go_wp2
          go_ret
          exact ⟨ret_bool (by simp [HE.out]), u.hb⟩
      · have HR := Lib.hid (show xs = ys by have := HT.out; rwa [List.take_of_length_le (by omega), List.take_of_length_le (by have := HL.out; omega)] at this)
        go_wp2
        go_ret
        exact ⟨ret_bool (by simp [HR.out]), u.hb⟩
  · have hb : ((xs.length : Int) != ys.length) = true := by simp; omega
    have HN := Lib.hid (show xs ≠ ys from fun e => hl (by rw [e]))
    clear hl
    go_wp2
    go_ret
    exact ⟨ret_bool (by simp [HN.out]), Below.refl _ _⟩
set_option maxHeartbeats 2000000 in
theorem eqPhi_c (X1 Y1 : Option Addr) (cX1 cY1 : Nat) (x y : Phi) (w : World) (hx1 : C (kInt .i64) w X1 x.args) (hy1 : C (kInt .i64) w Y1 y.args) (lx1 : x.args.length ≤ 140737488351232) (ly1 : y.args.length ≤ 140737488351232) :
    Calls Tryd.prog 109 #[.agg #[.int .i64 x.dst, .slice X1 x.args.length cX1], .agg #[.int .i64 y.dst, .slice Y1 y.args.length cY1]] w fun e w' => e = .returned (.bool (decide (x = y))) ∧ Below w.heap.size w w' := by
  obtain ⟨x0, x1⟩ := x
  obtain ⟨y0, y1⟩ := y
  dsimp only at *
  go_enter Tryd.func109, Tryd.ntmps109
  go_wp2_with (first | (go_at_call 41; refine (eqInt64S_c _ _ _ _ _ _ _ (hx1.below (by first | assumption | (repeat (first | (with_reducible first | exact Below.refl _ _ | assumption | exact ext_box _) | (with_reducible apply Below.drew) | ((with_reducible refine Below.setCell ?_ ?hs _); (case hs => first | (simp; done) | (simp; omega) | omega)) | ((with_reducible refine Below.alloc ?_ ?hs _); (case hs => first | (simp; done) | (simp; omega) | omega)))))) (hy1.below (by first | assumption | (repeat (first | (with_reducible first | exact Below.refl _ _ | assumption | exact ext_box _) | (with_reducible apply Below.drew) | ((with_reducible refine Below.setCell ?_ ?hs _); (case hs => first | (simp; done) | (simp; omega) | omega)) | ((with_reducible refine Below.alloc ?_ ?hs _); (case hs => first | (simp; done) | (simp; omega) | omega)))))) lx1 ly1).mono ?_; rintro e w2 ⟨rfl, hb2⟩; have HB2 : Below w.heap.size w w2 := Below.then_ (by first | exact Below.drew ‹Below w.heap.size w _› | assumption | (repeat (first | (with_reducible first | exact Below.refl _ _ | assumption | exact ext_box _) | (with_reducible apply Below.drew) | ((with_reducible refine Below.setCell ?_ ?hs _); (case hs => first | (simp; done) | (simp; omega) | omega)) | ((with_reducible refine Below.alloc ?_ ?hs _); (case hs => first | (simp; done) | (simp; omega) | omega))))) hb2; obtain ⟨hc2, hf2⟩ := bcell hb2; have hz2 := hb2.size; have za2 : w.heap.size < w2.heap.size := (by have := hb2.size; (try simp at this); omega); have zb2 : w.heap.size + 1 < w2.heap.size := (by have := hb2.size; (try simp at this); omega)))
  all_goals go_ret
  all_goals go_light
  all_goals exact ⟨by first | (simp_all; done) | (simp_all; omega), by first | assumption | (repeat (first | (with_reducible first | exact Below.refl _ _ | assumption | exact ext_box _) | (with_reducible apply Below.drew) | ((with_reducible refine Below.setCell ?_ ?hs _); (case hs => first | (simp; done) | (simp; omega) | omega)) | ((with_reducible refine Below.alloc ?_ ?hs _); (case hs => first | (simp; done) | (simp; omega) | omega))))⟩
set_option maxHeartbeats 2000000 in
theorem eqPhiS_c (A0 A1 : Option Addr) (c0 c1 : Nat) (xs ys : List Phi) (w : World) (hx : C (kPhi 0) w A0 xs) (hy : C (kPhi 0) w A1 ys) (hm : xs.length ≤ 140737488351232) (hm2 : ys.length ≤ 140737488351232) (bx_ : ∀ (i : Nat) z, xs[i]? = some z → okPhi 140737488351232 z) (by_ : ∀ (i : Nat) z, ys[i]? = some z → okPhi 140737488351232 z) :
    Calls Tryd.prog 100 #[.slice A0 xs.length c0, .slice A1 ys.length c1] w fun e w' => e = .returned (.bool (decide (xs = ys))) ∧ Below w.heap.size w w' := by
  go_enter Tryd.func100, Tryd.ntmps100
  by_cases hl : xs.length = ys.length
  · have hb : ((xs.length : Int) != ys.length) = false := by simp [hl]
    have HL := Lib.hid hl
    clear hl
    go_wp2
    go_loopw [5] (fun i wr => ∃ k : Nat, k ≤ xs.length ∧ i = .int .i64 k ∧ xs.take k = ys.take k ∧ ∃ u : Ext w, wr = u.w) (fun i _ => xs.length - (intOf i).toNat)
    case atStart => exact ⟨0, by omega, rfl, by simp, Ext.self w, rfl⟩
    case round =>
      obtain ⟨k, hk, rfl, ht, u, rfl⟩ := hrel
      have HT := Lib.hid ht
      clear ht
      by_cases hlt : k < xs.length
      · obtain ⟨x, ex⟩ := get_of_lt hlt
        obtain ⟨y, ey⟩ := get_of_lt (HL.out ▸ hlt)
        obtain ⟨a0, _, rfl, ⟨_, _, rfl, rfl, ⟨Ax, cx, rfl, lx, rx⟩⟩, hxc⟩ := hx.at ex
        have P0 := hc2E (n := k * 2) hxc
        have rxE := fun u : Ext w => C.ext rx u
        have mx := bx_ _ _ ex
        clear hxc
        obtain ⟨a1, _, rfl, ⟨_, _, rfl, rfl, ⟨Ay, cy, rfl, ly, ry⟩⟩, hyc⟩ := hy.at ey
        have P1 := hc2E (n := k * 2) hyc
        have ryE := fun u : Ext w => C.ext ry u
        have my := by_ _ _ ey
        clear hyc
        have hlt2 : k < ys.length := HL.out ▸ hlt
        have EX := Lib.hid ex
        have EY := Lib.hid ey
        by_cases he : x = y
        · have hd : decide (x = y) = true := by simp [he]
          have HE := Lib.hid he
          clear he ex ey
          go_wp2
          refine wp_region_ext (W := w) (by kernel_rfl) (by kernel_rfl) ⟨_, rfl⟩ ?_
          repeat quiet_step ((first | (go_at_call 109; exact ext_of (eqPhi_c _ _ _ _ x y _ (rxE _) (ryE _) mx my))))
          refine wpQuiet_nil ?_
          rintro _ ⟨u, rfl⟩
          go_wp2
          go_roundw
          case rel => exact ⟨k + 1, by omega, by go_num, by rw [take_snoc EX.out, take_snoc EY.out, HT.out, HE.out], _, rfl⟩
          case measure => simp [intOf]; omega
        · have hd : decide (x = y) = false := by simp [he]
          have HE := Lib.hid (show xs ≠ ys by rintro rfl; rw [ex] at ey; injection ey with e; exact he e)
          clear he ex ey
          go_wp2
          refine wp_region_ext (W := w) (by kernel_rfl) (by kernel_rfl) ⟨_, rfl⟩ ?_
          repeat quiet_step ((first | (go_at_call 109; exact ext_of (eqPhi_c _ _ _ _ x y _ (rxE _) (ryE _) mx my))))
          refine wpQuiet_nil ?_
          rintro _ ⟨u, rfl⟩
          go_wp2
          go_ret
          exact ⟨ret_bool (by simp [HE.out]), u.hb⟩
      · have HR := Lib.hid (show xs = ys by have := HT.out; rwa [List.take_of_length_le (by omega), List.take_of_length_le (by have := HL.out; omega)] at this)
        go_wp2
        go_ret
        exact ⟨ret_bool (by simp [HR.out]), u.hb⟩
  · have hb : ((xs.length : Int) != ys.length) = true := by simp; omega
    have HN := Lib.hid (show xs ≠ ys from fun e => hl (by rw [e]))
    clear hl
    go_wp2
    go_ret
    exact ⟨ret_bool (by simp [HN.out]), Below.refl _ _⟩
set_option maxHeartbeats 2000000 in
theorem eqBlock_c (X0 Y0 : Option Addr) (cX0 cY0 : Nat) (X1 Y1 : Option Addr) (cX1 cY1 : Nat) (x y : Block) (w : World) (hx0 : C (kPhi 0) w X0 x.phis) (hy0 : C (kPhi 0) w Y0 y.phis) (lx0 : x.phis.length ≤ 140737488351232) (ly0 : y.phis.length ≤ 140737488351232) (hx1 : C kInstr w X1 x.instrs) (hy1 : C kInstr w Y1 y.instrs) (lx1 : x.instrs.length ≤ 140737488351232) (ly1 : y.instrs.length ≤ 140737488351232) (px_ : ∀ (i : Nat) z, x.phis[i]? = some z → okPhi 140737488351232 z) (py_ : ∀ (i : Nat) z, y.phis[i]? = some z → okPhi 140737488351232 z) :
    Calls Tryd.prog 69 #[.agg #[.slice X0 x.phis.length cX0, .slice X1 x.instrs.length cX1, .int .i64 x.term.kind, .int .i64 x.term.a, .int .i64 x.term.to, .int .i64 x.term.els], .agg #[.slice Y0 y.phis.length cY0, .slice Y1 y.instrs.length cY1, .int .i64 y.term.kind, .int .i64 y.term.a, .int .i64 y.term.to, .int .i64 y.term.els]] w fun e w' => e = .returned (.bool (decide (x = y))) ∧ Below w.heap.size w w' := by
  obtain ⟨x0, x1, ⟨x2, x3, x4, x5⟩⟩ := x
  obtain ⟨y0, y1, ⟨y2, y3, y4, y5⟩⟩ := y
  dsimp only at *
  go_enter Tryd.func69, Tryd.ntmps69
  go_wp2_with (first | (go_at_call 100; refine (eqPhiS_c _ _ _ _ _ _ _ (hx0.below (by first | assumption | (repeat (first | (with_reducible first | exact Below.refl _ _ | assumption | exact ext_box _) | (with_reducible apply Below.drew) | ((with_reducible refine Below.setCell ?_ ?hs _); (case hs => first | (simp; done) | (simp; omega) | omega)) | ((with_reducible refine Below.alloc ?_ ?hs _); (case hs => first | (simp; done) | (simp; omega) | omega)))))) (hy0.below (by first | assumption | (repeat (first | (with_reducible first | exact Below.refl _ _ | assumption | exact ext_box _) | (with_reducible apply Below.drew) | ((with_reducible refine Below.setCell ?_ ?hs _); (case hs => first | (simp; done) | (simp; omega) | omega)) | ((with_reducible refine Below.alloc ?_ ?hs _); (case hs => first | (simp; done) | (simp; omega) | omega)))))) lx0 ly0 px_ py_).mono ?_; rintro e w1 ⟨rfl, hb1⟩; have HB1 : Below w.heap.size w w1 := Below.then_ (by first | exact Below.drew ‹Below w.heap.size w _› | assumption | (repeat (first | (with_reducible first | exact Below.refl _ _ | assumption | exact ext_box _) | (with_reducible apply Below.drew) | ((with_reducible refine Below.setCell ?_ ?hs _); (case hs => first | (simp; done) | (simp; omega) | omega)) | ((with_reducible refine Below.alloc ?_ ?hs _); (case hs => first | (simp; done) | (simp; omega) | omega))))) hb1; obtain ⟨hc1, hf1⟩ := bcell hb1; have hz1 := hb1.size; have za1 : w.heap.size < w1.heap.size := (by have := hb1.size; (try simp at this); omega); have zb1 : w.heap.size + 1 < w1.heap.size := (by have := hb1.size; (try simp at this); omega)) | (go_at_call 101; refine (eqInstrS_c _ _ _ _ _ _ _ (hx1.below (by first | assumption | (repeat (first | (with_reducible first | exact Below.refl _ _ | assumption | exact ext_box _) | (with_reducible apply Below.drew) | ((with_reducible refine Below.setCell ?_ ?hs _); (case hs => first | (simp; done) | (simp; omega) | omega)) | ((with_reducible refine Below.alloc ?_ ?hs _); (case hs => first | (simp; done) | (simp; omega) | omega)))))) (hy1.below (by first | assumption | (repeat (first | (with_reducible first | exact Below.refl _ _ | assumption | exact ext_box _) | (with_reducible apply Below.drew) | ((with_reducible refine Below.setCell ?_ ?hs _); (case hs => first | (simp; done) | (simp; omega) | omega)) | ((with_reducible refine Below.alloc ?_ ?hs _); (case hs => first | (simp; done) | (simp; omega) | omega)))))) lx1 ly1).mono ?_; rintro e w2 ⟨rfl, hb2⟩; have HB2 : Below w.heap.size w w2 := Below.then_ (by first | exact Below.drew ‹Below w.heap.size w _› | assumption | (repeat (first | (with_reducible first | exact Below.refl _ _ | assumption | exact ext_box _) | (with_reducible apply Below.drew) | ((with_reducible refine Below.setCell ?_ ?hs _); (case hs => first | (simp; done) | (simp; omega) | omega)) | ((with_reducible refine Below.alloc ?_ ?hs _); (case hs => first | (simp; done) | (simp; omega) | omega))))) hb2; obtain ⟨hc2, hf2⟩ := bcell hb2; have hz2 := hb2.size; have za2 : w.heap.size < w2.heap.size := (by have := hb2.size; (try simp at this); omega); have zb2 : w.heap.size + 1 < w2.heap.size := (by have := hb2.size; (try simp at this); omega)) | (go_at_call 102; refine (eqTerm_c ⟨_, _, _, _⟩ ⟨_, _, _, _⟩ _).mono ?_; rintro e w3 ⟨rfl, hb3⟩; have HB3 : Below w.heap.size w w3 := Below.then_ (by first | exact Below.drew ‹Below w.heap.size w _› | assumption | (repeat (first | (with_reducible first | exact Below.refl _ _ | assumption | exact ext_box _) | (with_reducible apply Below.drew) | ((with_reducible refine Below.setCell ?_ ?hs _); (case hs => first | (simp; done) | (simp; omega) | omega)) | ((with_reducible refine Below.alloc ?_ ?hs _); (case hs => first | (simp; done) | (simp; omega) | omega))))) hb3; obtain ⟨hc3, hf3⟩ := bcell hb3; have hz3 := hb3.size; have za3 : w.heap.size < w3.heap.size := (by have := hb3.size; (try simp at this); omega); have zb3 : w.heap.size + 1 < w3.heap.size := (by have := hb3.size; (try simp at this); omega)))
  all_goals go_ret
  all_goals go_light
  all_goals exact ⟨by first | (simp_all; done) | (simp_all; omega), by first | assumption | (repeat (first | (with_reducible first | exact Below.refl _ _ | assumption | exact ext_box _) | (with_reducible apply Below.drew) | ((with_reducible refine Below.setCell ?_ ?hs _); (case hs => first | (simp; done) | (simp; omega) | omega)) | ((with_reducible refine Below.alloc ?_ ?hs _); (case hs => first | (simp; done) | (simp; omega) | omega))))⟩
set_option maxHeartbeats 2000000 in
theorem eqBlockS_c (A0 A1 : Option Addr) (c0 c1 : Nat) (xs ys : List Block) (w : World) (hx : C (kBlock 0 0 0) w A0 xs) (hy : C (kBlock 0 0 0) w A1 ys) (hm : xs.length ≤ 140737488351232) (hm2 : ys.length ≤ 140737488351232) (bx_ : ∀ (i : Nat) z, xs[i]? = some z → okBlk 140737488351232 z) (by_ : ∀ (i : Nat) z, ys[i]? = some z → okBlk 140737488351232 z) :
    Calls Tryd.prog 34 #[.slice A0 xs.length c0, .slice A1 ys.length c1] w fun e w' => e = .returned (.bool (decide (xs = ys))) ∧ Below w.heap.size w w' := by
  go_enter Tryd.func34, Tryd.ntmps34
  by_cases hl : xs.length = ys.length
  · have hb : ((xs.length : Int) != ys.length) = false := by simp [hl]
    have HL := Lib.hid hl
    clear hl
    go_wp2
    go_loopw [5] (fun i wr => ∃ k : Nat, k ≤ xs.length ∧ i = .int .i64 k ∧ xs.take k = ys.take k ∧ ∃ u : Ext w, wr = u.w) (fun i _ => xs.length - (intOf i).toNat)
    case atStart => exact ⟨0, by omega, rfl, by simp, Ext.self w, rfl⟩
    case round =>
      obtain ⟨k, hk, rfl, ht, u, rfl⟩ := hrel
      have HT := Lib.hid ht
      clear ht
      by_cases hlt : k < xs.length
      · obtain ⟨x, ex⟩ := get_of_lt hlt
        obtain ⟨y, ey⟩ := get_of_lt (HL.out ▸ hlt)
        obtain ⟨a0, _, rfl, ⟨_, _, rfl, ⟨Ax, cx, rfl, lx, rx⟩, _, _, rfl, ⟨Bx, dx, rfl, kx, sx⟩, rfl⟩, hxc⟩ := hx.at ex
        have P0 := hc6E (n := k * 6) hxc
        have rxE := fun u : Ext w => C.ext rx u
        have sxE := fun u : Ext w => C.ext sx u
        have mx := bx_ _ _ ex
        clear hxc
        obtain ⟨a1, _, rfl, ⟨_, _, rfl, ⟨Ay, cy, rfl, ly, ry⟩, _, _, rfl, ⟨By, dy, rfl, ky, sy⟩, rfl⟩, hyc⟩ := hy.at ey
        have P1 := hc6E (n := k * 6) hyc
        have ryE := fun u : Ext w => C.ext ry u
        have syE := fun u : Ext w => C.ext sy u
        have my := by_ _ _ ey
        clear hyc
        have hlt2 : k < ys.length := HL.out ▸ hlt
        have EX := Lib.hid ex
        have EY := Lib.hid ey
        by_cases he : x = y
        · have hd : decide (x = y) = true := by simp [he]
          have HE := Lib.hid he
          clear he ex ey
          go_wp2
          refine wp_region_ext (W := w) (by kernel_rfl) (by kernel_rfl) ⟨_, rfl⟩ ?_
          repeat quiet_step ((first | (go_at_call 69; exact ext_of (eqBlock_c _ _ _ _ _ _ _ _ x y _ (rxE _) (ryE _) mx.1 my.1 (sxE _) (syE _) mx.2.2 my.2.2 mx.2.1 my.2.1))))
          refine wpQuiet_nil ?_
          rintro _ ⟨u, rfl⟩
          go_wp2
          go_roundw
          case rel => exact ⟨k + 1, by omega, by go_num, by rw [take_snoc EX.out, take_snoc EY.out, HT.out, HE.out], _, rfl⟩
          case measure => simp [intOf]; omega
        · have hd : decide (x = y) = false := by simp [he]
          have HE := Lib.hid (show xs ≠ ys by rintro rfl; rw [ex] at ey; injection ey with e; exact he e)
          clear he ex ey
          go_wp2
          refine wp_region_ext (W := w) (by kernel_rfl) (by kernel_rfl) ⟨_, rfl⟩ ?_
          repeat quiet_step ((first | (go_at_call 69; exact ext_of (eqBlock_c _ _ _ _ _ _ _ _ x y _ (rxE _) (ryE _) mx.1 my.1 (sxE _) (syE _) mx.2.2 my.2.2 mx.2.1 my.2.1))))
          refine wpQuiet_nil ?_
          rintro _ ⟨u, rfl⟩
          go_wp2
          go_ret
          exact ⟨ret_bool (by simp [HE.out]), u.hb⟩
      · have HR := Lib.hid (show xs = ys by have := HT.out; rwa [List.take_of_length_le (by omega), List.take_of_length_le (by have := HL.out; omega)] at this)
        go_wp2
        go_ret
        exact ⟨ret_bool (by simp [HR.out]), u.hb⟩
  · have hb : ((xs.length : Int) != ys.length) = true := by simp; omega
    have HN := Lib.hid (show xs ≠ ys from fun e => hl (by rw [e]))
    clear hl
    go_wp2
    go_ret
    exact ⟨ret_bool (by simp [HN.out]), Below.refl _ _⟩
set_option maxHeartbeats 2000000 in
theorem eqFunc_c (X1 Y1 : Option Addr) (cX1 cY1 : Nat) (x y : Func) (w : World) (hx1 : C (kBlock 0 0 0) w X1 x.blocks) (hy1 : C (kBlock 0 0 0) w Y1 y.blocks) (lx1 : x.blocks.length ≤ 140737488351232) (ly1 : y.blocks.length ≤ 140737488351232) (bx_ : ∀ (i : Nat) z, x.blocks[i]? = some z → okBlk 140737488351232 z) (by_ : ∀ (i : Nat) z, y.blocks[i]? = some z → okBlk 140737488351232 z) :
    Calls Tryd.prog 11 #[.agg #[.int .i64 x.values, .slice X1 x.blocks.length cX1], .agg #[.int .i64 y.values, .slice Y1 y.blocks.length cY1]] w fun e w' => e = .returned (.bool (decide (x = y))) ∧ Below w.heap.size w w' := by
  obtain ⟨x0, x1⟩ := x
  obtain ⟨y0, y1⟩ := y
  dsimp only at *
  go_enter Tryd.func11, Tryd.ntmps11
  go_wp2_with (first | (go_at_call 34; refine (eqBlockS_c _ _ _ _ _ _ _ (hx1.below (by first | assumption | (repeat (first | (with_reducible first | exact Below.refl _ _ | assumption | exact ext_box _) | (with_reducible apply Below.drew) | ((with_reducible refine Below.setCell ?_ ?hs _); (case hs => first | (simp; done) | (simp; omega) | omega)) | ((with_reducible refine Below.alloc ?_ ?hs _); (case hs => first | (simp; done) | (simp; omega) | omega)))))) (hy1.below (by first | assumption | (repeat (first | (with_reducible first | exact Below.refl _ _ | assumption | exact ext_box _) | (with_reducible apply Below.drew) | ((with_reducible refine Below.setCell ?_ ?hs _); (case hs => first | (simp; done) | (simp; omega) | omega)) | ((with_reducible refine Below.alloc ?_ ?hs _); (case hs => first | (simp; done) | (simp; omega) | omega)))))) lx1 ly1 bx_ by_).mono ?_; rintro e w2 ⟨rfl, hb2⟩; have HB2 : Below w.heap.size w w2 := Below.then_ (by first | exact Below.drew ‹Below w.heap.size w _› | assumption | (repeat (first | (with_reducible first | exact Below.refl _ _ | assumption | exact ext_box _) | (with_reducible apply Below.drew) | ((with_reducible refine Below.setCell ?_ ?hs _); (case hs => first | (simp; done) | (simp; omega) | omega)) | ((with_reducible refine Below.alloc ?_ ?hs _); (case hs => first | (simp; done) | (simp; omega) | omega))))) hb2; obtain ⟨hc2, hf2⟩ := bcell hb2; have hz2 := hb2.size; have za2 : w.heap.size < w2.heap.size := (by have := hb2.size; (try simp at this); omega); have zb2 : w.heap.size + 1 < w2.heap.size := (by have := hb2.size; (try simp at this); omega)))
  all_goals go_ret
  all_goals go_light
  all_goals exact ⟨by first | (simp_all; done) | (simp_all; omega), by first | assumption | (repeat (first | (with_reducible first | exact Below.refl _ _ | assumption | exact ext_box _) | (with_reducible apply Below.drew) | ((with_reducible refine Below.setCell ?_ ?hs _); (case hs => first | (simp; done) | (simp; omega) | omega)) | ((with_reducible refine Below.alloc ?_ ?hs _); (case hs => first | (simp; done) | (simp; omega) | omega))))⟩
end Go.Proofs.YtnbkgaofdkkdnaaDoor
namespace Go.Proofs.YtnbkgaofdkkdnaaDoor
open Go.RowKit
set_option linter.unusedSimpArgs false
set_option linter.unusedVariables false
set_option maxRecDepth 100000

theorem szL_mem {α : Type} {f : α → Int → Int} (hf : ∀ x l, 0 ≤ l → f x l ≤ l ∧ -1 ≤ f x l) : ∀ (xs : List α) (l : Int), 0 ≤ l → 0 ≤ szL f xs l → ∀ x ∈ xs, ∃ q, 0 ≤ q ∧ q ≤ l ∧ 0 ≤ f x q
  | [], _, _, _, x, hx => by simp at hx
  | y :: r, l, hl, h, x, hx => by
    simp only [szL] at h
    have h1 := hf y l hl
    split at h
    · omega
    · rcases List.mem_cons.1 hx with rfl | hx
      · exact ⟨l, hl, by omega, by omega⟩
      · obtain ⟨q, q0, q1, q2⟩ := szL_mem hf r (f y l) (by omega) h x hx
        exact ⟨q, q0, by omega, q2⟩
theorem okBlk_mono {L L' : Nat} {b : Block} (h : okBlk L b) (hl : L ≤ L') : okBlk L' b := ⟨Nat.le_trans h.1 hl, fun i p hp => Nat.le_trans (h.2.1 i p hp) hl, Nat.le_trans h.2.2 hl⟩
theorem szS_mem {α : Type} {f : α → Int → Int} (hf : ∀ x l, 0 ≤ l → f x l ≤ l ∧ -1 ≤ f x l) {xs : List α} {l : Int} (h0 : 0 ≤ l) (h : ¬ szS f xs l < 0) : (xs.length : Int) ≤ l ∧ ∀ x ∈ xs, ∃ q, 0 ≤ q ∧ q ≤ l ∧ 0 ≤ f x q := by
  have h1 := szN_le xs.length l h0
  unfold szS at h
  split at h
  · omega
  · rename_i hn
    refine ⟨by simp only [szN] at hn; split at hn <;> omega, fun x hx => ?_⟩
    obtain ⟨q, q0, q1, q2⟩ := szL_mem hf xs (szN xs.length l) (by omega) (by omega) x hx
    exact ⟨q, q0, by omega, q2⟩
theorem szFunc_len {m : Func} {l : Int} (h0 : 0 ≤ l) (hl : l ≤ 1048576) (h : ¬ szFunc m l < 0) : (m.blocks.length : Int) ≤ l ∧ ∀ (i : Nat) b, m.blocks[i]? = some b → okBlk 1048576 b := by
  obtain ⟨h1, h2⟩ := szS_mem szBlk_le h0 (xs := m.blocks) h
  refine ⟨h1, fun i b hb => ?_⟩
  obtain ⟨q, q0, q1, q2⟩ := h2 b (List.mem_of_getElem? hb)
  unfold szBlk at q2
  have h3 := szS_le szPhi_le b.phis q q0
  split at q2
  · omega
  · rename_i hn
    obtain ⟨p1, p2⟩ := szS_mem szPhi_le q0 (xs := b.phis) hn
    refine ⟨by omega, fun j p hp => ?_, ?_⟩
    · obtain ⟨r, r0, r1, r2⟩ := p2 p (List.mem_of_getElem? hp)
      simp only [szPhi, szN] at r2
      unfold okPhi
      split at r2 <;> omega
    · simp only [szN] at q2
      split at q2 <;> omega
end Go.Proofs.YtnbkgaofdkkdnaaDoor
namespace Go.Proofs.YtnbkgaofdkkdnaaDoor
open Go.RowKit
set_option linter.unusedSimpArgs false
set_option linter.unusedVariables false
set_option maxRecDepth 100000

set_option maxHeartbeats 4000000 in
theorem lawDominates_c (A : Option Addr) (c : Nat) (m : Func) (da db : Int) (w : World) (hx : C (kBlock 0 0 0) w A m.blocks) (hS : Shapes w) (hn : m.blocks.length ≤ 9223372036854775807) (hm : ∀ (i : Nat) b, m.blocks[i]? = some b → okBlk 9223372036854775807 b) :
    Calls Tryd.prog 3 #[.agg #[.int .i64 m.values, .slice A m.blocks.length c], .int .i64 da, .int .i64 db] w fun e w' => e = .returned (.bool true) ∧ Below w.heap.size w w' := by
  by_cases hz : szFunc m 1048576 < 0
  · have HSZ := Lib.hid (fun W (h : C (kBlock 0 0 0) W A m.blocks) => szFunc_c A c m 1048576 W h hn hm (by omega) (by omega))
    go_enter Tryd.func3, Tryd.ntmps3
    go_wp2_with (go_at_call 7; refine (HSZ.out _ (hx.below (by repeat (first | (with_reducible first | exact Below.refl _ _ | assumption | exact ext_box _) | (with_reducible apply Below.drew) | ((with_reducible refine Below.setCell ?_ ?hs _); (case hs => first | (simp; done) | (simp; omega) | omega)) | ((with_reducible refine Below.alloc ?_ ?hs _); (case hs => first | (simp; done) | (simp; omega) | omega)))))).mono ?_; rintro e w1 ⟨rfl, hb1⟩; have HB1 := Below.then_ (w := w) (by repeat (first | (with_reducible first | exact Below.refl _ _ | assumption | exact ext_box _) | (with_reducible apply Below.drew) | ((with_reducible refine Below.setCell ?_ ?hs _); (case hs => first | (simp; done) | (simp; omega) | omega)) | ((with_reducible refine Below.alloc ?_ ?hs _); (case hs => first | (simp; done) | (simp; omega) | omega)))) hb1)
    go_ret
    exact ⟨rfl, HB1⟩
  · have HSZ := Lib.hid (fun W (h : C (kBlock 0 0 0) W A m.blocks) => szFunc_c A c m 1048576 W h hn hm (by omega) (by omega))
    have HB := Lib.hid (szFunc_len (by omega) (by omega) hz)
    go_enter Tryd.func3, Tryd.ntmps3
    have hbl : m.blocks.length ≤ 1048576 := by have := HB.out.1; omega
    have HIL := Lib.hid (show ∀ (i : Nat) b, m.blocks[i]? = some b → okBlk 1048576 b from HB.out.2)
    have HTO := Lib.hid (fun W (h : C (kBlock 0 0 0) W A m.blocks) => toFunc_c A c m W h hbl HIL.out)
    have HSV := Lib.hid (fun A c W (h : C (kBlock 0 0 0) W A m.blocks) => domS_c A c m da db W h hbl HIL.out)
    go_upto_region 6 with (first
      | (go_at_call 7; refine (HSZ.out _ (hx.below (by repeat (first | (with_reducible first | exact Below.refl _ _ | assumption | exact ext_box _) | (with_reducible apply Below.drew) | ((with_reducible refine Below.setCell ?_ ?hs _); (case hs => first | (simp; done) | (simp; omega) | omega)) | ((with_reducible refine Below.alloc ?_ ?hs _); (case hs => first | (simp; done) | (simp; omega) | omega)))))).mono ?_; rintro e w1 ⟨rfl, hb1⟩; have HB1 := Below.then_ (w := w) (by repeat (first | (with_reducible first | exact Below.refl _ _ | assumption | exact ext_box _) | (with_reducible apply Below.drew) | ((with_reducible refine Below.setCell ?_ ?hs _); (case hs => first | (simp; done) | (simp; omega) | omega)) | ((with_reducible refine Below.alloc ?_ ?hs _); (case hs => first | (simp; done) | (simp; omega) | omega)))) hb1; obtain ⟨hc1, hf1⟩ := bcell hb1; have zw1 : w.heap.size < w1.heap.size := (by have := hb1.size; (try simp at this); omega))
      | (go_at_call 9; refine (HTO.out _ (hx.below (by assumption))).mono ?_; rintro e w2 ⟨v2, fp2, rfl, r2, -, hb2⟩; obtain ⟨A2, c2, rfl, hl2⟩ := r2.form; have HR2 : Hid (C (kBlock 0 0 0) w2 A2 m.blocks) := Lib.hid r2.reads; clear r2; have HB2 := Below.then_ (w := w) (by assumption) hb2; obtain ⟨hc2, hf2⟩ := bcell hb2; have zw2 : w.heap.size < w2.heap.size := (by have := hb2.size; (try simp at this); omega))
      | (go_at_call 8; refine (HSV.out _ _ _ HR2.out).mono ?_; rintro e w3 ⟨rfl, hb3⟩; have HB3 := Below.then_ (w := w) (by assumption) hb3; obtain ⟨hc3, hf3⟩ := bcell hb3; have zw3 : w.heap.size < w3.heap.size := (by have := hb3.size; (try simp at this); omega)))
    have HIV := Lib.hid (fun A c W (h : C (kBlock 0 0 0) W A m.blocks) (h2 : Below w.heap.size w W) => domI_c A c m da db W h (hS.below h2 hS.pos) hbl HIL.out)
    go_upto_region 10 with (first
      | (go_at_call 9; refine (HTO.out _ (hx.below (by assumption))).mono ?_; rintro e w4 ⟨v4, fp4, rfl, r4, -, hb4⟩; obtain ⟨A4, c4, rfl, hl4⟩ := r4.form; have HR4 : Hid (C (kBlock 0 0 0) w4 A4 m.blocks) := Lib.hid r4.reads; clear r4; have HB4 := Below.then_ (w := w) (by assumption) hb4; obtain ⟨hc4, hf4⟩ := bcell hb4; have zw4 : w.heap.size < w4.heap.size := (by have := hb4.size; (try simp at this); omega))
      | (go_at_call 10; refine (HIV.out _ _ _ (HR4.out.below (by repeat (first | (with_reducible first | exact Below.refl _ _ | assumption | exact ext_box _) | (with_reducible apply Below.drew) | ((with_reducible refine Below.setCell ?_ ?hs _); (case hs => first | (simp; done) | (simp; omega) | omega)) | ((with_reducible refine Below.alloc ?_ ?hs _); (case hs => first | (simp; done) | (simp; omega) | omega))))) (by repeat (first | (with_reducible first | exact Below.refl _ _ | assumption | exact ext_box _) | (with_reducible apply Below.drew) | ((with_reducible refine Below.setCell ?_ ?hs _); (case hs => first | (simp; done) | (simp; omega) | omega)) | ((with_reducible refine Below.alloc ?_ ?hs _); (case hs => first | (simp; done) | (simp; omega) | omega))))).mono ?_; rintro e w5 ⟨rfl, hb5⟩; have HB5 := Below.then_ (w := w) (by repeat (first | (with_reducible first | exact Below.refl _ _ | assumption | exact ext_box _) | (with_reducible apply Below.drew) | ((with_reducible refine Below.setCell ?_ ?hs _); (case hs => first | (simp; done) | (simp; omega) | omega)) | ((with_reducible refine Below.alloc ?_ ?hs _); (case hs => first | (simp; done) | (simp; omega) | omega)))) hb5; have HR5 := Lib.hid ((HR4.out.below (by repeat (first | (with_reducible first | exact Below.refl _ _ | assumption | exact ext_box _) | (with_reducible apply Below.drew) | ((with_reducible refine Below.setCell ?_ ?hs _); (case hs => first | (simp; done) | (simp; omega) | omega)) | ((with_reducible refine Below.alloc ?_ ?hs _); (case hs => first | (simp; done) | (simp; omega) | omega))))).below hb5); obtain ⟨hc5, hf5⟩ := bcell hb5; have zv5 : w4.heap.size < w5.heap.size := (by have := hb5.size; (try simp at this); omega); have zw5 : w.heap.size < w5.heap.size := (by have := hb5.size; (try simp at this); omega)))
    have HEQ := Lib.hid (fun A0 A1 c0 c1 W (h : C (kBlock 0 0 0) W A0 m.blocks) (h2 : C (kBlock 0 0 0) W A1 m.blocks) => eqFunc_c A0 A1 c0 c1 m m W h h2 (by omega) (by omega) (fun i b hb => okBlk_mono (HIL.out i b hb) (by omega)) (fun i b hb => okBlk_mono (HIL.out i b hb) (by omega)))
    have y0 : w5.cell? ⟨w4.heap.size, 0, none⟩ = some (.int .i64 m.values) := by simp [*]
    have y1 : w5.cell? ⟨w4.heap.size, 1, none⟩ = some (.slice A4 m.blocks.length c4) := by simp [*]
    have y2 : w5.cell? ⟨w.heap.size, 0, none⟩ = some (.int .i64 m.values) := (hc5 _ _ (by simp; omega)).trans ((((Below.refl _ w4).alloc (Nat.le_refl _) _).cell zw4).trans ((hc4 _ _ zw3).trans ((hc3 _ _ zw2).trans ((hc2 _ _ zw1).trans ((hc1 _ _ (by simp)).trans (by simp))))))
    have y3 : w5.cell? ⟨w.heap.size, 1, none⟩ = some (.slice A m.blocks.length c) := (hc5 _ _ (by simp; omega)).trans ((((Below.refl _ w4).alloc (Nat.le_refl _) _).cell zw4).trans ((hc4 _ _ zw3).trans ((hc3 _ _ zw2).trans ((hc2 _ _ zw1).trans ((hc1 _ _ (by simp)).trans (by simp))))))
    have KS := Lib.hid (fun w' (h : Below w5.heap.size w5 w') => (⟨(h.cell zv5).trans y0, (h.cell zv5).trans y1, (h.cell zw5).trans y2, (h.cell zw5).trans y3, h⟩ : w'.cell? ⟨w4.heap.size, 0, none⟩ = some (.int .i64 m.values) ∧ w'.cell? ⟨w4.heap.size, 1, none⟩ = some (.slice A4 m.blocks.length c4) ∧ w'.cell? ⟨w.heap.size, 0, none⟩ = some (.int .i64 m.values) ∧ w'.cell? ⟨w.heap.size, 1, none⟩ = some (.slice A m.blocks.length c) ∧ Below w5.heap.size w5 w'))
    go_region_held3 (fun w' => w'.cell? ⟨w4.heap.size, 0, none⟩ = some (.int .i64 m.values) ∧ w'.cell? ⟨w4.heap.size, 1, none⟩ = some (.slice A4 m.blocks.length c4) ∧ w'.cell? ⟨w.heap.size, 0, none⟩ = some (.int .i64 m.values) ∧ w'.cell? ⟨w.heap.size, 1, none⟩ = some (.slice A m.blocks.length c) ∧ Below w5.heap.size w5 w') ((refine KS.out _ ?_; (repeat (first | (with_reducible first | exact Below.refl _ _ | assumption | exact ext_box _) | (with_reducible apply Below.drew) | ((with_reducible refine Below.setCell ?_ ?hs _); (case hs => first | (simp; done) | (simp; omega) | omega)) | ((with_reducible refine Below.alloc ?_ ?hs _); (case hs => first | (simp; done) | (simp; omega) | omega))))))
      (first
      | (go_at_call 9; refine (HTO.out _ (hx.below (Below.then_ HB5 (by (repeat (first | (with_reducible first | exact Below.refl _ _ | assumption | exact ext_box _) | (with_reducible apply Below.drew) | ((with_reducible refine Below.setCell ?_ ?hs _); (case hs => first | (simp; done) | (simp; omega) | omega)) | ((with_reducible refine Below.alloc ?_ ?hs _); (case hs => first | (simp; done) | (simp; omega) | omega)))))))).mono ?_; rintro e w6 ⟨v6, fp6, rfl, r6, -, hb6⟩; obtain ⟨A6, c6, rfl, hl6⟩ := r6.form; have HR6 : Hid (C (kBlock 0 0 0) w6 A6 m.blocks) := Lib.hid r6.reads; clear r6; have HR65 := Lib.hid (HR5.out.below (Below.then_ (by repeat (first | (with_reducible first | exact Below.refl _ _ | assumption | exact ext_box _) | (with_reducible apply Below.drew) | ((with_reducible refine Below.setCell ?_ ?hs _); (case hs => first | (simp; done) | (simp; omega) | omega)) | ((with_reducible refine Below.alloc ?_ ?hs _); (case hs => first | (simp; done) | (simp; omega) | omega)))) hb6)); have HB6 := Below.then_ (w := w5) (by repeat (first | (with_reducible first | exact Below.refl _ _ | assumption | exact ext_box _) | (with_reducible apply Below.drew) | ((with_reducible refine Below.setCell ?_ ?hs _); (case hs => first | (simp; done) | (simp; omega) | omega)) | ((with_reducible refine Below.alloc ?_ ?hs _); (case hs => first | (simp; done) | (simp; omega) | omega)))) hb6)
      | (go_at_call 11; refine (HEQ.out _ _ _ _ _ (HR65.out.below (by repeat (first | (with_reducible first | exact Below.refl _ _ | assumption | exact ext_box _) | (with_reducible apply Below.drew) | ((with_reducible refine Below.setCell ?_ ?hs _); (case hs => first | (simp; done) | (simp; omega) | omega)) | ((with_reducible refine Below.alloc ?_ ?hs _); (case hs => first | (simp; done) | (simp; omega) | omega))))) (HR6.out.below (by repeat (first | (with_reducible first | exact Below.refl _ _ | assumption | exact ext_box _) | (with_reducible apply Below.drew) | ((with_reducible refine Below.setCell ?_ ?hs _); (case hs => first | (simp; done) | (simp; omega) | omega)) | ((with_reducible refine Below.alloc ?_ ?hs _); (case hs => first | (simp; done) | (simp; omega) | omega)))))).mono ?_; rintro e w7 ⟨rfl, hb7⟩; have HB7 := Below.then_ (w := w5) (by repeat (first | (with_reducible first | exact Below.refl _ _ | assumption | exact ext_box _) | (with_reducible apply Below.drew) | ((with_reducible refine Below.setCell ?_ ?hs _); (case hs => first | (simp; done) | (simp; omega) | omega)) | ((with_reducible refine Below.alloc ?_ ?hs _); (case hs => first | (simp; done) | (simp; omega) | omega)))) hb7))
    all_goals go_wp2
    all_goals go_ret
    all_goals exact ⟨rfl, Below.trans HB5 (Below.mono (by (repeat (first | (with_reducible first | exact Below.refl _ _ | assumption | exact ext_box _) | (with_reducible apply Below.drew) | ((with_reducible refine Below.setCell ?_ ?hs _); (case hs => first | (simp; done) | (simp; omega) | omega)) | ((with_reducible refine Below.alloc ?_ ?hs _); (case hs => first | (simp; done) | (simp; omega) | omega))))) (by omega))⟩
end Go.Proofs.YtnbkgaofdkkdnaaDoor
namespace Go.Proofs.YtnbkgaofdkkdnaaDoor
open Go.RowKit
set_option linter.unusedSimpArgs false
set_option linter.unusedVariables false
set_option maxRecDepth 100000
open Go.ChangeShapes

def Opens {α : Type} (P : Program) (t : TypeId) (d : Kd α) (G : α → Prop) : Prop :=
  ∀ (H : Type) (enc : TypeId × Value → H) (w : World) (base : Nat) (spare : Nat → Bool) (held : Bool) (fuel : Nat) (cs : List Value) (x : DataW H × List MemPlace), DataW.trod enc P w base spare held fuel t cs = some x → ∃ y, G y ∧ d.K w y cs
theorem opens_int {P : Program} {t : TypeId} {k : IntKind} (ht : P.underlying t = some (.int k)) : Opens P t (kInt k) fun n => (Lit.int k n).wf = true := by
  intro H enc w base spare held fuel cs x h
  obtain ⟨n, rfl, -, hw⟩ := DataW.trod_int ht h
  exact ⟨n, hw, rfl⟩
theorem pick {α : Type} {R : Nat → α → Prop} : ∀ (n : Nat), (∀ i, i < n → ∃ y, R i y) → ∃ ys : List α, ys.length = n ∧ ∀ (i : Nat) y, ys[i]? = some y → R i y
  | 0, _ => ⟨[], rfl, by simp⟩
  | n + 1, h => by
    obtain ⟨ys, hl, hr⟩ := pick n fun i hi => h i (by omega)
    obtain ⟨y, hy⟩ := h n (by omega)
    refine ⟨ys ++ [y], by simp [hl], fun i z hz => ?_⟩
    rw [List.getElem?_append] at hz
    split at hz
    · exact hr i z hz
    · have : i = n := by
        have := (List.getElem?_eq_some_iff.1 hz).1
        simp at this
        omega
      subst this
      simp [hl] at hz
      exact hz ▸ hy
theorem opens_slice {α : Type} {P : Program} {t e e' : TypeId} {d : Kd α} {G : α → Prop} (ht : P.underlying t = some (.slice e)) (hc : P.cellsOf e = d.sz) (ho : Opens P e d G) :
    Opens P t (kSlice e' d) fun xs => xs.length ≤ maxLen ∧ ∀ (i : Nat) x, xs[i]? = some x → G x := by
  intro H enc w base spare held fuel cs x h
  rcases DataW.trod_slice ht h with ⟨rfl, -⟩ | ⟨a, len, cap, elems, rest, n, -, rfl, -, hb, hl, hm, hlen, hel, -, -⟩
  · exact ⟨[], ⟨by simp, by simp⟩, none, 0, rfl, by simp, C.nil _ _ _⟩
  · obtain ⟨ys, hyl, hr⟩ := pick (R := fun i y => G y ∧ ∃ cs, d.K w y cs ∧ w.cells? base (a.add (i * P.cellsOf e)) (P.cellsOf e) = some cs) len (by
      intro i hi
      have h1 := hel i hi
      obtain ⟨z, hz⟩ := get_of_lt (show i < elems.length by omega)
      rw [hz, Option.bind_eq_some_iff] at h1
      obtain ⟨cs, hcs, ht'⟩ := h1
      obtain ⟨y, hg, hk⟩ := ho _ _ _ _ _ _ _ _ _ ht'
      exact ⟨y, hg, cs, hk, hcs⟩)
    refine ⟨ys, ⟨by omega, fun i y hy => (hr i y hy).1⟩, some a, cap, by rw [hyl], by omega, fun i y hy => ?_⟩
    obtain ⟨-, cs, hk, hcs⟩ := hr i y hy
    obtain ⟨-, hcl, hcell⟩ := World.cells?_some hcs
    refine ⟨a, cs, rfl, hk, fun j u hu => ?_⟩
    have hj : j < P.cellsOf e := by have := (List.getElem?_eq_some_iff.1 hu).1; omega
    have h1 := hcell j hj
    rw [hu] at h1
    rw [← h1, hc, Addr.add_add]
/-- A struct of whole numbers. -/
theorem open_flat {H : Type} {enc : TypeId × Value → H} {P : Program} {w : World} {base : Nat} {spare : Nat → Bool} {held : Bool} {fuel : Nat} {t : TypeId} {cs : List Value} {x : DataW H × List MemPlace} {fs : Array Field}
    (ht : P.underlying t = some (.struct fs)) (hi : P.underlying 2 = some (.int .i64)) (h2 : P.cellsOf 2 = 1) (hc : P.cellsOf t = fs.size) (hf : ∀ (j : Nat) f, fs[j]? = some f → f.offset = j ∧ f.type = 2)
    (h : DataW.trod enc P w base spare held fuel t cs = some x) : ∃ zs : List Int, zs.length = fs.size ∧ (∀ z ∈ zs, (Lit.int .i64 z).wf = true) ∧ cs = zs.map (Value.int .i64) := by
  obtain ⟨xs, n, -, -, hl, hxl, hr⟩ := DataW.trod_struct ht h
  obtain ⟨zs, hzl, hz⟩ := pick (R := fun i z => (Lit.int .i64 z).wf = true ∧ cs[i]? = some (.int .i64 z)) fs.size (by
    intro i hi'
    have hg : fs[i]? = some fs[i] := by simp [hi']
    obtain ⟨ho, hty⟩ := hf i _ hg
    have h1 := hr i _ hg
    rw [ho, hty, h2] at h1
    obtain ⟨y, hy⟩ := get_of_lt (show i < xs.length by omega)
    rw [hy] at h1
    obtain ⟨z, hcz, -, hw⟩ := DataW.trod_int hi h1
    refine ⟨z, hw, ?_⟩
    have := congrArg (·[0]?) hcz
    simpa [List.getElem?_take, List.getElem?_drop] using this)
  refine ⟨zs, hzl, fun z hm => ?_, ?_⟩
  · obtain ⟨i, hi'⟩ := List.getElem?_of_mem hm
    exact (hz i z hi').1
  · apply List.ext_getElem?
    intro i
    by_cases hi' : i < fs.size
    · obtain ⟨z, hzi⟩ := get_of_lt (show i < zs.length by omega)
      simp [hzi, (hz i z hzi).2]
    · rw [List.getElem?_eq_none (by omega), List.getElem?_eq_none (by simp; omega)]
theorem opens_instr {P : Program} {t : TypeId} {fs : Array Field} (ht : P.underlying t = some (.struct fs)) (hs : fs.size = 5) (hi : P.underlying 2 = some (.int .i64)) (h2 : P.cellsOf 2 = 1) (hc : P.cellsOf t = fs.size) (hf : ∀ (j : Nat) f, fs[j]? = some f → f.offset = j ∧ f.type = 2) : Opens P t kInstr fun _ => True := by
  intro H enc w base spare held fuel cs x h
  obtain ⟨zs, hl, -, rfl⟩ := open_flat ht hi h2 hc hf h
  match zs, hl.trans hs with
  | [a, b, c, d, e], _ => exact ⟨⟨a, b, c, d, e⟩, trivial, rfl⟩
theorem opens_term {P : Program} {t : TypeId} {fs : Array Field} (ht : P.underlying t = some (.struct fs)) (hs : fs.size = 4) (hi : P.underlying 2 = some (.int .i64)) (h2 : P.cellsOf 2 = 1) (hc : P.cellsOf t = fs.size) (hf : ∀ (j : Nat) f, fs[j]? = some f → f.offset = j ∧ f.type = 2) : Opens P t kTerm fun _ => True := by
  intro H enc w base spare held fuel cs x h
  obtain ⟨zs, hl, -, rfl⟩ := open_flat ht hi h2 hc hf h
  match zs, hl.trans hs with
  | [a, b, c, d], _ => exact ⟨⟨a, b, c, d⟩, trivial, rfl⟩
theorem opens_prod {α β : Type} {P : Program} {t : TypeId} {f0 f1 : Field} {d1 : Kd α} {d2 : Kd β} {G1 : α → Prop} {G2 : β → Prop} (ht : P.underlying t = some (.struct #[f0, f1])) (h0 : f0.offset = 0) (h1 : f1.offset = d1.sz) (hc0 : P.cellsOf f0.type = d1.sz) (hc1 : P.cellsOf f1.type = d2.sz) (hc : P.cellsOf t = d1.sz + d2.sz)
    (o1 : Opens P f0.type d1 G1) (o2 : Opens P f1.type d2 G2) : Opens P t (kProd d1 d2) fun x => G1 x.1 ∧ G2 x.2 := by
  intro H enc w base spare held fuel cs x h
  obtain ⟨y0, y1, n, -, hl, ha, hb⟩ := trod_struct2 ht h
  rw [h0, hc0, List.drop_zero] at ha
  rw [h1, hc1] at hb
  obtain ⟨a, ga, ka⟩ := o1 _ _ _ _ _ _ _ _ _ ha
  obtain ⟨b, gb, kb⟩ := o2 _ _ _ _ _ _ _ _ _ hb
  refine ⟨(a, b), ⟨ga, gb⟩, cs.take d1.sz, cs.drop d1.sz, (List.take_append_drop _ _).symm, ka, ?_⟩
  rwa [List.take_of_length_le (by simp; omega)] at kb
theorem opens_iso {α β : Type} {P : Program} {t : TypeId} {f : α → β} {g : β → α} {d : Kd β} {G : β → Prop} (hfg : ∀ y, f (g y) = y) (o : Opens P t d G) : Opens P t (kIso f d) fun x => G (f x) := by
  intro H enc w base spare held fuel cs x h
  obtain ⟨y, gy, ky⟩ := o _ _ _ _ _ _ _ _ _ h
  exact ⟨g y, by show G (f (g y)); rw [hfg]; exact gy, by show d.K w (f (g y)) cs; rw [hfg]; exact ky⟩
/-- A table of structs of bools. -/
theorem bools_of_table {H : Type} {enc : TypeId × Value → H} {P : Program} {w : World} {base : Nat} {spare : Nat → Bool} {held : Bool} {fuel : Nat} {t e : TypeId} {n : Nat} {cs : List Value} {ds : List (DataW H)} {p : List MemPlace} {fs : Array Field}
    (ht : P.underlying t = some (.array n e)) (he : P.underlying e = some (.struct fs)) (hb : P.underlying 4 = some .bool) (h4 : P.cellsOf 4 = 1) (hc : P.cellsOf e = fs.size) (hf : ∀ (j : Nat) f, fs[j]? = some f → f.offset = j ∧ f.type = 4)
    (h : DataW.trod enc P w base spare held fuel t cs = some (.agg ds, p)) {i j : Nat} {row : List (DataW H)} {b : Bool} (hi : ds[i]? = some (.agg row)) (hj : row[j]? = some (.lit (.bool b))) : cs[i * fs.size + j]? = some (.bool b) := by
  obtain ⟨xs, m, -, hx, hl, hxl, hr⟩ := DataW.trod_array ht h
  simp only [Prod.mk.injEq, DataW.agg.injEq] at hx
  obtain ⟨rfl, -⟩ := hx
  rw [List.getElem?_map, Option.map_eq_some_iff] at hi
  obtain ⟨x, hxi, hx1⟩ := hi
  have hin : i < n := by have := (List.getElem?_eq_some_iff.1 hxi).1; omega
  have h1 := hr i hin
  rw [hxi, hc] at h1
  obtain ⟨ys, m2, -, hy, hl2, hyl, hr2⟩ := DataW.trod_struct he h1
  rw [hy] at hx1
  simp only [DataW.agg.injEq] at hx1
  subst hx1
  rw [List.getElem?_map, Option.map_eq_some_iff] at hj
  obtain ⟨y, hyj, hy1⟩ := hj
  have hjn : j < fs.size := by have := (List.getElem?_eq_some_iff.1 hyj).1; omega
  obtain ⟨ho, hty⟩ := hf j fs[j] (by simp [hjn])
  have h2 := hr2 j fs[j] (by simp [hjn])
  rw [hyj, ho, hty, h4] at h2
  obtain ⟨b', hcb, rfl⟩ := DataW.trod_bool hb h2
  simp only [DataW.lit.injEq, Lit.bool.injEq] at hy1
  subst hy1
  have := congrArg (·[0]?) hcb
  simp only [List.getElem?_take, List.getElem?_drop, List.getElem?_cons_zero] at this
  simpa [hjn] using this
/-- A variable that a row reads, under Below. -/
theorem var_carry {H : Type} {enc : TypeId × Value → H} {P : Program} {W W' : World} {n : String} {gs : List (DataW H)} {ps : List MemPlace} (lo : laidOutB P = true) {t0 : TypeId} {g0 : Nat} (hg0 : P.globalNamed n = some g0) (ht0 : (P.globals[g0]?).map (·.type) = some t0) (hr : P.readableRec t0 = true) (hs : t0 < P.types.size)
    (h : DataW.TrodVars enc P W (fun _ => true) [n] gs ps) (bel : Below W.heap.size W W') : DataW.TrodVars enc P W' (fun b => decide (b < W.heap.size)) [n] gs ps := by
  have hlt := DataW.TrodVars.lt h
  obtain ⟨g, t, cs, fuel, d, p, rfl, h1, h2, h3, h4, rfl⟩ := trodVars_one h
  obtain rfl := Option.some.inj (hg0.symm.trans h1)
  obtain rfl := Option.some.inj (ht0.symm.trans h2)
  have hgl : g0 < W.heap.size := by
    simp only [World.var?, h1, Option.bind_some] at h3
    rcases hh : W.heap[g0]? with _ | o
    · rw [hh] at h3
      simp at h3
    · exact (Array.getElem?_eq_some_iff.1 hh).1
  obtain ⟨fuel', hf⟩ := Below.trod lo hr hs (v := .agg cs) ⟨fuel, by simpa [Value.cells] using h4⟩ bel fun x hx => hlt x (by simp [hx])
  refine trodVars_mk1 (fuel := fuel') h1 h2 ?_ (by simpa [Value.cells] using hf)
  simp only [World.var?, h1, Option.bind_some] at h3 ⊢
  rw [bel.block g0 hgl]
  exact h3
end Go.Proofs.YtnbkgaofdkkdnaaDoor
namespace Go.Proofs.YtnbkgaofdkkdnaaDoor
open Go.RowKit
set_option linter.unusedSimpArgs false
set_option linter.unusedVariables false
set_option maxRecDepth 100000
open Go.ChangeShapes Go.WideShapes Go.ChangeAt

theorem own : ownKnob Tryd.prog.godebug = none := by kernel_rfl
theorem laidOut : laidOutB Tryd.prog = true := by kernel_rfl
theorem gShapes : Tryd.prog.globalNamed "loop.example/s0031/impl.shapes" = some 0 := by kernel_rfl
theorem gShapesType : (Tryd.prog.globals[0]?).map (·.type) = some 117 := by kernel_rfl
theorem shapes_of {w : World} {rest : List (String × DataW Unit)} (h : laidMet Tryd.prog (("loop.example/s0031/impl.shapes", Rows.laid_loop_example_s0031_impl_shapes) :: rest) w) : Shapes w := by
  obtain ⟨ps, ⟨g', t', cs, fuel, p, q, hg', ht', hvar, hd, _, _⟩, _⟩ := h
  obtain rfl := Option.some.inj (gShapes.symm.trans hg')
  obtain rfl := Option.some.inj (gShapesType.symm.trans ht')
  intro op ho j v hv
  have hc := World.var?_cell gShapes hvar (op * 4 + j)
  have hj : j < 4 := by have := (List.getElem?_eq_some_iff.1 hv).1; simpa [shapeV] using this
  rw [hc, ← hv]
  have K := fun i j row b => bools_of_table (i := i) (j := j) (row := row) (b := b) Tryd.underlying117 Tryd.underlying116 Tryd.underlying4 (by kernel_rfl) (by kernel_rfl) (by intro j f hf; match j, hf with | 0, hf | 1, hf | 2, hf | 3, hf => (simp at hf; subst hf; exact ⟨rfl, rfl⟩) | j + 4, hf => simp at hf) hd
  simp only [Array.getElem?_toList] at K
  clear hd hv hc hvar
  rcases (by omega : op = 0 ∨ op = 1 ∨ op = 2 ∨ op = 3 ∨ op = 4 ∨ op = 5 ∨ op = 6 ∨ op = 7 ∨ op = 8 ∨ op = 9 ∨ op = 10 ∨ op = 11 ∨ op = 12 ∨ op = 13) with rfl | rfl | rfl | rfl | rfl | rfl | rfl | rfl | rfl | rfl | rfl | rfl | rfl | rfl
  · rcases (by omega : j = 0 ∨ j = 1 ∨ j = 2 ∨ j = 3) with rfl | rfl | rfl | rfl
    · exact K 0 0 _ false rfl rfl
    · exact K 0 1 _ false rfl rfl
    · exact K 0 2 _ false rfl rfl
    · exact K 0 3 _ false rfl rfl
  · rcases (by omega : j = 0 ∨ j = 1 ∨ j = 2 ∨ j = 3) with rfl | rfl | rfl | rfl
    · exact K 1 0 _ true rfl rfl
    · exact K 1 1 _ false rfl rfl
    · exact K 1 2 _ false rfl rfl
    · exact K 1 3 _ true rfl rfl
  · rcases (by omega : j = 0 ∨ j = 1 ∨ j = 2 ∨ j = 3) with rfl | rfl | rfl | rfl
    · exact K 2 0 _ true rfl rfl
    · exact K 2 1 _ false rfl rfl
    · exact K 2 2 _ false rfl rfl
    · exact K 2 3 _ true rfl rfl
  · rcases (by omega : j = 0 ∨ j = 1 ∨ j = 2 ∨ j = 3) with rfl | rfl | rfl | rfl
    · exact K 3 0 _ true rfl rfl
    · exact K 3 1 _ true rfl rfl
    · exact K 3 2 _ true rfl rfl
    · exact K 3 3 _ false rfl rfl
  · rcases (by omega : j = 0 ∨ j = 1 ∨ j = 2 ∨ j = 3) with rfl | rfl | rfl | rfl
    · exact K 4 0 _ true rfl rfl
    · exact K 4 1 _ true rfl rfl
    · exact K 4 2 _ true rfl rfl
    · exact K 4 3 _ false rfl rfl
  · rcases (by omega : j = 0 ∨ j = 1 ∨ j = 2 ∨ j = 3) with rfl | rfl | rfl | rfl
    · exact K 5 0 _ true rfl rfl
    · exact K 5 1 _ true rfl rfl
    · exact K 5 2 _ true rfl rfl
    · exact K 5 3 _ false rfl rfl
  · rcases (by omega : j = 0 ∨ j = 1 ∨ j = 2 ∨ j = 3) with rfl | rfl | rfl | rfl
    · exact K 6 0 _ true rfl rfl
    · exact K 6 1 _ true rfl rfl
    · exact K 6 2 _ true rfl rfl
    · exact K 6 3 _ false rfl rfl
  · rcases (by omega : j = 0 ∨ j = 1 ∨ j = 2 ∨ j = 3) with rfl | rfl | rfl | rfl
    · exact K 7 0 _ true rfl rfl
    · exact K 7 1 _ true rfl rfl
    · exact K 7 2 _ true rfl rfl
    · exact K 7 3 _ false rfl rfl
  · rcases (by omega : j = 0 ∨ j = 1 ∨ j = 2 ∨ j = 3) with rfl | rfl | rfl | rfl
    · exact K 8 0 _ true rfl rfl
    · exact K 8 1 _ true rfl rfl
    · exact K 8 2 _ false rfl rfl
    · exact K 8 3 _ false rfl rfl
  · rcases (by omega : j = 0 ∨ j = 1 ∨ j = 2 ∨ j = 3) with rfl | rfl | rfl | rfl
    · exact K 9 0 _ false rfl rfl
    · exact K 9 1 _ true rfl rfl
    · exact K 9 2 _ true rfl rfl
    · exact K 9 3 _ false rfl rfl
  · rcases (by omega : j = 0 ∨ j = 1 ∨ j = 2 ∨ j = 3) with rfl | rfl | rfl | rfl
    · exact K 10 0 _ false rfl rfl
    · exact K 10 1 _ true rfl rfl
    · exact K 10 2 _ false rfl rfl
    · exact K 10 3 _ false rfl rfl
  · rcases (by omega : j = 0 ∨ j = 1 ∨ j = 2 ∨ j = 3) with rfl | rfl | rfl | rfl
    · exact K 11 0 _ true rfl rfl
    · exact K 11 1 _ true rfl rfl
    · exact K 11 2 _ false rfl rfl
    · exact K 11 3 _ false rfl rfl
  · rcases (by omega : j = 0 ∨ j = 1 ∨ j = 2 ∨ j = 3) with rfl | rfl | rfl | rfl
    · exact K 12 0 _ false rfl rfl
    · exact K 12 1 _ true rfl rfl
    · exact K 12 2 _ false rfl rfl
    · exact K 12 3 _ false rfl rfl
  · rcases (by omega : j = 0 ∨ j = 1 ∨ j = 2 ∨ j = 3) with rfl | rfl | rfl | rfl
    · exact K 13 0 _ true rfl rfl
    · exact K 13 1 _ false rfl rfl
    · exact K 13 2 _ false rfl rfl
    · exact K 13 3 _ false rfl rfl
/-- A world for the witness: the table (block 0) as its initialiser lays it. -/
noncomputable def laidWorld (os : Os) : World :=
  { World.holding Tryd.prog os ⟨#[], #[], []⟩ with heap := (World.holding Tryd.prog os ⟨#[], #[], []⟩).heap.modify 0 fun
      | .cells _ t frozen => .cells #[.bool false, .bool false, .bool false, .bool false, .bool true, .bool false, .bool false, .bool true, .bool true, .bool false, .bool false, .bool true, .bool true, .bool true, .bool true, .bool false, .bool true, .bool true, .bool true, .bool false, .bool true, .bool true, .bool true, .bool false, .bool true, .bool true, .bool true, .bool false, .bool true, .bool true, .bool true, .bool false, .bool true, .bool true, .bool false, .bool false, .bool false, .bool true, .bool true, .bool false, .bool false, .bool true, .bool false, .bool false, .bool true, .bool true, .bool false, .bool false, .bool false, .bool true, .bool false, .bool false, .bool true, .bool false, .bool false, .bool false] t frozen
      | o => o }
end Go.Proofs.YtnbkgaofdkkdnaaDoor
