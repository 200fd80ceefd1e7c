/- Contracts: comparisons of what is read, field by field. (Printed by kgen.py.) -/
import Derived.Test.YtnnfjjgohhicjaaDoorKe
import Derived.Test.YtnnfjjgohhicjaaDoorKu
namespace Go.Proofs.YtnnfjjgohhicjaaDoor
open Go.RowKit
set_option linter.unusedSimpArgs false
set_option linter.unusedVariables false
set_option maxRecDepth 100000

set_option maxHeartbeats 2000000 in
theorem eqInt64S_c (A0 A1 : Option Addr) (c0 c1 : Nat) (xs ys : List Int) (w : World) (hx : C (kInt .i64) w A0 xs) (hy : C (kInt .i64) w A1 ys) (hm : xs.length ≤ 140737488351232) (hm2 : ys.length ≤ 140737488351232) :
    Calls Tryd.prog 29 #[.slice A0 xs.length c0, .slice A1 ys.length c1] w fun e w' => e = .returned (.bool (decide (xs = ys))) ∧ Below w.heap.size w w' := by
  go_enter Tryd.func29, Tryd.ntmps29
  by_cases hl : xs.length = ys.length
  · have hb : ((xs.length : Int) != ys.length) = false := by simp [hl]
    have HL := Lib.hid hl
    clear hl
    go_wp2
    go_loopw [5] (fun i wr => ∃ k : Nat, k ≤ xs.length ∧ i = .int .i64 k ∧ xs.take k = ys.take k ∧ ∃ u : Ext w, wr = u.w) (fun i _ => xs.length - (intOf i).toNat)
    case atStart => exact ⟨0, by omega, rfl, by simp, Ext.self w, rfl⟩
    case round =>
      obtain ⟨k, hk, rfl, ht, u, rfl⟩ := hrel
      have HT := Lib.hid ht
      clear ht
      by_cases hlt : k < xs.length
      · obtain ⟨x, ex⟩ := get_of_lt hlt
        obtain ⟨y, ey⟩ := get_of_lt (HL.out ▸ hlt)
        obtain ⟨a0, _, rfl, rfl, hxc⟩ := hx.at ex
        have P0 := hc1E (n := k * 1) hxc
        rw [Nat.mul_one] at P0
        clear hxc
        obtain ⟨a1, _, rfl, rfl, hyc⟩ := hy.at ey
        have P1 := hc1E (n := k * 1) hyc
        rw [Nat.mul_one] at P1
        clear hyc
        have hlt2 : k < ys.length := HL.out ▸ hlt
        have EX := Lib.hid ex
        have EY := Lib.hid ey
        by_cases he : x = y
        · have hd : (x != y) = false := by simp [he]
          have HE := Lib.hid he
          clear he ex ey
          go_wp2
          refine wp_region_ext (W := w) (by kernel_rfl) (by kernel_rfl) ⟨_, rfl⟩ ?_
          repeat quiet_step ((fail))
          refine wpQuiet_nil ?_
          rintro _ ⟨u, rfl⟩
          go_wp2
          go_roundw
          case rel => exact ⟨k + 1, by omega, by go_num, by rw [take_snoc EX.out, take_snoc EY.out, HT.out, HE.out], _, rfl⟩
          case measure => simp [intOf]; omega
        · have hd : (x != y) = true := by simp [he]
          have HE := Lib.hid (show xs ≠ ys by rintro rfl; rw [ex] at ey; injection ey with e; exact he e)
          clear he ex ey
          go_wp2
          refine wp_region_ext (W := w) (by kernel_rfl) (by kernel_rfl) ⟨_, rfl⟩ ?_
          repeat quiet_step ((fail))
          refine wpQuiet_nil ?_
          rintro _ ⟨u, rfl⟩
          go_wp2
          go_ret
          exact ⟨ret_bool (by simp [HE.out]), u.hb⟩
      · have HR := Lib.hid (show xs = ys by have := HT.out; rwa [List.take_of_length_le (by omega), List.take_of_length_le (by have := HL.out; omega)] at this)
        go_wp2
        go_ret
        exact ⟨ret_bool (by simp [HR.out]), u.hb⟩
  · have hb : ((xs.length : Int) != ys.length) = true := by simp; omega
    have HN := Lib.hid (show xs ≠ ys from fun e => hl (by rw [e]))
    clear hl
    go_wp2
    go_ret
    exact ⟨ret_bool (by simp [HN.out]), Below.refl _ _⟩
set_option maxHeartbeats 2000000 in
theorem eqPhi_c (X1 Y1 : Option Addr) (cX1 cY1 : Nat) (x y : Phi) (w : World) (hx1 : C (kInt .i64) w X1 x.args) (hy1 : C (kInt .i64) w Y1 y.args) (lx1 : x.args.length ≤ 140737488351232) (ly1 : y.args.length ≤ 140737488351232) :
    Calls Tryd.prog 118 #[.agg #[.int .i64 x.dst, .slice X1 x.args.length cX1], .agg #[.int .i64 y.dst, .slice Y1 y.args.length cY1]] w fun e w' => e = .returned (.bool (decide (x = y))) ∧ Below w.heap.size w w' := by
  obtain ⟨x0, x1⟩ := x
  obtain ⟨y0, y1⟩ := y
  dsimp only at *
  go_enter Tryd.func118, Tryd.ntmps118
  go_wp2_with (first | (go_at_call 29; refine (eqInt64S_c _ _ _ _ _ _ _ (hx1.below (by first | assumption | (repeat (first | (with_reducible first | exact Below.refl _ _ | assumption | exact ext_box _) | (with_reducible apply Below.drew) | ((with_reducible refine Below.setCell ?_ ?hs _); (case hs => first | (simp; done) | (simp; omega) | omega)) | ((with_reducible refine Below.alloc ?_ ?hs _); (case hs => first | (simp; done) | (simp; omega) | omega)))))) (hy1.below (by first | assumption | (repeat (first | (with_reducible first | exact Below.refl _ _ | assumption | exact ext_box _) | (with_reducible apply Below.drew) | ((with_reducible refine Below.setCell ?_ ?hs _); (case hs => first | (simp; done) | (simp; omega) | omega)) | ((with_reducible refine Below.alloc ?_ ?hs _); (case hs => first | (simp; done) | (simp; omega) | omega)))))) lx1 ly1).mono ?_; rintro e w2 ⟨rfl, hb2⟩; have HB2 : Below w.heap.size w w2 := Below.then_ (by first | exact Below.drew ‹Below w.heap.size w _› | assumption | (repeat (first | (with_reducible first | exact Below.refl _ _ | assumption | exact ext_box _) | (with_reducible apply Below.drew) | ((with_reducible refine Below.setCell ?_ ?hs _); (case hs => first | (simp; done) | (simp; omega) | omega)) | ((with_reducible refine Below.alloc ?_ ?hs _); (case hs => first | (simp; done) | (simp; omega) | omega))))) hb2; obtain ⟨hc2, hf2⟩ := bcell hb2; have hz2 := hb2.size; have za2 : w.heap.size < w2.heap.size := (by have := hb2.size; (try simp at this); omega); have zb2 : w.heap.size + 1 < w2.heap.size := (by have := hb2.size; (try simp at this); omega)))
  all_goals go_ret
  all_goals go_light
  all_goals exact ⟨by first | (simp_all; done) | (simp_all; omega), by first | assumption | (repeat (first | (with_reducible first | exact Below.refl _ _ | assumption | exact ext_box _) | (with_reducible apply Below.drew) | ((with_reducible refine Below.setCell ?_ ?hs _); (case hs => first | (simp; done) | (simp; omega) | omega)) | ((with_reducible refine Below.alloc ?_ ?hs _); (case hs => first | (simp; done) | (simp; omega) | omega))))⟩
set_option maxHeartbeats 2000000 in
theorem eqPhiS_c (A0 A1 : Option Addr) (c0 c1 : Nat) (xs ys : List Phi) (w : World) (hx : C (kPhi 0) w A0 xs) (hy : C (kPhi 0) w A1 ys) (hm : xs.length ≤ 140737488351232) (hm2 : ys.length ≤ 140737488351232) (bx_ : ∀ (i : Nat) z, xs[i]? = some z → okPhi 140737488351232 z) (by_ : ∀ (i : Nat) z, ys[i]? = some z → okPhi 140737488351232 z) :
    Calls Tryd.prog 109 #[.slice A0 xs.length c0, .slice A1 ys.length c1] w fun e w' => e = .returned (.bool (decide (xs = ys))) ∧ Below w.heap.size w w' := by
  go_enter Tryd.func109, Tryd.ntmps109
  by_cases hl : xs.length = ys.length
  · have hb : ((xs.length : Int) != ys.length) = false := by simp [hl]
    have HL := Lib.hid hl
    clear hl
    go_wp2
    go_loopw [5] (fun i wr => ∃ k : Nat, k ≤ xs.length ∧ i = .int .i64 k ∧ xs.take k = ys.take k ∧ ∃ u : Ext w, wr = u.w) (fun i _ => xs.length - (intOf i).toNat)
    case atStart => exact ⟨0, by omega, rfl, by simp, Ext.self w, rfl⟩
    case round =>
      obtain ⟨k, hk, rfl, ht, u, rfl⟩ := hrel
      have HT := Lib.hid ht
      clear ht
      by_cases hlt : k < xs.length
      · obtain ⟨x, ex⟩ := get_of_lt hlt
        obtain ⟨y, ey⟩ := get_of_lt (HL.out ▸ hlt)
        obtain ⟨a0, _, rfl, ⟨_, _, rfl, rfl, ⟨Ax, cx, rfl, lx, rx⟩⟩, hxc⟩ := hx.at ex
        have P0 := hc2E (n := k * 2) hxc
        have rxE := fun u : Ext w => C.ext rx u
        have mx := bx_ _ _ ex
        clear hxc
        obtain ⟨a1, _, rfl, ⟨_, _, rfl, rfl, ⟨Ay, cy, rfl, ly, ry⟩⟩, hyc⟩ := hy.at ey
        have P1 := hc2E (n := k * 2) hyc
        have ryE := fun u : Ext w => C.ext ry u
        have my := by_ _ _ ey
        clear hyc
        have hlt2 : k < ys.length := HL.out ▸ hlt
        have EX := Lib.hid ex
        have EY := Lib.hid ey
        by_cases he : x = y
        · have hd : decide (x = y) = true := by simp [he]
          have HE := Lib.hid he
          clear he ex ey
          go_wp2
          refine wp_region_ext (W := w) (by kernel_rfl) (by kernel_rfl) ⟨_, rfl⟩ ?_
          repeat quiet_step ((first | (go_at_call 118; exact ext_of (eqPhi_c _ _ _ _ x y _ (rxE _) (ryE _) mx my))))
          refine wpQuiet_nil ?_
          rintro _ ⟨u, rfl⟩
          go_wp2
          go_roundw
          case rel => exact ⟨k + 1, by omega, by go_num, by rw [take_snoc EX.out, take_snoc EY.out, HT.out, HE.out], _, rfl⟩
          case measure => simp [intOf]; omega
        · have hd : decide (x = y) = false := by simp [he]
          have HE := Lib.hid (show xs ≠ ys by rintro rfl; rw [ex] at ey; injection ey with e; exact he e)
          clear he ex ey
          go_wp2
          refine wp_region_ext (W := w) (by kernel_rfl) (by kernel_rfl) ⟨_, rfl⟩ ?_
          repeat quiet_step ((first | (go_at_call 118; exact ext_of (eqPhi_c _ _ _ _ x y _ (rxE _) (ryE _) mx my))))
          refine wpQuiet_nil ?_
          rintro _ ⟨u, rfl⟩
          go_wp2
          go_ret
          exact ⟨ret_bool (by simp [HE.out]), u.hb⟩
      · have HR := Lib.hid (show xs = ys by have := HT.out; rwa [List.take_of_length_le (by omega), List.take_of_length_le (by have := HL.out; omega)] at this)
        go_wp2
        go_ret
        exact ⟨ret_bool (by simp [HR.out]), u.hb⟩
  · have hb : ((xs.length : Int) != ys.length) = true := by simp; omega
    have HN := Lib.hid (show xs ≠ ys from fun e => hl (by rw [e]))
    clear hl
    go_wp2
    go_ret
    exact ⟨ret_bool (by simp [HN.out]), Below.refl _ _⟩
set_option maxHeartbeats 2000000 in
theorem eqBlock_c (X0 Y0 : Option Addr) (cX0 cY0 : Nat) (X1 Y1 : Option Addr) (cX1 cY1 : Nat) (x y : Block) (w : World) (hx0 : C (kPhi 0) w X0 x.phis) (hy0 : C (kPhi 0) w Y0 y.phis) (lx0 : x.phis.length ≤ 140737488351232) (ly0 : y.phis.length ≤ 140737488351232) (hx1 : C kInstr w X1 x.instrs) (hy1 : C kInstr w Y1 y.instrs) (lx1 : x.instrs.length ≤ 140737488351232) (ly1 : y.instrs.length ≤ 140737488351232) (px_ : ∀ (i : Nat) z, x.phis[i]? = some z → okPhi 140737488351232 z) (py_ : ∀ (i : Nat) z, y.phis[i]? = some z → okPhi 140737488351232 z) :
    Calls Tryd.prog 84 #[.agg #[.slice X0 x.phis.length cX0, .slice X1 x.instrs.length cX1, .int .i64 x.term.kind, .int .i64 x.term.a, .int .i64 x.term.to, .int .i64 x.term.els], .agg #[.slice Y0 y.phis.length cY0, .slice Y1 y.instrs.length cY1, .int .i64 y.term.kind, .int .i64 y.term.a, .int .i64 y.term.to, .int .i64 y.term.els]] w fun e w' => e = .returned (.bool (decide (x = y))) ∧ Below w.heap.size w w' := by
  obtain ⟨x0, x1, ⟨x2, x3, x4, x5⟩⟩ := x
  obtain ⟨y0, y1, ⟨y2, y3, y4, y5⟩⟩ := y
  dsimp only at *
  go_enter Tryd.func84, Tryd.ntmps84
  go_wp2_with (first | (go_at_call 109; refine (eqPhiS_c _ _ _ _ _ _ _ (hx0.below (by first | assumption | (repeat (first | (with_reducible first | exact Below.refl _ _ | assumption | exact ext_box _) | (with_reducible apply Below.drew) | ((with_reducible refine Below.setCell ?_ ?hs _); (case hs => first | (simp; done) | (simp; omega) | omega)) | ((with_reducible refine Below.alloc ?_ ?hs _); (case hs => first | (simp; done) | (simp; omega) | omega)))))) (hy0.below (by first | assumption | (repeat (first | (with_reducible first | exact Below.refl _ _ | assumption | exact ext_box _) | (with_reducible apply Below.drew) | ((with_reducible refine Below.setCell ?_ ?hs _); (case hs => first | (simp; done) | (simp; omega) | omega)) | ((with_reducible refine Below.alloc ?_ ?hs _); (case hs => first | (simp; done) | (simp; omega) | omega)))))) lx0 ly0 px_ py_).mono ?_; rintro e w1 ⟨rfl, hb1⟩; have HB1 : Below w.heap.size w w1 := Below.then_ (by first | exact Below.drew ‹Below w.heap.size w _› | assumption | (repeat (first | (with_reducible first | exact Below.refl _ _ | assumption | exact ext_box _) | (with_reducible apply Below.drew) | ((with_reducible refine Below.setCell ?_ ?hs _); (case hs => first | (simp; done) | (simp; omega) | omega)) | ((with_reducible refine Below.alloc ?_ ?hs _); (case hs => first | (simp; done) | (simp; omega) | omega))))) hb1; obtain ⟨hc1, hf1⟩ := bcell hb1; have hz1 := hb1.size; have za1 : w.heap.size < w1.heap.size := (by have := hb1.size; (try simp at this); omega); have zb1 : w.heap.size + 1 < w1.heap.size := (by have := hb1.size; (try simp at this); omega)) | (go_at_call 105; refine (eqInstrS_c _ _ _ _ _ _ _ (hx1.below (by first | assumption | (repeat (first | (with_reducible first | exact Below.refl _ _ | assumption | exact ext_box _) | (with_reducible apply Below.drew) | ((with_reducible refine Below.setCell ?_ ?hs _); (case hs => first | (simp; done) | (simp; omega) | omega)) | ((with_reducible refine Below.alloc ?_ ?hs _); (case hs => first | (simp; done) | (simp; omega) | omega)))))) (hy1.below (by first | assumption | (repeat (first | (with_reducible first | exact Below.refl _ _ | assumption | exact ext_box _) | (with_reducible apply Below.drew) | ((with_reducible refine Below.setCell ?_ ?hs _); (case hs => first | (simp; done) | (simp; omega) | omega)) | ((with_reducible refine Below.alloc ?_ ?hs _); (case hs => first | (simp; done) | (simp; omega) | omega)))))) lx1 ly1).mono ?_; rintro e w2 ⟨rfl, hb2⟩; have HB2 : Below w.heap.size w w2 := Below.then_ (by first | exact Below.drew ‹Below w.heap.size w _› | assumption | (repeat (first | (with_reducible first | exact Below.refl _ _ | assumption | exact ext_box _) | (with_reducible apply Below.drew) | ((with_reducible refine Below.setCell ?_ ?hs _); (case hs => first | (simp; done) | (simp; omega) | omega)) | ((with_reducible refine Below.alloc ?_ ?hs _); (case hs => first | (simp; done) | (simp; omega) | omega))))) hb2; obtain ⟨hc2, hf2⟩ := bcell hb2; have hz2 := hb2.size; have za2 : w.heap.size < w2.heap.size := (by have := hb2.size; (try simp at this); omega); have zb2 : w.heap.size + 1 < w2.heap.size := (by have := hb2.size; (try simp at this); omega)) | (go_at_call 106; refine (eqTerm_c ⟨_, _, _, _⟩ ⟨_, _, _, _⟩ _).mono ?_; rintro e w3 ⟨rfl, hb3⟩; have HB3 : Below w.heap.size w w3 := Below.then_ (by first | exact Below.drew ‹Below w.heap.size w _› | assumption | (repeat (first | (with_reducible first | exact Below.refl _ _ | assumption | exact ext_box _) | (with_reducible apply Below.drew) | ((with_reducible refine Below.setCell ?_ ?hs _); (case hs => first | (simp; done) | (simp; omega) | omega)) | ((with_reducible refine Below.alloc ?_ ?hs _); (case hs => first | (simp; done) | (simp; omega) | omega))))) hb3; obtain ⟨hc3, hf3⟩ := bcell hb3; have hz3 := hb3.size; have za3 : w.heap.size < w3.heap.size := (by have := hb3.size; (try simp at this); omega); have zb3 : w.heap.size + 1 < w3.heap.size := (by have := hb3.size; (try simp at this); omega)))
  all_goals go_ret
  all_goals go_light
  all_goals exact ⟨by first | (simp_all; done) | (simp_all; omega), by first | assumption | (repeat (first | (with_reducible first | exact Below.refl _ _ | assumption | exact ext_box _) | (with_reducible apply Below.drew) | ((with_reducible refine Below.setCell ?_ ?hs _); (case hs => first | (simp; done) | (simp; omega) | omega)) | ((with_reducible refine Below.alloc ?_ ?hs _); (case hs => first | (simp; done) | (simp; omega) | omega))))⟩
set_option maxHeartbeats 2000000 in
theorem eqBlockS_c (A0 A1 : Option Addr) (c0 c1 : Nat) (xs ys : List Block) (w : World) (hx : C (kBlock 0 0 0) w A0 xs) (hy : C (kBlock 0 0 0) w A1 ys) (hm : xs.length ≤ 140737488351232) (hm2 : ys.length ≤ 140737488351232) (bx_ : ∀ (i : Nat) z, xs[i]? = some z → okBlk 140737488351232 z) (by_ : ∀ (i : Nat) z, ys[i]? = some z → okBlk 140737488351232 z) :
    Calls Tryd.prog 54 #[.slice A0 xs.length c0, .slice A1 ys.length c1] w fun e w' => e = .returned (.bool (decide (xs = ys))) ∧ Below w.heap.size w w' := by
  go_enter Tryd.func54, Tryd.ntmps54
  by_cases hl : xs.length = ys.length
  · have hb : ((xs.length : Int) != ys.length) = false := by simp [hl]
    have HL := Lib.hid hl
    clear hl
    go_wp2
    go_loopw [5] (fun i wr => ∃ k : Nat, k ≤ xs.length ∧ i = .int .i64 k ∧ xs.take k = ys.take k ∧ ∃ u : Ext w, wr = u.w) (fun i _ => xs.length - (intOf i).toNat)
    case atStart => exact ⟨0, by omega, rfl, by simp, Ext.self w, rfl⟩
    case round =>
      obtain ⟨k, hk, rfl, ht, u, rfl⟩ := hrel
      have HT := Lib.hid ht
      clear ht
      by_cases hlt : k < xs.length
      · obtain ⟨x, ex⟩ := get_of_lt hlt
        obtain ⟨y, ey⟩ := get_of_lt (HL.out ▸ hlt)
        obtain ⟨a0, _, rfl, ⟨_, _, rfl, ⟨Ax, cx, rfl, lx, rx⟩, _, _, rfl, ⟨Bx, dx, rfl, kx, sx⟩, rfl⟩, hxc⟩ := hx.at ex
        have P0 := hc6E (n := k * 6) hxc
        have rxE := fun u : Ext w => C.ext rx u
        have sxE := fun u : Ext w => C.ext sx u
        have mx := bx_ _ _ ex
        clear hxc
        obtain ⟨a1, _, rfl, ⟨_, _, rfl, ⟨Ay, cy, rfl, ly, ry⟩, _, _, rfl, ⟨By, dy, rfl, ky, sy⟩, rfl⟩, hyc⟩ := hy.at ey
        have P1 := hc6E (n := k * 6) hyc
        have ryE := fun u : Ext w => C.ext ry u
        have syE := fun u : Ext w => C.ext sy u
        have my := by_ _ _ ey
        clear hyc
        have hlt2 : k < ys.length := HL.out ▸ hlt
        have EX := Lib.hid ex
        have EY := Lib.hid ey
        by_cases he : x = y
        · have hd : decide (x = y) = true := by simp [he]
          have HE := Lib.hid he
          clear he ex ey
          go_wp2
          refine wp_region_ext (W := w) (by kernel_rfl) (by kernel_rfl) ⟨_, rfl⟩ ?_
          repeat quiet_step ((first | (go_at_call 84; exact ext_of (eqBlock_c _ _ _ _ _ _ _ _ x y _ (rxE _) (ryE _) mx.1 my.1 (sxE _) (syE _) mx.2.2 my.2.2 mx.2.1 my.2.1))))
          refine wpQuiet_nil ?_
          rintro _ ⟨u, rfl⟩
          go_wp2
          go_roundw
          case rel => exact ⟨k + 1, by omega, by go_num, by rw [take_snoc EX.out, take_snoc EY.out, HT.out, HE.out], _, rfl⟩
          case measure => simp [intOf]; omega
        · have hd : decide (x = y) = false := by simp [he]
          have HE := Lib.hid (show xs ≠ ys by rintro rfl; rw [ex] at ey; injection ey with e; exact he e)
          clear he ex ey
          go_wp2
          refine wp_region_ext (W := w) (by kernel_rfl) (by kernel_rfl) ⟨_, rfl⟩ ?_
          repeat quiet_step ((first | (go_at_call 84; exact ext_of (eqBlock_c _ _ _ _ _ _ _ _ x y _ (rxE _) (ryE _) mx.1 my.1 (sxE _) (syE _) mx.2.2 my.2.2 mx.2.1 my.2.1))))
          refine wpQuiet_nil ?_
          rintro _ ⟨u, rfl⟩
          go_wp2
          go_ret
          exact ⟨ret_bool (by simp [HE.out]), u.hb⟩
      · have HR := Lib.hid (show xs = ys by have := HT.out; rwa [List.take_of_length_le (by omega), List.take_of_length_le (by have := HL.out; omega)] at this)
        go_wp2
        go_ret
        exact ⟨ret_bool (by simp [HR.out]), u.hb⟩
  · have hb : ((xs.length : Int) != ys.length) = true := by simp; omega
    have HN := Lib.hid (show xs ≠ ys from fun e => hl (by rw [e]))
    clear hl
    go_wp2
    go_ret
    exact ⟨ret_bool (by simp [HN.out]), Below.refl _ _⟩
set_option maxHeartbeats 2000000 in
theorem eqFunc_c (X1 Y1 : Option Addr) (cX1 cY1 : Nat) (x y : Func) (w : World) (hx1 : C (kBlock 0 0 0) w X1 x.blocks) (hy1 : C (kBlock 0 0 0) w Y1 y.blocks) (lx1 : x.blocks.length ≤ 140737488351232) (ly1 : y.blocks.length ≤ 140737488351232) (bx_ : ∀ (i : Nat) z, x.blocks[i]? = some z → okBlk 140737488351232 z) (by_ : ∀ (i : Nat) z, y.blocks[i]? = some z → okBlk 140737488351232 z) :
    Calls Tryd.prog 18 #[.agg #[.int .i64 x.values, .slice X1 x.blocks.length cX1], .agg #[.int .i64 y.values, .slice Y1 y.blocks.length cY1]] w fun e w' => e = .returned (.bool (decide (x = y))) ∧ Below w.heap.size w w' := by
  obtain ⟨x0, x1⟩ := x
  obtain ⟨y0, y1⟩ := y
  dsimp only at *
  go_enter Tryd.func18, Tryd.ntmps18
  go_wp2_with (first | (go_at_call 54; refine (eqBlockS_c _ _ _ _ _ _ _ (hx1.below (by first | assumption | (repeat (first | (with_reducible first | exact Below.refl _ _ | assumption | exact ext_box _) | (with_reducible apply Below.drew) | ((with_reducible refine Below.setCell ?_ ?hs _); (case hs => first | (simp; done) | (simp; omega) | omega)) | ((with_reducible refine Below.alloc ?_ ?hs _); (case hs => first | (simp; done) | (simp; omega) | omega)))))) (hy1.below (by first | assumption | (repeat (first | (with_reducible first | exact Below.refl _ _ | assumption | exact ext_box _) | (with_reducible apply Below.drew) | ((with_reducible refine Below.setCell ?_ ?hs _); (case hs => first | (simp; done) | (simp; omega) | omega)) | ((with_reducible refine Below.alloc ?_ ?hs _); (case hs => first | (simp; done) | (simp; omega) | omega)))))) lx1 ly1 bx_ by_).mono ?_; rintro e w2 ⟨rfl, hb2⟩; have HB2 : Below w.heap.size w w2 := Below.then_ (by first | exact Below.drew ‹Below w.heap.size w _› | assumption | (repeat (first | (with_reducible first | exact Below.refl _ _ | assumption | exact ext_box _) | (with_reducible apply Below.drew) | ((with_reducible refine Below.setCell ?_ ?hs _); (case hs => first | (simp; done) | (simp; omega) | omega)) | ((with_reducible refine Below.alloc ?_ ?hs _); (case hs => first | (simp; done) | (simp; omega) | omega))))) hb2; obtain ⟨hc2, hf2⟩ := bcell hb2; have hz2 := hb2.size; have za2 : w.heap.size < w2.heap.size := (by have := hb2.size; (try simp at this); omega); have zb2 : w.heap.size + 1 < w2.heap.size := (by have := hb2.size; (try simp at this); omega)))
  all_goals go_ret
  all_goals go_light
  all_goals exact ⟨by first | (simp_all; done) | (simp_all; omega), by first | assumption | (repeat (first | (with_reducible first | exact Below.refl _ _ | assumption | exact ext_box _) | (with_reducible apply Below.drew) | ((with_reducible refine Below.setCell ?_ ?hs _); (case hs => first | (simp; done) | (simp; omega) | omega)) | ((with_reducible refine Below.alloc ?_ ?hs _); (case hs => first | (simp; done) | (simp; omega) | omega))))⟩
end Go.Proofs.YtnnfjjgohhicjaaDoor
