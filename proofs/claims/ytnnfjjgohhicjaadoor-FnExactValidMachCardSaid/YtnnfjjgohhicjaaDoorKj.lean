/- Contracts: comparisons of what is read, field by field. (Printed by kgen.py.) -/
import Derived.Test.YtnnfjjgohhicjaaDoorKe
namespace Go.Proofs.YtnnfjjgohhicjaaDoor
open Go.RowKit
set_option linter.unusedSimpArgs false
set_option linter.unusedVariables false
set_option maxRecDepth 100000

set_option maxHeartbeats 2000000 in
theorem eqMBlock_c (X0 Y0 : Option Addr) (cX0 cY0 : Nat) (x y : MBlock) (w : World) (hx0 : C kInstr w X0 x.instrs) (hy0 : C kInstr w Y0 y.instrs) (lx0 : x.instrs.length ≤ 140737488351232) (ly0 : y.instrs.length ≤ 140737488351232) :
    Calls Tryd.prog 80 #[.agg #[.slice X0 x.instrs.length cX0, .int .i64 x.term.kind, .int .i64 x.term.a, .int .i64 x.term.to, .int .i64 x.term.els], .agg #[.slice Y0 y.instrs.length cY0, .int .i64 y.term.kind, .int .i64 y.term.a, .int .i64 y.term.to, .int .i64 y.term.els]] w fun e w' => e = .returned (.bool (decide (x = y))) ∧ Below w.heap.size w w' := by
  obtain ⟨x0, ⟨x1, x2, x3, x4⟩⟩ := x
  obtain ⟨y0, ⟨y1, y2, y3, y4⟩⟩ := y
  dsimp only at *
  go_enter Tryd.func80, Tryd.ntmps80
  go_wp2_with (first | (go_at_call 105; refine (eqInstrS_c _ _ _ _ _ _ _ (hx0.below (by first | assumption | (repeat (first | (with_reducible first | exact Below.refl _ _ | assumption | exact ext_box _) | (with_reducible apply Below.drew) | ((with_reducible refine Below.setCell ?_ ?hs _); (case hs => first | (simp; done) | (simp; omega) | omega)) | ((with_reducible refine Below.alloc ?_ ?hs _); (case hs => first | (simp; done) | (simp; omega) | omega)))))) (hy0.below (by first | assumption | (repeat (first | (with_reducible first | exact Below.refl _ _ | assumption | exact ext_box _) | (with_reducible apply Below.drew) | ((with_reducible refine Below.setCell ?_ ?hs _); (case hs => first | (simp; done) | (simp; omega) | omega)) | ((with_reducible refine Below.alloc ?_ ?hs _); (case hs => first | (simp; done) | (simp; omega) | omega)))))) lx0 ly0).mono ?_; rintro e w1 ⟨rfl, hb1⟩; have HB1 : Below w.heap.size w w1 := Below.then_ (by first | exact Below.drew ‹Below w.heap.size w _› | assumption | (repeat (first | (with_reducible first | exact Below.refl _ _ | assumption | exact ext_box _) | (with_reducible apply Below.drew) | ((with_reducible refine Below.setCell ?_ ?hs _); (case hs => first | (simp; done) | (simp; omega) | omega)) | ((with_reducible refine Below.alloc ?_ ?hs _); (case hs => first | (simp; done) | (simp; omega) | omega))))) hb1; obtain ⟨hc1, hf1⟩ := bcell hb1; have hz1 := hb1.size) | (go_at_call 106; refine (eqTerm_c ⟨_, _, _, _⟩ ⟨_, _, _, _⟩ _).mono ?_; rintro e w2 ⟨rfl, hb2⟩; have HB2 : Below w.heap.size w w2 := Below.then_ (by first | exact Below.drew ‹Below w.heap.size w _› | assumption | (repeat (first | (with_reducible first | exact Below.refl _ _ | assumption | exact ext_box _) | (with_reducible apply Below.drew) | ((with_reducible refine Below.setCell ?_ ?hs _); (case hs => first | (simp; done) | (simp; omega) | omega)) | ((with_reducible refine Below.alloc ?_ ?hs _); (case hs => first | (simp; done) | (simp; omega) | omega))))) hb2; obtain ⟨hc2, hf2⟩ := bcell hb2; have hz2 := hb2.size))
  all_goals go_ret
  all_goals go_light
  all_goals exact ⟨by first | (simp_all; done) | (simp_all; omega), by first | assumption | (repeat (first | (with_reducible first | exact Below.refl _ _ | assumption | exact ext_box _) | (with_reducible apply Below.drew) | ((with_reducible refine Below.setCell ?_ ?hs _); (case hs => first | (simp; done) | (simp; omega) | omega)) | ((with_reducible refine Below.alloc ?_ ?hs _); (case hs => first | (simp; done) | (simp; omega) | omega))))⟩
set_option maxHeartbeats 2000000 in
theorem eqMBlockS_c (A0 A1 : Option Addr) (c0 c1 : Nat) (xs ys : List MBlock) (w : World) (hx : C (kMB 0) w A0 xs) (hy : C (kMB 0) w A1 ys) (hm : xs.length ≤ 140737488351232) (hm2 : ys.length ≤ 140737488351232) (bx_ : ∀ (i : Nat) z, xs[i]? = some z → z.instrs.length ≤ 140737488351232) (by_ : ∀ (i : Nat) z, ys[i]? = some z → z.instrs.length ≤ 140737488351232) :
    Calls Tryd.prog 46 #[.slice A0 xs.length c0, .slice A1 ys.length c1] w fun e w' => e = .returned (.bool (decide (xs = ys))) ∧ Below w.heap.size w w' := by
  go_enter Tryd.func46, Tryd.ntmps46
  by_cases hl : xs.length = ys.length
  · have hb : ((xs.length : Int) != ys.length) = false := by simp [hl]
    have HL := Lib.hid hl
    clear hl
    go_wp2
    go_loopw [5] (fun i wr => ∃ k : Nat, k ≤ xs.length ∧ i = .int .i64 k ∧ xs.take k = ys.take k ∧ ∃ u : Ext w, wr = u.w) (fun i _ => xs.length - (intOf i).toNat)
    case atStart => exact ⟨0, by omega, rfl, by simp, Ext.self w, rfl⟩
    case round =>
      obtain ⟨k, hk, rfl, ht, u, rfl⟩ := hrel
      have HT := Lib.hid ht
      clear ht
      by_cases hlt : k < xs.length
      · obtain ⟨x, ex⟩ := get_of_lt hlt
        obtain ⟨y, ey⟩ := get_of_lt (HL.out ▸ hlt)
        obtain ⟨a0, _, rfl, ⟨_, _, rfl, ⟨Ax, cx, rfl, lx, rx⟩, rfl⟩, hxc⟩ := hx.at ex
        have P0 := hc5E (n := k * 5) hxc
        have rxE := fun u : Ext w => C.ext rx u
        have mx := bx_ _ _ ex
        clear hxc
        obtain ⟨a1, _, rfl, ⟨_, _, rfl, ⟨Ay, cy, rfl, ly, ry⟩, rfl⟩, hyc⟩ := hy.at ey
        have P1 := hc5E (n := k * 5) hyc
        have ryE := fun u : Ext w => C.ext ry u
        have my := by_ _ _ ey
        clear hyc
        have hlt2 : k < ys.length := HL.out ▸ hlt
        have EX := Lib.hid ex
        have EY := Lib.hid ey
        by_cases he : x = y
        · have hd : decide (x = y) = true := by simp [he]
          have HE := Lib.hid he
          clear he ex ey
          go_wp2
          refine wp_region_ext (W := w) (by kernel_rfl) (by kernel_rfl) ⟨_, rfl⟩ ?_
          repeat quiet_step ((first | (go_at_call 80; exact ext_of (eqMBlock_c _ _ _ _ x y _ (rxE _) (ryE _) mx my))))
          refine wpQuiet_nil ?_
          rintro _ ⟨u, rfl⟩
          go_wp2
          go_roundw
          case rel => exact ⟨k + 1, by omega, by go_num, by rw [take_snoc EX.out, take_snoc EY.out, HT.out, HE.out], _, rfl⟩
          case measure => simp [intOf]; omega
        · have hd : decide (x = y) = false := by simp [he]
          have HE := Lib.hid (show xs ≠ ys by rintro rfl; rw [ex] at ey; injection ey with e; exact he e)
          clear he ex ey
          go_wp2
          refine wp_region_ext (W := w) (by kernel_rfl) (by kernel_rfl) ⟨_, rfl⟩ ?_
          repeat quiet_step ((first | (go_at_call 80; exact ext_of (eqMBlock_c _ _ _ _ x y _ (rxE _) (ryE _) mx my))))
          refine wpQuiet_nil ?_
          rintro _ ⟨u, rfl⟩
          go_wp2
          go_ret
          exact ⟨ret_bool (by simp [HE.out]), u.hb⟩
      · have HR := Lib.hid (show xs = ys by have := HT.out; rwa [List.take_of_length_le (by omega), List.take_of_length_le (by have := HL.out; omega)] at this)
        go_wp2
        go_ret
        exact ⟨ret_bool (by simp [HR.out]), u.hb⟩
  · have hb : ((xs.length : Int) != ys.length) = true := by simp; omega
    have HN := Lib.hid (show xs ≠ ys from fun e => hl (by rw [e]))
    clear hl
    go_wp2
    go_ret
    exact ⟨ret_bool (by simp [HN.out]), Below.refl _ _⟩
end Go.Proofs.YtnnfjjgohhicjaaDoor
