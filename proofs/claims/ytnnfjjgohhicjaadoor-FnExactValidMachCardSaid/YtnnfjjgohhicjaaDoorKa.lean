/- Contracts: comparisons of what is read, field by field. (Printed by kgen.py.) -/
import Derived.Test.YtnnfjjgohhicjaaDoorKj
import Derived.Test.YtnnfjjgohhicjaaDoorKc
import Derived.Test.YtnnfjjgohhicjaaDoorKm
import Derived.Test.YtnnfjjgohhicjaaDoorKo
import Derived.Test.YtnnfjjgohhicjaaDoorKs
import Derived.Deep.RegionHeld3
namespace Go.Proofs.YtnnfjjgohhicjaaDoor
open Go.RowKit
set_option linter.unusedSimpArgs false
set_option linter.unusedVariables false
set_option maxRecDepth 100000

set_option maxHeartbeats 2000000 in
theorem eqMach_c (X1 Y1 : Option Addr) (cX1 cY1 : Nat) (x y : Mach) (w : World) (hx1 : C (kMB 0) w X1 x.blocks) (hy1 : C (kMB 0) w Y1 y.blocks) (lx1 : x.blocks.length ≤ 140737488351232) (ly1 : y.blocks.length ≤ 140737488351232) (bx_ : ∀ (i : Nat) z, x.blocks[i]? = some z → z.instrs.length ≤ 140737488351232) (by_ : ∀ (i : Nat) z, y.blocks[i]? = some z → z.instrs.length ≤ 140737488351232) :
    Calls Tryd.prog 13 #[.agg #[.int .i64 x.regs, .slice X1 x.blocks.length cX1], .agg #[.int .i64 y.regs, .slice Y1 y.blocks.length cY1]] w fun e w' => e = .returned (.bool (decide (x = y))) ∧ Below w.heap.size w w' := by
  obtain ⟨x0, x1⟩ := x
  obtain ⟨y0, y1⟩ := y
  dsimp only at *
  go_enter Tryd.func13, Tryd.ntmps13
  go_wp2_with (first | (go_at_call 46; refine (eqMBlockS_c _ _ _ _ _ _ _ (hx1.below (by first | assumption | (repeat (first | (with_reducible first | exact Below.refl _ _ | assumption | exact ext_box _) | (with_reducible apply Below.drew) | ((with_reducible refine Below.setCell ?_ ?hs _); (case hs => first | (simp; done) | (simp; omega) | omega)) | ((with_reducible refine Below.alloc ?_ ?hs _); (case hs => first | (simp; done) | (simp; omega) | omega)))))) (hy1.below (by first | assumption | (repeat (first | (with_reducible first | exact Below.refl _ _ | assumption | exact ext_box _) | (with_reducible apply Below.drew) | ((with_reducible refine Below.setCell ?_ ?hs _); (case hs => first | (simp; done) | (simp; omega) | omega)) | ((with_reducible refine Below.alloc ?_ ?hs _); (case hs => first | (simp; done) | (simp; omega) | omega)))))) lx1 ly1 bx_ by_).mono ?_; rintro e w2 ⟨rfl, hb2⟩; have HB2 : Below w.heap.size w w2 := Below.then_ (by first | exact Below.drew ‹Below w.heap.size w _› | assumption | (repeat (first | (with_reducible first | exact Below.refl _ _ | assumption | exact ext_box _) | (with_reducible apply Below.drew) | ((with_reducible refine Below.setCell ?_ ?hs _); (case hs => first | (simp; done) | (simp; omega) | omega)) | ((with_reducible refine Below.alloc ?_ ?hs _); (case hs => first | (simp; done) | (simp; omega) | omega))))) hb2; obtain ⟨hc2, hf2⟩ := bcell hb2; have hz2 := hb2.size))
  all_goals go_ret
  all_goals go_light
  all_goals exact ⟨by first | (simp_all; done) | (simp_all; omega), by first | assumption | (repeat (first | (with_reducible first | exact Below.refl _ _ | assumption | exact ext_box _) | (with_reducible apply Below.drew) | ((with_reducible refine Below.setCell ?_ ?hs _); (case hs => first | (simp; done) | (simp; omega) | omega)) | ((with_reducible refine Below.alloc ?_ ?hs _); (case hs => first | (simp; done) | (simp; omega) | omega))))⟩
theorem szL_mem {α : Type} {f : α → Int → Int} (hf : ∀ x l, 0 ≤ l → f x l ≤ l ∧ -1 ≤ f x l) : ∀ (xs : List α) (l : Int), 0 ≤ l → 0 ≤ szL f xs l → ∀ x ∈ xs, ∃ q, 0 ≤ q ∧ q ≤ l ∧ 0 ≤ f x q
  | [], _, _, _, x, hx => by simp at hx
  | y :: r, l, hl, h, x, hx => by
    simp only [szL] at h
    have h1 := hf y l hl
    split at h
    · omega
    · rcases List.mem_cons.1 hx with rfl | hx
      · exact ⟨l, hl, by omega, by omega⟩
      · obtain ⟨q, q0, q1, q2⟩ := szL_mem hf r (f y l) (by omega) h x hx
        exact ⟨q, q0, by omega, q2⟩
theorem szMach_len {m : Mach} {l : Int} (h0 : 0 ≤ l) (h : ¬ szMach m l < 0) : (m.blocks.length : Int) ≤ l ∧ ∀ (i : Nat) b, m.blocks[i]? = some b → (b.instrs.length : Int) ≤ l := by
  simp only [szMach, szS] at h
  have h1 := szN_le m.blocks.length l h0
  split at h
  · omega
  · rename_i hn
    refine ⟨by simp only [szN] at hn; split at hn <;> omega, fun i b hb => ?_⟩
    obtain ⟨q, q0, q1, q2⟩ := szL_mem (f := szMB) (fun x l h => szMB_le x l h) m.blocks (szN m.blocks.length l) (by omega) (by omega) b (List.mem_of_getElem? hb)
    simp only [szMB, szN] at q2
    split at q2 <;> omega
set_option maxHeartbeats 4000000 in
theorem lawValidMach_c (A : Option Addr) (c : Nat) (m : Mach) (w : World) (hx : C (kMB 0) w A m.blocks) (hS : Shapes w) (hn : m.blocks.length ≤ 9223372036854775807) (hm : ∀ (i : Nat) b, m.blocks[i]? = some b → b.instrs.length ≤ 9223372036854775807) :
    Calls Tryd.prog 3 #[.agg #[.int .i64 m.regs, .slice A m.blocks.length c]] w fun e w' => e = .returned (.bool true) ∧ Below w.heap.size w w' := by
  by_cases hz : szMach m 1048576 < 0
  · have HSZ := Lib.hid (fun W (h : C (kMB 0) W A m.blocks) => szMach_c A c m 1048576 W h hn hm (by omega) (by omega))
    go_enter Tryd.func3, Tryd.ntmps3
    go_wp2_with (go_at_call 9; refine (HSZ.out _ (hx.below (by repeat (first | (with_reducible first | exact Below.refl _ _ | assumption | exact ext_box _) | (with_reducible apply Below.drew) | ((with_reducible refine Below.setCell ?_ ?hs _); (case hs => first | (simp; done) | (simp; omega) | omega)) | ((with_reducible refine Below.alloc ?_ ?hs _); (case hs => first | (simp; done) | (simp; omega) | omega)))))).mono ?_; rintro e w1 ⟨rfl, hb1⟩; have HB1 := Below.then_ (w := w) (by repeat (first | (with_reducible first | exact Below.refl _ _ | assumption | exact ext_box _) | (with_reducible apply Below.drew) | ((with_reducible refine Below.setCell ?_ ?hs _); (case hs => first | (simp; done) | (simp; omega) | omega)) | ((with_reducible refine Below.alloc ?_ ?hs _); (case hs => first | (simp; done) | (simp; omega) | omega)))) hb1)
    go_ret
    exact ⟨rfl, HB1⟩
  · have HSZ := Lib.hid (fun W (h : C (kMB 0) W A m.blocks) => szMach_c A c m 1048576 W h hn hm (by omega) (by omega))
    have HB := Lib.hid (szMach_len (by omega) hz)
    go_enter Tryd.func3, Tryd.ntmps3
    have hbl : m.blocks.length ≤ 1048576 := by have := HB.out.1; omega
    have HIL := Lib.hid (show ∀ (i : Nat) b, m.blocks[i]? = some b → b.instrs.length ≤ 1048576 from fun i b h => by have := HB.out.2 i b h; omega)
    have HTO := Lib.hid (fun W (h : C (kMB 0) W A m.blocks) => toMach_c A c m W h hbl HIL.out)
    have HSV := Lib.hid (fun A c W (h : C (kMB 0) W A m.blocks) => validMachS_c A c m W h hbl HIL.out)
    go_upto_region 6 with (first
      | (go_at_call 9; refine (HSZ.out _ (hx.below (by repeat (first | (with_reducible first | exact Below.refl _ _ | assumption | exact ext_box _) | (with_reducible apply Below.drew) | ((with_reducible refine Below.setCell ?_ ?hs _); (case hs => first | (simp; done) | (simp; omega) | omega)) | ((with_reducible refine Below.alloc ?_ ?hs _); (case hs => first | (simp; done) | (simp; omega) | omega)))))).mono ?_; rintro e w1 ⟨rfl, hb1⟩; have HB1 := Below.then_ (w := w) (by repeat (first | (with_reducible first | exact Below.refl _ _ | assumption | exact ext_box _) | (with_reducible apply Below.drew) | ((with_reducible refine Below.setCell ?_ ?hs _); (case hs => first | (simp; done) | (simp; omega) | omega)) | ((with_reducible refine Below.alloc ?_ ?hs _); (case hs => first | (simp; done) | (simp; omega) | omega)))) hb1; obtain ⟨hc1, hf1⟩ := bcell hb1; have zw1 : w.heap.size < w1.heap.size := (by have := hb1.size; (try simp at this); omega))
      | (go_at_call 11; refine (HTO.out _ (hx.below (by assumption))).mono ?_; rintro e w2 ⟨v2, fp2, rfl, r2, -, hb2⟩; obtain ⟨A2, c2, rfl, hl2⟩ := r2.form; have HR2 : Hid (C (kMB 0) w2 A2 m.blocks) := Lib.hid r2.reads; clear r2; have HB2 := Below.then_ (w := w) (by assumption) hb2; obtain ⟨hc2, hf2⟩ := bcell hb2; have zw2 : w.heap.size < w2.heap.size := (by have := hb2.size; (try simp at this); omega))
      | (go_at_call 10; refine (HSV.out _ _ _ HR2.out).mono ?_; rintro e w3 ⟨rfl, hb3⟩; have HB3 := Below.then_ (w := w) (by assumption) hb3; obtain ⟨hc3, hf3⟩ := bcell hb3; have zw3 : w.heap.size < w3.heap.size := (by have := hb3.size; (try simp at this); omega)))
    have HIV := Lib.hid (fun A c W (h : C (kMB 0) W A m.blocks) (h2 : Below w.heap.size w W) => validMach_i A c m W h (hS.below h2 hS.pos) hbl HIL.out)
    go_upto_region 10 with (first
      | (go_at_call 11; refine (HTO.out _ (hx.below (by assumption))).mono ?_; rintro e w4 ⟨v4, fp4, rfl, r4, -, hb4⟩; obtain ⟨A4, c4, rfl, hl4⟩ := r4.form; have HR4 : Hid (C (kMB 0) w4 A4 m.blocks) := Lib.hid r4.reads; clear r4; have HB4 := Below.then_ (w := w) (by assumption) hb4; obtain ⟨hc4, hf4⟩ := bcell hb4; have zw4 : w.heap.size < w4.heap.size := (by have := hb4.size; (try simp at this); omega))
      | (go_at_call 12; refine (HIV.out _ _ _ (HR4.out.below (by repeat (first | (with_reducible first | exact Below.refl _ _ | assumption | exact ext_box _) | (with_reducible apply Below.drew) | ((with_reducible refine Below.setCell ?_ ?hs _); (case hs => first | (simp; done) | (simp; omega) | omega)) | ((with_reducible refine Below.alloc ?_ ?hs _); (case hs => first | (simp; done) | (simp; omega) | omega))))) (by repeat (first | (with_reducible first | exact Below.refl _ _ | assumption | exact ext_box _) | (with_reducible apply Below.drew) | ((with_reducible refine Below.setCell ?_ ?hs _); (case hs => first | (simp; done) | (simp; omega) | omega)) | ((with_reducible refine Below.alloc ?_ ?hs _); (case hs => first | (simp; done) | (simp; omega) | omega))))).mono ?_; rintro e w5 ⟨rfl, hb5⟩; have HB5 := Below.then_ (w := w) (by repeat (first | (with_reducible first | exact Below.refl _ _ | assumption | exact ext_box _) | (with_reducible apply Below.drew) | ((with_reducible refine Below.setCell ?_ ?hs _); (case hs => first | (simp; done) | (simp; omega) | omega)) | ((with_reducible refine Below.alloc ?_ ?hs _); (case hs => first | (simp; done) | (simp; omega) | omega)))) hb5; have HR5 := Lib.hid ((HR4.out.below (by repeat (first | (with_reducible first | exact Below.refl _ _ | assumption | exact ext_box _) | (with_reducible apply Below.drew) | ((with_reducible refine Below.setCell ?_ ?hs _); (case hs => first | (simp; done) | (simp; omega) | omega)) | ((with_reducible refine Below.alloc ?_ ?hs _); (case hs => first | (simp; done) | (simp; omega) | omega))))).below hb5); obtain ⟨hc5, hf5⟩ := bcell hb5; have zv5 : w4.heap.size < w5.heap.size := (by have := hb5.size; (try simp at this); omega); have zw5 : w.heap.size < w5.heap.size := (by have := hb5.size; (try simp at this); omega)))
    have HEQ := Lib.hid (fun A0 A1 c0 c1 W (h : C (kMB 0) W A0 m.blocks) (h2 : C (kMB 0) W A1 m.blocks) => eqMach_c A0 A1 c0 c1 m m W h h2 (by omega) (by omega) (fun i b hb => by have := HIL.out i b hb; omega) (fun i b hb => by have := HIL.out i b hb; omega))
    have y0 : w5.cell? ⟨w4.heap.size, 0, none⟩ = some (.int .i64 m.regs) := by simp [*]
    have y1 : w5.cell? ⟨w4.heap.size, 1, none⟩ = some (.slice A4 m.blocks.length c4) := by simp [*]
    have y2 : w5.cell? ⟨w.heap.size, 0, none⟩ = some (.int .i64 m.regs) := (hc5 _ _ (by simp; omega)).trans ((((Below.refl _ w4).alloc (Nat.le_refl _) _).cell zw4).trans ((hc4 _ _ zw3).trans ((hc3 _ _ zw2).trans ((hc2 _ _ zw1).trans ((hc1 _ _ (by simp)).trans (by simp))))))
    have y3 : w5.cell? ⟨w.heap.size, 1, none⟩ = some (.slice A m.blocks.length c) := (hc5 _ _ (by simp; omega)).trans ((((Below.refl _ w4).alloc (Nat.le_refl _) _).cell zw4).trans ((hc4 _ _ zw3).trans ((hc3 _ _ zw2).trans ((hc2 _ _ zw1).trans ((hc1 _ _ (by simp)).trans (by simp))))))
    have KS := Lib.hid (fun w' (h : Below w5.heap.size w5 w') => (⟨(h.cell zv5).trans y0, (h.cell zv5).trans y1, (h.cell zw5).trans y2, (h.cell zw5).trans y3, h⟩ : w'.cell? ⟨w4.heap.size, 0, none⟩ = some (.int .i64 m.regs) ∧ w'.cell? ⟨w4.heap.size, 1, none⟩ = some (.slice A4 m.blocks.length c4) ∧ w'.cell? ⟨w.heap.size, 0, none⟩ = some (.int .i64 m.regs) ∧ w'.cell? ⟨w.heap.size, 1, none⟩ = some (.slice A m.blocks.length c) ∧ Below w5.heap.size w5 w'))
    go_region_held3 (fun w' => w'.cell? ⟨w4.heap.size, 0, none⟩ = some (.int .i64 m.regs) ∧ w'.cell? ⟨w4.heap.size, 1, none⟩ = some (.slice A4 m.blocks.length c4) ∧ w'.cell? ⟨w.heap.size, 0, none⟩ = some (.int .i64 m.regs) ∧ w'.cell? ⟨w.heap.size, 1, none⟩ = some (.slice A m.blocks.length c) ∧ Below w5.heap.size w5 w') ((refine KS.out _ ?_; (repeat (first | (with_reducible first | exact Below.refl _ _ | assumption | exact ext_box _) | (with_reducible apply Below.drew) | ((with_reducible refine Below.setCell ?_ ?hs _); (case hs => first | (simp; done) | (simp; omega) | omega)) | ((with_reducible refine Below.alloc ?_ ?hs _); (case hs => first | (simp; done) | (simp; omega) | omega))))))
      (first
      | (go_at_call 11; refine (HTO.out _ (hx.below (Below.then_ HB5 (by (repeat (first | (with_reducible first | exact Below.refl _ _ | assumption | exact ext_box _) | (with_reducible apply Below.drew) | ((with_reducible refine Below.setCell ?_ ?hs _); (case hs => first | (simp; done) | (simp; omega) | omega)) | ((with_reducible refine Below.alloc ?_ ?hs _); (case hs => first | (simp; done) | (simp; omega) | omega)))))))).mono ?_; rintro e w6 ⟨v6, fp6, rfl, r6, -, hb6⟩; obtain ⟨A6, c6, rfl, hl6⟩ := r6.form; have HR6 : Hid (C (kMB 0) w6 A6 m.blocks) := Lib.hid r6.reads; clear r6; have HR65 := Lib.hid (HR5.out.below (Below.then_ (by repeat (first | (with_reducible first | exact Below.refl _ _ | assumption | exact ext_box _) | (with_reducible apply Below.drew) | ((with_reducible refine Below.setCell ?_ ?hs _); (case hs => first | (simp; done) | (simp; omega) | omega)) | ((with_reducible refine Below.alloc ?_ ?hs _); (case hs => first | (simp; done) | (simp; omega) | omega)))) hb6)); have HB6 := Below.then_ (w := w5) (by repeat (first | (with_reducible first | exact Below.refl _ _ | assumption | exact ext_box _) | (with_reducible apply Below.drew) | ((with_reducible refine Below.setCell ?_ ?hs _); (case hs => first | (simp; done) | (simp; omega) | omega)) | ((with_reducible refine Below.alloc ?_ ?hs _); (case hs => first | (simp; done) | (simp; omega) | omega)))) hb6)
      | (go_at_call 13; refine (HEQ.out _ _ _ _ _ (HR65.out.below (by repeat (first | (with_reducible first | exact Below.refl _ _ | assumption | exact ext_box _) | (with_reducible apply Below.drew) | ((with_reducible refine Below.setCell ?_ ?hs _); (case hs => first | (simp; done) | (simp; omega) | omega)) | ((with_reducible refine Below.alloc ?_ ?hs _); (case hs => first | (simp; done) | (simp; omega) | omega))))) (HR6.out.below (by repeat (first | (with_reducible first | exact Below.refl _ _ | assumption | exact ext_box _) | (with_reducible apply Below.drew) | ((with_reducible refine Below.setCell ?_ ?hs _); (case hs => first | (simp; done) | (simp; omega) | omega)) | ((with_reducible refine Below.alloc ?_ ?hs _); (case hs => first | (simp; done) | (simp; omega) | omega)))))).mono ?_; rintro e w7 ⟨rfl, hb7⟩; have HB7 := Below.then_ (w := w5) (by repeat (first | (with_reducible first | exact Below.refl _ _ | assumption | exact ext_box _) | (with_reducible apply Below.drew) | ((with_reducible refine Below.setCell ?_ ?hs _); (case hs => first | (simp; done) | (simp; omega) | omega)) | ((with_reducible refine Below.alloc ?_ ?hs _); (case hs => first | (simp; done) | (simp; omega) | omega)))) hb7))
    all_goals go_wp2
    all_goals go_ret
    all_goals exact ⟨rfl, Below.trans HB5 (Below.mono (by (repeat (first | (with_reducible first | exact Below.refl _ _ | assumption | exact ext_box _) | (with_reducible apply Below.drew) | ((with_reducible refine Below.setCell ?_ ?hs _); (case hs => first | (simp; done) | (simp; omega) | omega)) | ((with_reducible refine Below.alloc ?_ ?hs _); (case hs => first | (simp; done) | (simp; omega) | omega))))) (by omega))⟩
end Go.Proofs.YtnnfjjgohhicjaaDoor
