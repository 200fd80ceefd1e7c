/- From a row's reading: machine programs, slices of whole numbers, whole numbers. No condition. -/
import Derived.Test.YtnnfjjgohhicjaaDoorMr9
import Derived.Test.YtnnfjjgohhicjaaDoorMr10
import Derived.Deep.RegionHeld3
import Derived.Test.YtnnfjjgohhicjaaDoorMr1
import Derived.ChangeArms
import Derived.ChangeVars
import Derived.OpenShut
import Derived.WideShapes
import Derived.Carry
import Derived.DataElems
import Derived.Test.YtnnfjjgohhicjaaDoorRows
import Derived.WalkKit
import Derived.ProofKit
import Derived.Deep.DeepHandedRow
import Derived.SizedLaws
import Derived.Test.YtnnfjjgohhicjaaDoorMr3
namespace Go.Proofs.YtnnfjjgohhicjaaDoor
open Go.RowKit
set_option linter.unusedSimpArgs false
set_option linter.unusedVariables false
set_option maxRecDepth 100000

theorem C_mb {e : TypeId} {w : World} {A : Option Addr} {xs : List MBlock} (h : C (kMB e) w A xs) : C (kMB 0) w A xs := by
  first | exact h | (unfold C at h ⊢; exact h) | (simpa [C, kMB, kIso, kProd, kSlice] using h)
set_option maxHeartbeats 8000000 in
theorem lawRunMach_c (A L H : Option Addr) (c ca ch : Nat) (m : Mach) (args heap : List Int) (fuel : Int) (w : World) (hx : C (kMB 0) w L m.blocks) (hA : C kI64 w A args) (hH : C kI64 w H heap) (hS : Shapes w) (hn : m.blocks.length ≤ 9223372036854775807) (hm : ∀ (i : Nat) b, m.blocks[i]? = some b → b.instrs.length ≤ 9223372036854775807)
    (ha : args.length ≤ 9223372036854775807) (hh : heap.length ≤ 9223372036854775807) :
    Calls Tryd.prog 6 #[.agg #[.int .i64 m.regs, .slice L m.blocks.length c], .slice A args.length ca, .slice H heap.length ch, .int .i64 fuel] w fun e w' => e = .returned (.bool true) ∧ Below w.heap.size w w' := by
  by_cases hla : args.length ≤ 1048576
  · by_cases hlh : heap.length ≤ 1048576
    · have HSZ := Lib.hid (fun W (h : C (kMB 0) W L m.blocks) => szMach_c L c m 1048576 W h hn hm (by omega) (by omega))
      by_cases hz : szMach m 1048576 < 0
      · go_enter Tryd.func6, Tryd.ntmps6
        go_wp2_with (go_at_call 9; refine (HSZ.out _ (hx.below (by repeat (first | (with_reducible first | exact Below.refl _ _ | assumption | exact ext_box _) | (with_reducible apply Below.drew) | ((with_reducible refine Below.setCell ?_ ?hs _); (case hs => first | (simp; done) | (simp; omega) | omega)) | ((with_reducible refine Below.alloc ?_ ?hs _); (case hs => first | (simp; done) | (simp; omega) | omega)))))).mono ?_; rintro e w1 ⟨rfl, hb1⟩; have HB1 := Below.then_ (w := w) (by repeat (first | (with_reducible first | exact Below.refl _ _ | assumption | exact ext_box _) | (with_reducible apply Below.drew) | ((with_reducible refine Below.setCell ?_ ?hs _); (case hs => first | (simp; done) | (simp; omega) | omega)) | ((with_reducible refine Below.alloc ?_ ?hs _); (case hs => first | (simp; done) | (simp; omega) | omega)))) hb1)
        go_ret
        exact ⟨rfl, HB1⟩
      · have HB := Lib.hid (szMach_len (by omega) hz)
        have hbl : m.blocks.length ≤ 1048576 := by have := HB.out.1; omega
        have HIL := Lib.hid (show ∀ (i : Nat) b, m.blocks[i]? = some b → b.instrs.length ≤ 1048576 from fun i b h => by have := HB.out.2 i b h; omega)
        have HTO := Lib.hid (fun W (h : Below w.heap.size w W) => toMach_c L c m W (hx.below h) hbl HIL.out)
        have HTA := Lib.hid (fun W (h : Below w.heap.size w W) => toInt64S_c A ca args W (hA.below h) hla)
        have HTH := Lib.hid (fun W (h : Below w.heap.size w W) => toInt64S_c H ch heap W (hH.below h) hlh)
        obtain ⟨R, hR⟩ : ∃ R, runMach m args heap fuel = R := ⟨_, rfl⟩
        have hrl := runMach_len m args heap fuel
        have HRM := Lib.hid (show ∀ W e w', RetOut W (runMach m args heap fuel) e w' → RetOut W R e w' from fun W e w' h => hR ▸ h)
        rw [hR] at hrl
        obtain ⟨hrl1, hrl2⟩ := hrl
        clear hR
        have HSV := Lib.hid (fun A L H c ca ch W (h1 : C (kMB 0) W L m.blocks) (h2 : C kI64 W A args) (h3 : C kI64 W H heap) => (runMach_s A L H c ca ch m args heap fuel W h1 h2 h3 hbl HIL.out hla hlh).mono (HRM.out W))
        go_enter Tryd.func6, Tryd.ntmps6
        go_upto_region 10 with (first
          | (go_at_call 9; refine (HSZ.out _ (hx.below (by repeat (first | (with_reducible first | exact Below.refl _ _ | assumption | exact ext_box _) | (with_reducible apply Below.drew) | ((with_reducible refine Below.setCell ?_ ?hs _); (case hs => first | (simp; done) | (simp; omega) | omega)) | ((with_reducible refine Below.alloc ?_ ?hs _); (case hs => first | (simp; done) | (simp; omega) | omega)))))).mono ?_; rintro e w1 ⟨rfl, hb1⟩; have HB1 := Below.then_ (w := w) (by repeat (first | (with_reducible first | exact Below.refl _ _ | assumption | exact ext_box _) | (with_reducible apply Below.drew) | ((with_reducible refine Below.setCell ?_ ?hs _); (case hs => first | (simp; done) | (simp; omega) | omega)) | ((with_reducible refine Below.alloc ?_ ?hs _); (case hs => first | (simp; done) | (simp; omega) | omega)))) hb1; obtain ⟨hc1, hf1⟩ := bcell hb1; have zw1 : w.heap.size < w1.heap.size := (by have := hb1.size; (try simp at this); omega))
          | (go_at_call 11; (with_reducible refine (HTO.out _ (by assumption)).mono ?_); intro e w2 hp2; unfold RetMach at hp2; obtain ⟨v2, fp2, rfl, r2, -, hb2⟩ := hp2; obtain ⟨A2, c2, rfl, hl2⟩ := r2.form; have HR2 := Lib.hid (C_mb r2.reads); clear r2; have HB2 := Below.then_ (w := w) (by assumption) hb2)
          | (go_at_call 26; (with_reducible refine (HTA.out _ (by assumption)).mono ?_); intro e w3 hp3; unfold RetRow at hp3; obtain ⟨v3, fp3, rfl, r3, -, hb3⟩ := hp3; obtain ⟨A3, c3, rfl, hl3⟩ := r3.form; have HR3 := Lib.hid (show C kI64 w3 A3 args from r3.reads); have HR23 := Lib.hid (HR2.out.below hb3); clear r3; have HB3 := Below.then_ (w := w) (by assumption) hb3)
          | (go_at_call 26; (with_reducible refine (HTH.out _ (by assumption)).mono ?_); intro e w4 hp4; unfold RetRow at hp4; obtain ⟨v4, fp4, rfl, r4, -, hb4⟩ := hp4; obtain ⟨A4, c4, rfl, hl4⟩ := r4.form; have HR4 := Lib.hid (show C kI64 w4 A4 heap from r4.reads); have HR24 := Lib.hid (HR23.out.below hb4); have HR34 := Lib.hid (HR3.out.below hb4); clear r4; have HB4 := Below.then_ (w := w) (by assumption) hb4)
          | (go_at_call 25; (with_reducible refine (HSV.out _ _ _ _ _ _ _ HR24.out HR34.out HR4.out).mono ?_); intro e w5 hp5; unfold RetOut at hp5; obtain ⟨vh5, vt5, rfl, ho5, hb5⟩ := hp5; have HB5 := Below.then_ (w := w) (by assumption) hb5; have HO5 := Lib.hid ho5; obtain ⟨fh5, ft5, q5, q6, i5, i6⟩ := ho5; obtain ⟨A5, c5, rfl, -⟩ := q5.form; obtain ⟨A6, c6, rfl, -⟩ := q6.form; have HH5 := Lib.hid q5; have HT5 := Lib.hid q6; have HI5 := Lib.hid (q5.inR i5); have HI6 := Lib.hid (q6.inR fun b hb => (i6 b hb).1); clear q5 q6 i5 i6 HO5))
        have hb15 : Below w1.heap.size w1 w5 := Below.then_ (Below.then_ (Below.then_ hb2 hb3) hb4) hb5
        have y0 : w5.cell? ⟨w.heap.size, 0, none⟩ = some (.int .i64 m.regs) := (hb15.cell zw1).trans ((hc1 _ _ (by simp)).trans (by simp))
        have y1 : w5.cell? ⟨w.heap.size, 1, none⟩ = some (.slice L m.blocks.length c) := (hb15.cell zw1).trans ((hc1 _ _ (by simp)).trans (by simp))
        have zw5 : w.heap.size < w5.heap.size := Nat.lt_of_lt_of_le zw1 hb15.size
        have K0 := Lib.hid (((Bk.made w 24 [.int .i64 m.regs, .slice L m.blocks.length c]).below hb1).below hb15)
        have zs4 : w1.heap.size ≤ w4.heap.size := by have h1 := hb2.size; have h2 := hb3.size; have h3 := hb4.size; omega
        have zs5 := hb5.size
        clear hb1 hc1 hf1 hb2 hb3 hb4 hb5 hb15
        have HIV := Lib.hid (fun A L H c ca ch W (h1 : C (kMB 0) W L m.blocks) (h2 : C kI64 W A args) (h3 : C kI64 W H heap) (hb : Below w.heap.size w W) => (runMach_i A L H c ca ch m args heap fuel W h1 h2 h3 (hS.below hb hS.pos) hbl HIL.out hla hlh).mono (HRM.out W))
        go_upto_region 14 with (first
          | (go_at_call 11; (with_reducible refine (HTO.out _ (by (repeat (first | (with_reducible first | exact Below.refl _ _ | assumption | exact ext_box _) | (with_reducible apply Below.drew) | ((with_reducible refine Below.setCell ?_ ?hs _); (case hs => first | (simp; done) | (simp; omega) | omega)) | ((with_reducible refine Below.alloc ?_ ?hs _); (case hs => first | (simp; done) | (simp; omega) | omega)))))).mono ?_); intro e w6 hp6; unfold RetMach at hp6; obtain ⟨v7, fp7, rfl, r7, h7, hb7⟩ := hp6; obtain ⟨A7, c7, rfl, hl7⟩ := r7.form; have HR7 := Lib.hid r7; have HF7 := Lib.hid h7; clear r7 h7; have HB7 := Below.then_ (w := w) (by (repeat (first | (with_reducible first | exact Below.refl _ _ | assumption | exact ext_box _) | (with_reducible apply Below.drew) | ((with_reducible refine Below.setCell ?_ ?hs _); (case hs => first | (simp; done) | (simp; omega) | omega)) | ((with_reducible refine Below.alloc ?_ ?hs _); (case hs => first | (simp; done) | (simp; omega) | omega))))) hb7; have zb7 := HB7.size)
          | (go_at_call 26; (with_reducible refine (HTA.out _ (by (repeat (first | (with_reducible first | exact Below.refl _ _ | assumption | exact ext_box _) | (with_reducible apply Below.drew) | ((with_reducible refine Below.setCell ?_ ?hs _); (case hs => first | (simp; done) | (simp; omega) | omega)) | ((with_reducible refine Below.alloc ?_ ?hs _); (case hs => first | (simp; done) | (simp; omega) | omega)))))).mono ?_); intro e w7 hp7; unfold RetRow at hp7; obtain ⟨v8, fp8, rfl, r8, h8, hb8⟩ := hp7; obtain ⟨A8, c8, rfl, hl8⟩ := r8.form; have HR8 := Lib.hid r8; have HF8 := Lib.hid h8; clear r8 h8; have HB8 := Below.then_ (w := w) (by (repeat (first | (with_reducible first | exact Below.refl _ _ | assumption | exact ext_box _) | (with_reducible apply Below.drew) | ((with_reducible refine Below.setCell ?_ ?hs _); (case hs => first | (simp; done) | (simp; omega) | omega)) | ((with_reducible refine Below.alloc ?_ ?hs _); (case hs => first | (simp; done) | (simp; omega) | omega))))) hb8; have zb8 := HB8.size; obtain ⟨hc8, hf8⟩ := bcell hb8; have x0 : w7.cell? ⟨w6.heap.size, 0, none⟩ = some (.int .i64 m.regs) := (hc8 _ _ (by simp)).trans (by simp); have x1 : w7.cell? ⟨w6.heap.size, 1, none⟩ = some (.slice A7 m.blocks.length c7) := (hc8 _ _ (by simp)).trans (by simp); have zx : w6.heap.size < w7.heap.size := World.block_lt_of_cell? w7 _ x0; clear hc8 hf8)
          | (go_at_call 26; (with_reducible refine (HTH.out _ (by (repeat (first | (with_reducible first | exact Below.refl _ _ | assumption | exact ext_box _) | (with_reducible apply Below.drew) | ((with_reducible refine Below.setCell ?_ ?hs _); (case hs => first | (simp; done) | (simp; omega) | omega)) | ((with_reducible refine Below.alloc ?_ ?hs _); (case hs => first | (simp; done) | (simp; omega) | omega)))))).mono ?_); intro e w8 hp8; unfold RetRow at hp8; obtain ⟨v9, fp9, rfl, r9, h9, hb9⟩ := hp8; obtain ⟨A9, c9, rfl, hl9⟩ := r9.form; have HR9 := Lib.hid r9; have HF9 := Lib.hid h9; clear r9 h9; have HB9 := Below.then_ (w := w) (by (repeat (first | (with_reducible first | exact Below.refl _ _ | assumption | exact ext_box _) | (with_reducible apply Below.drew) | ((with_reducible refine Below.setCell ?_ ?hs _); (case hs => first | (simp; done) | (simp; omega) | omega)) | ((with_reducible refine Below.alloc ?_ ?hs _); (case hs => first | (simp; done) | (simp; omega) | omega))))) hb9; have zb9 := HB9.size; have X0 := (hb9.cell (p := ⟨w6.heap.size, 0, none⟩) zx).trans x0; have X1 := (hb9.cell (p := ⟨w6.heap.size, 1, none⟩) zx).trans x1; have hb68 : Below w6.heap.size w6 w8 := Below.then_ (Below.then_ ((Below.refl _ _).alloc (Nat.le_refl _) _) hb8) hb9; have HQ7 := Lib.hid (HR7.out.chg (chg_of hb68) (by simp)); have HQ8 := Lib.hid (HR8.out.chg (chg_of hb9) (by simp)); have hb58 : Below w5.heap.size w5 w8 := Below.then_ (Below.then_ (Below.then_ (by (repeat (first | (with_reducible first | exact Below.refl _ _ | assumption | exact ext_box _) | (with_reducible apply Below.drew) | ((with_reducible refine Below.setCell ?_ ?hs _); (case hs => first | (simp; done) | (simp; omega) | omega)) | ((with_reducible refine Below.alloc ?_ ?hs _); (case hs => first | (simp; done) | (simp; omega) | omega))))) hb7) ((Below.refl _ _).alloc (Nat.le_refl _) _)) (Below.then_ hb8 hb9))
          | (go_at_call 27; (with_reducible refine (HIV.out _ _ _ _ _ _ _ (C_mb HQ7.out.reads) HQ8.out.reads HR9.out.reads HB9).mono ?_); intro e w9 hp9; unfold RetOut at hp9; obtain ⟨vh9, vt9, rfl, ho9, hb10⟩ := hp9; have HB10 := Below.then_ (w := w) (by assumption) hb10; obtain ⟨fh9, ft9, q5, q6, i5, i6⟩ := ho9; obtain ⟨A10, c10, rfl, -⟩ := q5.form; obtain ⟨A11, c11, rfl, -⟩ := q6.form; have HH9 := Lib.hid q5; have HT9 := Lib.hid q6; have HI9 := Lib.hid (q5.inR i5); have HI10 := Lib.hid (q6.inR fun b hb => (i6 b hb).1); have HAP := Lib.hid (show ∀ b ∈ ft9, b ∉ fh9 from fun b hb => (i6 b hb).2); clear q5 q6 i5 i6))
        have zb10 := hb10.size
        have zb68 := hb68.size
        have z56 := hb7.size
        have z67 := hb8.size
        have z78 := hb9.size
        simp only [World.size_alloc] at z56 z67
        have hA : Below w9.heap.size w9 (w9.alloc (.cells #[.int .i64 R.code, .int .i64 R.value, .int .i64 R.steps, .slice A11 R.trace.length c11, .slice A10 R.heap.length c10] 51)) := (Below.refl _ _).alloc (Nat.le_refl _) _
        have h59 := Below.then_ hb58 hb10
        have HL := Lib.hid (show LSt w R w.heap.size w6.heap.size w5.heap.size w9.heap.size [.int .i64 m.regs, .slice L m.blocks.length c] [.int .i64 m.regs, .slice A7 m.blocks.length c7] 24 29 (.slice A5 R.heap.length c5) (.slice A6 R.trace.length c6) (.slice A10 R.heap.length c10) (.slice A11 R.trace.length c11) fh5 ft5 fh9 ft9 (w9.alloc (.cells #[.int .i64 R.code, .int .i64 R.value, .int .i64 R.steps, .slice A11 R.trace.length c11, .slice A10 R.heap.length c10] 51)) from
          ⟨⟨HB10.trans (hA.mono HB10.size), (K0.out.below h59).below hA, ((((Bk.made w5 51 (wolR R (.slice A5 R.heap.length c5) (.slice A6 R.trace.length c6))).below hb7).below hb68).below hb10).below hA, (HH5.out.chg (chg_of h59) (by simp)).chg (chg_of hA) (by simp), (HT5.out.chg (chg_of h59) (by simp)).chg (chg_of hA) (by simp)⟩,
            ((((Bk.made w6 29 [.int .i64 m.regs, .slice A7 m.blocks.length c7]).below hb8).below hb9).below hb10).below hA, Bk.made w9 51 (wolR R (.slice A10 R.heap.length c10) (.slice A11 R.trace.length c11)), HH9.out.chg (chg_of hA) (by simp), HT9.out.chg (chg_of hA) (by simp)⟩)
        have hb9A := Below.then_ hb10 hA
        have HX7 := Lib.hid (show Row 69 (kMB 72) (w9.alloc (.cells #[.int .i64 R.code, .int .i64 R.value, .int .i64 R.steps, .slice A11 R.trace.length c11, .slice A10 R.heap.length c10] 51)) (.slice A7 m.blocks.length c7) m.blocks fp7 from HQ7.out.chg (chg_of hb9A) (by simp))
        have HX8 := Lib.hid (show Row 2 kI64 (w9.alloc (.cells #[.int .i64 R.code, .int .i64 R.value, .int .i64 R.steps, .slice A11 R.trace.length c11, .slice A10 R.heap.length c10] 51)) (.slice A8 args.length c8) args fp8 from HQ8.out.chg (chg_of hb9A) (by simp))
        have HX9 := Lib.hid (show Row 2 kI64 (w9.alloc (.cells #[.int .i64 R.code, .int .i64 R.value, .int .i64 R.steps, .slice A11 R.trace.length c11, .slice A10 R.heap.length c10] 51)) (.slice A9 heap.length c9) heap fp9 from HR9.out.chg (chg_of hb9A) (by simp))
        have HJ7 := Lib.hid (show InR fp7 (w5.heap.size + 1) w6.heap.size from fun b hb => ⟨by have := HF7.out b hb; simpa using this, HR7.out.lt b hb⟩)
        have HJ8 := Lib.hid (show InR fp8 (w6.heap.size + 1) w7.heap.size from fun b hb => ⟨by have := HF8.out b hb; simpa using this, HR8.out.lt b hb⟩)
        have HJ9 := Lib.hid (HR9.out.inR HF9.out)
        clear hA h59 hb9A hb7 hb8 hb9 hb10 hb68 hb58 HQ7 HQ8 HR7 HR8 HR9 HF7 HF8 HF9 HH5 HT5 HH9 HT9 x0 x1 X0 X1 y0 y1 K0 HR2 HR3 HR4 HR23 HR24 HR34 HB1 HB2 HB3 HB4 HB5 HB7 HB8 HB9 HSZ HSV HB10
        generalize w9.alloc (.cells #[.int .i64 R.code, .int .i64 R.value, .int .i64 R.steps, .slice A11 R.trace.length c11, .slice A10 R.heap.length c10] 51) = wA at *
        have zA0 : w.heap.size < wA.heap.size := HL.out.s2.k0.lt
        have zA1 : w6.heap.size < wA.heap.size := HL.out.k1.lt
        have zA2 : w5.heap.size < wA.heap.size := HL.out.s2.k2.lt
        have zA3 : w9.heap.size < wA.heap.size := HL.out.k3.lt
        have HW := Lib.hid (fun W (h : Below wA.heap.size wA W) => HL.out.s2.hb.trans (h.mono HL.out.s2.hb.size))
        have HEO := Lib.hid (fun W (h : Below wA.heap.size wA W) => eqOutcome_c R A10 A11 A5 A6 c10 c11 c5 c6 W (HL.out.below h).h9.reads (HL.out.below h).t9.reads (HL.out.below h).s2.h5.reads (HL.out.below h).s2.t5.reads hrl2 hrl1)
        have HEM := Lib.hid (fun A1 c1 W (h : Below wA.heap.size wA W) (h2 : C (kMB 0) W A1 m.blocks) => eqMach_c A7 A1 c7 c1 m m W (C_mb (HX7.out.chg (chg_of h) (by simp)).reads) h2 (by omega) (by omega) (fun i b hb => by have := HIL.out i b hb; omega) (fun i b hb => by have := HIL.out i b hb; omega))
        have HE8 := Lib.hid (fun A1 c1 W (h : Below wA.heap.size wA W) (h2 : C kI64 W A1 args) => eqInt64S_c A8 A1 c8 c1 args args W (HX8.out.chg (chg_of h) (by simp)).reads h2 (by omega) (by omega))
        have HE9 := Lib.hid (fun A1 c1 W (h : Below wA.heap.size wA W) (h2 : C kI64 W A1 heap) => eqInt64S_c A9 A1 c9 c1 heap heap W (HX9.out.chg (chg_of h) (by simp)).reads h2 (by omega) (by omega))
        obtain ⟨d0, d1, d2, d3, d4⟩ := out5 HL.out.k3
        obtain ⟨s0, s1, s2, s3, s4⟩ := out5 HL.out.s2.k2
        have hAA := Below.refl wA.heap.size wA
        go_upto_region 16 with (first
          | (go_at_call 28; (with_reducible refine (HEO.out _ hAA).mono ?_); rintro e v1 ⟨rfl, hv1⟩; have HV1 := hAA.trans hv1))
        clear d0 d1 d2 d3 d4 s0 s1 s2 s3 s4 hAA hv1
        have zv1 := HV1.size
        have zV0 : w.heap.size < v1.heap.size := by omega
        have zV1 : w6.heap.size < v1.heap.size := by omega
        have KS := Lib.hid (fun w' (h : Below v1.heap.size v1 w') => (by
          have hl := HL.out.below (HV1.trans (h.mono zv1))
          obtain ⟨a0, a1⟩ := two hl.s2.k0
          obtain ⟨b0, b1⟩ := two hl.k1
          exact ⟨b0, b1, a0, a1, h⟩ : w'.cell? ⟨w6.heap.size, 0, none⟩ = some (.int .i64 m.regs) ∧ w'.cell? ⟨w6.heap.size, 1, none⟩ = some (.slice A7 m.blocks.length c7) ∧ w'.cell? ⟨w.heap.size, 0, none⟩ = some (.int .i64 m.regs) ∧ w'.cell? ⟨w.heap.size, 1, none⟩ = some (.slice L m.blocks.length c) ∧ Below v1.heap.size v1 w'))
        obtain ⟨k1, k2, k3, k4, -⟩ := KS.out v1 (Below.refl _ _)
        go_region_held3 (fun w' => w'.cell? ⟨w6.heap.size, 0, none⟩ = some (.int .i64 m.regs) ∧ w'.cell? ⟨w6.heap.size, 1, none⟩ = some (.slice A7 m.blocks.length c7) ∧ w'.cell? ⟨w.heap.size, 0, none⟩ = some (.int .i64 m.regs) ∧ w'.cell? ⟨w.heap.size, 1, none⟩ = some (.slice L m.blocks.length c) ∧ Below v1.heap.size v1 w') ((refine KS.out _ ?_; (repeat (first | (with_reducible first | exact Below.refl _ _ | assumption | exact ext_box _) | (with_reducible apply Below.drew) | ((with_reducible refine Below.setCell ?_ ?hs _); (case hs => first | (simp; done) | (simp; omega) | omega)) | ((with_reducible refine Below.alloc ?_ ?hs _); (case hs => first | (simp; done) | (simp; omega) | omega))))))
          (first
          | (go_at_call 11; (with_reducible refine (HTO.out _ (HW.out _ (HV1.trans (Below.mono (by (repeat (first | (with_reducible first | exact Below.refl _ _ | assumption | exact ext_box _) | (with_reducible apply Below.drew) | ((with_reducible refine Below.setCell ?_ ?hs _); (case hs => first | (simp; done) | (simp; omega) | omega)) | ((with_reducible refine Below.alloc ?_ ?hs _); (case hs => first | (simp; done) | (simp; omega) | omega))))) zv1)))).mono ?_); intro e v2 hp2; unfold RetMach at hp2; obtain ⟨v3, fp3, rfl, r3, -, hb3⟩ := hp2; obtain ⟨B3, e3, rfl, -⟩ := r3.form; have HR3 := Lib.hid (C_mb r3.reads); clear r3; have HV2 : Below v1.heap.size v1 v2 := Below.then_ (by (repeat (first | (with_reducible first | exact Below.refl _ _ | assumption | exact ext_box _) | (with_reducible apply Below.drew) | ((with_reducible refine Below.setCell ?_ ?hs _); (case hs => first | (simp; done) | (simp; omega) | omega)) | ((with_reducible refine Below.alloc ?_ ?hs _); (case hs => first | (simp; done) | (simp; omega) | omega))))) hb3)
          | (go_at_call 13; (with_reducible refine (HEM.out _ _ _ (HV1.trans (Below.mono (by (repeat (first | (with_reducible first | exact Below.refl _ _ | assumption | exact ext_box _) | (with_reducible apply Below.drew) | ((with_reducible refine Below.setCell ?_ ?hs _); (case hs => first | (simp; done) | (simp; omega) | omega)) | ((with_reducible refine Below.alloc ?_ ?hs _); (case hs => first | (simp; done) | (simp; omega) | omega))))) zv1)) (HR3.out.below (by (repeat (first | (with_reducible first | exact Below.refl _ _ | assumption | exact ext_box _) | (with_reducible apply Below.drew) | ((with_reducible refine Below.setCell ?_ ?hs _); (case hs => first | (simp; done) | (simp; omega) | omega)) | ((with_reducible refine Below.alloc ?_ ?hs _); (case hs => first | (simp; done) | (simp; omega) | omega))))))).mono ?_); rintro e v4 ⟨rfl, hb4⟩; have HV4 : Below v1.heap.size v1 v4 := Below.then_ (by (repeat (first | (with_reducible first | exact Below.refl _ _ | assumption | exact ext_box _) | (with_reducible apply Below.drew) | ((with_reducible refine Below.setCell ?_ ?hs _); (case hs => first | (simp; done) | (simp; omega) | omega)) | ((with_reducible refine Below.alloc ?_ ?hs _); (case hs => first | (simp; done) | (simp; omega) | omega))))) hb4))
        all_goals
          have HA5 := HV1.trans (HV4.mono zv1)
          clear k1 k2 k3 k4 KS HV4 HV1
          go_upto_region 18 with (fail)
          go_upto_region 20 with
          (first
          | (go_at_call 26; (with_reducible refine (HTA.out _ (HW.out _ HA5)).mono ?_); intro e v51 hp; unfold RetRow at hp; obtain ⟨q1, q2, rfl, q3, -, hb51⟩ := hp; obtain ⟨B5, e5, rfl, -⟩ := q3.form; have HR5 := Lib.hid q3.reads; clear q3; have HB51 := Below.then_ HA5 hb51)
          | (go_at_call 29; (with_reducible refine (HE8.out _ _ _ HB51 HR5.out).mono ?_); rintro e v6 ⟨rfl, hb6⟩; have HA6 := Below.then_ HB51 hb6))
          clear hb51 HB51 hb6
          go_upto_region 22 with
          (first
          | (go_at_call 26; (with_reducible refine (HTH.out _ (HW.out _ HA6)).mono ?_); intro e v61 hp; unfold RetRow at hp; obtain ⟨q1, q2, rfl, q3, -, hb61⟩ := hp; obtain ⟨B6, e6, rfl, -⟩ := q3.form; have HR6 := Lib.hid q3.reads; clear q3; have HB61 := Below.then_ HA6 hb61)
          | (go_at_call 29; (with_reducible refine (HE9.out _ _ _ HB61 HR6.out).mono ?_); rintro e v7 ⟨rfl, hb7⟩; have HA7 := Below.then_ HB61 hb7))
          clear hb61 HB61 hb7
          go_upto_region 23 with (fail)
          have hlA := HL.out.below HA7
          obtain ⟨b0, b1⟩ := two hlA.k1
          have HM7 := Lib.hid (markMach_c m.regs (.slice A7 m.blocks.length c7) m.blocks fp7 1 v7 (HX7.out.chg (chg_of HA7) (by simp)) (by omega) (by omega) hbl HIL.out)
          have HY8 := Lib.hid (HX8.out.chg (chg_of HA7) (by simp))
          have HY9 := Lib.hid (HX9.out.chg (chg_of HA7) (by simp))
          have HLB := Lib.hid hlA
          have zv7 := HA7.size
          clear hlA HX7 HX8 HX9 HEM HE8 HE9 HL HEO
          go_upto_region 24 with (
            go_at_call 22; (with_reducible refine HM7.out.mono ?_); intro e v8 hp; unfold MarkMach at hp; obtain ⟨k7, rfl, hk7, hk8, hc8⟩ := hp)
          have HLC := Lib.hid (HLB.out.mark hc8 HJ7.out HI5.out HI6.out HI9.out HI10.out ⟨by omega, by omega, by omega, by omega, by omega, by omega⟩ (by omega))
          have HM8 := Lib.hid (markInt64S_c (.slice A8 args.length c8) args fp8 k7 v8 (HY8.out.chg hc8 fun b hb hb2 => by have h1 := HJ8.out b hb; have h2 := HJ7.out b hb2; omega) (by omega) (by omega) (by omega))
          have HZ9 := Lib.hid (HY9.out.chg hc8 fun b hb hb2 => by have h1 := HJ9.out b hb; have h2 := HJ7.out b hb2; omega)
          have zv8 := hc8.size
          clear HM7 HY8 HY9 HLB hc8 b0 b1
          go_upto_region 25 with (
            go_at_call 30; (with_reducible refine HM8.out.mono ?_); intro e v9 hp; unfold MarkPost at hp; obtain ⟨rfl, -, hc9⟩ := hp)
          have HLD := Lib.hid (HLC.out.mark hc9 HJ8.out HI5.out HI6.out HI9.out HI10.out ⟨by omega, by omega, by omega, by omega, by omega, by omega⟩ (by omega))
          have HM9 := Lib.hid (markInt64S_c (.slice A9 heap.length c9) heap fp9 (k7 + (args.length : Int)) v9 (HZ9.out.chg hc9 fun b hb hb2 => by have h1 := HJ9.out b hb; have h2 := HJ8.out b hb2; omega) (by omega) (by omega) (by omega))
          have zv9 := hc9.size
          clear HM8 HZ9 HLC hc9
          go_upto_region 26 with (
            go_at_call 30; (with_reducible refine HM9.out.mono ?_); intro e v10 hp; unfold MarkPost at hp; obtain ⟨rfl, -, hc10⟩ := hp)
          have HLE := Lib.hid (HLD.out.mark hc10 HJ9.out HI5.out HI6.out HI9.out HI10.out ⟨by omega, by omega, by omega, by omega, by omega, by omega⟩ (by omega))
          have zv10 := hc10.size
          clear HM9 HLD hc10
          obtain ⟨d0, d1, d2, d3, d4⟩ := out5 HLE.out.k3
          obtain ⟨s0, s1, s2, s3, s4⟩ := out5 HLE.out.s2.k2
          have HEO := Lib.hid (eqOutcome_c R A10 A11 A5 A6 c10 c11 c5 c6 v10 HLE.out.h9.reads HLE.out.t9.reads HLE.out.s2.h5.reads HLE.out.s2.t5.reads hrl2 hrl1)
          go_upto_region 28 with (
            go_at_call 28; (with_reducible refine HEO.out.mono ?_); rintro e v11 ⟨rfl, hv11⟩)
          clear d0 d1 d2 d3 d4 s0 s1 s2 s3 s4 HEO
          have HLF := Lib.hid (HLE.out.below hv11)
          have zv11 := hv11.size
          clear HLE hv11
          go_upto_region 29 with (fail)
          obtain ⟨d0, d1, d2, d3, d4⟩ := out5 HLF.out.k3
          have HMO := Lib.hid (markOutcome_c R (.slice A10 R.heap.length c10) (.slice A11 R.trace.length c11) fh9 ft9 1 v11 HLF.out.h9 HLF.out.t9 HAP.out (by omega) (by omega) hrl2 hrl1)
          obtain ⟨q, hq⟩ : ∃ q : Int, 1 + (R.trace.length : Int) + (R.heap.length : Int) = q := ⟨_, rfl⟩
          have hq0 : 0 ≤ q := by omega
          go_upto_region 30 with (
            go_at_call 31; refine HMO.out.mono ?_; intro e v12 hp; unfold MarkOut at hp; rw [hq] at hp; obtain ⟨rfl, hr1, hr2, hc12⟩ := hp)
          obtain ⟨hl2, hk3⟩ := HLF.out.outs hc12 HI5.out HI6.out HI9.out HI10.out ⟨by omega, by omega, by omega, by omega, Nat.le_refl _⟩
          have HLG := Lib.hid hl2
          have HHO := Lib.hid (heldOutcome_c R (.slice A10 R.heap.length c10) (.slice A11 R.trace.length c11) fh9 ft9 1 v12 hr1 hr2 (by omega) (by omega) hrl2 hrl1)
          simp only [hq] at HHO
          have zv12 := hc12.size
          clear d0 d1 d2 d3 d4 HMO HLF hr1 hr2 hc12 hl2
          obtain ⟨d0, d1, d2, d3, d4⟩ := out5 hk3
          clear hk3
          go_upto_region 36 with (
            go_at_call 32; refine HHO.out.mono ?_; rintro e v13 ⟨rfl, hv13⟩)
          have HLH := Lib.hid (HLG.out.below hv13)
          clear d0 d1 d2 d3 d4 HHO HLG hv13
          obtain ⟨a0, a1⟩ := two HLH.out.k0
          have HH := Lib.hid HLH.out.hb
          go_upto_region 37 with (first
            | (go_at_call 11; (with_reducible refine (HTO.out _ HH.out).mono ?_); intro e y2 hp2; unfold RetMach at hp2; obtain ⟨q2, p2, rfl, r2, -, hb2⟩ := hp2; obtain ⟨A2', c2', rfl, -⟩ := r2.form; have HR2 := Lib.hid (C_mb r2.reads); clear r2; have HB2 := Below.then_ (w := w) HH.out hb2)
            | (go_at_call 26; (with_reducible refine (HTA.out _ HB2).mono ?_); intro e y3 hp3; unfold RetRow at hp3; obtain ⟨q3, p3, rfl, r3, -, hb3⟩ := hp3; obtain ⟨A3', c3', rfl, -⟩ := r3.form; have HR3 := Lib.hid (show C kI64 y3 A3' args from r3.reads); have HR23 := Lib.hid (HR2.out.below hb3); clear r3; have HB3 := Below.then_ (w := w) HB2 hb3)
            | (go_at_call 26; (with_reducible refine (HTH.out _ HB3).mono ?_); intro e y4 hp4; unfold RetRow at hp4; obtain ⟨q4, p4, rfl, r4, -, hb4⟩ := hp4; obtain ⟨A4', c4', rfl, -⟩ := r4.form; have HR4 := Lib.hid (show C kI64 y4 A4' heap from r4.reads); have HR24 := Lib.hid (HR23.out.below hb4); have HR34 := Lib.hid (HR3.out.below hb4); clear r4; have HB4 := Below.then_ (w := w) HB3 hb4)
            | (go_at_call 27; (with_reducible refine (HIV.out _ _ _ _ _ _ _ HR24.out HR34.out HR4.out HB4).mono ?_); intro e y5 hp5; unfold RetOut at hp5; obtain ⟨vh5', vt5', rfl, ho5, hb5⟩ := hp5; obtain ⟨fh5', ft5', q5, q6, -, -⟩ := ho5; obtain ⟨A5', c5', rfl, -⟩ := q5.form; obtain ⟨A6', c6', rfl, -⟩ := q6.form; have HLI := Lib.hid (HLH.out.below (Below.then_ (Below.then_ (Below.then_ hb2 hb3) hb4) hb5)); have HB5 := Below.then_ (w := w) HB4 hb5; have HQ5 := Lib.hid q5; have HQ6 := Lib.hid q6; clear q5 q6))
          obtain ⟨s0, s1, s2, s3, s4⟩ := out5 HLI.out.k2
          have HEO := Lib.hid (fun W (h : Below y5.heap.size y5 W) => eqOutcome_c R A5' A6' A5 A6 c5' c6' c5 c6 W (HQ5.out.chg (chg_of h) (by simp)).reads (HQ6.out.chg (chg_of h) (by simp)).reads (HLI.out.below h).h5.reads (HLI.out.below h).t5.reads hrl2 hrl1)
          have zs := HLI.out.k2.lt
          clear a0 a1 hb2 hb3 hb4 hb5
          go_wp2_with (
            go_at_call 28; (with_reducible refine (HEO.out _ (by (repeat (first | (with_reducible first | exact Below.refl _ _ | assumption | exact ext_box _) | (with_reducible apply Below.drew) | ((with_reducible refine Below.setCell ?_ ?hs _); (case hs => first | (simp; done) | (simp; omega) | omega)) | ((with_reducible refine Below.alloc ?_ ?hs _); (case hs => first | (simp; done) | (simp; omega) | omega)))))).mono ?_); rintro e y6 ⟨rfl, hy6⟩; have HY6 := Below.then_ (w := w) (HB5.trans (Below.mono (by (repeat (first | (with_reducible first | exact Below.refl _ _ | assumption | exact ext_box _) | (with_reducible apply Below.drew) | ((with_reducible refine Below.setCell ?_ ?hs _); (case hs => first | (simp; done) | (simp; omega) | omega)) | ((with_reducible refine Below.alloc ?_ ?hs _); (case hs => first | (simp; done) | (simp; omega) | omega))))) HB5.size)) hy6)
          go_ret
          exact ⟨rfl, HY6⟩
    · go_enter Tryd.func6, Tryd.ntmps6
      go_wp2
      go_ret
      exact ⟨rfl, by repeat (first | (with_reducible first | exact Below.refl _ _ | assumption | exact ext_box _) | (with_reducible apply Below.drew) | ((with_reducible refine Below.setCell ?_ ?hs _); (case hs => first | (simp; done) | (simp; omega) | omega)) | ((with_reducible refine Below.alloc ?_ ?hs _); (case hs => first | (simp; done) | (simp; omega) | omega)))⟩
  · go_enter Tryd.func6, Tryd.ntmps6
    go_wp2
    go_ret
    exact ⟨rfl, by repeat (first | (with_reducible first | exact Below.refl _ _ | assumption | exact ext_box _) | (with_reducible apply Below.drew) | ((with_reducible refine Below.setCell ?_ ?hs _); (case hs => first | (simp; done) | (simp; omega) | omega)) | ((with_reducible refine Below.alloc ?_ ?hs _); (case hs => first | (simp; done) | (simp; omega) | omega)))⟩
end Go.Proofs.YtnnfjjgohhicjaaDoor
namespace Go.Proofs.YtnnfjjgohhicjaaDoor
open Go.RowKit
set_option linter.unusedSimpArgs false
set_option linter.unusedVariables false
set_option maxRecDepth 100000
open Go.ChangeShapes

def Opens {α : Type} (P : Program) (t : TypeId) (d : Kd α) (G : α → Prop) : Prop :=
  ∀ (H : Type) (enc : TypeId × Value → H) (w : World) (base : Nat) (spare : Nat → Bool) (held : Bool) (fuel : Nat) (cs : List Value) (x : DataW H × List MemPlace), DataW.trod enc P w base spare held fuel t cs = some x → ∃ y, G y ∧ d.K w y cs
theorem opens_int {P : Program} {t : TypeId} {k : IntKind} (ht : P.underlying t = some (.int k)) : Opens P t (kInt k) fun n => (Lit.int k n).wf = true := by
  intro H enc w base spare held fuel cs x h
  obtain ⟨n, rfl, -, hw⟩ := DataW.trod_int ht h
  exact ⟨n, hw, rfl⟩
theorem pick {α : Type} {R : Nat → α → Prop} : ∀ (n : Nat), (∀ i, i < n → ∃ y, R i y) → ∃ ys : List α, ys.length = n ∧ ∀ (i : Nat) y, ys[i]? = some y → R i y
  | 0, _ => ⟨[], rfl, by simp⟩
  | n + 1, h => by
    obtain ⟨ys, hl, hr⟩ := pick n fun i hi => h i (by omega)
    obtain ⟨y, hy⟩ := h n (by omega)
    refine ⟨ys ++ [y], by simp [hl], fun i z hz => ?_⟩
    rw [List.getElem?_append] at hz
    split at hz
    · exact hr i z hz
    · have : i = n := by
        have := (List.getElem?_eq_some_iff.1 hz).1
        simp at this
        omega
      subst this
      simp [hl] at hz
      exact hz ▸ hy
theorem opens_slice {α : Type} {P : Program} {t e e' : TypeId} {d : Kd α} {G : α → Prop} (ht : P.underlying t = some (.slice e)) (hc : P.cellsOf e = d.sz) (ho : Opens P e d G) :
    Opens P t (kSlice e' d) fun xs => xs.length ≤ maxLen ∧ ∀ (i : Nat) x, xs[i]? = some x → G x := by
  intro H enc w base spare held fuel cs x h
  rcases DataW.trod_slice ht h with ⟨rfl, -⟩ | ⟨a, len, cap, elems, rest, n, -, rfl, -, hb, hl, hm, hlen, hel, -, -⟩
  · exact ⟨[], ⟨by simp, by simp⟩, none, 0, rfl, by simp, C.nil _ _ _⟩
  · obtain ⟨ys, hyl, hr⟩ := pick (R := fun i y => G y ∧ ∃ cs, d.K w y cs ∧ w.cells? base (a.add (i * P.cellsOf e)) (P.cellsOf e) = some cs) len (by
      intro i hi
      have h1 := hel i hi
      obtain ⟨z, hz⟩ := get_of_lt (show i < elems.length by omega)
      rw [hz, Option.bind_eq_some_iff] at h1
      obtain ⟨cs, hcs, ht'⟩ := h1
      obtain ⟨y, hg, hk⟩ := ho _ _ _ _ _ _ _ _ _ ht'
      exact ⟨y, hg, cs, hk, hcs⟩)
    refine ⟨ys, ⟨by omega, fun i y hy => (hr i y hy).1⟩, some a, cap, by rw [hyl], by omega, fun i y hy => ?_⟩
    obtain ⟨-, cs, hk, hcs⟩ := hr i y hy
    obtain ⟨-, hcl, hcell⟩ := World.cells?_some hcs
    refine ⟨a, cs, rfl, hk, fun j u hu => ?_⟩
    have hj : j < P.cellsOf e := by have := (List.getElem?_eq_some_iff.1 hu).1; omega
    have h1 := hcell j hj
    rw [hu] at h1
    rw [← h1, hc, Addr.add_add]
/-- A struct of whole numbers. -/
theorem open_flat {H : Type} {enc : TypeId × Value → H} {P : Program} {w : World} {base : Nat} {spare : Nat → Bool} {held : Bool} {fuel : Nat} {t : TypeId} {cs : List Value} {x : DataW H × List MemPlace} {fs : Array Field}
    (ht : P.underlying t = some (.struct fs)) (hi : P.underlying 2 = some (.int .i64)) (h2 : P.cellsOf 2 = 1) (hc : P.cellsOf t = fs.size) (hf : ∀ (j : Nat) f, fs[j]? = some f → f.offset = j ∧ f.type = 2)
    (h : DataW.trod enc P w base spare held fuel t cs = some x) : ∃ zs : List Int, zs.length = fs.size ∧ (∀ z ∈ zs, (Lit.int .i64 z).wf = true) ∧ cs = zs.map (Value.int .i64) := by
  obtain ⟨xs, n, -, -, hl, hxl, hr⟩ := DataW.trod_struct ht h
  obtain ⟨zs, hzl, hz⟩ := pick (R := fun i z => (Lit.int .i64 z).wf = true ∧ cs[i]? = some (.int .i64 z)) fs.size (by
    intro i hi'
    have hg : fs[i]? = some fs[i] := by simp [hi']
    obtain ⟨ho, hty⟩ := hf i _ hg
    have h1 := hr i _ hg
    rw [ho, hty, h2] at h1
    obtain ⟨y, hy⟩ := get_of_lt (show i < xs.length by omega)
    rw [hy] at h1
    obtain ⟨z, hcz, -, hw⟩ := DataW.trod_int hi h1
    refine ⟨z, hw, ?_⟩
    have := congrArg (·[0]?) hcz
    simpa [List.getElem?_take, List.getElem?_drop] using this)
  refine ⟨zs, hzl, fun z hm => ?_, ?_⟩
  · obtain ⟨i, hi'⟩ := List.getElem?_of_mem hm
    exact (hz i z hi').1
  · apply List.ext_getElem?
    intro i
    by_cases hi' : i < fs.size
    · obtain ⟨z, hzi⟩ := get_of_lt (show i < zs.length by omega)
      simp [hzi, (hz i z hzi).2]
    · rw [List.getElem?_eq_none (by omega), List.getElem?_eq_none (by simp; omega)]
theorem opens_instr {P : Program} {t : TypeId} {fs : Array Field} (ht : P.underlying t = some (.struct fs)) (hs : fs.size = 5) (hi : P.underlying 2 = some (.int .i64)) (h2 : P.cellsOf 2 = 1) (hc : P.cellsOf t = fs.size) (hf : ∀ (j : Nat) f, fs[j]? = some f → f.offset = j ∧ f.type = 2) : Opens P t kInstr fun _ => True := by
  intro H enc w base spare held fuel cs x h
  obtain ⟨zs, hl, -, rfl⟩ := open_flat ht hi h2 hc hf h
  match zs, hl.trans hs with
  | [a, b, c, d, e], _ => exact ⟨⟨a, b, c, d, e⟩, trivial, rfl⟩
theorem opens_term {P : Program} {t : TypeId} {fs : Array Field} (ht : P.underlying t = some (.struct fs)) (hs : fs.size = 4) (hi : P.underlying 2 = some (.int .i64)) (h2 : P.cellsOf 2 = 1) (hc : P.cellsOf t = fs.size) (hf : ∀ (j : Nat) f, fs[j]? = some f → f.offset = j ∧ f.type = 2) : Opens P t kTerm fun _ => True := by
  intro H enc w base spare held fuel cs x h
  obtain ⟨zs, hl, -, rfl⟩ := open_flat ht hi h2 hc hf h
  match zs, hl.trans hs with
  | [a, b, c, d], _ => exact ⟨⟨a, b, c, d⟩, trivial, rfl⟩
theorem opens_prod {α β : Type} {P : Program} {t : TypeId} {f0 f1 : Field} {d1 : Kd α} {d2 : Kd β} {G1 : α → Prop} {G2 : β → Prop} (ht : P.underlying t = some (.struct #[f0, f1])) (h0 : f0.offset = 0) (h1 : f1.offset = d1.sz) (hc0 : P.cellsOf f0.type = d1.sz) (hc1 : P.cellsOf f1.type = d2.sz) (hc : P.cellsOf t = d1.sz + d2.sz)
    (o1 : Opens P f0.type d1 G1) (o2 : Opens P f1.type d2 G2) : Opens P t (kProd d1 d2) fun x => G1 x.1 ∧ G2 x.2 := by
  intro H enc w base spare held fuel cs x h
  obtain ⟨y0, y1, n, -, hl, ha, hb⟩ := trod_struct2 ht h
  rw [h0, hc0, List.drop_zero] at ha
  rw [h1, hc1] at hb
  obtain ⟨a, ga, ka⟩ := o1 _ _ _ _ _ _ _ _ _ ha
  obtain ⟨b, gb, kb⟩ := o2 _ _ _ _ _ _ _ _ _ hb
  refine ⟨(a, b), ⟨ga, gb⟩, cs.take d1.sz, cs.drop d1.sz, (List.take_append_drop _ _).symm, ka, ?_⟩
  rwa [List.take_of_length_le (by simp; omega)] at kb
theorem opens_iso {α β : Type} {P : Program} {t : TypeId} {f : α → β} {g : β → α} {d : Kd β} {G : β → Prop} (hfg : ∀ y, f (g y) = y) (o : Opens P t d G) : Opens P t (kIso f d) fun x => G (f x) := by
  intro H enc w base spare held fuel cs x h
  obtain ⟨y, gy, ky⟩ := o _ _ _ _ _ _ _ _ _ h
  exact ⟨g y, by show G (f (g y)); rw [hfg]; exact gy, by show d.K w (f (g y)) cs; rw [hfg]; exact ky⟩
/-- A table of structs of bools. -/
theorem bools_of_table {H : Type} {enc : TypeId × Value → H} {P : Program} {w : World} {base : Nat} {spare : Nat → Bool} {held : Bool} {fuel : Nat} {t e : TypeId} {n : Nat} {cs : List Value} {ds : List (DataW H)} {p : List MemPlace} {fs : Array Field}
    (ht : P.underlying t = some (.array n e)) (he : P.underlying e = some (.struct fs)) (hb : P.underlying 4 = some .bool) (h4 : P.cellsOf 4 = 1) (hc : P.cellsOf e = fs.size) (hf : ∀ (j : Nat) f, fs[j]? = some f → f.offset = j ∧ f.type = 4)
    (h : DataW.trod enc P w base spare held fuel t cs = some (.agg ds, p)) {i j : Nat} {row : List (DataW H)} {b : Bool} (hi : ds[i]? = some (.agg row)) (hj : row[j]? = some (.lit (.bool b))) : cs[i * fs.size + j]? = some (.bool b) := by
  obtain ⟨xs, m, -, hx, hl, hxl, hr⟩ := DataW.trod_array ht h
  simp only [Prod.mk.injEq, DataW.agg.injEq] at hx
  obtain ⟨rfl, -⟩ := hx
  rw [List.getElem?_map, Option.map_eq_some_iff] at hi
  obtain ⟨x, hxi, hx1⟩ := hi
  have hin : i < n := by have := (List.getElem?_eq_some_iff.1 hxi).1; omega
  have h1 := hr i hin
  rw [hxi, hc] at h1
  obtain ⟨ys, m2, -, hy, hl2, hyl, hr2⟩ := DataW.trod_struct he h1
  rw [hy] at hx1
  simp only [DataW.agg.injEq] at hx1
  subst hx1
  rw [List.getElem?_map, Option.map_eq_some_iff] at hj
  obtain ⟨y, hyj, hy1⟩ := hj
  have hjn : j < fs.size := by have := (List.getElem?_eq_some_iff.1 hyj).1; omega
  obtain ⟨ho, hty⟩ := hf j fs[j] (by simp [hjn])
  have h2 := hr2 j fs[j] (by simp [hjn])
  rw [hyj, ho, hty, h4] at h2
  obtain ⟨b', hcb, rfl⟩ := DataW.trod_bool hb h2
  simp only [DataW.lit.injEq, Lit.bool.injEq] at hy1
  subst hy1
  have := congrArg (·[0]?) hcb
  simp only [List.getElem?_take, List.getElem?_drop, List.getElem?_cons_zero] at this
  simpa [hjn] using this
/-- A variable that a row reads, under Below. -/
theorem var_carry {H : Type} {enc : TypeId × Value → H} {P : Program} {W W' : World} {n : String} {gs : List (DataW H)} {ps : List MemPlace} (lo : laidOutB P = true) {t0 : TypeId} {g0 : Nat} (hg0 : P.globalNamed n = some g0) (ht0 : (P.globals[g0]?).map (·.type) = some t0) (hr : P.readableRec t0 = true) (hs : t0 < P.types.size)
    (h : DataW.TrodVars enc P W (fun _ => true) [n] gs ps) (bel : Below W.heap.size W W') : DataW.TrodVars enc P W' (fun b => decide (b < W.heap.size)) [n] gs ps := by
  have hlt := DataW.TrodVars.lt h
  obtain ⟨g, t, cs, fuel, d, p, rfl, h1, h2, h3, h4, rfl⟩ := trodVars_one h
  obtain rfl := Option.some.inj (hg0.symm.trans h1)
  obtain rfl := Option.some.inj (ht0.symm.trans h2)
  have hgl : g0 < W.heap.size := by
    simp only [World.var?, h1, Option.bind_some] at h3
    rcases hh : W.heap[g0]? with _ | o
    · rw [hh] at h3
      simp at h3
    · exact (Array.getElem?_eq_some_iff.1 hh).1
  obtain ⟨fuel', hf⟩ := Below.trod lo hr hs (v := .agg cs) ⟨fuel, by simpa [Value.cells] using h4⟩ bel fun x hx => hlt x (by simp [hx])
  refine trodVars_mk1 (fuel := fuel') h1 h2 ?_ (by simpa [Value.cells] using hf)
  simp only [World.var?, h1, Option.bind_some] at h3 ⊢
  rw [bel.block g0 hgl]
  exact h3
end Go.Proofs.YtnnfjjgohhicjaaDoor
namespace Go.Proofs.YtnnfjjgohhicjaaDoor
open Go.RowKit
set_option linter.unusedSimpArgs false
set_option linter.unusedVariables false
set_option maxRecDepth 100000
open Go.ChangeShapes Go.WideShapes Go.ChangeAt

theorem own : ownKnob Tryd.prog.godebug = none := by kernel_rfl
theorem laidOut : laidOutB Tryd.prog = true := by kernel_rfl
theorem gShapes : Tryd.prog.globalNamed "loop.example/s0031/impl.shapes" = some 0 := by kernel_rfl
theorem gShapesType : (Tryd.prog.globals[0]?).map (·.type) = some 93 := by kernel_rfl
theorem shapes_of {w : World} {rest : List (String × DataW Unit)} (h : laidMet Tryd.prog (("loop.example/s0031/impl.shapes", Rows.laid_loop_example_s0031_impl_shapes) :: rest) w) : Shapes w := by
  obtain ⟨ps, ⟨g', t', cs, fuel, p, q, hg', ht', hvar, hd, _, _⟩, _⟩ := h
  obtain rfl := Option.some.inj (gShapes.symm.trans hg')
  obtain rfl := Option.some.inj (gShapesType.symm.trans ht')
  intro op ho j v hv
  have hc := World.var?_cell gShapes hvar (op * 4 + j)
  have hj : j < 4 := by have := (List.getElem?_eq_some_iff.1 hv).1; simpa [shapeV] using this
  rw [hc, ← hv]
  have K := fun i j row b => bools_of_table (i := i) (j := j) (row := row) (b := b) Tryd.underlying93 Tryd.underlying92 Tryd.underlying4 (by kernel_rfl) (by kernel_rfl) (by intro j f hf; match j, hf with | 0, hf | 1, hf | 2, hf | 3, hf => (simp at hf; subst hf; exact ⟨rfl, rfl⟩) | j + 4, hf => simp at hf) hd
  simp only [Array.getElem?_toList] at K
  clear hd hv hc hvar
  rcases (by omega : op = 0 ∨ op = 1 ∨ op = 2 ∨ op = 3 ∨ op = 4 ∨ op = 5 ∨ op = 6 ∨ op = 7 ∨ op = 8 ∨ op = 9 ∨ op = 10 ∨ op = 11 ∨ op = 12 ∨ op = 13) with rfl | rfl | rfl | rfl | rfl | rfl | rfl | rfl | rfl | rfl | rfl | rfl | rfl | rfl
  · rcases (by omega : j = 0 ∨ j = 1 ∨ j = 2 ∨ j = 3) with rfl | rfl | rfl | rfl
    · exact K 0 0 _ false rfl rfl
    · exact K 0 1 _ false rfl rfl
    · exact K 0 2 _ false rfl rfl
    · exact K 0 3 _ false rfl rfl
  · rcases (by omega : j = 0 ∨ j = 1 ∨ j = 2 ∨ j = 3) with rfl | rfl | rfl | rfl
    · exact K 1 0 _ true rfl rfl
    · exact K 1 1 _ false rfl rfl
    · exact K 1 2 _ false rfl rfl
    · exact K 1 3 _ true rfl rfl
  · rcases (by omega : j = 0 ∨ j = 1 ∨ j = 2 ∨ j = 3) with rfl | rfl | rfl | rfl
    · exact K 2 0 _ true rfl rfl
    · exact K 2 1 _ false rfl rfl
    · exact K 2 2 _ false rfl rfl
    · exact K 2 3 _ true rfl rfl
  · rcases (by omega : j = 0 ∨ j = 1 ∨ j = 2 ∨ j = 3) with rfl | rfl | rfl | rfl
    · exact K 3 0 _ true rfl rfl
    · exact K 3 1 _ true rfl rfl
    · exact K 3 2 _ true rfl rfl
    · exact K 3 3 _ false rfl rfl
  · rcases (by omega : j = 0 ∨ j = 1 ∨ j = 2 ∨ j = 3) with rfl | rfl | rfl | rfl
    · exact K 4 0 _ true rfl rfl
    · exact K 4 1 _ true rfl rfl
    · exact K 4 2 _ true rfl rfl
    · exact K 4 3 _ false rfl rfl
  · rcases (by omega : j = 0 ∨ j = 1 ∨ j = 2 ∨ j = 3) with rfl | rfl | rfl | rfl
    · exact K 5 0 _ true rfl rfl
    · exact K 5 1 _ true rfl rfl
    · exact K 5 2 _ true rfl rfl
    · exact K 5 3 _ false rfl rfl
  · rcases (by omega : j = 0 ∨ j = 1 ∨ j = 2 ∨ j = 3) with rfl | rfl | rfl | rfl
    · exact K 6 0 _ true rfl rfl
    · exact K 6 1 _ true rfl rfl
    · exact K 6 2 _ true rfl rfl
    · exact K 6 3 _ false rfl rfl
  · rcases (by omega : j = 0 ∨ j = 1 ∨ j = 2 ∨ j = 3) with rfl | rfl | rfl | rfl
    · exact K 7 0 _ true rfl rfl
    · exact K 7 1 _ true rfl rfl
    · exact K 7 2 _ true rfl rfl
    · exact K 7 3 _ false rfl rfl
  · rcases (by omega : j = 0 ∨ j = 1 ∨ j = 2 ∨ j = 3) with rfl | rfl | rfl | rfl
    · exact K 8 0 _ true rfl rfl
    · exact K 8 1 _ true rfl rfl
    · exact K 8 2 _ false rfl rfl
    · exact K 8 3 _ false rfl rfl
  · rcases (by omega : j = 0 ∨ j = 1 ∨ j = 2 ∨ j = 3) with rfl | rfl | rfl | rfl
    · exact K 9 0 _ false rfl rfl
    · exact K 9 1 _ true rfl rfl
    · exact K 9 2 _ true rfl rfl
    · exact K 9 3 _ false rfl rfl
  · rcases (by omega : j = 0 ∨ j = 1 ∨ j = 2 ∨ j = 3) with rfl | rfl | rfl | rfl
    · exact K 10 0 _ false rfl rfl
    · exact K 10 1 _ true rfl rfl
    · exact K 10 2 _ false rfl rfl
    · exact K 10 3 _ false rfl rfl
  · rcases (by omega : j = 0 ∨ j = 1 ∨ j = 2 ∨ j = 3) with rfl | rfl | rfl | rfl
    · exact K 11 0 _ true rfl rfl
    · exact K 11 1 _ true rfl rfl
    · exact K 11 2 _ false rfl rfl
    · exact K 11 3 _ false rfl rfl
  · rcases (by omega : j = 0 ∨ j = 1 ∨ j = 2 ∨ j = 3) with rfl | rfl | rfl | rfl
    · exact K 12 0 _ false rfl rfl
    · exact K 12 1 _ true rfl rfl
    · exact K 12 2 _ false rfl rfl
    · exact K 12 3 _ false rfl rfl
  · rcases (by omega : j = 0 ∨ j = 1 ∨ j = 2 ∨ j = 3) with rfl | rfl | rfl | rfl
    · exact K 13 0 _ true rfl rfl
    · exact K 13 1 _ false rfl rfl
    · exact K 13 2 _ false rfl rfl
    · exact K 13 3 _ false rfl rfl
/-- A world for the witness: the table (block 0) as its initialiser lays it. -/
noncomputable def laidWorld (os : Os) : World :=
  { World.holding Tryd.prog os ⟨#[], #[], []⟩ with heap := (World.holding Tryd.prog os ⟨#[], #[], []⟩).heap.modify 0 fun
      | .cells _ t frozen => .cells #[.bool false, .bool false, .bool false, .bool false, .bool true, .bool false, .bool false, .bool true, .bool true, .bool false, .bool false, .bool true, .bool true, .bool true, .bool true, .bool false, .bool true, .bool true, .bool true, .bool false, .bool true, .bool true, .bool true, .bool false, .bool true, .bool true, .bool true, .bool false, .bool true, .bool true, .bool true, .bool false, .bool true, .bool true, .bool false, .bool false, .bool false, .bool true, .bool true, .bool false, .bool false, .bool true, .bool false, .bool false, .bool true, .bool true, .bool false, .bool false, .bool false, .bool true, .bool false, .bool false, .bool true, .bool false, .bool false, .bool false] t frozen
      | o => o }
end Go.Proofs.YtnnfjjgohhicjaaDoor
namespace Go.Proofs.YtnnfjjgohhicjaaDoor
open Go.RowKit
set_option linter.unusedSimpArgs false
set_option linter.unusedVariables false
set_option maxRecDepth 100000
open Go.ChangeShapes Go.WideShapes

theorem opens_mb : Opens Tryd.prog 130 (kMB 0) fun b => b.instrs.length ≤ 9223372036854775807 := by
  have h1 := opens_slice (e' := 0) Tryd.underlying127 (by kernel_rfl) (opens_instr Tryd.underlying190 rfl Tryd.underlying2 (by kernel_rfl) (by kernel_rfl) (by intro j f hf; match j, hf with | 0, hf | 1, hf | 2, hf | 3, hf | 4, hf => (simp at hf; subst hf; exact ⟨rfl, rfl⟩) | j + 5, hf => simp at hf))
  have h2 := opens_term Tryd.underlying128 rfl Tryd.underlying2 (by kernel_rfl) (by kernel_rfl) (by intro j f hf; match j, hf with | 0, hf | 1, hf | 2, hf | 3, hf => (simp at hf; subst hf; exact ⟨rfl, rfl⟩) | j + 4, hf => simp at hf)
  have h3 := opens_prod Tryd.underlying130 rfl rfl (by kernel_rfl) (by kernel_rfl) (by kernel_rfl) h1 h2
  intro H enc w base spare held fuel cs x h
  obtain ⟨y, hy, hk⟩ := opens_iso (f := fun b : MBlock => (b.instrs, b.term)) (g := fun y => ⟨y.1, y.2⟩) (fun y => rfl) h3 H enc w base spare held fuel cs x h
  exact ⟨y, by have := hy.1.1; simpa [maxLen] using this, hk⟩
def okMach (m : Mach) : Prop := m.blocks.length ≤ 9223372036854775807 ∧ ∀ (i : Nat) b, m.blocks[i]? = some b → b.instrs.length ≤ 9223372036854775807
theorem open_mach {H : Type} {enc : TypeId × Value → H} {w : World} {base b0 : Nat} {r : Reach} {spare : Nat → Bool} {held : Bool} {v : Value} {d : DataW H} {p : List MemPlace} (hv : Value.okWide Tryd.prog w r b0 24 v) (h : DataW.Trod enc Tryd.prog w base spare held 24 v d p) :
    ∃ (m : Mach) (A : Option Addr) (c : Nat), v = .agg #[.int .i64 m.regs, .slice A m.blocks.length c] ∧ C (kMB 0) w A m.blocks ∧ okMach m := by
  obtain ⟨cs, rfl, hsz⟩ := okWide_struct Tryd.underlying24 hv
  obtain ⟨fuel, hf⟩ := h
  have h3 := opens_prod Tryd.underlying24 (d1 := kInt .i64) (d2 := kSlice 0 (kMB 0)) rfl rfl (by kernel_rfl) (by kernel_rfl) (by kernel_rfl) (opens_int Tryd.underlying2) (opens_slice Tryd.underlying22 (by kernel_rfl) opens_mb)
  obtain ⟨⟨n, bs⟩, ⟨-, hl, hb⟩, c1, c2, hcs, rfl, A, c, rfl, -, hC⟩ := h3 _ _ _ _ _ _ _ _ _ hf
  exact ⟨⟨n, bs⟩, A, c, by simp only [Value.cells] at hcs; cases cs; simp_all, hC, by simpa [maxLen] using hl, hb⟩
theorem open_ints {H : Type} {enc : TypeId × Value → H} {w : World} {base b0 : Nat} {r : Reach} {spare : Nat → Bool} {held : Bool} {v : Value} {d : DataW H} {p : List MemPlace} (hv : Value.okWide Tryd.prog w r b0 49 v) (h : DataW.Trod enc Tryd.prog w base spare held 49 v d p) :
    ∃ (xs : List Int) (A : Option Addr) (c : Nat), v = .slice A xs.length c ∧ C kI64 w A xs ∧ xs.length ≤ 9223372036854775807 := by
  obtain ⟨a, n, cp, rfl⟩ := okWide_slice Tryd.underlying49 hv
  obtain ⟨fuel, hf⟩ := h
  obtain ⟨xs, ⟨hl, -⟩, A, c, hcs, -, hC⟩ := opens_slice (e' := 2) Tryd.underlying49 (by kernel_rfl) (opens_int Tryd.underlying2) _ _ _ _ _ _ _ _ _ hf
  exact ⟨xs, A, c, by simpa [Value.cells] using hcs, hC, by simpa [maxLen] using hl⟩
theorem open_i64 {w : World} {b0 : Nat} {r : Reach} {v : Value} (hv : Value.okWide Tryd.prog w r b0 2 v) : ∃ n : Int, v = .int .i64 n := okWide_int Tryd.underlying2 hv
end Go.Proofs.YtnnfjjgohhicjaaDoor
