/- The law's walk: laws.FnExactSequence. -/
import Derived.Test.YtnnfjjgohhicjaaQl
import Derived.Test.YtnnfjjgohhicjaaQg
import Derived.Test.YtnnfjjgohhicjaaQb
namespace Go.Proofs.Ytnnfjjgohhicjaa
open Go.RowKit
set_option linter.unusedSimpArgs false
set_option linter.unusedVariables false
set_option maxRecDepth 100000

theorem seqF_len (ms : List Move) : (seqF ms).length ≤ 128 := by
  unfold seqF
  split
  · rename_i h
    have h1 := emitS_len (2 * (live ms).length) (live ms)
    have h2 := live_len ms
    have h3 := h.1
    omega
  · simp
set_option maxHeartbeats 8000000 in
theorem lawSequence_c (A : Option Addr) (c : Nat) (ms : List Move) (w : World) (hx : C kMove w A ms) (hn : ms.length ≤ 9223372036854775807) (hwf : ∀ m ∈ ms, (Lit.int .i64 m.to).wf = true ∧ (Lit.int .i64 m.src).wf = true) :
    Calls Try.prog 4 #[.slice A ms.length c] w fun e w' => e = .returned (.bool true) ∧ Below w.heap.size w w' := by
  have HSZ := Lib.hid (fun W => szMoveS_c A c ms.length 1048576 W hn (by omega) (by omega))
  by_cases hz : szN ms.length 1048576 < 0
  · go_enter Try.func4, Try.ntmps4
    go_wp2_with (go_at_call 6; (with_reducible refine (HSZ.out _).mono ?_); rintro e w1 ⟨rfl, rfl⟩)
    go_ret
    exact ⟨rfl, Below.refl _ _⟩
  · have hbl : ms.length ≤ 1048576 := by unfold szN at hz; split at hz <;> omega
    have HTO := Lib.hid (fun W (h : Below w.heap.size w W) => toMoveS_c A c ms W (hx.below h) hbl)
    have HWF := Lib.hid hwf
    have hel := seqF_len ms
    obtain ⟨E, hE⟩ : ∃ E, seqF ms = E := ⟨_, rfl⟩
    rw [hE] at hel
    have HSV := Lib.hid (fun A c W (h1 : C kMove W A ms) => hE ▸ seq_s A c ms W h1 hbl)
    have HIV := Lib.hid (fun A c W (h1 : C kMove W A ms) => hE ▸ seq_i A c ms W h1 hbl HWF.out)
    clear hE hx hwf
    go_enter Try.func4, Try.ntmps4
    go_upto_region 6 with (first
      | (go_at_call 6; (with_reducible refine (HSZ.out _).mono ?_); rintro e w1 ⟨rfl, rfl⟩)
      | (go_at_call 8; (with_reducible refine (HTO.out _ (by (repeat (first | (with_reducible first | exact Below.refl _ _ | assumption | exact ext_box _) | (with_reducible apply Below.drew) | ((with_reducible refine Below.setCell ?_ ?hs _); (case hs => first | (simp; done) | (simp; omega) | omega)) | ((with_reducible refine Below.alloc ?_ ?hs _); (case hs => first | (simp; done) | (simp; omega) | omega)))))).mono ?_); intro e w2 hp; unfold RetRow at hp; obtain ⟨v2, fp2, rfl, r2, -, hb2⟩ := hp; obtain ⟨A2, c2, rfl, -⟩ := r2.form; have HR2 := Lib.hid r2.reads; have HB2 : Below w.heap.size w w2 := Below.then_ (by (repeat (first | (with_reducible first | exact Below.refl _ _ | assumption | exact ext_box _) | (with_reducible apply Below.drew) | ((with_reducible refine Below.setCell ?_ ?hs _); (case hs => first | (simp; done) | (simp; omega) | omega)) | ((with_reducible refine Below.alloc ?_ ?hs _); (case hs => first | (simp; done) | (simp; omega) | omega))))) hb2; clear r2)
      | (go_at_call 7; (with_reducible refine (HSV.out _ _ _ HR2.out).mono ?_); intro e w4 hp; unfold RetRow at hp; obtain ⟨v4, f4, rfl, r4, h4, hb4⟩ := hp; obtain ⟨A4, c4, rfl, -⟩ := r4.form; have HR4 := Lib.hid r4; have HF4 := Lib.hid (r4.inR h4); have HB4 : Below w.heap.size w w4 := Below.then_ (by assumption) hb4; clear r4 h4))
    have z4 := HB4.size
    clear hb2 hb4 HR2 HSV HSZ
    go_upto_region 8 with (first
      | (go_at_call 8; (with_reducible refine (HTO.out _ (by (repeat (first | (with_reducible first | exact Below.refl _ _ | assumption | exact ext_box _) | (with_reducible apply Below.drew) | ((with_reducible refine Below.setCell ?_ ?hs _); (case hs => first | (simp; done) | (simp; omega) | omega)) | ((with_reducible refine Below.alloc ?_ ?hs _); (case hs => first | (simp; done) | (simp; omega) | omega)))))).mono ?_); intro e w5 hp; unfold RetRow at hp; obtain ⟨v5, fp5, rfl, r5, h5, hb5⟩ := hp; obtain ⟨A5, c5, rfl, -⟩ := r5.form; have HR5 := Lib.hid r5; have HF5 := Lib.hid (r5.inR h5); have HB5 : Below w.heap.size w w5 := Below.then_ (by assumption) hb5; have HR4' := Lib.hid (HR4.out.chg (chg_of hb5) (by simp)); have z5 := hb5.size; clear r5 h5)
      | (go_at_call 9; (with_reducible refine (HIV.out _ _ _ HR5.out.reads).mono ?_); intro e w6 hp; unfold RetRow at hp; obtain ⟨v6, f6, rfl, r6, h6, hb6⟩ := hp; obtain ⟨A6, c6, rfl, -⟩ := r6.form; have HR6 := Lib.hid r6; have HF6 := Lib.hid (r6.inR h6); have HB6 : Below w.heap.size w w6 := Below.then_ (by assumption) hb6; have HR5' := Lib.hid (HR5.out.chg (chg_of hb6) (by simp)); have HR4'' := Lib.hid (HR4'.out.chg (chg_of hb6) (by simp)); have z6 := hb6.size; clear r6 h6))
    clear hb5 hb6 HR4 HR5 HR4'
    have HEI := Lib.hid (fun W (A A' : Option Addr) (c c' : Nat) (h1 : C kInstr W A E) (h2 : C kInstr W A' E) => (by simpa using eqInstrS_c A A' c c' E E W h1 h2 (by omega) (by omega) : Calls Try.prog 10 #[.slice A E.length c, .slice A' E.length c'] W fun e w' => e = .returned (.bool true) ∧ Below W.heap.size W w'))
    have HEM := Lib.hid (fun W (A A' : Option Addr) (c c' : Nat) (h1 : C kMove W A ms) (h2 : C kMove W A' ms) => (by simpa using eqMoveS_c A A' c c' ms ms W h1 h2 (by omega) (by omega) : Calls Try.prog 11 #[.slice A ms.length c, .slice A' ms.length c'] W fun e w' => e = .returned (.bool true) ∧ Below W.heap.size W w'))
    go_upto_region 10 with (go_at_call 10; (with_reducible refine (HEI.out _ _ _ _ _ HR6.out.reads HR4''.out.reads).mono ?_); rintro e w7 ⟨rfl, hb7⟩)
    have HB7 := HB6.trans (hb7.mono HB6.size)
    have R6 := Lib.hid (HR6.out.chg (chg_of hb7) (by simp))
    have R5 := Lib.hid (HR5'.out.chg (chg_of hb7) (by simp))
    have R4 := Lib.hid (HR4''.out.chg (chg_of hb7) (by simp))
    have z7 := hb7.size
    clear hb7 HR6 HR5' HR4'' HB2 HB4 HB5 HB6
    go_upto_region 13 with (first
      | (go_at_call 8; (with_reducible refine (HTO.out _ (by (repeat (first | (with_reducible first | exact Below.refl _ _ | assumption | exact ext_box _) | (with_reducible apply Below.drew) | ((with_reducible refine Below.setCell ?_ ?hs _); (case hs => first | (simp; done) | (simp; omega) | omega)) | ((with_reducible refine Below.alloc ?_ ?hs _); (case hs => first | (simp; done) | (simp; omega) | omega)))))).mono ?_); intro e w8 hp; unfold RetRow at hp; obtain ⟨v8, fp8, rfl, r8, -, hb8⟩ := hp; obtain ⟨A8, c8, rfl, -⟩ := r8.form; have HR8 := Lib.hid r8.reads; have S6 := Lib.hid (R6.out.chg (chg_of hb8) (by simp)); have S5 := Lib.hid (R5.out.chg (chg_of hb8) (by simp)); have S4 := Lib.hid (R4.out.chg (chg_of hb8) (by simp)); have HB8 : Below w.heap.size w w8 := Below.then_ (by assumption) hb8; have z8 := hb8.size; clear r8 hb8)
      | (go_at_call 11; (with_reducible refine (HEM.out _ _ _ _ _ S5.out.reads HR8.out).mono ?_); rintro e w9 ⟨rfl, hb9⟩))
    have HB9 := HB8.trans (hb9.mono HB8.size)
    have R6 := Lib.hid (S6.out.chg (chg_of hb9) (by simp))
    have R5 := Lib.hid (S5.out.chg (chg_of hb9) (by simp))
    have R4 := Lib.hid (S4.out.chg (chg_of hb9) (by simp))
    have z9 := hb9.size
    clear hb9 S6 S5 S4 HB8 HB7 HR8
    have HMM := Lib.hid (markMoveS_c (.slice A5 ms.length c5) ms fp5 1 w9 R5.out (by omega) (by omega) hbl)
    go_upto_region 14 with (go_at_call 12; (with_reducible refine HMM.out.mono ?_); intro e w10 hp; unfold MarkRow at hp; obtain ⟨k7, ys, fp7, rfl, hk7, hk8, -, -, -, hc10⟩ := hp)
    have T6 := Lib.hid (R6.out.chg hc10 fun b hb h => by have h1 := HF5.out _ h; have h2 := HF6.out b hb; omega)
    have T4 := Lib.hid (R4.out.chg hc10 fun b hb h => by have h1 := HF5.out _ h; have h2 := HF4.out b hb; omega)
    have HB10 := HB9.trans (hc10.below HB9.size fun b hb => by have h1 := HF5.out b hb; omega)
    have z10 := hc10.size
    have hk70 : ¬ k7 < 0 := by omega
    clear hc10 R6 R5 R4 HB9 HMM
    go_upto_region 17 with (go_at_call 10; (with_reducible refine (HEI.out _ _ _ _ _ T6.out.reads T4.out.reads).mono ?_); rintro e w11 ⟨rfl, hb11⟩)
    have U6 := Lib.hid (T6.out.chg (chg_of hb11) (by simp))
    have U4 := Lib.hid (T4.out.chg (chg_of hb11) (by simp))
    have HB11 := HB10.trans (hb11.mono HB10.size)
    have z11 := hb11.size
    clear hb11 T6 T4 HB10
    have HMI := Lib.hid (markInstrS2_c (.slice A6 E.length c6) E f6 1 w11 U6.out (by omega) (by omega) (by omega))
    go_upto_region 18 with (go_at_call 13; (with_reducible refine HMI.out.mono ?_); intro e w12 hp; unfold MarkI at hp; obtain ⟨f7, rfl, r12, h12, hc12⟩ := hp)
    have V4 := Lib.hid (U4.out.chg hc12 fun b hb h => by have h1 := HF6.out _ h; have h2 := HF4.out b hb; omega)
    have HB12 := HB11.trans (hc12.below HB11.size fun b hb => by have h1 := HF6.out b hb; omega)
    have HHI := Lib.hid (heldInstrS_c (.slice A6 E.length c6) E.length f7 1 w12 r12 (by omega) (by omega) (by omega))
    clear r12 h12 hc12 U6 U4 HB11 HMI
    go_upto_region 24 with (go_at_call 14; (with_reducible refine HHI.out.mono ?_); rintro e w13 ⟨rfl, rfl⟩)
    clear HHI
    go_wp2_with (first
      | (go_at_call 8; (with_reducible refine (HTO.out _ (by (repeat (first | (with_reducible first | exact Below.refl _ _ | assumption | exact ext_box _) | (with_reducible apply Below.drew) | ((with_reducible refine Below.setCell ?_ ?hs _); (case hs => first | (simp; done) | (simp; omega) | omega)) | ((with_reducible refine Below.alloc ?_ ?hs _); (case hs => first | (simp; done) | (simp; omega) | omega)))))).mono ?_); intro e w14 hp; unfold RetRow at hp; obtain ⟨v14, fp14, rfl, r14, -, hb14⟩ := hp; obtain ⟨A14, c14, rfl, -⟩ := r14.form; have HR14 := Lib.hid r14.reads; have V4' := Lib.hid (V4.out.chg (chg_of hb14) (by simp)); have HB14 : Below w.heap.size w w14 := Below.then_ (by assumption) hb14; clear r14 hb14)
      | (go_at_call 9; (with_reducible refine (HIV.out _ _ _ HR14.out).mono ?_); intro e w15 hp; unfold RetRow at hp; obtain ⟨v15, f15, rfl, r15, -, hb15⟩ := hp; obtain ⟨A15, c15, rfl, -⟩ := r15.form; have HR15 := Lib.hid r15.reads; have V4'' := Lib.hid (V4'.out.chg (chg_of hb15) (by simp)); have HB15 : Below w.heap.size w w15 := Below.then_ (by assumption) hb15; clear r15 hb15)
      | (go_at_call 10; (with_reducible refine (HEI.out _ _ _ _ _ HR15.out V4''.out.reads).mono ?_); rintro e w16 ⟨rfl, hb16⟩; have HB16 := Below.then_ (w := w) HB15 hb16))
    go_ret
    exact ⟨rfl, HB16⟩
end Go.Proofs.Ytnnfjjgohhicjaa
