/- Plain: the text of a function. -/
import Derived.Test.YtnnfjjgohhicjaaDoorMg1
import Derived.Test.YtnnfjjgohhicjaaDoorKm
import Derived.Lib.UnsafeStr
import Derived.Lib.ConvBytes
import Derived.Lib.SmallJoins
import Derived.Shelf.RegionOpenPlain
import Derived.Test.YtnnfjjgohhicjaaDoorRp
import Derived.Test.YtnnfjjgohhicjaaDoorPw
import Derived.Test.YtnnfjjgohhicjaaDoorEe
namespace Go.Proofs.YtnnfjjgohhicjaaDoor
open Go.RowKit
set_option linter.unusedSimpArgs false
set_option linter.unusedVariables false
set_option maxRecDepth 100000

def selL (fl : List (Bool × Int)) : List Int := (fl.filter (·.1)).map (·.2)
theorem selL_snoc {fl : List (Bool × Int)} {j : Nat} {p : Bool × Int} (h : fl[j]? = some p) : selL (fl.take (j + 1)) = selL (fl.take j) ++ if p.1 then [p.2] else [] := by
  obtain ⟨u, x⟩ := p
  rw [take_snoc h]
  cases u <;> simp [selL, List.filter_append]
theorem selL_fields (x : Instr) (h1 : 1 ≤ x.op) (h2 : x.op ≤ 13) : selL [(usedD x.op, x.dst), (usedA x.op, x.a), (usedB x.op, x.b), (usedI x.op, x.imm)] = fieldsL x := by
  obtain ⟨op, dst, a, b, imm⟩ := x
  dsimp only at *
  rcases (by omega : op = 1 ∨ op = 2 ∨ op = 3 ∨ op = 4 ∨ op = 5 ∨ op = 6 ∨ op = 7 ∨ op = 8 ∨ op = 9 ∨ op = 10 ∨ op = 11 ∨ op = 12 ∨ op = 13) with rfl | rfl | rfl | rfl | rfl | rfl | rfl | rfl | rfl | rfl | rfl | rfl | rfl
  all_goals simp [selL, usedD, usedA, usedB, usedI, fieldsL, useL, fld]
set_option maxHeartbeats 4000000 in
theorem instr_c (B b : Nat) (l : List UInt8) (x : Instr) (w : World) (h : Pg B b l w) (hB3 : 3 ≤ B) (hG : Globs w) (h1 : 1 ≤ x.op) (h2 : x.op ≤ 13) (hS : Small [x.dst, x.a, x.b, x.imm]) (hl : l.length ≤ 549755813888) :
    Calls Tryd.prog 59 #[.pointer (some ⟨b, 0, none⟩), x.v] w fun e w' => e = .returned (.tuple #[]) ∧ Pg B b (l ++ instrL x) w' ∧ Chg (PgS B b w) w w' := by
  obtain ⟨i0, hi, hz0, hz1, hz2⟩ := info_parts info_i64
  obtain ⟨k, hk⟩ : ∃ k : Nat, x.op = k := ⟨x.op.toNat, by omega⟩
  have hk14 : k < 14 := by omega
  have s0 : w.cell? ⟨0, k * 4, none⟩ = some (.bool (usedD x.op)) := by have := hG.sh k hk14 0 _ rfl; rw [hk]; exact this
  have s1 : w.cell? ⟨0, k * 4 + 1, none⟩ = some (.bool (usedA x.op)) := by have := hG.sh k hk14 1 _ rfl; rw [hk]; exact this
  have s2 : w.cell? ⟨0, k * 4 + 2, none⟩ = some (.bool (usedB x.op)) := by have := hG.sh k hk14 2 _ rfl; rw [hk]; exact this
  have s3 : w.cell? ⟨0, k * 4 + 3, none⟩ = some (.bool (usedI x.op)) := by have := hG.sh k hk14 3 _ rfl; rw [hk]; exact this
  have hpos := hG.pos
  have hp0 : 0 < w.heap.size := by omega
  have HSL := Lib.hid (selL_fields x h1 h2)
  have HIL := Lib.hid (show instrL x = lineB (wordL x.op) (fieldsL x) from rfl)
  have hwl := wordL_len x.op
  have hul := useL_len x.op
  have HFS := Lib.hid (show Small (fieldsL x) ∧ (fieldsL x).length ≤ 3 from ⟨fun n hn => by
    obtain ⟨c, hc, rfl⟩ := List.mem_map.1 hn
    rcases useL_mem hc with rfl | rfl | rfl | rfl <;> exact hS _ (by simp [fld]), by rw [fieldsL, List.length_map]; exact hul⟩)
  have n0 := hG.nm k (by omega) (by omega)
  rw [← hk] at n0
  have HP := Lib.hid h
  have HG := Lib.hid hG
  have hbw := h.lt
  obtain ⟨fl, hfl⟩ : ∃ fl, [(usedD x.op, x.dst), (usedA x.op, x.a), (usedB x.op, x.b), (usedI x.op, x.imm)] = fl := ⟨_, rfl⟩
  have hf0 : fl[0]? = some (usedD x.op, x.dst) := by rw [← hfl]; rfl
  have hf1 : fl[1]? = some (usedA x.op, x.a) := by rw [← hfl]; rfl
  have hf2 : fl[2]? = some (usedB x.op, x.b) := by rw [← hfl]; rfl
  have hf3 : fl[3]? = some (usedI x.op, x.imm) := by rw [← hfl]; rfl
  have hfll : fl.length = 4 := by rw [← hfl]; rfl
  rw [hfl] at HSL
  have HF0 := Lib.hid (selL_snoc hf0)
  have HF1 := Lib.hid (selL_snoc hf1)
  have HF2 := Lib.hid (selL_snoc hf2)
  have HF3 := Lib.hid (selL_snoc hf3)
  have HFT := Lib.hid (show fl.take 4 = fl from by rw [← hfll]; exact List.take_length)
  generalize usedD x.op = fd at *
  generalize usedA x.op = fa at *
  generalize usedB x.op = fb at *
  generalize usedI x.op = fi at *
  obtain ⟨WL, hWL⟩ : ∃ WL, wordL x.op = WL := ⟨_, rfl⟩
  rw [hWL] at n0 hwl HIL
  rw [hk] at h1 h2
  obtain ⟨op, dst, a, bb, imm⟩ := x
  dsimp only at *
  subst hk
  obtain ⟨Wb, hWb⟩ : ∃ Wb, (((w.alloc (.cells #[.int .i64 k, .int .i64 dst, .int .i64 a, .int .i64 bb, .int .i64 imm] 72)).alloc (.cells #[.bool fd, .bool fa, .bool fb, .bool fi] 92)).alloc (.cells #[] 2)).alloc (.cells #[.bool fd, .int .i64 dst, .bool fa, .int .i64 a, .bool fb, .int .i64 bb, .bool fi, .int .i64 imm] 153) = Wb := ⟨_, rfl⟩
  have HWb := Lib.hid hWb
  have zWb : Wb.heap.size = w.heap.size + 1 + 1 + 1 + 1 := by rw [← hWb]; simp
  have HX := Lib.hid (show Bk w.heap.size 72 [.int .i64 k, .int .i64 dst, .int .i64 a, .int .i64 bb, .int .i64 imm] Wb by
    rw [← hWb]; exact ((((Bk.made w _ _).below ((Below.refl _ _).alloc (Nat.le_refl _) _)).below ((Below.refl _ _).alloc (Nat.le_refl _) _)).below ((Below.refl _ _).alloc (Nat.le_refl _) _)))
  have HQ := Lib.hid (show Bk (w.heap.size + 1 + 1 + 1) 153 [.bool fd, .int .i64 dst, .bool fa, .int .i64 a, .bool fb, .int .i64 bb, .bool fi, .int .i64 imm] Wb by
    rw [← hWb]; have := Bk.made (((w.alloc (.cells #[.int .i64 k, .int .i64 dst, .int .i64 a, .int .i64 bb, .int .i64 imm] 72)).alloc (.cells #[.bool fd, .bool fa, .bool fb, .bool fi] 92)).alloc (.cells #[] 2)) 153 [.bool fd, .int .i64 dst, .bool fa, .int .i64 a, .bool fb, .int .i64 bb, .bool fi, .int .i64 imm]; simpa only [World.size_alloc] using this)
  have HE := Lib.hid (show Row 2 kI64 Wb (.slice (some ⟨w.heap.size + 1 + 1, 0, none⟩) 0 0) ([] : List Int) [w.heap.size + 1 + 1] by
    rw [← hWb]; exact (Row.empty0 (W := ((w.alloc (.cells #[.int .i64 k, .int .i64 dst, .int .i64 a, .int .i64 bb, .int .i64 imm] 72)).alloc (.cells #[.bool fd, .bool fa, .bool fb, .bool fi] 92))) (by simp)).chg (S := fun _ => False) ((Chg.refl _ _).alloc _) (by simp))
  have HBW := Lib.hid (show Below w.heap.size w Wb by rw [← hWb]; exact ((((Below.refl _ _).alloc (Nat.le_refl _) _).alloc (by simp) _).alloc (by simp; omega) _).alloc (by simp; omega) _)
  clear h hG hS hfl hf0 hf1 hf2 hf3 hWb hWL hul
  simp only [Instr.v]
  go_enter Tryd.func59, Tryd.ntmps59
  go_wp2
  go_loopw [5, 35] (fun t5 t35 wr => ∃ (j : Nat) (vs : List Int) (Av : Option Addr) (cv : Nat) (fpv : List Nat), j ≤ 4 ∧ vs = selL (fl.take j) ∧ t5 = .slice Av vs.length cv ∧ t35 = .int .i64 j ∧ Row 2 kI64 wr (.slice Av vs.length cv) vs fpv ∧ (∀ q ∈ fpv, q = w.heap.size + 1 + 1 ∨ Wb.heap.size ≤ q) ∧ Chg (fun q => q = w.heap.size + 1 + 1 ∨ Wb.heap.size ≤ q) Wb wr) (fun _ t35 _ => 4 - (intOf t35).toNat)
  case atStart => rw [HWb.out]; exact ⟨0, [], _, 0, [w.heap.size + 1 + 1], by omega, by simp [selL], rfl, rfl, HE.out, by simp, Chg.refl _ _⟩
  case round =>
    obtain ⟨j, vs, Av, cv, fpv, hj, hvs, rfl, rfl, hr, hf, hc⟩ := hrel
    have HR := Lib.hid hr
    have HF := Lib.hid hf
    have HC := Lib.hid hc
    have HV := Lib.hid hvs
    have hx := HX.out.chg hc (fun e => by omega)
    have hq := HQ.out.chg hc (fun e => by omega)
    have zx := hx.lt
    have zq := hq.lt
    have hvl : vs.length ≤ 4 := by rw [hvs, selL, List.length_map]; exact Nat.le_trans (List.length_filter_le _ _) (by rw [List.length_take]; omega)
    have hsr := hc.size
    by_cases hlt : j < 4
    · rcases (by omega : j = 0 ∨ j = 1 ∨ j = 2 ∨ j = 3) with rfl | rfl | rfl | rfl
      · have e0 := hq.cell 0 (v := .bool fd) rfl
        have e1 := hq.cell 1 (v := .int .i64 dst) rfl
        have HFJ := HF0
        clear hx hq hr hf hc hvs HX HQ HE HBW HF0 HF1 HF2 HF3
        cases fd
        · have HSN := Lib.hid (show vs = selL (fl.take 1) by rw [HFJ.out, ← HV.out]; simp)
          go_wp2
          go_roundw
          case rel => exact ⟨1, vs, Av, cv, fpv, by omega, HSN.out, rfl, by go_num, HR.out.chg (S := fun _ => False) ((Chg.refl _ _).alloc _) (by simp), HF.out, HC.out.alloc _⟩
          case measure => simp [intOf]
        · have HSN := Lib.hid (show vs ++ [dst] = selL (fl.take 1) by rw [HFJ.out, ← HV.out]; simp)
          go_wp2_with (at_builtin; refine wpList_append_row kI64 rfl _ _ 49 rfl 2 i0 _ 8 Tryd.underlying49 hi hz0 hz1 hz2 rfl (by decide) _ vs fpv rfl (HR.out.chg (S := fun _ => False) (by (repeat (first | (with_reducible first | exact Chg.refl _ _ | assumption) | (with_reducible refine Chg.drew ?_) | ((with_reducible refine Chg.setCell ?_ ?hs _); (case hs => first | (simp; done) | (simp; omega) | omega)) | (with_reducible refine Chg.alloc ?_ _)))) (by simp)) _ _ [.int .i64 dst] dst [] rfl ⟨rfl, rfl⟩ (by simp) (box_news (by simp)) (by simp [maxLen]; omega) (by omega) ?_; intro g cap w3 fp3 hr3 hf3 hC3)
          have HC3 := Lib.hid (show Chg (fun q => q = w.heap.size + 1 + 1 ∨ Wb.heap.size ≤ q) wr w3 from Chg.trans (by (repeat (first | (with_reducible first | exact Chg.refl _ _ | assumption) | (with_reducible refine Chg.drew ?_) | ((with_reducible refine Chg.setCell ?_ ?hs _); (case hs => first | (simp; done) | (simp; omega) | omega)) | (with_reducible refine Chg.alloc ?_ _)))) (hC3.mono fun q _ hq => HF.out q hq))
          go_roundw
          case rel => exact ⟨1, vs ++ [dst], some ⟨g, 0, none⟩, cap, fp3, by omega, HSN.out, by simp, by go_num, by simpa using hr3, fun q hq => by
            rcases hf3 q hq with h | h | h
            · exact HF.out q h
            · simp at h
            · simp at h; exact .inr (by omega), HC.out.trans HC3.out⟩
          case measure => simp [intOf]
      · have e0 := hq.cell 2 (v := .bool fa) rfl
        have e1 := hq.cell 3 (v := .int .i64 a) rfl
        have HFJ := HF1
        clear hx hq hr hf hc hvs HX HQ HE HBW HF0 HF1 HF2 HF3
        cases fa
        · have HSN := Lib.hid (show vs = selL (fl.take 2) by rw [HFJ.out, ← HV.out]; simp)
          go_wp2
          go_roundw
          case rel => exact ⟨2, vs, Av, cv, fpv, by omega, HSN.out, rfl, by go_num, HR.out.chg (S := fun _ => False) ((Chg.refl _ _).alloc _) (by simp), HF.out, HC.out.alloc _⟩
          case measure => simp [intOf]
        · have HSN := Lib.hid (show vs ++ [a] = selL (fl.take 2) by rw [HFJ.out, ← HV.out]; simp)
          go_wp2_with (at_builtin; refine wpList_append_row kI64 rfl _ _ 49 rfl 2 i0 _ 8 Tryd.underlying49 hi hz0 hz1 hz2 rfl (by decide) _ vs fpv rfl (HR.out.chg (S := fun _ => False) (by (repeat (first | (with_reducible first | exact Chg.refl _ _ | assumption) | (with_reducible refine Chg.drew ?_) | ((with_reducible refine Chg.setCell ?_ ?hs _); (case hs => first | (simp; done) | (simp; omega) | omega)) | (with_reducible refine Chg.alloc ?_ _)))) (by simp)) _ _ [.int .i64 a] a [] rfl ⟨rfl, rfl⟩ (by simp) (box_news (by simp)) (by simp [maxLen]; omega) (by omega) ?_; intro g cap w3 fp3 hr3 hf3 hC3)
          have HC3 := Lib.hid (show Chg (fun q => q = w.heap.size + 1 + 1 ∨ Wb.heap.size ≤ q) wr w3 from Chg.trans (by (repeat (first | (with_reducible first | exact Chg.refl _ _ | assumption) | (with_reducible refine Chg.drew ?_) | ((with_reducible refine Chg.setCell ?_ ?hs _); (case hs => first | (simp; done) | (simp; omega) | omega)) | (with_reducible refine Chg.alloc ?_ _)))) (hC3.mono fun q _ hq => HF.out q hq))
          go_roundw
          case rel => exact ⟨2, vs ++ [a], some ⟨g, 0, none⟩, cap, fp3, by omega, HSN.out, by simp, by go_num, by simpa using hr3, fun q hq => by
            rcases hf3 q hq with h | h | h
            · exact HF.out q h
            · simp at h
            · simp at h; exact .inr (by omega), HC.out.trans HC3.out⟩
          case measure => simp [intOf]
      · have e0 := hq.cell 4 (v := .bool fb) rfl
        have e1 := hq.cell 5 (v := .int .i64 bb) rfl
        have HFJ := HF2
        clear hx hq hr hf hc hvs HX HQ HE HBW HF0 HF1 HF2 HF3
        cases fb
        · have HSN := Lib.hid (show vs = selL (fl.take 3) by rw [HFJ.out, ← HV.out]; simp)
          go_wp2
          go_roundw
          case rel => exact ⟨3, vs, Av, cv, fpv, by omega, HSN.out, rfl, by go_num, HR.out.chg (S := fun _ => False) ((Chg.refl _ _).alloc _) (by simp), HF.out, HC.out.alloc _⟩
          case measure => simp [intOf]
        · have HSN := Lib.hid (show vs ++ [bb] = selL (fl.take 3) by rw [HFJ.out, ← HV.out]; simp)
          go_wp2_with (at_builtin; refine wpList_append_row kI64 rfl _ _ 49 rfl 2 i0 _ 8 Tryd.underlying49 hi hz0 hz1 hz2 rfl (by decide) _ vs fpv rfl (HR.out.chg (S := fun _ => False) (by (repeat (first | (with_reducible first | exact Chg.refl _ _ | assumption) | (with_reducible refine Chg.drew ?_) | ((with_reducible refine Chg.setCell ?_ ?hs _); (case hs => first | (simp; done) | (simp; omega) | omega)) | (with_reducible refine Chg.alloc ?_ _)))) (by simp)) _ _ [.int .i64 bb] bb [] rfl ⟨rfl, rfl⟩ (by simp) (box_news (by simp)) (by simp [maxLen]; omega) (by omega) ?_; intro g cap w3 fp3 hr3 hf3 hC3)
          have HC3 := Lib.hid (show Chg (fun q => q = w.heap.size + 1 + 1 ∨ Wb.heap.size ≤ q) wr w3 from Chg.trans (by (repeat (first | (with_reducible first | exact Chg.refl _ _ | assumption) | (with_reducible refine Chg.drew ?_) | ((with_reducible refine Chg.setCell ?_ ?hs _); (case hs => first | (simp; done) | (simp; omega) | omega)) | (with_reducible refine Chg.alloc ?_ _)))) (hC3.mono fun q _ hq => HF.out q hq))
          go_roundw
          case rel => exact ⟨3, vs ++ [bb], some ⟨g, 0, none⟩, cap, fp3, by omega, HSN.out, by simp, by go_num, by simpa using hr3, fun q hq => by
            rcases hf3 q hq with h | h | h
            · exact HF.out q h
            · simp at h
            · simp at h; exact .inr (by omega), HC.out.trans HC3.out⟩
          case measure => simp [intOf]
      · have e0 := hq.cell 6 (v := .bool fi) rfl
        have e1 := hq.cell 7 (v := .int .i64 imm) rfl
        have HFJ := HF3
        clear hx hq hr hf hc hvs HX HQ HE HBW HF0 HF1 HF2 HF3
        cases fi
        · have HSN := Lib.hid (show vs = selL (fl.take 4) by rw [HFJ.out, ← HV.out]; simp)
          go_wp2
          go_roundw
          case rel => exact ⟨4, vs, Av, cv, fpv, by omega, HSN.out, rfl, by go_num, HR.out.chg (S := fun _ => False) ((Chg.refl _ _).alloc _) (by simp), HF.out, HC.out.alloc _⟩
          case measure => simp [intOf]
        · have HSN := Lib.hid (show vs ++ [imm] = selL (fl.take 4) by rw [HFJ.out, ← HV.out]; simp)
          go_wp2_with (at_builtin; refine wpList_append_row kI64 rfl _ _ 49 rfl 2 i0 _ 8 Tryd.underlying49 hi hz0 hz1 hz2 rfl (by decide) _ vs fpv rfl (HR.out.chg (S := fun _ => False) (by (repeat (first | (with_reducible first | exact Chg.refl _ _ | assumption) | (with_reducible refine Chg.drew ?_) | ((with_reducible refine Chg.setCell ?_ ?hs _); (case hs => first | (simp; done) | (simp; omega) | omega)) | (with_reducible refine Chg.alloc ?_ _)))) (by simp)) _ _ [.int .i64 imm] imm [] rfl ⟨rfl, rfl⟩ (by simp) (box_news (by simp)) (by simp [maxLen]; omega) (by omega) ?_; intro g cap w3 fp3 hr3 hf3 hC3)
          have HC3 := Lib.hid (show Chg (fun q => q = w.heap.size + 1 + 1 ∨ Wb.heap.size ≤ q) wr w3 from Chg.trans (by (repeat (first | (with_reducible first | exact Chg.refl _ _ | assumption) | (with_reducible refine Chg.drew ?_) | ((with_reducible refine Chg.setCell ?_ ?hs _); (case hs => first | (simp; done) | (simp; omega) | omega)) | (with_reducible refine Chg.alloc ?_ _)))) (hC3.mono fun q _ hq => HF.out q hq))
          go_roundw
          case rel => exact ⟨4, vs ++ [imm], some ⟨g, 0, none⟩, cap, fp3, by omega, HSN.out, by simp, by go_num, by simpa using hr3, fun q hq => by
            rcases hf3 q hq with h | h | h
            · exact HF.out q h
            · simp at h
            · simp at h; exact .inr (by omega), HC.out.trans HC3.out⟩
          case measure => simp [intOf]
    · obtain rfl : j = 4 := by omega
      have e0 := hx.cell 0 (v := .int .i64 k) rfl
      have HE2 := Lib.hid (show vs = fieldsL ⟨k, dst, a, bb, imm⟩ by rw [HV.out, HFT.out, HSL.out])
      have HCW := Lib.hid (show Chg (fun _ => False) w wr from chg_of (HBW.out.trans (hc.below HBW.out.size fun q hq => by omega)))
      have n1 := (HCW.out.cell (p := ⟨1, k, none⟩) (by show 1 < _; omega) (by simp)).trans n0
      have hb3' : Below w.heap.size w wr := bel HCW.out
      have z1 : 1 < wr.heap.size := by have := hb3'.size; omega
      have HRW := Lib.hid (row_c B b l WL (.slice Av vs.length cv) vs fpv wr (HP.out.below hb3') hB3 (HG.out.bel hb3') HR.out (by rw [HE2.out]; exact HFS.out.1) (by omega) hl (by omega))
      clear hx hq hr hf hc hvs
      go_wp2_with (go_at_call 58; (refine HRW.out.mono ?_); rintro e w2 ⟨rfl, hp2, hc2⟩)
      refine bodyPost_end (v := .tuple #[]) (by simp [results, Tryd.results59, go_sem]) rfl ?_
      rw [HIL.out, ← HE2.out]
      exact ⟨rfl, hp2, PgS.trans (PgS.of HCW.out) hc2⟩
end Go.Proofs.YtnnfjjgohhicjaaDoor
namespace Go.Proofs.YtnnfjjgohhicjaaDoor
open Go.RowKit
set_option linter.unusedSimpArgs false
set_option linter.unusedVariables false
set_option maxRecDepth 100000

theorem litRow (W : World) (l : List Int) (h : l ≠ []) (hl : l.length ≤ 1048576) : Row 2 kI64 (W.alloc (.cells (l.map (Value.int .i64)).toArray 2)) (.slice (some ⟨W.heap.size, 0, none⟩) l.length l.length) l [W.heap.size] :=
  row_of_bk (Bk.made W 2 (l.map (Value.int .i64))) (by simp only [maxLen]; omega)
section
variable (B b : Nat) (l : List UInt8) (w : World) (h : Pg B b l w) (hB3 : 3 ≤ B) (hG : Globs w)
include h hB3 hG
theorem rowL1 (n : Int) (word : List UInt8) (W : World) (c : Nat) (hc : c = W.heap.size) (hb : Below w.heap.size w W) (hS : Small [n]) (hl : l.length ≤ 549755813888) (hwl : word.length ≤ 100) :
    Calls Tryd.prog 58 #[.pointer (some ⟨b, 0, none⟩), sv word, .slice (some ⟨c, 0, none⟩) 1 1] (W.alloc (.cells #[.int .i64 n] 2)) fun e w' => e = .returned (.tuple #[]) ∧ Pg B b (l ++ lineB word [n]) w' ∧ Chg (PgS B b w) w w' := by
  subst hc
  have hb2 : Below w.heap.size w (W.alloc (.cells #[.int .i64 n] 2)) := hb.alloc hb.size _
  refine (row_c B b l word (.slice (some ⟨W.heap.size, 0, none⟩) 1 1) [n] [W.heap.size] _ (h.below hb2) hB3 (hG.bel hb2) (litRow W [n] (by simp) (by simp)) hS (by simp) hl hwl).mono fun e w' hp => ?_
  exact ⟨hp.1, hp.2.1, PgS.trans (PgS.of (chg_of hb2)) hp.2.2⟩
theorem rowL3 (n1 n2 n3 : Int) (word : List UInt8) (W : World) (c : Nat) (hc : c = W.heap.size) (hb : Below w.heap.size w W) (hS : Small [n1, n2, n3]) (hl : l.length ≤ 549755813888) (hwl : word.length ≤ 100) :
    Calls Tryd.prog 58 #[.pointer (some ⟨b, 0, none⟩), sv word, .slice (some ⟨c, 0, none⟩) 3 3] (W.alloc (.cells #[.int .i64 n1, .int .i64 n2, .int .i64 n3] 2)) fun e w' => e = .returned (.tuple #[]) ∧ Pg B b (l ++ lineB word [n1, n2, n3]) w' ∧ Chg (PgS B b w) w w' := by
  subst hc
  have hb2 : Below w.heap.size w (W.alloc (.cells #[.int .i64 n1, .int .i64 n2, .int .i64 n3] 2)) := hb.alloc hb.size _
  refine (row_c B b l word (.slice (some ⟨W.heap.size, 0, none⟩) 3 3) [n1, n2, n3] [W.heap.size] _ (h.below hb2) hB3 (hG.bel hb2) (litRow W [n1, n2, n3] (by simp) (by simp)) hS (by simp) hl hwl).mono fun e w' hp => ?_
  exact ⟨hp.1, hp.2.1, PgS.trans (PgS.of (chg_of hb2)) hp.2.2⟩
theorem rowL0 (word : List UInt8) (hl : l.length ≤ 549755813888) (hwl : word.length ≤ 100) :
    Calls Tryd.prog 58 #[.pointer (some ⟨b, 0, none⟩), sv word, .slice none 0 0] w fun e w' => e = .returned (.tuple #[]) ∧ Pg B b (l ++ lineB word []) w' ∧ Chg (PgS B b w) w w' :=
  row_c B b l word (.slice none 0 0) [] [] w h hB3 hG (Row.nil _ _ _) (fun n hn => by simp at hn) (by simp) hl hwl
end
set_option maxHeartbeats 2000000 in
theorem term_c (B b : Nat) (l : List UInt8) (t : Term) (w : World) (h : Pg B b l w) (hB3 : 3 ≤ B) (hG : Globs w) (h1 : 1 ≤ t.kind) (h2 : t.kind ≤ 3) (hS : Small [t.a, t.to, t.els]) (hl : l.length ≤ 549755813888) :
    Calls Tryd.prog 60 #[.pointer (some ⟨b, 0, none⟩), t.v] w fun e w' => e = .returned (.tuple #[]) ∧ Pg B b (l ++ termL t) w' ∧ Chg (PgS B b w) w w' := by
  have HSa := Lib.hid (show Small [t.a] from fun n hn => hS n (by simp at hn ⊢; omega))
  have HSt := Lib.hid (show Small [t.to] from fun n hn => hS n (by simp at hn ⊢; omega))
  have HS3 := Lib.hid hS
  have HP1 := Lib.hid (rowL1 B b l w h hB3 hG)
  have HP3 := Lib.hid (rowL3 B b l w h hB3 hG)
  clear h hG hS
  simp only [Term.v]
  rcases (by omega : t.kind = 1 ∨ t.kind = 3 ∨ t.kind = 2) with e | e | e
  · have HT := Lib.hid (show termL t = lineB [106, 117, 109, 112] [t.to] by rw [termL, if_pos e])
    have hk1 : (t.kind == 1) = true := by simp [e]
    have hk2 : (t.kind == 2) = false := by simp [e]
    have hk3 : (t.kind == 3) = false := by simp [e]
    clear h1 h2 e
    go_enter Tryd.func60, Tryd.ntmps60
    go_wp2_with (go_at_call 58; (with_reducible refine (HP1.out t.to [106, 117, 109, 112] _ _ (by simp) (by (repeat (first | (with_reducible first | exact Below.refl _ _ | assumption | exact ext_box _) | (with_reducible apply Below.drew) | ((with_reducible refine Below.setCell ?_ ?hs _); (case hs => first | (simp; done) | (simp; omega) | omega)) | ((with_reducible refine Below.alloc ?_ ?hs _); (case hs => first | (simp; done) | (simp; omega) | omega))))) HSt.out hl (by decide)).mono ?_); rintro e w2 ⟨rfl, hp2, hc2⟩)
    refine bodyPost_end (v := .tuple #[]) (by simp [results, Tryd.results60, go_sem]) rfl ?_
    rw [HT.out]
    exact ⟨rfl, hp2, hc2⟩
  · have HT := Lib.hid (show termL t = lineB [114, 101, 116] [t.a] by rw [termL, if_neg (by omega), if_pos e])
    have hk1 : (t.kind == 1) = false := by simp [e]
    have hk2 : (t.kind == 2) = false := by simp [e]
    have hk3 : (t.kind == 3) = true := by simp [e]
    clear h1 h2 e
    go_enter Tryd.func60, Tryd.ntmps60
    go_wp2_with (go_at_call 58; (with_reducible refine (HP1.out t.a [114, 101, 116] _ _ (by simp) (by (repeat (first | (with_reducible first | exact Below.refl _ _ | assumption | exact ext_box _) | (with_reducible apply Below.drew) | ((with_reducible refine Below.setCell ?_ ?hs _); (case hs => first | (simp; done) | (simp; omega) | omega)) | ((with_reducible refine Below.alloc ?_ ?hs _); (case hs => first | (simp; done) | (simp; omega) | omega))))) HSa.out hl (by decide)).mono ?_); rintro e w2 ⟨rfl, hp2, hc2⟩)
    refine bodyPost_end (v := .tuple #[]) (by simp [results, Tryd.results60, go_sem]) rfl ?_
    rw [HT.out]
    exact ⟨rfl, hp2, hc2⟩
  · have HT := Lib.hid (show termL t = lineB [98, 114, 97, 110, 99, 104] [t.a, t.to, t.els] by rw [termL, if_neg (by omega), if_neg (by omega)])
    have hk1 : (t.kind == 1) = false := by simp [e]
    have hk2 : (t.kind == 2) = true := by simp [e]
    have hk3 : (t.kind == 3) = false := by simp [e]
    clear h1 h2 e
    go_enter Tryd.func60, Tryd.ntmps60
    go_wp2_with (go_at_call 58; (with_reducible refine (HP3.out t.a t.to t.els [98, 114, 97, 110, 99, 104] _ _ (by simp) (by (repeat (first | (with_reducible first | exact Below.refl _ _ | assumption | exact ext_box _) | (with_reducible apply Below.drew) | ((with_reducible refine Below.setCell ?_ ?hs _); (case hs => first | (simp; done) | (simp; omega) | omega)) | ((with_reducible refine Below.alloc ?_ ?hs _); (case hs => first | (simp; done) | (simp; omega) | omega))))) HS3.out hl (by decide)).mono ?_); rintro e w2 ⟨rfl, hp2, hc2⟩)
    refine bodyPost_end (v := .tuple #[]) (by simp [results, Tryd.results60, go_sem]) rfl ?_
    rw [HT.out]
    exact ⟨rfl, hp2, hc2⟩
end Go.Proofs.YtnnfjjgohhicjaaDoor
namespace Go.Proofs.YtnnfjjgohhicjaaDoor
open Go.RowKit
set_option linter.unusedSimpArgs false
set_option linter.unusedVariables false
set_option maxRecDepth 100000

theorem cells_u8 : (Tryd.prog).cellsOf 5 = 1 := by kernel_rfl
set_option maxHeartbeats 1000000 in
theorem str_c (B b : Nat) (l : List UInt8) (w : World) (h : Pg B b l w) (h0 : l ≠ []) (hl : l.length ≤ 1099511627776) :
    Calls Tryd.prog 61 #[.pointer (some ⟨b, 0, none⟩)] w fun e w' => e = .returned (sv l) ∧ Below B w w' := by
  obtain ⟨p, v, fp, hp, hk, hr, hf, hBb⟩ := h
  obtain ⟨hown, rfl⟩ := row_u8 hr hf
  have hl0 : l.length ≠ 0 := by simpa using h0
  obtain ⟨g, cap, cur, rfl, hbg, hg, hnc, hcm, hcs, htake⟩ : ∃ g cap cur, v = .slice (some ⟨g, 0, none⟩) l.length cap ∧ B ≤ g ∧ w.heap[g]? = some (.cells cur 5 (0, 0)) ∧ l.length ≤ cap ∧ cap ≤ maxLen ∧ cur.size = cap * 1 ∧ cur.toList.take (l.length * 1) = Lib.byteCells l := by
    rcases hown.2 with ⟨_, hz⟩ | ⟨g, cap, cur, hv, r⟩
    · exact absurd hz hl0
    · exact ⟨g, cap, cur, hv, r⟩
  have c1 : w.drew.cell? ⟨b, 1, none⟩ = some (.slice (some ⟨g, 0, none⟩) l.length cap) := by
    have : w.drew.heap[b]? = some (.cells #[.pointer p, .slice (some ⟨g, 0, none⟩) l.length cap] 102 (0, 0)) := hk
    rw [Lib.cell_of_heap this]; rfl
  have hSD : (Builtin.unsafeSliceData_ #[44] 156 #[.slice (some ⟨g, 0, none⟩) l.length cap]).run Tryd.prog w.drew = .ok (.pointer (some ⟨g, 0, none⟩)) w.drew :=
    Lib.run_unsafeSliceData_row _ _ _ _ _ _ (by omega)
  have hUS : (Builtin.unsafeString_ #[156, 3] 9 #[.pointer (some ⟨g, 0, none⟩), .int .i64 l.length]).run Tryd.prog w.drew = .ok (sv l) (w.drew.freeze ⟨g, 0, none⟩ l.length) := by
    refine Lib.run_unsafeString_row w.drew 156 3 9 5 Tryd.underlying156 cells_u8 g cur.size (by have hg' : w.drew.heap[g]? = some (.cells cur 5 (0, 0)) := hg; simp [World.shape?, hg']) l h0 (by omega) (by omega) ?_
    intro j x hx
    have := hown.cells (g := g) rfl j (.int .u8 x.toNat) (by simp [Lib.byteCells, hx])
    exact this
  have mixed : (Tryd.prog).follows Departure.mixedOrders = true := by kernel_rfl
  clear hk hr hf hp
  go_enter Tryd.func61, Tryd.ntmps61
  go_wp2
  go_region_o
  all_goals (go_wp2; go_ret; exact ⟨rfl, Lib.below_freeze (Below.drew (Below.refl B w)) (p := ⟨g, 0, none⟩) hbg _⟩)
/-- Bytes in block g that may be read and written. -/
def Wb (g : Nat) (xs : List Int) (w : World) : Prop :=
  ∃ cur fr, w.heap[g]? = some (.cells cur 5 fr) ∧ (∀ (i : Nat) (x : Int), xs[i]? = some x → cur[i]? = some (Value.int .u8 x)) ∧ xs.length ≤ fr.1
namespace Wb
variable {g : Nat} {xs : List Int} {w w' : World}
theorem lt (h : Wb g xs w) : g < w.heap.size := by obtain ⟨_, _, h, _⟩ := h; exact (Array.getElem?_eq_some_iff.1 h).1
theorem cell (h : Wb g xs w) {i : Nat} {x : Int} (hx : xs[i]? = some x) : w.cell? ⟨g, i, none⟩ = some (.int .u8 x) := by
  obtain ⟨cur, fr, hg, hc, _⟩ := h
  rw [cell_of_row w g i cur _ fr hg]; exact hc i x hx
theorem frozen (h : Wb g xs w) {i : Nat} (hi : i < xs.length) : w.frozen? ⟨g, i, none⟩ = false := by
  obtain ⟨cur, fr, hg, hc, hf⟩ := h
  unfold World.frozen?; rw [hg]; simp; omega
theorem keep (h : Wb g xs w) (hb : w'.heap[g]? = w.heap[g]?) : Wb g xs w' := by
  obtain ⟨cur, fr, hg, r⟩ := h
  exact ⟨cur, fr, hb.trans hg, r⟩
theorem below (h : Wb g xs w) (hb : Below w.heap.size w w') : Wb g xs w' := h.keep (hb.block g h.lt)
theorem chg {S : Nat → Prop} (h : Wb g xs w) (hc : Chg S w w') (hs : ¬ S g) : Wb g xs w' := h.keep (hc.block g h.lt hs)
theorem set (h : Wb g xs w) {i : Nat} (hi : i < xs.length) (x : Int) : Wb g (xs.set i x) (w.setCell ⟨g, i, none⟩ (.int .u8 x)) ∧ Chg (fun k => k = g) w (w.setCell ⟨g, i, none⟩ (.int .u8 x)) := by
  refine ⟨?_, (Chg.refl (fun k => k = g) w).setCell (p := ⟨g, i, none⟩) (.inl rfl) _⟩
  have hl := h.lt
  obtain ⟨cur, fr, hg, hc, hf⟩ := h
  have h' : w.heap[g] = .cells cur 5 fr := Option.some.inj ((Array.getElem?_eq_getElem hl).symm.trans hg)
  refine ⟨cur.setIfInBounds i (.int .u8 x), fr, ?_, fun j y hy => ?_, by simpa using hf⟩
  · simp [World.setCell, Array.getElem?_modify, Array.getElem_modify, h', hl]
  · rw [List.getElem?_set] at hy
    obtain ⟨z, hz⟩ := get_of_lt hi
    have hic : i < cur.size := (Array.getElem?_eq_some_iff.1 (hc i z hz)).1
    by_cases e : i = j
    · subst e; simp [hi] at hy; subst hy; simp [hic]
    · simp [e] at hy; rw [Array.getElem?_setIfInBounds_ne e]; exact hc j y hy
end Wb
abbrev ints8 (l : List UInt8) : List Int := l.map fun c => (c.toNat : Int)
/-- Bytes that may be written are the answer. -/
def RetW (w : World) (l : List UInt8) (e : Ending) (w' : World) : Prop := Below w.heap.size w w' ∧ ((∃ c, l = [] ∧ e = .returned (.slice none 0 c)) ∨ ∃ g c, e = .returned (.slice (some ⟨g, 0, none⟩) l.length c) ∧ w.heap.size ≤ g ∧ Wb g (ints8 l) w')
theorem bytes_wb (w : World) (l : List UInt8) : Wb w.heap.size (ints8 l) (Lib.bytesWorld w 5 ⟨l.toArray⟩) := by
  refine ⟨_, _, Lib.bytesWorld_at_new w _ _, fun i x hx => ?_, ?_⟩
  · rw [List.getElem?_map] at hx
    obtain ⟨c, hc, rfl⟩ := Option.map_eq_some_iff.1 hx
    have hi : i < l.length := (List.getElem?_eq_some_iff.1 hc).1
    have hce : l[i] = c := (List.getElem?_eq_some_iff.1 hc).2
    simp [Lib.bytesCells, Array.getElem?_append, hi, hce]
  · simp [Lib.bytesCells]
theorem conv_bytes (w : World) (l : List UInt8) : (convert 9 44 (sv l)).run Tryd.prog w = .ok (.slice (some ⟨w.heap.size, 0, none⟩) l.length (grownCap w l.length 0 5)) (Lib.bytesWorld w 5 ⟨l.toArray⟩) :=
  Lib.run_convert_string_bytes w 9 44 5 ⟨l.toArray⟩ Tryd.underlying9 Tryd.underlying44 Tryd.underlying5
end Go.Proofs.YtnnfjjgohhicjaaDoor
namespace Go.Proofs.YtnnfjjgohhicjaaDoor
open Go.RowKit
set_option linter.unusedSimpArgs false
set_option linter.unusedVariables false
set_option maxRecDepth 100000

theorem lineB_ne (word : List UInt8) (v : List Int) : lineB word v ≠ [] := by simp [lineB]
theorem pg_new (W : World) : Pg W.heap.size W.heap.size [] (W.alloc (.cells #[.pointer none, .slice none 0 0] 102)) :=
  ⟨none, _, [], .inl rfl, Bk.made W 102 [.pointer none, .slice none 0 0], Row.nil _ _ _, by simp, Nat.le_refl _⟩
set_option maxHeartbeats 4000000 in
theorem encMach_i (L : Option Addr) (c : Nat) (m : Mach) (w : World) (hx : C (kMB 0) w L m.blocks) (hG : Globs w) (hm : m.blocks.length ≤ 1048576) (hs : ∀ (i : Nat) b, m.blocks[i]? = some b → b.instrs.length ≤ 1048576) :
    Calls Tryd.prog 20 #[.agg #[.int .i64 m.regs, .slice L m.blocks.length c]] w (RetW w (encMach m)) := by
  have HIV := Lib.hid (fun W (h : Below w.heap.size w W) => validMach_i L c m W (hx.below h) (hG.bel h).sh hm hs)
  have HG := Lib.hid hG
  have hpos := hG.pos
  clear hG
  cases hv : validMach m
  · have HR := Lib.hid (show encMach m = [] by simp [encMach, hv])
    have HV := Lib.hid hv
    clear hv
    go_enter Tryd.func20, Tryd.ntmps20
    go_wp2_with (go_at_call 12; have hiv := HIV.out; rw [HV.out] at hiv; refine (hiv _ (by repeat (first | (with_reducible first | exact Below.refl _ _ | assumption | exact ext_box _) | (with_reducible apply Below.drew) | ((with_reducible refine Below.setCell ?_ ?hs _); (case hs => first | (simp; done) | (simp; omega) | omega)) | ((with_reducible refine Below.alloc ?_ ?hs _); (case hs => first | (simp; done) | (simp; omega) | omega))))).mono ?_; rintro e w1 ⟨rfl, hb1⟩; have HB1 : Below w.heap.size w w1 := Below.then_ (by repeat (first | (with_reducible first | exact Below.refl _ _ | assumption | exact ext_box _) | (with_reducible apply Below.drew) | ((with_reducible refine Below.setCell ?_ ?hs _); (case hs => first | (simp; done) | (simp; omega) | omega)) | ((with_reducible refine Below.alloc ?_ ?hs _); (case hs => first | (simp; done) | (simp; omega) | omega)))) hb1)
    go_ret
    rw [HR.out]
    exact ⟨HB1, .inl ⟨0, rfl, rfl⟩⟩
  · have HR' := Lib.hid (show encMach m = machL m by simp [encMach, hv])
    have HV := Lib.hid hv
    have HMT := Lib.hid (validMach_MT hv)
    have hml := HMT.out.len
    clear hv
    go_enter Tryd.func20, Tryd.ntmps20
    go_upto_region 4 with (
      go_at_call 12; have hiv := HIV.out; rw [HV.out] at hiv; refine (hiv _ (by repeat (first | (with_reducible first | exact Below.refl _ _ | assumption | exact ext_box _) | (with_reducible apply Below.drew) | ((with_reducible refine Below.setCell ?_ ?hs _); (case hs => first | (simp; done) | (simp; omega) | omega)) | ((with_reducible refine Below.alloc ?_ ?hs _); (case hs => first | (simp; done) | (simp; omega) | omega))))).mono ?_; rintro e w1 ⟨rfl, hb1⟩; have HB1 : Below w.heap.size w w1 := Below.then_ (by repeat (first | (with_reducible first | exact Below.refl _ _ | assumption | exact ext_box _) | (with_reducible apply Below.drew) | ((with_reducible refine Below.setCell ?_ ?hs _); (case hs => first | (simp; done) | (simp; omega) | omega)) | ((with_reducible refine Below.alloc ?_ ?hs _); (case hs => first | (simp; done) | (simp; omega) | omega)))) hb1; have zw1 : w.heap.size < w1.heap.size := (by have := hb1.size; simp at this; omega); have K0 := Lib.hid ((Bk.made w 29 [.int .i64 m.regs, .slice L m.blocks.length c]).below hb1); clear hb1)
    have y0 := (K0.out.below ((Below.refl _ _).alloc (Nat.le_refl _) (.cells #[.pointer none, .slice none 0 0] 102))).cell 0 (v := .int .i64 m.regs) rfl
    have HP0 := Lib.hid (rowL1 w1.heap.size w1.heap.size [] _ (pg_new w1) (by omega) (HG.out.bel (HB1.alloc HB1.size _)))
    go_upto_region 5 with (
      go_at_call 58; (with_reducible refine (HP0.out m.regs [109, 97, 99, 104] _ _ (by simp) (by (repeat (first | (with_reducible first | exact Below.refl _ _ | assumption | exact ext_box _) | (with_reducible apply Below.drew) | ((with_reducible refine Below.setCell ?_ ?hs _); (case hs => first | (simp; done) | (simp; omega) | omega)) | ((with_reducible refine Below.alloc ?_ ?hs _); (case hs => first | (simp; done) | (simp; omega) | omega))))) HMT.out.regs (by decide) (by decide)).mono ?_); rintro e w2 ⟨rfl, hp2, hc2⟩)
    rw [List.nil_append] at hp2
    have HB2 := Lib.hid (show Below w1.heap.size w1 w2 from ((Below.refl _ w1).alloc (Nat.le_refl _) _).trans (PgS.below hc2 (by simp)))
    obtain ⟨HD, hHD⟩ : ∃ HD, lineB [109, 97, 99, 104] [m.regs] = HD := ⟨_, rfl⟩
    have HDL := Lib.hid (show HD.length ≤ 27 by rw [← hHD]; have := line_len (word := [109, 97, 99, 104]) HMT.out.regs; simp at this ⊢; omega)
    have HDN := Lib.hid (show HD ≠ [] by rw [← hHD]; exact lineB_ne _ _)
    have HML := Lib.hid (show machL m = HD ++ m.blocks.flatMap mblockL by rw [machL, hHD])
    rw [hHD] at hp2
    have HP2 := Lib.hid hp2
    have y1 := (K0.out.below HB2.out).cell 1 (v := .slice L m.blocks.length c) rfl
    clear hHD hp2 hc2 HP0 y0
    go_wp2
    go_loopw [18] (fun t18 wr => ∃ (k : Nat) (u : Ext w1), k ≤ m.blocks.length ∧ t18 = .int .i64 k ∧ Pg w1.heap.size w1.heap.size (HD ++ (m.blocks.take k).flatMap mblockL) wr ∧ wr = u.w) (fun t18 _ => m.blocks.length - (intOf t18).toNat)
    case atStart => exact ⟨0, ⟨w2, HB2.out⟩, by omega, rfl, by simpa using HP2.out, rfl⟩
    case round =>
      clear HP2 HB2 y1
      obtain ⟨k, u, hk, rfl, hp, rfl⟩ := hrel
      have hup := HMT.out.upto k
      obtain ⟨ys, hys⟩ : ∃ ys, HD ++ (m.blocks.take k).flatMap mblockL = ys := ⟨_, rfl⟩
      have hyl : ys.length ≤ 27 + 3000 * 2000000 := by rw [← hys, List.length_append]; have := HDL.out; omega
      have HYS := Lib.hid hys
      rw [hys] at hp
      have HPU := Lib.hid hp
      have HWu := Lib.hid (HB1.trans (u.hb.mono HB1.size))
      have hpu := hp.lt
      clear hys hup hp
      by_cases hlt : k < m.blocks.length
      · obtain ⟨x, ex⟩ := get_of_lt hlt
        have hil := HMT.out.il _ _ ex
        have HIN := Lib.hid (HMT.out.ins _ _ ex)
        have HTM := Lib.hid (HMT.out.term _ _ ex)
        have HSN := Lib.hid (show ys ++ mblockL x = HD ++ (m.blocks.take (k + 1)).flatMap mblockL by rw [flatMap_snoc ex, ← HYS.out, List.append_assoc])
        obtain ⟨a, _, rfl, ⟨_, _, rfl, ⟨A', c', rfl, l', r'⟩, rfl⟩, hc⟩ := hx.at ex
        obtain ⟨r0, r1, r2, r3, r4⟩ := hc5 (n := k * 5) hc
        have p0 := (HWu.out.cell (World.block_lt_of_cell? w _ r0)).trans r0
        have p1 := (HWu.out.cell (World.block_lt_of_cell? w _ r1)).trans r1
        have p2 := (HWu.out.cell (World.block_lt_of_cell? w _ r2)).trans r2
        have p3 := (HWu.out.cell (World.block_lt_of_cell? w _ r3)).trans r3
        have p4 := (HWu.out.cell (World.block_lt_of_cell? w _ r4)).trans r4
        clear hc ex r0 r1 r2 r3 r4
        have HCL := Lib.hid (fun (cs : Array Value) => rowL0 w1.heap.size w1.heap.size ys (u.w.alloc (.cells cs 69)) (HPU.out.below ((Below.refl _ _).alloc (Nat.le_refl _) _)) (by omega) (HG.out.bel (HWu.out.alloc HWu.out.size _)) blockW (by omega) (by decide))
        go_upto_region 9 with (
          go_at_call 58; (with_reducible refine (HCL.out _).mono ?_); rintro e w4 ⟨rfl, hp4, hc4⟩)
        have K4 := Lib.hid ((Bk.made u.w 69 [.slice A' x.instrs.length c', .int .i64 x.term.kind, .int .i64 x.term.a, .int .i64 x.term.to, .int .i64 x.term.els]).pgs hc4 (by omega) (by decide))
        have HB4 := Lib.hid (show Below w1.heap.size w1 w4 from (u.hb.alloc u.hb.size _).trans (PgS.below hc4 (by simp; omega)))
        have z4 : u.w.heap.size < w4.heap.size := by have := hc4.size; simp at this; omega
        have hbl : (lineB blockW []).length = 6 := by decide
        obtain ⟨zs0, hzs0⟩ : ∃ zs0, ys ++ lineB blockW [] = zs0 := ⟨_, rfl⟩
        have hz0l : zs0.length ≤ 27 + 3000 * 2000000 + 6 := by rw [← hzs0, List.length_append, hbl]; omega
        have HZ0 := Lib.hid (show zs0 ++ (x.instrs.flatMap instrL ++ termL x.term) = ys ++ mblockL x by rw [← hzs0, mblockL, List.append_assoc])
        rw [hzs0] at hp4
        have HP4 := Lib.hid hp4
        have q0 := K4.out.cell 0 (v := .slice A' x.instrs.length c') rfl
        clear hzs0 hbl hp4 hc4 p0 p1 p2 p3 p4 HCL
        go_wp2
        go_loopw [26] (fun t26 wr => ∃ (j : Nat), j ≤ x.instrs.length ∧ t26 = .int .i64 j ∧ Pg w1.heap.size w1.heap.size (zs0 ++ (x.instrs.take j).flatMap instrL) wr ∧ Chg (PgS w1.heap.size w1.heap.size w4) w4 wr) (fun t26 _ => x.instrs.length - (intOf t26).toNat)
        case atStart => exact ⟨0, by omega, rfl, by simpa using HP4.out, Chg.refl _ _⟩
        case round =>
          clear HP4 q0
          obtain ⟨j, hj, rfl, hp, hc⟩ := hrel
          have hfl := flatMap_len (f := instrL) (L := 72) (xs := x.instrs.take j) (fun y hy => by obtain ⟨i, hi⟩ := List.getElem?_of_mem (List.mem_of_mem_take hy); exact instrL_len (HIN.out i y hi).1)
          obtain ⟨zs, hzs⟩ : ∃ zs, zs0 ++ (x.instrs.take j).flatMap instrL = zs := ⟨_, rfl⟩
          have hzl : zs.length ≤ 27 + 3000 * 2000000 + 6 + 20000 * 72 := by
            rw [← hzs, List.length_append]
            have : (x.instrs.take j).length * 72 ≤ 20000 * 72 := Nat.mul_le_mul_right _ (by rw [List.length_take]; omega)
            omega
          have HZS := Lib.hid hzs
          rw [hzs] at hp
          have HPQ := Lib.hid hp
          have K6 := Lib.hid (K4.out.pgs hc (by omega) (by decide))
          have hs6 := hc.size
          have HB6 := Lib.hid (HB4.out.trans (PgS.below hc (by omega)))
          have HW6 := Lib.hid (HB1.trans (HB6.out.mono HB1.size))
          have HC6 := Lib.hid hc
          clear hzs hfl hp hc
          by_cases hlt2 : j < x.instrs.length
          · obtain ⟨y, ey⟩ := get_of_lt hlt2
            have HIY := Lib.hid (HIN.out _ _ ey)
            have HSN2 := Lib.hid (show zs ++ instrL y = zs0 ++ (x.instrs.take (j + 1)).flatMap instrL by rw [flatMap_snoc ey, ← HZS.out, List.append_assoc])
            obtain ⟨a2, _, rfl, rfl, hc⟩ := r'.at ey
            obtain ⟨p0, p1, p2, p3, p4⟩ := hc5 (n := j * 5) hc
            have v0 := (HW6.out.cell (World.block_lt_of_cell? w _ p0)).trans p0
            have v1 := (HW6.out.cell (World.block_lt_of_cell? w _ p1)).trans p1
            have v2 := (HW6.out.cell (World.block_lt_of_cell? w _ p2)).trans p2
            have v3 := (HW6.out.cell (World.block_lt_of_cell? w _ p3)).trans p3
            have v4 := (HW6.out.cell (World.block_lt_of_cell? w _ p4)).trans p4
            have HPI := Lib.hid (fun (cs : Array Value) => instr_c w1.heap.size w1.heap.size zs y (wr.alloc (.cells cs 72)) (HPQ.out.below ((Below.refl _ _).alloc (Nat.le_refl _) _)) (by omega) (HG.out.bel (HW6.out.alloc HW6.out.size _)) HIY.out.2.1 HIY.out.2.2 HIY.out.1 (by omega))
            simp only [Instr.v] at HPI
            clear hc p0 p1 p2 p3 p4 ey
            go_wp2_with (
              go_at_call 59; (with_reducible refine (HPI.out _).mono ?_); rintro e w5 ⟨rfl, hp5, hc5⟩)
            have HC5 := Lib.hid (PgS.trans HC6.out (PgS.trans (PgS.of (chg_of ((Below.refl _ wr).alloc (Nat.le_refl _) _))) hc5))
            rw [HSN2.out] at hp5
            go_roundw
            case rel => exact ⟨j + 1, by omega, by go_num, hp5, HC5.out⟩
            case measure => simp [intOf]; omega
          · have hje : j = x.instrs.length := by omega
            subst hje
            rw [List.take_length] at HZS
            have k1 := K6.out.cell 1 (v := .int .i64 x.term.kind) rfl
            have k2 := K6.out.cell 2 (v := .int .i64 x.term.a) rfl
            have k3 := K6.out.cell 3 (v := .int .i64 x.term.to) rfl
            have k4 := K6.out.cell 4 (v := .int .i64 x.term.els) rfl
            have HPT := Lib.hid (term_c w1.heap.size w1.heap.size zs x.term wr HPQ.out (by omega) (HG.out.bel HW6.out) HTM.out.2.1 HTM.out.2.2 HTM.out.1 (by omega))
            simp only [Term.v] at HPT
            go_wp2_with (
              go_at_call 60; (with_reducible refine HPT.out.mono ?_); rintro e w5 ⟨rfl, hp5, hc5⟩)
            have HSN3 := Lib.hid (show zs ++ termL x.term = HD ++ (m.blocks.take (k + 1)).flatMap mblockL by rw [← HSN.out, ← HZ0.out, ← HZS.out, List.append_assoc])
            have HB7 := HB6.out.trans (PgS.below hc5 (by omega))
            rw [HSN3.out] at hp5
            go_roundw
            case rel => exact ⟨k + 1, ⟨w5, HB7⟩, by omega, by go_num, hp5, rfl⟩
            case measure => simp [intOf]; omega
      · have hke : k = m.blocks.length := by omega
        subst hke
        rw [List.take_length] at HYS
        have HE := Lib.hid (show encMach m = ys by rw [HR'.out, HML.out, HYS.out])
        have HST := Lib.hid (str_c w1.heap.size w1.heap.size ys u.w HPU.out (by rw [← HYS.out]; simp [HDN.out]) (by omega))
        go_wp2_with (
          go_at_call 61; (with_reducible refine HST.out.mono ?_); rintro e w4 ⟨rfl, hb4⟩)
        have HW9 := Lib.hid (HWu.out.trans (hb4.mono HB1.size))
        rw [conv_bytes w4 ys]
        simp only [Result.andThen]
        rw [Oper.upon_value]
        go_wp2
        go_ret
        rw [HE.out]
        exact ⟨HW9.out.trans (Joins.below_bytesWorld _ _ _ _ HW9.out.size), .inr ⟨_, _, rfl, HW9.out.size, bytes_wb w4 ys⟩⟩
end Go.Proofs.YtnnfjjgohhicjaaDoor
namespace Go.Proofs.YtnnfjjgohhicjaaDoor
open Go.RowKit
set_option linter.unusedVariables false

/-- All that validity says. -/
structure VF (m : Func) : Prop where
  vals : 0 ≤ m.values ∧ m.values ≤ 2000
  len : 1 ≤ m.blocks.length ∧ m.blocks.length ≤ 1000
  size : sizeF m.blocks ≤ 4000
  ins : ∀ (k : Nat) b, m.blocks[k]? = some b → ∀ (i : Nat) x, b.instrs[i]? = some x → GoodInstr x m.values 10
  term : ∀ (k : Nat) b, m.blocks[k]? = some b → GoodTerm b.term m.values 1 m.blocks.length
  ends : ∀ (k : Nat) b, m.blocks[k]? = some b → sameEnds b.term = false
  dst : ∀ (k : Nat) b, m.blocks[k]? = some b → ∀ (i : Nat) p, b.phis[i]? = some p → 0 ≤ p.dst ∧ p.dst < m.values
  args : ∀ (k : Nat) b, m.blocks[k]? = some b → ∀ (i : Nat) p, b.phis[i]? = some p → p.args.length = (preds m.blocks k).length ∧ 1 ≤ p.args.length ∧ ∀ a ∈ p.args, 0 ≤ a ∧ a < m.values
  perm : (defs m.blocks).Perm (nums m.values.toNat)
theorem validF_VF {m : Func} (h : validF m = true) : VF m := by
  have hm := validF_iff.1 h
  obtain ⟨h1, h2, h3, h4, h5, h6⟩ := hm
  have hp := (defsOK_perm h1.1).1 h6
  have hr := ((defsOK_count h1.1).1 h6).1
  refine ⟨h1, h2, h3, fun k b hb i x hx => ?_, fun k b hb => ?_, fun k b hb => ?_, fun k b hb i p hpp => ?_, fun k b hb i p hpp => ?_, hp⟩
  · have := h4 k b hb
    simp only [blkOK, Bool.and_eq_true] at this
    exact (goodInstr_iff _ _ _).1 (List.all_eq_true.1 this.1 x (List.mem_of_getElem? hx))
  · have := h4 k b hb
    simp only [blkOK, Bool.and_eq_true] at this
    exact (goodTerm_iff _ _ _ _).1 this.2.1
  · have := h4 k b hb
    simp only [blkOK, Bool.and_eq_true, Bool.not_eq_true'] at this
    exact this.2.2
  · exact hr _ (mem_defs hb (by rw [defsB]; exact List.mem_append_left _ (List.mem_map.2 ⟨p, List.mem_of_getElem? hpp, rfl⟩)))
  · have := h5 k b hb i p hpp
    simp only [phiOK, Bool.and_eq_true, decide_eq_true_eq, List.all_eq_true, inR_iff] at this
    exact ⟨this.1.2, this.1.1, this.2⟩
theorem sizeB_le_sizeF {bs : List Block} {k : Nat} {b : Block} (hb : bs[k]? = some b) : sizeB b ≤ sizeF bs := by
  have h := sum_take_le sizeB bs (k + 1)
  have h2 := sizeF_snoc hb
  unfold sizeF at *
  omega
theorem len_le_sizePhis (ps : List Phi) : ps.length ≤ sizePhis ps := by
  unfold sizePhis
  induction ps with
  | nil => simp
  | cons p ps ih => simp only [List.length_cons, List.map_cons, List.sum_cons]; omega
theorem args_le_sizePhis {ps : List Phi} {i : Nat} {p : Phi} (h : ps[i]? = some p) : p.args.length ≤ sizePhis ps := by
  have h1 := sum_take_le (fun p : Phi => 1 + p.args.length) ps (i + 1)
  have h2 := sizePhis_snoc h
  unfold sizePhis at *
  omega
theorem VF.lens {m : Func} (h : VF m) {k : Nat} {b : Block} (hb : m.blocks[k]? = some b) : b.instrs.length ≤ 4000 ∧ b.phis.length ≤ 4000 ∧ ∀ (i : Nat) p, b.phis[i]? = some p → p.args.length ≤ 4000 := by
  have h1 := sizeB_le_sizeF hb
  have h2 := h.size
  have h3 := len_le_sizePhis b.phis
  unfold sizeB at h1
  exact ⟨by omega, by omega, fun i p hp => by have := args_le_sizePhis hp; omega⟩
/-! Predecessors. -/
theorem predsN_mem {b q : Int} : ∀ {bs : List Block} {i : Nat}, q ∈ predsN b bs i ↔ ∃ (k : Nat) (x : Block), bs[k]? = some x ∧ isPred x.term b = true ∧ q = ((i + k : Nat) : Int)
  | [], i => by simp [predsN]
  | x :: xs, i => by
    rw [predsN, List.mem_append, predsN_mem]
    constructor
    · rintro (h | ⟨k, y, h1, h2, h3⟩)
      · split at h
        · rename_i hp; simp at h; exact ⟨0, x, rfl, hp, by simp [h]⟩
        · simp at h
      · exact ⟨k + 1, y, by simpa using h1, h2, by rw [h3]; omega⟩
    · rintro ⟨k, y, h1, h2, h3⟩
      cases k with
      | zero => left; simp at h1; subst h1; rw [if_pos h2]; simpa using h3
      | succ k => right; exact ⟨k, y, by simpa using h1, h2, by rw [h3]; omega⟩
theorem preds_mem {bs : List Block} {b q : Int} : q ∈ preds bs b ↔ ∃ (k : Nat) (x : Block), bs[k]? = some x ∧ isPred x.term b = true ∧ q = (k : Int) := by
  unfold preds; rw [predsN_mem]; simp
theorem predsN_sorted (b : Int) : ∀ (bs : List Block) (i : Nat), (predsN b bs i).Pairwise (· < ·)
  | [], _ => by simp [predsN]
  | x :: xs, i => by
    rw [predsN, List.pairwise_append]
    refine ⟨by split <;> simp, predsN_sorted b xs (i + 1), fun a ha c hc => ?_⟩
    obtain ⟨k, y, -, -, rfl⟩ := predsN_mem.1 hc
    split at ha <;> simp at ha
    omega
theorem preds_sorted (bs : List Block) (b : Int) : (preds bs b).Pairwise (· < ·) := predsN_sorted b bs 0
theorem preds_inj {bs : List Block} {b p : Int} {i j : Nat} (h1 : (preds bs b)[i]? = some p) (h2 : (preds bs b)[j]? = some p) : i = j := by
  have hs := List.pairwise_iff_getElem.1 (preds_sorted bs b)
  obtain ⟨hi, e1⟩ := List.getElem?_eq_some_iff.1 h1
  obtain ⟨hj, e2⟩ := List.getElem?_eq_some_iff.1 h2
  rcases Nat.lt_trichotomy i j with h | h | h
  · have := hs i j hi hj h; omega
  · exact h
  · have := hs j i hj hi h; omega
theorem preds_range {bs : List Block} {b q : Int} (h : q ∈ preds bs b) : 0 ≤ q ∧ q < bs.length := by
  obtain ⟨k, x, h1, -, rfl⟩ := preds_mem.1 h
  have := (List.getElem?_eq_some_iff.1 h1).1
  omega
theorem isPred_targets (t : Term) (b : Int) : isPred t b = true ↔ b ∈ targets t := by
  unfold isPred targets
  by_cases h1 : t.kind = 1
  · simp [h1]; exact eq_comm
  · by_cases h2 : t.kind = 2
    · simp [h2]; rw [eq_comm, @eq_comm _ t.els]
    · simp [h1, h2]
theorem VF.predM {m : Func} (h : VF m) (k : Nat) : predM k m.blocks 0 = preds m.blocks k :=
  predM_preds k 0 fun b hb => by
    obtain ⟨i, hi⟩ := List.getElem?_of_mem hb
    exact ⟨(goodTerm_iff _ _ _ _).2 (h.term i b hi), h.ends i b hi⟩
/-! The phis at an edge. -/
def phisOf (m : Func) (b : Int) : List Phi := match m.blocks[b.toNat]? with
  | some x => x.phis
  | none => []
def phiSets (k : Nat) (old : List Int) (ps : List Phi) (c : List Int) : List Int := ps.foldl (fun c p => setI c p.dst (getI old (p.args.getD k 0))) c
theorem phiSets_snoc {k : Nat} {old c : List Int} {ps : List Phi} {j : Nat} {p : Phi} (h : ps[j]? = some p) : phiSets k old (ps.take (j + 1)) c = setI (phiSets k old (ps.take j) c) p.dst (getI old (p.args.getD k 0)) := by
  unfold phiSets; rw [List.take_add_one, h, List.foldl_append]; rfl
theorem phiSets_len (k : Nat) (old : List Int) : ∀ (ps : List Phi) (c : List Int), (phiSets k old ps c).length = c.length
  | [], _ => rfl
  | p :: ps, c => by unfold phiSets; rw [List.foldl_cons]; exact (phiSets_len k old ps _).trans (setI_len _ _ _)
def edgeAt (m : Func) (p b : Int) : Nat := (preds m.blocks b).idxOf p
def enterP (m : Func) (p b : Int) (s : Wd) : Wd := { s with cells := phiSets (edgeAt m p b) s.cells (phisOf m b) s.cells }
theorem edgeAt_get {m : Func} {p b : Int} (h : p ∈ preds m.blocks b) : (preds m.blocks b)[edgeAt m p b]? = some p := by
  unfold edgeAt
  have hl := List.idxOf_lt_length_of_mem h
  rw [List.getElem?_eq_getElem hl]
  simp
theorem edgeAt_eq {m : Func} {p b : Int} {j : Nat} (h : (preds m.blocks b)[j]? = some p) : edgeAt m p b = j := preds_inj (edgeAt_get (List.mem_of_getElem? h)) h
theorem edge_mem {m : Func} {p : Nat} {b : Int} {x : Block} (hx : m.blocks[p]? = some x) (ht : b ∈ targets x.term) : (p : Int) ∈ preds m.blocks b := preds_mem.2 ⟨p, x, hx, (isPred_targets _ _).2 ht, rfl⟩
end Go.Proofs.YtnnfjjgohhicjaaDoor
namespace Go.Proofs.YtnnfjjgohhicjaaDoor
open Go.RowKit
set_option linter.unusedSimpArgs false
set_option linter.unusedVariables false
set_option maxRecDepth 100000

abbrev phiW : List UInt8 := [112, 104, 105]
abbrev funcW : List UInt8 := [102, 117, 110, 99]
def phiL (p : Phi) : List UInt8 := lineB phiW ([p.dst] ++ p.args)
def blockL (b : Block) : List UInt8 := lineB blockW [] ++ (b.phis.flatMap phiL ++ (b.instrs.flatMap instrL ++ termL b.term))
def funcL (m : Func) : List UInt8 := lineB funcW [m.values] ++ m.blocks.flatMap blockL
def encFunc (m : Func) : List UInt8 := if validF m then funcL m else []
/-- A valid function for the text. -/
structure FT (m : Func) : Prop where
  len : m.blocks.length ≤ 1000
  vals : Small [m.values]
  ins : ∀ (k : Nat) b, m.blocks[k]? = some b → ∀ (i : Nat) x, b.instrs[i]? = some x → Small [x.dst, x.a, x.b, x.imm] ∧ 1 ≤ x.op ∧ x.op ≤ 13
  term : ∀ (k : Nat) b, m.blocks[k]? = some b → Small [b.term.a, b.term.to, b.term.els] ∧ 1 ≤ b.term.kind ∧ b.term.kind ≤ 3
  il : ∀ (k : Nat) b, m.blocks[k]? = some b → b.instrs.length ≤ 4000
  pl : ∀ (k : Nat) b, m.blocks[k]? = some b → b.phis.length ≤ 4000
  phi : ∀ (k : Nat) b, m.blocks[k]? = some b → ∀ (i : Nat) p, b.phis[i]? = some p → Small ([p.dst] ++ p.args) ∧ p.args.length ≤ 4000
theorem validF_FT {m : Func} (h : validF m = true) : FT m := by
  have hv := validF_VF h
  have hsz : ∀ (k : Nat) b, m.blocks[k]? = some b → sizeB b ≤ 4000 := fun k b hb => by
    have h1 := sizeF_snoc hb
    have h2 := sum_take_le sizeB m.blocks (k + 1)
    have h3 := hv.size
    unfold sizeF at h1 h3
    omega
  have hph : ∀ (ps : List Phi), ps.length ≤ sizePhis ps := fun ps => by
    induction ps with
    | nil => simp
    | cons p ps ih => simp only [sizePhis, List.map_cons, List.sum_cons, List.length_cons] at ih ⊢; omega
  refine ⟨hv.len.2, fun n hn => ?_, fun k b hb i x hx => ?_, fun k b hb => ?_, fun k b hb => ?_, fun k b hb => ?_, fun k b hb i p hp => ⟨fun n hn => ?_, ?_⟩⟩
  · have := hv.vals; simp at hn; omega
  · have hg := hv.ins k b hb i x hx
    have := hv.vals
    exact ⟨small_instr hg (by omega), hg.1, by have := hg.2.1; omega⟩
  · have := hv.vals
    have := hv.len
    exact small_term (hv.term k b hb) (by omega) (by omega) (by omega)
  · have := hsz k b hb; unfold sizeB at this; omega
  · have := hsz k b hb; have := hph b.phis; unfold sizeB at *; omega
  · have h1 := hv.dst k b hb i p hp
    have h2 := (hv.args k b hb i p hp).2.2
    have := hv.vals
    rcases List.mem_append.1 hn with h | h
    · simp at h; omega
    · have := h2 n h; omega
  · have h1 := (hv.args k b hb i p hp).1
    have h2 := preds_len m.blocks k
    have := hv.len
    omega
theorem phiL_len {p : Phi} (h : Small ([p.dst] ++ p.args)) (hl : p.args.length ≤ 4000) : (phiL p).length ≤ 100000 := by
  have := line_len (word := phiW) h
  unfold phiL
  simp only [List.length_append, List.length_cons, List.length_nil] at this ⊢
  omega
theorem FT.phisL {m : Func} (h : FT m) {k : Nat} {b : Block} (hb : m.blocks[k]? = some b) (j : Nat) : ((b.phis.take j).flatMap phiL).length ≤ 4000 * 100000 := by
  have h1 := flatMap_len (f := phiL) (L := 100000) (xs := b.phis.take j) fun p hp => by obtain ⟨i, hi⟩ := List.getElem?_of_mem (List.mem_of_mem_take hp); exact phiL_len (h.phi k b hb i p hi).1 (h.phi k b hb i p hi).2
  have h2 : (b.phis.take j).length ≤ 4000 := Nat.le_trans (by rw [List.length_take]; omega) (h.pl k b hb)
  exact Nat.le_trans h1 (Nat.mul_le_mul_right _ h2)
theorem FT.blk {m : Func} (h : FT m) {k : Nat} {b : Block} (hb : m.blocks[k]? = some b) : (blockL b).length ≤ 401000000 := by
  have h0 := h.phisL hb b.phis.length
  rw [List.take_length] at h0
  have h1 := flatMap_len (f := instrL) (L := 72) (xs := b.instrs) fun x hx => by obtain ⟨i, hi⟩ := List.getElem?_of_mem hx; exact instrL_len (h.ins k b hb i x hi).1
  have h2 := termL_len (h.term k b hb).1
  have h3 := h.il k b hb
  have h4 := line_len (word := blockW) (v := []) (fun n hn => by simp at hn)
  simp only [List.length_cons, List.length_nil] at h4
  have h5 : b.instrs.length * 72 ≤ 4000 * 72 := Nat.mul_le_mul_right _ h3
  simp only [blockL, List.length_append]
  omega
theorem FT.upto {m : Func} (h : FT m) (k : Nat) : ((m.blocks.take k).flatMap blockL).length ≤ 1000 * 401000000 := by
  have h1 := flatMap_len (f := blockL) (L := 401000000) (xs := m.blocks.take k) fun b hb => by obtain ⟨i, hi⟩ := List.getElem?_of_mem (List.mem_of_mem_take hb); exact h.blk hi
  have h2 : (m.blocks.take k).length ≤ 1000 := Nat.le_trans (by rw [List.length_take]; omega) h.len
  exact Nat.le_trans h1 (Nat.mul_le_mul_right _ h2)
end Go.Proofs.YtnnfjjgohhicjaaDoor
