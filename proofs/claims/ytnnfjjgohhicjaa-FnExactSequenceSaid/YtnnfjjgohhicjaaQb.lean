/- Contracts: laws' helpers on moves and instructions. -/
import Derived.Test.YtnnfjjgohhicjaaQa
namespace Go.Proofs.Ytnnfjjgohhicjaa
open Go.RowKit
set_option linter.unusedSimpArgs false
set_option linter.unusedVariables false
set_option maxRecDepth 100000

set_option maxHeartbeats 2000000 in
theorem eqInstrS_c (A0 A1 : Option Addr) (c0 c1 : Nat) (xs ys : List Instr) (w : World) (hx : C kInstr w A0 xs) (hy : C kInstr w A1 ys) (hm : xs.length ≤ 140737488351232) (hm2 : ys.length ≤ 140737488351232) :
    Calls Try.prog 10 #[.slice A0 xs.length c0, .slice A1 ys.length c1] w fun e w' => e = .returned (.bool (decide (xs = ys))) ∧ Below w.heap.size w w' := by
  go_enter Try.func10, Try.ntmps10
  by_cases hl : xs.length = ys.length
  · have hb : ((xs.length : Int) != ys.length) = false := by simp [hl]
    have HL := Lib.hid hl
    clear hl
    go_wp2
    go_loopw [5] (fun i wr => ∃ k : Nat, k ≤ xs.length ∧ i = .int .i64 k ∧ xs.take k = ys.take k ∧ ∃ u : Ext w, wr = u.w) (fun i _ => xs.length - (intOf i).toNat)
    case atStart => exact ⟨0, by omega, rfl, by simp, Ext.self w, rfl⟩
    case round =>
      obtain ⟨k, hk, rfl, ht, u, rfl⟩ := hrel
      have HT := Lib.hid ht
      clear ht
      by_cases hlt : k < xs.length
      · obtain ⟨x, ex⟩ := get_of_lt hlt
        obtain ⟨y, ey⟩ := get_of_lt (HL.out ▸ hlt)
        obtain ⟨a0, _, rfl, rfl, hxc⟩ := hx.at ex
        have P0 := hc5E (n := k * 5) hxc
        clear hxc
        obtain ⟨a1, _, rfl, rfl, hyc⟩ := hy.at ey
        have P1 := hc5E (n := k * 5) hyc
        clear hyc
        have hlt2 : k < ys.length := HL.out ▸ hlt
        have EX := Lib.hid ex
        have EY := Lib.hid ey
        by_cases he : x = y
        · have hd : decide (x = y) = true := by simp [he]
          have HE := Lib.hid he
          clear he ex ey
          go_wp2
          refine wp_region_ext (W := w) (by kernel_rfl) (by kernel_rfl) ⟨_, rfl⟩ ?_
          repeat quiet_step ((first | (go_at_call 21; exact ext_of (eqInstr_c x y _))))
          refine wpQuiet_nil ?_
          rintro _ ⟨u, rfl⟩
          go_wp2
          go_roundw
          case rel => exact ⟨k + 1, by omega, by go_num, by rw [take_snoc EX.out, take_snoc EY.out, HT.out, HE.out], _, rfl⟩
          case measure => simp [intOf]; omega
        · have hd : decide (x = y) = false := by simp [he]
          have HE := Lib.hid (show xs ≠ ys by rintro rfl; rw [ex] at ey; injection ey with e; exact he e)
          clear he ex ey
          go_wp2
          refine wp_region_ext (W := w) (by kernel_rfl) (by kernel_rfl) ⟨_, rfl⟩ ?_
          repeat quiet_step ((first | (go_at_call 21; exact ext_of (eqInstr_c x y _))))
          refine wpQuiet_nil ?_
          rintro _ ⟨u, rfl⟩
          go_wp2
          go_ret
          exact ⟨ret_bool (by simp [HE.out]), u.hb⟩
      · have HR := Lib.hid (show xs = ys by have := HT.out; rwa [List.take_of_length_le (by omega), List.take_of_length_le (by have := HL.out; omega)] at this)
        go_wp2
        go_ret
        exact ⟨ret_bool (by simp [HR.out]), u.hb⟩
  · have hb : ((xs.length : Int) != ys.length) = true := by simp; omega
    have HN := Lib.hid (show xs ≠ ys from fun e => hl (by rw [e]))
    clear hl
    go_wp2
    go_ret
    exact ⟨ret_bool (by simp [HN.out]), Below.refl _ _⟩

theorem eqMove_c (x y : Move) (w : World) : Calls Try.prog 22 #[x.v, y.v] w fun e w' => e = .returned (.bool (decide (x = y))) ∧ Below w.heap.size w w' := by
  obtain ⟨a0, a1⟩ := x
  obtain ⟨b0, b1⟩ := y
  simp only [Move.v]
  go_enter Try.func22, Try.ntmps22
  go_wp2
  all_goals go_ret
  all_goals go_light
  all_goals exact ⟨by simp_all, by repeat (first | (with_reducible first | exact Below.refl _ _ | assumption | exact ext_box _) | (with_reducible apply Below.drew) | ((with_reducible refine Below.setCell ?_ ?hs _); (case hs => first | (simp; done) | (simp; omega) | omega)) | ((with_reducible refine Below.alloc ?_ ?hs _); (case hs => first | (simp; done) | (simp; omega) | omega)))⟩
set_option maxHeartbeats 2000000 in
theorem eqMoveS_c (A0 A1 : Option Addr) (c0 c1 : Nat) (xs ys : List Move) (w : World) (hx : C kMove w A0 xs) (hy : C kMove w A1 ys) (hm : xs.length ≤ 140737488351232) (hm2 : ys.length ≤ 140737488351232) :
    Calls Try.prog 11 #[.slice A0 xs.length c0, .slice A1 ys.length c1] w fun e w' => e = .returned (.bool (decide (xs = ys))) ∧ Below w.heap.size w w' := by
  go_enter Try.func11, Try.ntmps11
  by_cases hl : xs.length = ys.length
  · have hb : ((xs.length : Int) != ys.length) = false := by simp [hl]
    have HL := Lib.hid hl
    clear hl
    go_wp2
    go_loopw [5] (fun i wr => ∃ k : Nat, k ≤ xs.length ∧ i = .int .i64 k ∧ xs.take k = ys.take k ∧ ∃ u : Ext w, wr = u.w) (fun i _ => xs.length - (intOf i).toNat)
    case atStart => exact ⟨0, by omega, rfl, by simp, Ext.self w, rfl⟩
    case round =>
      obtain ⟨k, hk, rfl, ht, u, rfl⟩ := hrel
      have HT := Lib.hid ht
      clear ht
      by_cases hlt : k < xs.length
      · obtain ⟨x, ex⟩ := get_of_lt hlt
        obtain ⟨y, ey⟩ := get_of_lt (HL.out ▸ hlt)
        obtain ⟨a0, _, rfl, rfl, hxc⟩ := hx.at ex
        have P0 := hc2E (n := k * 2) hxc
        clear hxc
        obtain ⟨a1, _, rfl, rfl, hyc⟩ := hy.at ey
        have P1 := hc2E (n := k * 2) hyc
        clear hyc
        have hlt2 : k < ys.length := HL.out ▸ hlt
        have EX := Lib.hid ex
        have EY := Lib.hid ey
        by_cases he : x = y
        · have hd : decide (x = y) = true := by simp [he]
          have HE := Lib.hid he
          clear he ex ey
          go_wp2
          refine wp_region_ext (W := w) (by kernel_rfl) (by kernel_rfl) ⟨_, rfl⟩ ?_
          repeat quiet_step ((first | (go_at_call 22; exact ext_of (eqMove_c x y _))))
          refine wpQuiet_nil ?_
          rintro _ ⟨u, rfl⟩
          go_wp2
          go_roundw
          case rel => exact ⟨k + 1, by omega, by go_num, by rw [take_snoc EX.out, take_snoc EY.out, HT.out, HE.out], _, rfl⟩
          case measure => simp [intOf]; omega
        · have hd : decide (x = y) = false := by simp [he]
          have HE := Lib.hid (show xs ≠ ys by rintro rfl; rw [ex] at ey; injection ey with e; exact he e)
          clear he ex ey
          go_wp2
          refine wp_region_ext (W := w) (by kernel_rfl) (by kernel_rfl) ⟨_, rfl⟩ ?_
          repeat quiet_step ((first | (go_at_call 22; exact ext_of (eqMove_c x y _))))
          refine wpQuiet_nil ?_
          rintro _ ⟨u, rfl⟩
          go_wp2
          go_ret
          exact ⟨ret_bool (by simp [HE.out]), u.hb⟩
      · have HR := Lib.hid (show xs = ys by have := HT.out; rwa [List.take_of_length_le (by omega), List.take_of_length_le (by have := HL.out; omega)] at this)
        go_wp2
        go_ret
        exact ⟨ret_bool (by simp [HR.out]), u.hb⟩
  · have hb : ((xs.length : Int) != ys.length) = true := by simp; omega
    have HN := Lib.hid (show xs ≠ ys from fun e => hl (by rw [e]))
    clear hl
    go_wp2
    go_ret
    exact ⟨ret_bool (by simp [HN.out]), Below.refl _ _⟩

theorem szMoveS_c (A : Option Addr) (c n : Nat) (l : Int) (w : World) (hn : n ≤ 9223372036854775807) (h0 : 0 ≤ l) (h1 : l ≤ 1048576) :
    Calls Try.prog 6 #[.slice A n c, .int .i64 l] w fun e w' => e = .returned (.int .i64 (szN n l)) ∧ w = w' := by
  go_enter Try.func6, Try.ntmps6
  go_wp2
  all_goals go_ret
  all_goals go_light
  all_goals exact ⟨ret_int (by unfold szN; split <;> omega), rfl⟩
theorem toMove_c (x : Move) (w : World) : Calls Try.prog 18 #[x.v] w fun e w' => e = .returned (.agg #[.int .i64 x.to, .int .i64 x.src]) ∧ Below w.heap.size w w' := by
  obtain ⟨a0, a1⟩ := x
  simp only [Move.v]
  go_enter Try.func18, Try.ntmps18
  go_wp2
  exact bodyPost_ret (v := .agg #[.int .i64 a0, .int .i64 a1]) (by simp [results, Try.results18, go_sem]) rfl ⟨rfl, (by repeat (first | (with_reducible first | exact Below.refl _ _ | assumption | exact ext_box _) | (with_reducible apply Below.drew) | ((with_reducible refine Below.setCell ?_ ?hs _); (case hs => first | (simp; done) | (simp; omega) | omega)) | ((with_reducible refine Below.alloc ?_ ?hs _); (case hs => first | (simp; done) | (simp; omega) | omega))))⟩
set_option maxHeartbeats 1000000 in
theorem toMoveS_c (A : Option Addr) (c : Nat) (xs : List Move) (w : World) (hx : C kMove w A xs) (hm : xs.length ≤ 1048576) :
    Calls Try.prog 8 #[.slice A xs.length c] w (RetRow 39 kMove w xs) := by
  obtain ⟨i0, hi, hz0, hz1, hz2⟩ := info_parts info_move
  go_enter Try.func8, Try.ntmps8
  go_wp2_with (at_make; refine wpList_make_full _ rfl _ _ 27 rfl 0 39 i0 _ 2 Try.underlying27 hi hz0 hz1 _ _ _ _ xs.length rfl rfl rfl rfl (by rw [hz2]; omega) (by simp [maxLen]; omega) (Nat.zero_le _) ?_; intro w1 ho hg)
  have hR := Lib.hid (Row.made (d := kMove) (z := ⟨0, 0⟩) (zc := [.int .i64 0, .int .i64 0]) ho (by decide) ⟨rfl, rfl⟩)
  have hB : Below w.heap.size w w1 := (Below.refl _ _).grown hg (Nat.le_refl _) (by simp)
  go_loopw [4] (fun i wr => ∃ (k : Nat) (fp : List Nat), k ≤ xs.length ∧ i = .int .i64 k ∧ Row 39 kMove wr (.slice (some ⟨w.heap.size, 0, none⟩) xs.length xs.length) (xs.take k ++ List.replicate (xs.length - k) ⟨0, 0⟩) fp ∧ (∀ b ∈ fp, w.heap.size ≤ b) ∧ ∃ u : Ext w, wr = u.w) (fun i _ => xs.length - (intOf i).toNat)
  case atStart => exact ⟨0, _, by omega, rfl, hR.out, by simp, ⟨w1, hB⟩, rfl⟩
  case round =>
    obtain ⟨k, fp, hk, rfl, hr, hfp, u, rfl⟩ := hrel
    have HR := Lib.hid hr
    have HF := Lib.hid hfp
    clear hr hfp ho hR
    by_cases hlt : k < xs.length
    · obtain ⟨x, ex⟩ := get_of_lt hlt
      obtain ⟨a, _, rfl, rfl, hc⟩ := (hx.ext u).at ex
      obtain ⟨p0, p1⟩ := hc2 (n := k * 2) hc
      clear hc
      have EX := Lib.hid ex
      clear ex
      go_wp2_with (go_at_call 18; refine (toMove_c x _).mono ?_; rintro e w2 ⟨rfl, hb⟩; have HR2 := Lib.hid (HR.out.keep fun b hb' => hb.block b (HR.out.lt b hb')); obtain ⟨_, rfl, hq, hfz⟩ := HR2.out.cellsAt (slot_len hk) (i := k) (x := ⟨0, 0⟩) (slot_k hlt (by simp; omega)); obtain ⟨q0, q1⟩ := ha2 (n := k * 2) hq; have f0 := hfz (k * 2); have f1 := hfz (k * 2 + 1); clear hq hfz)
      obtain ⟨fp', hr', hf', hC⟩ := HR2.out.set (slot_len hk) (i := k) hlt (y := x) ⟨rfl, rfl⟩ (by simp)
      rw [show k * kMove.sz = k * 2 from rfl, setCells2] at hr' hC
      rw [slot_set hlt EX.out] at hr'
      go_roundw
      case rel => exact ⟨k + 1, fp', by omega, by go_num, hr', fun b hb' => HF.out b ((hf' b hb').resolve_right (by simp)), ⟨_, (Below.then_ u.hb hb).trans (hC.below (by have := u.hb.size; have := hb.size; omega) fun b hb' => by omega)⟩, rfl⟩
      case measure => simp [intOf]; omega
    · go_wp2
      go_ret
      refine ⟨_, fp, rfl, ?_, HF.out, u.hb⟩
      have := HR.out
      rwa [List.take_of_length_le (by omega), show xs.length - k = 0 by omega, List.replicate_zero, List.append_nil] at this
set_option maxHeartbeats 4000000 in
theorem markMoveS_c (v : Value) (xs : List Move) (fp : List Nat) (k : Int) (w : World) (h : Row 39 kMove w v xs fp) (hk : 0 ≤ k) (hk2 : k ≤ 4611686018427387904) (hl : xs.length ≤ 1048576) :
    Calls Try.prog 12 #[v, .int .i64 k] w (MarkRow 39 kMove v xs.length k (2 * (xs.length : Int)) fp w) := by
  rcases h.form' with ⟨rfl, rfl, rfl⟩ | ⟨g, cap, rfl, hg, -⟩
  · have HH := Lib.hid h
    clear h
    go_enter Try.func12, Try.ntmps12
    go_wp2
    go_loopw [1, 5] (fun k1 i wr => k1 = .int .i64 k ∧ i = .int .i64 0 ∧ wr = w) (fun _ _ _ => 0)
    case atStart => exact ⟨rfl, rfl, rfl⟩
    case round =>
      obtain ⟨rfl, rfl, rfl⟩ := hrel
      go_wp2
      go_ret
      exact ⟨k, [], [], by simp, by omega, by simp, rfl, HH.out, fun _ h => h, Chg.refl _ _⟩
  · have HX := Lib.hid h
    have HG := Lib.hid hg
    clear h hg
    go_enter Try.func12, Try.ntmps12
    go_wp2
    go_loopw [1, 5] (fun k1 i wr => ∃ (j : Nat) (ys : List Move) (fp' : List Nat), j ≤ xs.length ∧ k1 = .int .i64 (k + 2 * (j : Int)) ∧ i = .int .i64 j ∧ ys.length = xs.length ∧ Row 39 kMove wr (.slice (some ⟨g, 0, none⟩) xs.length cap) ys fp' ∧ (∀ b ∈ fp', b ∈ fp) ∧ Chg (fun b => b ∈ fp) w wr) (fun _ i _ => xs.length - (intOf i).toNat)
    case atStart => exact ⟨0, xs, fp, by omega, by simp, rfl, rfl, HX.out, fun _ h => h, Chg.refl _ _⟩
    case round =>
      obtain ⟨j, ys, fp', hj, rfl, rfl, hy, hr, hf, hc⟩ := hrel
      have HF := Lib.hid hf
      have HY := Lib.hid hy
      by_cases hlt : j < xs.length
      · obtain ⟨y, ey⟩ := get_of_lt (show j < ys.length by omega)
        obtain ⟨_, rfl, hq, hfz⟩ := hr.cellsAt hy ey
        obtain ⟨q0, q1⟩ := ha2 (n := j * 2) hq
        have f0 := hfz (j * 2)
        have f1 := hfz (j * 2 + 1)
        obtain ⟨fp2, hr2, hf2, hc2⟩ := hr.set hy (i := j) hlt (y := (⟨k + 2 * (j : Int), k + 2 * (j : Int) + 1⟩ : Move)) ⟨rfl, rfl⟩ (by simp)
        rw [show j * kMove.sz = j * 2 from rfl, setCells2] at hr2 hc2
        have HR := Lib.hid hr2
        have HC := Lib.hid (hc.trans (hc2.mono fun b _ e => by rw [e]; exact HG.out))
        have HF2 := Lib.hid (show ∀ b ∈ fp2, b ∈ fp from fun b hb => HF.out b ((hf2 b hb).resolve_right (by simp)))
        clear hr hr2 hc hc2 ey hq hfz hf hf2
        go_wp2
        go_roundw
        case rel => exact ⟨j + 1, _, fp2, by omega, by go_num, by go_num, by simpa using hy, HR.out, HF2.out, HC.out⟩
        case measure => simp [intOf]; omega
      · have hjn : j = xs.length := by omega
        subst hjn
        have HR := Lib.hid hr
        have HC := Lib.hid hc
        clear hr hc hf
        go_wp2
        go_ret
        exact ⟨_, ys, fp', rfl, by omega, by omega, HY.out, HR.out, HF.out, HC.out⟩
/-- The marks of a row of instructions. -/
def mk1 (k : Int) (j : Nat) : Instr := ⟨k + 5 * (j : Int), k + 5 * (j : Int) + 1, k + 5 * (j : Int) + 1 + 1, k + 5 * (j : Int) + 1 + 1 + 1, k + 5 * (j : Int) + 1 + 1 + 1 + 1⟩
def mkI (k : Int) (n : Nat) : List Instr := (List.range n).map (mk1 k)
theorem mkI_len (k : Int) (n : Nat) : (mkI k n).length = n := by simp [mkI]
theorem mkI_get (k : Int) {n i : Nat} (h : i < n) : (mkI k n)[i]? = some (mk1 k i) := by simp [mkI, h]
theorem mkI_snoc (k : Int) (n : Nat) : mkI k (n + 1) = mkI k n ++ [mk1 k n] := by simp [mkI, List.range_succ]
theorem mkI_set (k : Int) (xs : List Instr) {j : Nat} (h : j < xs.length) : (mkI k j ++ xs.drop j).set j (mk1 k j) = mkI k (j + 1) ++ xs.drop (j + 1) := by
  rw [List.set_append_right _ _ (by rw [mkI_len]; exact Nat.le_refl _), mkI_len, Nat.sub_self, List.drop_eq_getElem_cons h, List.set_cons_zero, mkI_snoc, List.append_assoc]; rfl
def MarkI (v : Value) (k : Int) (n : Nat) (fp : List Nat) (w : World) (e : Ending) (w' : World) : Prop := ∃ fp', e = .returned (.int .i64 (k + 5 * (n : Int))) ∧ Row 41 kInstr w' v (mkI k n) fp' ∧ (∀ b ∈ fp', b ∈ fp) ∧ Chg (fun b => b ∈ fp) w w'
set_option maxHeartbeats 4000000 in
theorem markInstrS2_c (v : Value) (xs : List Instr) (fp : List Nat) (k : Int) (w : World) (h : Row 41 kInstr w v xs fp) (hk : 0 ≤ k) (hk2 : k ≤ 4611686018427387904) (hl : xs.length ≤ 1048576) :
    Calls Try.prog 13 #[v, .int .i64 k] w (MarkI v k xs.length fp w) := by
  rcases h.form' with ⟨rfl, rfl, rfl⟩ | ⟨g, cap, rfl, hg, -⟩
  · have HH := Lib.hid h
    clear h
    go_enter Try.func13, Try.ntmps13
    go_wp2
    go_loopw [1, 5] (fun k1 i wr => k1 = .int .i64 k ∧ i = .int .i64 0 ∧ wr = w) (fun _ _ _ => 0)
    case atStart => exact ⟨rfl, rfl, rfl⟩
    case round =>
      obtain ⟨rfl, rfl, rfl⟩ := hrel
      go_wp2
      go_ret
      exact ⟨[], by simp, HH.out, fun _ h => h, Chg.refl _ _⟩
  · have HX := Lib.hid h
    have HG := Lib.hid hg
    clear h hg
    go_enter Try.func13, Try.ntmps13
    go_wp2
    go_loopw [1, 5] (fun k1 i wr => ∃ (j : Nat) (fp' : List Nat), j ≤ xs.length ∧ k1 = .int .i64 (k + 5 * (j : Int)) ∧ i = .int .i64 j ∧ Row 41 kInstr wr (.slice (some ⟨g, 0, none⟩) xs.length cap) (mkI k j ++ xs.drop j) fp' ∧ (∀ b ∈ fp', b ∈ fp) ∧ Chg (fun b => b ∈ fp) w wr) (fun _ i _ => xs.length - (intOf i).toNat)
    case atStart => exact ⟨0, fp, by omega, by simp, rfl, by simpa [mkI] using HX.out, fun _ h => h, Chg.refl _ _⟩
    case round =>
      obtain ⟨j, fp', hj, rfl, rfl, hr, hf, hc⟩ := hrel
      have hy : (mkI k j ++ xs.drop j).length = xs.length := by simp [mkI_len]; omega
      have HF := Lib.hid hf
      have HY := Lib.hid hy
      by_cases hlt : j < xs.length
      · obtain ⟨y, ey⟩ := get_of_lt (show j < (mkI k j ++ xs.drop j).length by omega)
        obtain ⟨_, rfl, hq, hfz⟩ := hr.cellsAt hy ey
        obtain ⟨q0, q1, q2, q3, q4⟩ := ha5 (n := j * 5) hq
        have f0 := hfz (j * 5)
        have f1 := hfz (j * 5 + 1)
        have f2 := hfz (j * 5 + 2)
        have f3 := hfz (j * 5 + 3)
        have f4 := hfz (j * 5 + 4)
        obtain ⟨fp2, hr2, hf2, hc2⟩ := hr.set hy (i := j) hlt (y := mk1 k j) ⟨rfl, rfl⟩ (by simp)
        rw [show j * kInstr.sz = j * 5 from rfl, setCells5] at hr2 hc2
        rw [mkI_set k xs hlt] at hr2
        simp only [mk1] at hr2 hc2
        have HR := Lib.hid hr2
        have HC := Lib.hid (hc.trans (hc2.mono fun b _ e => by rw [e]; exact HG.out))
        have HF2 := Lib.hid (show ∀ b ∈ fp2, b ∈ fp from fun b hb => HF.out b ((hf2 b hb).resolve_right (by simp)))
        clear hr hr2 hc hc2 ey hq hfz hf hf2
        go_wp2
        go_roundw
        case rel => exact ⟨j + 1, fp2, by omega, by go_num, by go_num, HR.out, HF2.out, HC.out⟩
        case measure => simp [intOf]; omega
      · have hjn : j = xs.length := by omega
        subst hjn
        have HR := Lib.hid hr
        have HC := Lib.hid hc
        clear hr hc hf
        go_wp2
        go_ret
        exact ⟨fp', rfl, by simpa using HR.out, HF.out, HC.out⟩
set_option maxHeartbeats 4000000 in
theorem heldInstrS_c (v : Value) (n : Nat) (fp : List Nat) (k : Int) (w : World) (h : Row 41 kInstr w v (mkI k n) fp) (hk : 0 ≤ k) (hk2 : k ≤ 4611686018427387904) (hl : n ≤ 1048576) :
    Calls Try.prog 14 #[v, .int .i64 k] w fun e w' => e = .returned (.int .i64 (k + 5 * (n : Int))) ∧ w = w' := by
  have hn := mkI_len k n
  rcases h.form' with ⟨rfl, h0, rfl⟩ | ⟨g, cap, rfl, -, -⟩
  · obtain rfl : n = 0 := by rw [h0] at hn; simpa using hn.symm
    clear h h0
    go_enter Try.func14, Try.ntmps14
    go_wp2
    go_loopw [1, 5] (fun k1 i wr => k1 = .int .i64 k ∧ i = .int .i64 0 ∧ wr = w) (fun _ _ _ => 0)
    case atStart => exact ⟨rfl, rfl, rfl⟩
    case round =>
      obtain ⟨rfl, rfl, rfl⟩ := hrel
      go_wp2
      go_ret
      exact ⟨by simp, by first | rfl | trivial⟩
  · have HX := Lib.hid h
    rw [hn]
    clear h
    go_enter Try.func14, Try.ntmps14
    go_wp2
    go_loopw [1, 5] (fun k1 i wr => ∃ j : Nat, j ≤ n ∧ k1 = .int .i64 (k + 5 * (j : Int)) ∧ i = .int .i64 j ∧ wr = w) (fun _ i _ => n - (intOf i).toNat)
    case atStart => exact ⟨0, by omega, by simp, rfl, rfl⟩
    case round =>
      obtain ⟨j, hj, rfl, rfl, rfl⟩ := hrel
      by_cases hlt : j < n
      · obtain ⟨_, rfl, hq, -⟩ := (show Row 41 kInstr wr (.slice (some ⟨g, 0, none⟩) n cap) (mkI k n) fp by have := HX.out; rwa [hn] at this).cellsAt hn (mkI_get k hlt)
        obtain ⟨q0, q1, q2, q3, q4⟩ := ha5 (n := j * 5) hq
        simp only [mk1] at q0 q1 q2 q3 q4
        clear hq
        go_wp2
        go_roundw
        case rel => exact ⟨j + 1, by omega, by go_num, by go_num, by first | rfl | trivial⟩
        case measure => simp [intOf]; omega
      · have hjn : j = n := by omega
        subst hjn
        go_wp2
        go_ret
        exact ⟨rfl, by first | rfl | trivial⟩
end Go.Proofs.Ytnnfjjgohhicjaa
