/- Contract: impl.inOrder. -/
import Derived.Test.YtnnfjjgohhicjaaQi
namespace Go.Proofs.Ytnnfjjgohhicjaa
open Go.RowKit
set_option linter.unusedSimpArgs false
set_option linter.unusedVariables false
set_option maxRecDepth 100000
open Go.Maps

theorem chg_of_g {w w' : World} (h : w.grownBy w' none) : Chg (fun _ => False) w w' := (Chg.of_grown h).mono fun k _ hk => by simp at hk
set_option maxHeartbeats 4000000 in
theorem inOrder_c (b n : Nat) (L : List Move) (w : World) (hown : w.ownsMap Try.prog 2 (plainElem (H := Unit) Try.prog 2) b n (mapD L)) (hs : Srt L) (hl : L.length ≤ 1048576) :
    Calls Try.prog 27 #[.map (some b)] w (RetRow 2 (kInt .i64) w (L.map (·.to))) := by
  obtain ⟨i0, hi, hz0, hz1, hz2⟩ := info_parts info_i64
  have HS := Lib.hid hs
  have hbl := hown.lt
  go_enter Try.func27, Try.ntmps27
  go_wp2_with (first
    | (at_range; refine wpList_range_own _ rfl _ 47 rfl 2 2 law64 Try.underlying47 _ b n (mapD L) rfl (hown.alloc _) ?_; intro w0 hrg0 hg0 hs0)
    | go_in)
  go_frame
  simp only [World.size_alloc] at hrg0 hs0 ⊢
  have HB0 := Lib.hid (show Below w.heap.size w w0 from ((Below.refl _ _).alloc (Nat.le_refl _) (.cells #[] 2)).trans (((chg_of_g hg0).below (B := w.heap.size) (by simp) fun _ h => h.elim)))
  have HR0 := Lib.hid (show Row 2 (kInt .i64) w0 (.slice (some ⟨w.heap.size, 0, none⟩) 0 0) [] [w.heap.size] from (Row.empty0 (W := w) rfl).chg (chg_of_g hg0) (by simp))
  clear hg0
  go_loopw [3] (fun t3 wr => ∃ (left : Lit → Bool) (cnt : Nat) (ks : List Int) (fp : List Nat), wr.ranges Try.prog 2 (plainElem (H := Unit) Try.prog 2) b (w.heap.size + 1) n (mapD L) left cnt ∧ Coll L left ks ∧ Row 2 (kInt .i64) wr t3 ks fp ∧ (∃ g cap, t3 = .slice (some ⟨g, 0, none⟩) ks.length cap) ∧ (∀ q ∈ fp, w.heap.size ≤ q) ∧ Below w.heap.size w wr) (fun _ wr => wr.rangeLeft b (w.heap.size + 1))
  case atStart => exact ⟨_, _, [], [w.heap.size], hrg0, coll_start L, HR0.out, ⟨_, _, rfl⟩, by simp, HB0.out⟩
  case round =>
    clear HR0 HB0 hrg0
    obtain ⟨left, cnt, ks, fp, hrg, hco, hr, ⟨g, cap, rfl⟩, hf, hb⟩ := hrel
    have hkl := coll_len hco
    have HC := Lib.hid hco
    have HR := Lib.hid hr
    have HF := Lib.hid hf
    have HB := Lib.hid hb
    have HNI := Lib.hid (row_no_iter hr hrg)
    have HG := Lib.hid hrg
    have hwz := hb.size
    clear hco hr hf hb
    go_wp2_with (first
      | (at_next; refine wpList_next_ranges_ii _ rfl _ rfl 2 2 .i64 .i64 law64 Try.underlying2 Try.underlying2 b (w.heap.size + 1) n _ _ _ rfl hrg ?_ ?_)
      | go_in)
    · intro _ hl0
      have HL := Lib.hid (coll_end HS.out HC.out hl0)
      have HSO := Lib.hid (sort_c g cap ks fp wr HR.out (by omega))
      clear hrg hl0
      go_wp2_with (go_at_call 28; (with_reducible refine HSO.out.mono ?_); rintro e w5 ⟨rfl, hr5, hc5⟩)
      go_ret
      have hfp : fp = [g] := row_int_fp HR.out
      have hg : w.heap.size ≤ g := HF.out g (by rw [hfp]; simp)
      exact ⟨.slice (some ⟨g, 0, none⟩) ks.length cap, [g], rfl, by rw [← HL.out]; exact hr5, fun q hq => by simp at hq; subst hq; exact hg, HB.out.trans (hc5.below hwz fun q hq => by rw [hq]; exact hg)⟩
    · intro x c w1 cnt1 hwx hwc hlx hat hrg1 hlt hg1 hs1 hen
      have HR1 := Lib.hid (HR.out.chg (S := fun q => q = w.heap.size + 1) (Chg.of_grown hg1 |>.mono fun _ _ h => by simpa [eq_comm] using h) (fun q hq e => HNI.out (e ▸ hq)))
      have HB1 := Lib.hid (HB.out.trans ((Chg.of_grown hg1 |>.mono fun _ _ h => by simpa [eq_comm] using h : Chg (fun q => q = w.heap.size + 1) wr w1).below (by omega) fun q hq => by omega))
      have HCO := Lib.hid (coll_step HS.out HC.out hlx (atKey_mem HS.out hat))
      clear hg1 hrg hs1
      go_wp2_with (at_builtin; refine wpList_append_row (kInt .i64) rfl _ _ 36 rfl 2 i0 _ 8 Try.underlying36 hi hz0 hz1 hz2 rfl (by decide) _ ks fp rfl (HR1.out.chg (S := fun _ => False) (by (repeat (first | (with_reducible first | exact Chg.refl _ _ | assumption) | (with_reducible refine Chg.drew ?_) | ((with_reducible refine Chg.setCell ?_ ?hs _); (case hs => first | (simp; done) | (simp; omega) | omega)) | (with_reducible refine Chg.alloc ?_ _)))) (by simp)) _ _ [.int .i64 x] x [] rfl ⟨rfl, rfl⟩ (by simp) (box_news (by simp)) (by simp [maxLen]; omega) (by omega) ?_; intro g3 cap3 w3 fp3 hr3 hf3 hC3)
      have hz1 := HB1.out.size
      have hrg3 := ranges_chg (hrg1.alloc (.cells #[.int .i64 x] 2)) hC3 (fun hm => by have := HF.out b hm; omega) HNI.out
      refine ⟨⟨_, cnt1, ks ++ [x], fp3, hrg3, HCO.out, hr3, ⟨g3, cap3, by simp⟩, fun q hq => ?_, ?_⟩, ?_⟩
      · rcases hf3 q hq with h | h | h
        · exact HF.out q h
        · simp at h
        · simp at h; omega
      · exact (HB1.out.alloc hz1 _).trans (hC3.below (by simp; omega) HF.out)
      · rw [hrg3.left_eq, HG.out.left_eq]; exact hlt
end Go.Proofs.Ytnnfjjgohhicjaa
