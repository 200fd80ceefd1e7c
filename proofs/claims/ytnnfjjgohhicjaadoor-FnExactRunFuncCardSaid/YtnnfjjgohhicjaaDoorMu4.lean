/- Contract: laws.eqOutcome at two outcomes that say the same. -/
import Derived.Test.YtnnfjjgohhicjaaDoorMu3
import Derived.Test.YtnnfjjgohhicjaaDoorKz
import Derived.Test.YtnnfjjgohhicjaaDoorKy
import Derived.Test.YtnnfjjgohhicjaaDoorKt
import Derived.Test.YtnnfjjgohhicjaaDoorKu
namespace Go.Proofs.YtnnfjjgohhicjaaDoor
open Go.RowKit
set_option linter.unusedSimpArgs false
set_option linter.unusedVariables false
set_option maxRecDepth 100000

theorem set_self {w : World} {g o : Nat} {v : Value} (h : w.cell? ⟨g, o, none⟩ = some v) : w.setCell ⟨g, o, none⟩ v = w := by
  have hh : (w.setCell ⟨g, o, none⟩ v).heap = w.heap := by
    apply Array.ext_getElem?
    intro k
    unfold World.cell? at h
    unfold World.setCell
    simp only [Array.getElem?_modify]
    by_cases hk : g = k
    · subst hk
      simp only [if_true]
      cases hg : w.heap[g]? with
      | none => rfl
      | some ob =>
        cases ob <;> simp_all
        apply Array.ext_getElem?
        intro q
        rw [Array.getElem?_setIfInBounds]
        split
        · rename_i hq; subst hq; split
          · exact h.symm
          · rename_i hz; rw [Array.getElem?_eq_none (by omega)]
        · rfl
    · simp [hk]
  unfold World.setCell at hh ⊢
  cases w
  simp only at hh ⊢
  rw [hh]
set_option maxHeartbeats 4000000 in
theorem markMBlockS_c (v : Value) (xs : List MBlock) (fp : List Nat) (k : Int) (w : World) (h : Row 69 (kMB 72) w v xs fp) (hk : 0 ≤ k) (hk2 : k ≤ 1048576) (hl : xs.length ≤ 1048576) (hs : ∀ (i : Nat) b, xs[i]? = some b → b.instrs.length ≤ 1048576) :
    Calls Tryd.prog 62 #[v, .int .i64 k] w (MarkRow 69 (kMB 72) v xs.length k (6000000 * (xs.length : Int)) fp w) := by
  rcases h.form' with ⟨rfl, rfl, rfl⟩ | ⟨g, cap, rfl, hg, -⟩
  · have HH := Lib.hid h
    clear h hs
    go_enter Tryd.func62, Tryd.ntmps62
    go_wp2
    go_loopw [1, 5] (fun k1 i wr => k1 = .int .i64 k ∧ i = .int .i64 0 ∧ wr = w) (fun _ _ _ => 0)
    case atStart => exact ⟨rfl, rfl, rfl⟩
    case round =>
      obtain ⟨rfl, rfl, rfl⟩ := hrel
      go_wp2
      go_ret
      exact ⟨k, [], [], by simp, by omega, by simp, rfl, HH.out, fun _ h => h, Chg.refl _ _⟩
  · have HX := Lib.hid h
    have HG := Lib.hid hg
    have HS := Lib.hid hs
    clear h hg hs
    go_enter Tryd.func62, Tryd.ntmps62
    go_wp2
    go_loopw [1, 5] (fun k1 i wr => ∃ (j : Nat) (k' : Int) (ys : List MBlock) (fp' : List Nat), j ≤ xs.length ∧ k1 = .int .i64 k' ∧ k ≤ k' ∧ k' ≤ k + 6000000 * (j : Int) ∧ i = .int .i64 j ∧ ys.length = xs.length ∧ (∀ (i : Nat) b, ys[i]? = some b → b.instrs.length ≤ 1048576) ∧ Row 69 (kMB 72) wr (.slice (some ⟨g, 0, none⟩) xs.length cap) ys fp' ∧ (∀ b ∈ fp', b ∈ fp) ∧ Chg (fun b => b ∈ fp) w wr) (fun _ i _ => xs.length - (intOf i).toNat)
    case atStart => exact ⟨0, k, xs, fp, by omega, rfl, by omega, by omega, rfl, rfl, HS.out, HX.out, fun _ h => h, Chg.refl _ _⟩
    case round =>
      obtain ⟨j, k', ys, fp', hj, rfl, hk3, hk4, rfl, hy, hys, hr, hf, hc⟩ := hrel
      have HF := Lib.hid hf
      have HY := Lib.hid hy
      have HYS := Lib.hid hys
      by_cases hlt : j < xs.length
      · obtain ⟨y, ey⟩ := get_of_lt (show j < ys.length by omega)
        have hyl := hys _ _ ey
        obtain ⟨_, _, hq, hfz⟩ := hr.cellsAt hy ey
        have f0 := hfz (j * 5)
        have f1 := hfz (j * 5 + 1)
        have f2 := hfz (j * 5 + 2)
        have f3 := hfz (j * 5 + 3)
        have f4 := hfz (j * 5 + 4)
        obtain ⟨_, f9, hO, hcs, hsub, hgn, hset⟩ := hr.focus hy ey
        obtain ⟨_, _, r1, r2, rfl, rfl, hnd, ⟨v0, rfl, r0⟩, rfl, rfl⟩ := hO
        obtain ⟨A4, c4, rfl, hl4⟩ := r0.form
        obtain ⟨q0, q1, q2, q3, q4⟩ := ha5 (n := j * 5) hcs
        simp only [List.append_nil] at hsub hgn hset
        replace hset : ∀ (w' : World) (y2 : MBlock) (cs' : List Value) (f : List Nat), wr.heap.size ≤ w'.heap.size → (∀ b ∈ fp', b ∉ r1 → w'.heap[b]? = wr.heap[b]?) → (kMB 72).O w' y2 cs' f → (∀ b ∈ f, b ∈ r1 ∨ b ∉ fp') → ∃ fp'', Row 69 (kMB 72) (setCells w' g (j * 5) cs') (.slice (some ⟨g, 0, none⟩) xs.length cap) (ys.set j y2) fp'' ∧ (∀ b ∈ fp'', b ∈ fp' ∨ b ∈ f) ∧ Chg (fun k => k = g) w' (setCells w' g (j * 5) cs') := hset
        replace q0 : wr.cell? ⟨g, j * 5, none⟩ = some (.slice A4 y.instrs.length c4) := q0
        have HST := Lib.hid hset
        have HSB := Lib.hid hsub
        have HGN := Lib.hid hgn
        have HM := Lib.hid (markInstrS_c (.slice A4 y.instrs.length c4) y.instrs r1 k' wr r0 (by omega) (by omega) hyl)
        have HLT := Lib.hid (show ∀ b ∈ fp', b < wr.heap.size from fun b hb => hr.lt b hb)
        have HFZ := Lib.hid hfz
        have HC := Lib.hid hc
        have zg := World.block_lt_of_cell? wr _ q0
        clear hset hsub hgn hr hcs hq hfz hc r0 hys hf ey hl4 hnd
        go_wp2_with (
          go_at_call 92; with_reducible refine HM.out.mono ?_; intro e w1 hp1; unfold MarkRow at hp1; obtain ⟨k2, zs, r2, rfl, hk5, hk6, hzl, hr6, hr7, hc6⟩ := hp1
          have hblk : w1.heap[g]? = wr.heap[g]? := hc6.block g zg HGN.out
          have s0 := Chg.at hc6 q0 HGN.out
          have s1 := Chg.at hc6 q1 HGN.out
          have s2 := Chg.at hc6 q2 HGN.out
          have s3 := Chg.at hc6 q3 HGN.out
          have s4 := Chg.at hc6 q4 HGN.out
          have hfz1 : ∀ o, w1.frozen? ⟨g, o, none⟩ = false := fun o => by have := HFZ.out o; unfold World.frozen? at this ⊢; rw [hblk]; exact this
          have f10 := hfz1 (j * 5)
          have f11 := hfz1 (j * 5 + 1)
          have f12 := hfz1 (j * 5 + 2)
          have f13 := hfz1 (j * 5 + 3)
          have f14 := hfz1 (j * 5 + 4)
          obtain ⟨fp2, hr8, hf8, hc8⟩ := HST.out w1 ⟨zs, ⟨k2, k2 + 1, k2 + 1 + 1, k2 + 1 + 1 + 1⟩⟩ _ r2 hc6.size (fun b hb hn => hc6.block b (HLT.out b hb) hn) (kMB_O hr6) (fun b hb => .inl (hr7 b hb))
          rw [setCells5, set_self s0] at hr8 hc8
          have HR8 := Lib.hid hr8
          have HC8 := Lib.hid ((HC.out.trans (hc6.mono fun b _ hb => HF.out b (HSB.out b hb))).trans (hc8.mono fun b _ e => by rw [e]; exact HG.out))
          have HF8 := Lib.hid (show ∀ b ∈ fp2, b ∈ fp from fun b hb => HF.out b ((hf8 b hb).elim id fun h => HSB.out b (hr7 b h)))
          have HZ := Lib.hid hzl
          clear hr8 hc8 hf8 hr6 hr7 hc6 hblk hfz1 q0 q1 q2 q3 q4 f0 f1 f2 f3 f4)
        go_roundw
        case rel => exact ⟨j + 1, k2 + 1 + 1 + 1 + 1, _, fp2, by omega, by go_num, by omega, by omega, by go_num, by simpa using hy, fun i b hb => by
          by_cases hi : j = i
          · subst hi
            rw [List.getElem?_set_self (by omega)] at hb
            obtain rfl := Option.some.inj hb
            have := HZ.out
            simp only
            omega
          · rw [List.getElem?_set_ne hi] at hb
            exact HYS.out i b hb, HR8.out, HF8.out, HC8.out⟩
        case measure => simp [intOf]; omega
      · have hjn : j = xs.length := by omega
        subst hjn
        have HR := Lib.hid hr
        have HC := Lib.hid hc
        clear hr hc hf
        go_wp2
        go_ret
        exact ⟨_, ys, fp', rfl, by omega, by omega, HY.out, HR.out, HF.out, HC.out⟩
def MarkMach (n : Nat) (k : Int) (fp : List Nat) (w : World) (e : Ending) (w' : World) : Prop := ∃ k' : Int, e = .returned (.int .i64 k') ∧ k ≤ k' ∧ k' ≤ k + 6000000 * (n : Int) ∧ Chg (fun b => b ∈ fp) w w'
set_option maxHeartbeats 1000000 in
theorem markMach_c (regs : Int) (v : Value) (xs : List MBlock) (fp : List Nat) (k : Int) (w : World) (h : Row 69 (kMB 72) w v xs fp) (hk : 0 ≤ k) (hk2 : k ≤ 1048576) (hl : xs.length ≤ 1048576) (hs : ∀ (i : Nat) b, xs[i]? = some b → b.instrs.length ≤ 1048576) :
    Calls Tryd.prog 22 #[.agg #[.int .i64 regs, v], .int .i64 k] w (MarkMach xs.length k fp w) := by
  obtain ⟨A, c, rfl, -⟩ := h.form
  have HM := Lib.hid (fun W (hb : Below w.heap.size w W) => markMBlockS_c _ xs fp k W (h.chg (chg_of hb) (by simp)) hk hk2 hl hs)
  clear h hs
  go_enter Tryd.func22, Tryd.ntmps22
  go_wp2_with (
    go_at_call 62; with_reducible refine (HM.out _ (by (repeat (first | (with_reducible first | exact Below.refl _ _ | assumption | exact ext_box _) | (with_reducible apply Below.drew) | ((with_reducible refine Below.setCell ?_ ?hs _); (case hs => first | (simp; done) | (simp; omega) | omega)) | ((with_reducible refine Below.alloc ?_ ?hs _); (case hs => first | (simp; done) | (simp; omega) | omega)))))).mono ?_; intro e w1 hp1; unfold MarkRow at hp1; obtain ⟨k2, zs, r2, rfl, hk5, hk6, hzl, hr6, hr7, hc6⟩ := hp1
    have HC := Lib.hid (show Chg (fun b => b ∈ fp) w w1 from Chg.trans (by (repeat (first | (with_reducible first | exact Chg.refl _ _ | assumption) | (with_reducible refine Chg.drew ?_) | ((with_reducible refine Chg.setCell ?_ ?hs _); (case hs => first | (simp; done) | (simp; omega) | omega)) | (with_reducible refine Chg.alloc ?_ _)))) hc6)
    clear hr6 hr7 hc6)
  go_ret
  exact ⟨k2, rfl, hk5, hk6, HC.out⟩
end Go.Proofs.YtnnfjjgohhicjaaDoor
namespace Go.Proofs.YtnnfjjgohhicjaaDoor
open Go.RowKit
set_option linter.unusedSimpArgs false
set_option linter.unusedVariables false
set_option maxRecDepth 100000

set_option maxHeartbeats 4000000 in
theorem markPhiS_c (v : Value) (xs : List Phi) (fp : List Nat) (k : Int) (w : World) (h : Row 84 (kPhi 2) w v xs fp) (hk : 0 ≤ k) (hk2 : k ≤ 2305843009213693952) (hl : xs.length ≤ 1048576) (hs : ∀ (i : Nat) p, xs[i]? = some p → p.args.length ≤ 1048576) :
    Calls Tryd.prog 101 #[v, .int .i64 k] w (MarkRow 84 (kPhi 2) v xs.length k (1048577 * (xs.length : Int)) fp w) := by
  rcases h.form' with ⟨rfl, rfl, rfl⟩ | ⟨g, cap, rfl, hg, -⟩
  · have HH := Lib.hid h
    clear h hs
    go_enter Tryd.func101, Tryd.ntmps101
    go_wp2
    go_loopw [1, 5] (fun k1 i wr => k1 = .int .i64 k ∧ i = .int .i64 0 ∧ wr = w) (fun _ _ _ => 0)
    case atStart => exact ⟨rfl, rfl, rfl⟩
    case round =>
      obtain ⟨rfl, rfl, rfl⟩ := hrel
      go_wp2
      go_ret
      exact ⟨k, [], [], by simp, by omega, by simp, rfl, HH.out, fun _ h => h, Chg.refl _ _⟩
  · have HX := Lib.hid h
    have HG := Lib.hid hg
    have HS := Lib.hid hs
    clear h hg hs
    go_enter Tryd.func101, Tryd.ntmps101
    go_wp2
    go_loopw [1, 5] (fun k1 i wr => ∃ (j : Nat) (k' : Int) (ys : List Phi) (fp' : List Nat), j ≤ xs.length ∧ k1 = .int .i64 k' ∧ k ≤ k' ∧ k' ≤ k + 1048577 * (j : Int) ∧ i = .int .i64 j ∧ ys.length = xs.length ∧ (∀ (i : Nat) b, ys[i]? = some b → b.args.length ≤ 1048576) ∧ Row 84 (kPhi 2) wr (.slice (some ⟨g, 0, none⟩) xs.length cap) ys fp' ∧ g ∈ fp' ∧ (∀ b ∈ fp', b ∈ fp) ∧ Chg (fun b => b ∈ fp) w wr) (fun _ i _ => xs.length - (intOf i).toNat)
    case atStart => exact ⟨0, k, xs, fp, by omega, rfl, by omega, by omega, rfl, rfl, HS.out, HX.out, HG.out, fun _ h => h, Chg.refl _ _⟩
    case round =>
      obtain ⟨j, k', ys, fp', hj, rfl, hk3, hk4, rfl, hy, hys, hr, hgf, hf, hc⟩ := hrel
      have HF := Lib.hid hf
      have HY := Lib.hid hy
      have HYS := Lib.hid hys
      by_cases hlt : j < xs.length
      · obtain ⟨y, ey⟩ := get_of_lt (show j < ys.length by omega)
        have hyl := hys _ _ ey
        obtain ⟨_, _, hq, hfz⟩ := hr.cellsAt hy ey
        have f0 := hfz (j * 2)
        have f1 := hfz (j * 2 + 1)
        obtain ⟨_, f9, hO, hcs, hsub, hgn, hset⟩ := hr.focus hy ey
        obtain ⟨_, _, r1, r2, rfl, rfl, hnd, ⟨rfl, rfl⟩, ⟨v0, rfl, r0⟩⟩ := hO
        obtain ⟨A4, c4, rfl, hl4⟩ := r0.form
        obtain ⟨q0, q1⟩ := ha2 (n := j * 2) hcs
        obtain ⟨fp1, hR1, hf1, hc1⟩ := hset wr ⟨k', y.args⟩ [.int .i64 k', .slice A4 y.args.length c4] r2 (Nat.le_refl _) (fun _ _ _ => rfl) (kPhi_O (p := ⟨k', y.args⟩) r0) (fun b hb => .inl (by simpa using hb))
        replace hR1 : Row 84 (kPhi 2) (setCells wr g (j * 2) [.int .i64 k', .slice A4 y.args.length c4]) (.slice (some ⟨g, 0, none⟩) xs.length cap) (ys.set j ⟨k', y.args⟩) fp1 := hR1
        replace hc1 : Chg (fun b => b = g) wr (setCells wr g (j * 2) [.int .i64 k', .slice A4 y.args.length c4]) := hc1
        have hq1 : (wr.setCell ⟨g, j * 2, none⟩ (.int .i64 k')).cell? ⟨g, j * 2 + 1, none⟩ = some (.slice A4 y.args.length c4) := by
          simp [go_sem, q1, f0]
        rw [setCells2, set_self hq1] at hR1 hc1
        have HR1 := Lib.hid hR1
        have HC1 := Lib.hid ((hc).trans (hc1.mono fun b _ e => by rw [e]; exact HG.out))
        have HF1 := Lib.hid (show ∀ b ∈ fp1, b ∈ fp from fun b hb => (hf1 b hb).elim (hf b) fun h => hf b (hsub b (by simpa using h)))
        clear hset hsub hgn hR1 hf1 hc1 hr r0 hcs hq hfz hl4 hnd hc hf hys ey
        go_upto_region 6 with (fail)
        generalize wr.setCell ⟨g, j * 2, none⟩ (.int .i64 k') = W1 at *
        clear q0 q1 f0 f1
        have hy1 : (ys.set j ⟨k', y.args⟩).length = xs.length := by rw [List.length_set]; exact HY.out
        have ey1 : (ys.set j ⟨k', y.args⟩)[j]? = some ⟨k', y.args⟩ := List.getElem?_set_self (by rw [HY.out]; exact hlt)
        obtain ⟨_, f9, hO, hcs, hsub, hgn, hset⟩ := HR1.out.focus hy1 ey1
        obtain ⟨_, _, r1, r3, rfl, rfl, hnd, ⟨rfl, rfl⟩, ⟨v0, rfl, r0⟩⟩ := hO
        obtain ⟨A5, c5, rfl, hl4⟩ := r0.form
        obtain ⟨s0, s1⟩ := ha2 (n := j * 2) hcs
        replace s0 : W1.cell? ⟨g, j * 2, none⟩ = some (.int .i64 k') := s0
        replace s1 : W1.cell? ⟨g, j * 2 + 1, none⟩ = some (.slice A5 y.args.length c5) := s1
        obtain ⟨rfl, rfl⟩ : A4 = A5 ∧ c4 = c5 := by have := hq1.symm.trans s1; simpa using this
        clear hq1
        have HM := Lib.hid (markInt64S_c (.slice A4 y.args.length c4) y.args r3 (k' + 1) W1 r0 (by omega) (by omega) (by omega))
        have HST := Lib.hid hset
        have HSB := Lib.hid hsub
        have HGN := Lib.hid (show g ∉ r3 by simpa using hgn)
        have HLT := Lib.hid (show ∀ b ∈ fp1, b < W1.heap.size from fun b hb => HR1.out.lt b hb)
        have zg := World.block_lt_of_cell? W1 _ s0
        clear hset hsub hgn hcs r0 hl4 hnd
        go_wp2_with (
          go_at_call 30; with_reducible refine HM.out.mono ?_; intro e w1 hp1; unfold MarkPost at hp1; obtain ⟨rfl, hr6, hc6⟩ := hp1
          have t0 := Chg.at hc6 s0 HGN.out
          have t1 := Chg.at hc6 s1 HGN.out
          obtain ⟨fp2, hr8, hf8, hc8⟩ := HST.out w1 ⟨k', mk64 (k' + 1) y.args.length⟩ _ r3 hc6.size (fun b hb hn => hc6.block b (HLT.out b hb) (by simpa using hn)) (kPhi_O (p := ⟨k', mk64 (k' + 1) y.args.length⟩) hr6) (fun b hb => .inl (by simpa using hb))
          replace hr8 : Row 84 (kPhi 2) (setCells w1 g (j * 2) [.int .i64 k', .slice A4 y.args.length c4]) (.slice (some ⟨g, 0, none⟩) xs.length cap) ((ys.set j ⟨k', y.args⟩).set j ⟨k', mk64 (k' + 1) y.args.length⟩) fp2 := hr8
          rw [setCells2, set_self t0, set_self t1] at hr8
          have HR8 := Lib.hid hr8
          have HC8 := Lib.hid (HC1.out.trans (hc6.mono fun b _ hb => HF1.out b (HSB.out b (by simpa using hb))))
          have HF8 := Lib.hid (show ∀ b ∈ fp2, b ∈ fp from fun b hb => HF1.out b ((hf8 b hb).elim id fun h => HSB.out b (by simpa using h)))
          clear hr8 hf8 hc8 hr6 hc6 s0 s1)
        have hgf2 : g ∈ fp2 := by obtain ⟨_, _, _, _, e, _⟩ := HR8.out; rw [e]; simp [Value.ownBlock]
        have HY1 := Lib.hid hy1
        go_roundw
        case rel => exact ⟨j + 1, k' + 1 + (y.args.length : Int), _, fp2, by omega, by go_num, by omega, by omega, by go_num, by rw [List.length_set]; exact HY1.out, fun i b hb => by
          by_cases hi : j = i
          · subst hi
            rw [List.getElem?_set_self (by rw [HY1.out]; exact hlt)] at hb
            obtain rfl := Option.some.inj hb
            simpa [mk64_len] using hyl
          · rw [List.getElem?_set_ne hi, List.getElem?_set_ne hi] at hb
            exact HYS.out i b hb, HR8.out, hgf2, HF8.out, HC8.out⟩
        case measure => simp [intOf]; omega
      · have hjn : j = xs.length := by omega
        subst hjn
        have HR := Lib.hid hr
        have HC := Lib.hid hc
        clear hr hc hf
        go_wp2
        go_ret
        exact ⟨_, ys, fp', rfl, by omega, by omega, HY.out, HR.out, HF.out, HC.out⟩
theorem Row.nd {α : Type} {e : TypeId} {d : Kd α} {w : World} {v : Value} {xs : List α} {fp : List Nat} (h : Row e d w v xs fp) : fp.Nodup := by obtain ⟨_, _, _, _, _, hn⟩ := h; exact hn
set_option maxHeartbeats 4000000 in
theorem markBlockS_c (v : Value) (xs : List Block) (fp : List Nat) (k : Int) (w : World) (h : Row 81 (kBlock 2 84 72) w v xs fp) (hk : 0 ≤ k) (hk2 : k ≤ 1048576) (hl : xs.length ≤ 1048576) (hs : ∀ (i : Nat) b, xs[i]? = some b → okBlk 1048576 b) :
    Calls Tryd.prog 71 #[v, .int .i64 k] w (MarkRow 81 (kBlock 2 84 72) v xs.length k (1099520000000 * (xs.length : Int)) fp w) := by
  rcases h.form' with ⟨rfl, rfl, rfl⟩ | ⟨g, cap, rfl, hg, -⟩
  · have HH := Lib.hid h
    clear h hs
    go_enter Tryd.func71, Tryd.ntmps71
    go_wp2
    go_loopw [1, 5] (fun k1 i wr => k1 = .int .i64 k ∧ i = .int .i64 0 ∧ wr = w) (fun _ _ _ => 0)
    case atStart => exact ⟨rfl, rfl, rfl⟩
    case round =>
      obtain ⟨rfl, rfl, rfl⟩ := hrel
      go_wp2
      go_ret
      exact ⟨k, [], [], by simp, by omega, by simp, rfl, HH.out, fun _ h => h, Chg.refl _ _⟩
  · have HX := Lib.hid h
    have HG := Lib.hid hg
    have HS := Lib.hid (show ∀ j : Nat, ∀ (i : Nat) b, i < xs.length → j ≤ i → xs[i]? = some b → okBlk 1048576 b from fun _ i b _ _ h => hs i b h)
    clear h hg hs
    go_enter Tryd.func71, Tryd.ntmps71
    go_wp2
    go_loopw [1, 5] (fun k1 i wr => ∃ (j : Nat) (k' : Int) (ys : List Block) (fp' : List Nat), j ≤ xs.length ∧ k1 = .int .i64 k' ∧ k ≤ k' ∧ k' ≤ k + 1099520000000 * (j : Int) ∧ i = .int .i64 j ∧ ys.length = xs.length ∧ (∀ (i : Nat) b, j ≤ i → ys[i]? = some b → okBlk 1048576 b) ∧ Row 81 (kBlock 2 84 72) wr (.slice (some ⟨g, 0, none⟩) xs.length cap) ys fp' ∧ (∀ b ∈ fp', b ∈ fp) ∧ Chg (fun b => b ∈ fp) w wr) (fun _ i _ => xs.length - (intOf i).toNat)
    case atStart => exact ⟨0, k, xs, fp, by omega, rfl, by omega, by omega, rfl, rfl, fun i b h1 h2 => HS.out 0 i b (List.getElem?_eq_some_iff.1 h2).1 h1 h2, HX.out, fun _ h => h, Chg.refl _ _⟩
    case round =>
      obtain ⟨j, k', ys, fp', hj, rfl, hk3, hk4, rfl, hy, hys, hr, hf, hc⟩ := hrel
      have HF := Lib.hid hf
      have HY := Lib.hid hy
      have HYS := Lib.hid hys
      by_cases hlt : j < xs.length
      · obtain ⟨y, ey⟩ := get_of_lt (show j < ys.length by omega)
        obtain ⟨ok1, ok2, ok3⟩ := hys _ _ (Nat.le_refl _) ey
        obtain ⟨_, _, hq, hfz⟩ := hr.cellsAt hy ey
        obtain ⟨_, f9, hO, hcs, hsub, hgn, hset⟩ := hr.focus hy ey
        obtain ⟨_, _, r1, r9, rfl, rfl, hnd, ⟨v1, rfl, h1⟩, _, _, r2, r3, rfl, rfl, hnd2, ⟨v2, rfl, h2⟩, rfl, rfl⟩ := hO
        obtain ⟨A1, c1, rfl, hl1⟩ := h1.form
        obtain ⟨A2, c2, rfl, hl2⟩ := h2.form
        obtain ⟨q0, q1, q2, q3, q4, q5⟩ := ha6 (n := j * 6) hcs
        simp only [List.append_nil] at hsub hgn hset hnd hnd2
        replace hset : ∀ (w' : World) (y2 : Block) (cs' : List Value) (f : List Nat), wr.heap.size ≤ w'.heap.size → (∀ b ∈ fp', b ∉ r1 ++ r2 → w'.heap[b]? = wr.heap[b]?) → (kBlock 2 84 72).O w' y2 cs' f → (∀ b ∈ f, b ∈ r1 ++ r2 ∨ b ∉ fp') → ∃ fp'', Row 81 (kBlock 2 84 72) (setCells w' g (j * 6) cs') (.slice (some ⟨g, 0, none⟩) xs.length cap) (ys.set j y2) fp'' ∧ (∀ b ∈ fp'', b ∈ fp' ∨ b ∈ f) ∧ Chg (fun k => k = g) w' (setCells w' g (j * 6) cs') := hset
        replace q0 : wr.cell? ⟨g, j * 6, none⟩ = some (.slice A1 y.phis.length c1) := q0
        replace q1 : wr.cell? ⟨g, j * 6 + 1, none⟩ = some (.slice A2 y.instrs.length c2) := q1
        replace h1 : Row 84 (kPhi 2) wr (.slice A1 y.phis.length c1) y.phis r1 := h1
        replace h2 : Row 72 kInstr wr (.slice A2 y.instrs.length c2) y.instrs r2 := h2
        have HST := Lib.hid hset
        have HSB := Lib.hid hsub
        have HGN := Lib.hid (show g ∉ r1 ∧ g ∉ r2 from ⟨fun hm => hgn (List.mem_append_left _ hm), fun hm => hgn (List.mem_append_right _ hm)⟩)
        have HD := Lib.hid (show ∀ b ∈ r1, b ∉ r2 from fun b hb hb2 => (List.nodup_append.1 hnd).2.2 b hb b hb2 rfl)
        have HM := Lib.hid (markPhiS_c (.slice A1 y.phis.length c1) y.phis r1 k' wr h1 (by omega) (by omega) ok1 (fun i p hp => ok2 i p hp))
        have H2 := Lib.hid h2
        have HLT := Lib.hid (show ∀ b ∈ fp', b < wr.heap.size from fun b hb => hr.lt b hb)
        have HFZ := Lib.hid hfz
        have HC := Lib.hid hc
        have zg := World.block_lt_of_cell? wr _ q0
        clear hset hsub hgn hr hcs hq hfz hc h1 h2 hys hf ey hl1 hl2 hnd hnd2
        go_upto_region 5 with (
          go_at_call 101; with_reducible refine HM.out.mono ?_; intro e w1 hp1; unfold MarkRow at hp1; obtain ⟨k2, zp, r1', rfl, hk5, hk6, hzl1, hr6, hr7, hc6⟩ := hp1)
        have s0 := Chg.at hc6 q0 HGN.out.1
        have s1 := Chg.at hc6 q1 HGN.out.1
        have hblk1 : w1.heap[g]? = wr.heap[g]? := hc6.block g zg HGN.out.1
        have HM2 := Lib.hid (markInstrS_c (.slice A2 y.instrs.length c2) y.instrs r2 k2 w1 (H2.out.chg hc6 fun b hb hb1 => HD.out b hb1 hb) (by omega) (by omega) ok3)
        have HP1 := Lib.hid hr6
        have HR7 := Lib.hid hr7
        have HC6 := Lib.hid hc6
        have zg1 := World.block_lt_of_cell? w1 _ s0
        clear hr6 hr7 hc6 q0 q1 HM H2
        go_upto_region 6 with (
          go_at_call 92; with_reducible refine HM2.out.mono ?_; intro e w2 hp1; unfold MarkRow at hp1; obtain ⟨k3, zi, r2', rfl, hk7, hk8, hzl2, hr8, hr9, hc8⟩ := hp1)
        have hblk2 : w2.heap[g]? = wr.heap[g]? := (hc8.block g zg1 HGN.out.2).trans hblk1
        have hcg : ∀ o v, wr.cell? ⟨g, o, none⟩ = some v → w2.cell? ⟨g, o, none⟩ = some v := fun o v h => (World.cell?_of_block hblk2).trans h
        have t0 : w2.cell? ⟨g, j * 6, none⟩ = some (.slice A1 y.phis.length c1) := (World.cell?_of_block (hc8.block g zg1 HGN.out.2)).trans s0
        have t1 : w2.cell? ⟨g, j * 6 + 1, none⟩ = some (.slice A2 y.instrs.length c2) := (World.cell?_of_block (hc8.block g zg1 HGN.out.2)).trans s1
        have t2 := hcg _ _ q2
        have t3 := hcg _ _ q3
        have t4 := hcg _ _ q4
        have t5 := hcg _ _ q5
        have hfz1 : ∀ o, w2.frozen? ⟨g, o, none⟩ = false := fun o => by have := HFZ.out o; unfold World.frozen? at this ⊢; rw [hblk2]; exact this
        have f12 := hfz1 (j * 6 + 2)
        have f13 := hfz1 (j * 6 + 3)
        have f14 := hfz1 (j * 6 + 4)
        have f15 := hfz1 (j * 6 + 5)
        have hD' : ∀ b ∈ r1', b ∉ r2 := fun b hb => HD.out b (HR7.out b hb)
        have hPh := HP1.out.chg hc8 (fun b hb hb2 => hD' b hb hb2)
        have hnd' : (r1' ++ r2').Nodup := List.nodup_append.2 ⟨hPh.nd, hr8.nd, fun a ha b hb e => hD' a ha (by rw [e]; exact hr9 b hb)⟩
        obtain ⟨fp2, hr10, hf10, hc10⟩ := HST.out w2 ⟨zp, zi, ⟨k3, k3 + 1, k3 + 1 + 1, k3 + 1 + 1 + 1⟩⟩ [.slice A1 y.phis.length c1, .slice A2 y.instrs.length c2, .int .i64 k3, .int .i64 (k3 + 1), .int .i64 (k3 + 1 + 1), .int .i64 (k3 + 1 + 1 + 1)] (r1' ++ r2') (Nat.le_trans HC6.out.size hc8.size)
          (fun b hb hn => (hc8.block b (Nat.lt_of_lt_of_le (HLT.out b hb) HC6.out.size) (fun h => hn (List.mem_append_right _ h))).trans (HC6.out.block b (HLT.out b hb) (fun h => hn (List.mem_append_left _ h))))
          (kBlock_O (b := ⟨zp, zi, ⟨k3, k3 + 1, k3 + 1 + 1, k3 + 1 + 1 + 1⟩⟩) hPh hr8 hnd') (fun b hb => .inl (by rcases List.mem_append.1 hb with h | h; exact List.mem_append_left _ (HR7.out b h); exact List.mem_append_right _ (hr9 b h)))
        rw [setCells6, set_self t0, set_self t1] at hr10 hc10
        have HR8 := Lib.hid hr10
        have HC8 := Lib.hid (((HC.out.trans (HC6.out.mono fun b _ hb => HF.out b (HSB.out b (List.mem_append_left _ hb)))).trans (hc8.mono fun b _ hb => HF.out b (HSB.out b (List.mem_append_right _ hb)))).trans (hc10.mono fun b _ e => by rw [e]; exact HG.out))
        have HF8 := Lib.hid (show ∀ b ∈ fp2, b ∈ fp from fun b hb => HF.out b ((hf10 b hb).elim id fun h => HSB.out b (by rcases List.mem_append.1 h with h | h; exact List.mem_append_left _ (HR7.out b h); exact List.mem_append_right _ (hr9 b h))))
        clear hr10 hc10 hf10 hr8 hr9 hc8 hblk1 hblk2 hcg hfz1 q2 q3 q4 q5 s0 s1 hD' hPh hnd' HM2
        go_wp2
        go_roundw
        case rel => exact ⟨j + 1, k3 + 1 + 1 + 1 + 1, _, fp2, by omega, by go_num, by omega, by omega, by go_num, by simpa using hy, fun i b h1 hb => by
          rw [List.getElem?_set_ne (by omega)] at hb
          exact HYS.out i b (by omega) hb, HR8.out, HF8.out, HC8.out⟩
        case measure => simp [intOf]; omega
      · have hjn : j = xs.length := by omega
        subst hjn
        have HR := Lib.hid hr
        have HC := Lib.hid hc
        clear hr hc hf
        go_wp2
        go_ret
        exact ⟨_, ys, fp', rfl, by omega, by omega, HY.out, HR.out, HF.out, HC.out⟩
def MarkFunc (n : Nat) (k : Int) (fp : List Nat) (w : World) (e : Ending) (w' : World) : Prop := ∃ k' : Int, e = .returned (.int .i64 k') ∧ k ≤ k' ∧ k' ≤ k + 1099520000000 * (n : Int) ∧ Chg (fun b => b ∈ fp) w w'
set_option maxHeartbeats 1000000 in
theorem markFunc_c (values : Int) (v : Value) (xs : List Block) (fp : List Nat) (k : Int) (w : World) (h : Row 81 (kBlock 2 84 72) w v xs fp) (hk : 0 ≤ k) (hk2 : k ≤ 1048576) (hl : xs.length ≤ 1048576) (hs : ∀ (i : Nat) b, xs[i]? = some b → okBlk 1048576 b) :
    Calls Tryd.prog 35 #[.agg #[.int .i64 values, v], .int .i64 k] w (MarkFunc xs.length k fp w) := by
  obtain ⟨A, c, rfl, -⟩ := h.form
  have HM := Lib.hid (fun W (hb : Below w.heap.size w W) => markBlockS_c _ xs fp k W (h.chg (chg_of hb) (by simp)) hk hk2 hl hs)
  clear h hs
  go_enter Tryd.func35, Tryd.ntmps35
  go_wp2_with (
    go_at_call 71; with_reducible refine (HM.out _ (by (repeat (first | (with_reducible first | exact Below.refl _ _ | assumption | exact ext_box _) | (with_reducible apply Below.drew) | ((with_reducible refine Below.setCell ?_ ?hs _); (case hs => first | (simp; done) | (simp; omega) | omega)) | ((with_reducible refine Below.alloc ?_ ?hs _); (case hs => first | (simp; done) | (simp; omega) | omega)))))).mono ?_; intro e w1 hp1; unfold MarkRow at hp1; obtain ⟨k2, zs, r2, rfl, hk5, hk6, hzl, hr6, hr7, hc6⟩ := hp1
    have HC := Lib.hid (show Chg (fun b => b ∈ fp) w w1 from Chg.trans (by (repeat (first | (with_reducible first | exact Chg.refl _ _ | assumption) | (with_reducible refine Chg.drew ?_) | ((with_reducible refine Chg.setCell ?_ ?hs _); (case hs => first | (simp; done) | (simp; omega) | omega)) | (with_reducible refine Chg.alloc ?_ _)))) hc6)
    clear hr6 hr7 hc6)
  go_ret
  exact ⟨k2, rfl, hk5, hk6, HC.out⟩
end Go.Proofs.YtnnfjjgohhicjaaDoor
namespace Go.Proofs.YtnnfjjgohhicjaaDoor
open Go.RowKit
set_option linter.unusedSimpArgs false
set_option linter.unusedVariables false
set_option maxRecDepth 100000

theorem eqInstr_c (x y : Instr) (w : World) : Calls Tryd.prog 115 #[x.v, y.v] w fun e w' => e = .returned (.bool (decide (x = y))) ∧ Below w.heap.size w w' := by
  obtain ⟨a0, a1, a2, a3, a4⟩ := x
  obtain ⟨b0, b1, b2, b3, b4⟩ := y
  simp only [Instr.v]
  go_enter Tryd.func115, Tryd.ntmps115
  go_wp2
  all_goals go_ret
  all_goals go_light
  all_goals exact ⟨by simp_all, by repeat (first | (with_reducible first | exact Below.refl _ _ | assumption | exact ext_box _) | (with_reducible apply Below.drew) | ((with_reducible refine Below.setCell ?_ ?hs _); (case hs => first | (simp; done) | (simp; omega) | omega)) | ((with_reducible refine Below.alloc ?_ ?hs _); (case hs => first | (simp; done) | (simp; omega) | omega)))⟩
theorem eqTerm_c (x y : Term) (w : World) : Calls Tryd.prog 106 #[x.v, y.v] w fun e w' => e = .returned (.bool (decide (x = y))) ∧ Below w.heap.size w w' := by
  obtain ⟨a0, a1, a2, a3⟩ := x
  obtain ⟨b0, b1, b2, b3⟩ := y
  simp only [Term.v]
  go_enter Tryd.func106, Tryd.ntmps106
  go_wp2
  all_goals go_ret
  all_goals go_light
  all_goals exact ⟨by simp_all, by repeat (first | (with_reducible first | exact Below.refl _ _ | assumption | exact ext_box _) | (with_reducible apply Below.drew) | ((with_reducible refine Below.setCell ?_ ?hs _); (case hs => first | (simp; done) | (simp; omega) | omega)) | ((with_reducible refine Below.alloc ?_ ?hs _); (case hs => first | (simp; done) | (simp; omega) | omega)))⟩
set_option maxHeartbeats 2000000 in
theorem eqInstrS_c (A0 A1 : Option Addr) (c0 c1 : Nat) (xs ys : List Instr) (w : World) (hx : C kInstr w A0 xs) (hy : C kInstr w A1 ys) (hm : xs.length ≤ 140737488351232) (hm2 : ys.length ≤ 140737488351232) :
    Calls Tryd.prog 105 #[.slice A0 xs.length c0, .slice A1 ys.length c1] w fun e w' => e = .returned (.bool (decide (xs = ys))) ∧ Below w.heap.size w w' := by
  go_enter Tryd.func105, Tryd.ntmps105
  by_cases hl : xs.length = ys.length
  · have hb : ((xs.length : Int) != ys.length) = false := by simp [hl]
    have HL := Lib.hid hl
    clear hl
    go_wp2
    go_loopw [5] (fun i wr => ∃ k : Nat, k ≤ xs.length ∧ i = .int .i64 k ∧ xs.take k = ys.take k ∧ ∃ u : Ext w, wr = u.w) (fun i _ => xs.length - (intOf i).toNat)
    case atStart => exact ⟨0, by omega, rfl, by simp, Ext.self w, rfl⟩
    case round =>
      obtain ⟨k, hk, rfl, ht, u, rfl⟩ := hrel
      have HT := Lib.hid ht
      clear ht
      by_cases hlt : k < xs.length
      · obtain ⟨x, ex⟩ := get_of_lt hlt
        obtain ⟨y, ey⟩ := get_of_lt (HL.out ▸ hlt)
        obtain ⟨a0, _, rfl, rfl, hxc⟩ := hx.at ex
        have P0 := hc5E (n := k * 5) hxc
        clear hxc
        obtain ⟨a1, _, rfl, rfl, hyc⟩ := hy.at ey
        have P1 := hc5E (n := k * 5) hyc
        clear hyc
        have hlt2 : k < ys.length := HL.out ▸ hlt
        have EX := Lib.hid ex
        have EY := Lib.hid ey
        by_cases he : x = y
        · have hd : decide (x = y) = true := by simp [he]
          have HE := Lib.hid he
          clear he ex ey
          go_wp2
          refine wp_region_ext (W := w) (by kernel_rfl) (by kernel_rfl) ⟨_, rfl⟩ ?_
          repeat quiet_step ((first | (go_at_call 115; exact ext_of (eqInstr_c x y _))))
          refine wpQuiet_nil ?_
          rintro _ ⟨u, rfl⟩
          go_wp2
          go_roundw
          case rel => exact ⟨k + 1, by omega, by go_num, by rw [take_snoc EX.out, take_snoc EY.out, HT.out, HE.out], _, rfl⟩
          case measure => simp [intOf]; omega
        · have hd : decide (x = y) = false := by simp [he]
          have HE := Lib.hid (show xs ≠ ys by rintro rfl; rw [ex] at ey; injection ey with e; exact he e)
          clear he ex ey
          go_wp2
          refine wp_region_ext (W := w) (by kernel_rfl) (by kernel_rfl) ⟨_, rfl⟩ ?_
          repeat quiet_step ((first | (go_at_call 115; exact ext_of (eqInstr_c x y _))))
          refine wpQuiet_nil ?_
          rintro _ ⟨u, rfl⟩
          go_wp2
          go_ret
          exact ⟨ret_bool (by simp [HE.out]), u.hb⟩
      · have HR := Lib.hid (show xs = ys by have := HT.out; rwa [List.take_of_length_le (by omega), List.take_of_length_le (by have := HL.out; omega)] at this)
        go_wp2
        go_ret
        exact ⟨ret_bool (by simp [HR.out]), u.hb⟩
  · have hb : ((xs.length : Int) != ys.length) = true := by simp; omega
    have HN := Lib.hid (show xs ≠ ys from fun e => hl (by rw [e]))
    clear hl
    go_wp2
    go_ret
    exact ⟨ret_bool (by simp [HN.out]), Below.refl _ _⟩
end Go.Proofs.YtnnfjjgohhicjaaDoor
namespace Go.Proofs.YtnnfjjgohhicjaaDoor
open Go.RowKit
set_option linter.unusedSimpArgs false
set_option linter.unusedVariables false
set_option maxRecDepth 100000

set_option maxHeartbeats 2000000 in
theorem eqInt64S_c (A0 A1 : Option Addr) (c0 c1 : Nat) (xs ys : List Int) (w : World) (hx : C (kInt .i64) w A0 xs) (hy : C (kInt .i64) w A1 ys) (hm : xs.length ≤ 140737488351232) (hm2 : ys.length ≤ 140737488351232) :
    Calls Tryd.prog 29 #[.slice A0 xs.length c0, .slice A1 ys.length c1] w fun e w' => e = .returned (.bool (decide (xs = ys))) ∧ Below w.heap.size w w' := by
  go_enter Tryd.func29, Tryd.ntmps29
  by_cases hl : xs.length = ys.length
  · have hb : ((xs.length : Int) != ys.length) = false := by simp [hl]
    have HL := Lib.hid hl
    clear hl
    go_wp2
    go_loopw [5] (fun i wr => ∃ k : Nat, k ≤ xs.length ∧ i = .int .i64 k ∧ xs.take k = ys.take k ∧ ∃ u : Ext w, wr = u.w) (fun i _ => xs.length - (intOf i).toNat)
    case atStart => exact ⟨0, by omega, rfl, by simp, Ext.self w, rfl⟩
    case round =>
      obtain ⟨k, hk, rfl, ht, u, rfl⟩ := hrel
      have HT := Lib.hid ht
      clear ht
      by_cases hlt : k < xs.length
      · obtain ⟨x, ex⟩ := get_of_lt hlt
        obtain ⟨y, ey⟩ := get_of_lt (HL.out ▸ hlt)
        obtain ⟨a0, _, rfl, rfl, hxc⟩ := hx.at ex
        have P0 := hc1E (n := k * 1) hxc
        rw [Nat.mul_one] at P0
        clear hxc
        obtain ⟨a1, _, rfl, rfl, hyc⟩ := hy.at ey
        have P1 := hc1E (n := k * 1) hyc
        rw [Nat.mul_one] at P1
        clear hyc
        have hlt2 : k < ys.length := HL.out ▸ hlt
        have EX := Lib.hid ex
        have EY := Lib.hid ey
        by_cases he : x = y
        · have hd : (x != y) = false := by simp [he]
          have HE := Lib.hid he
          clear he ex ey
          go_wp2
          refine wp_region_ext (W := w) (by kernel_rfl) (by kernel_rfl) ⟨_, rfl⟩ ?_
          repeat quiet_step ((fail))
          refine wpQuiet_nil ?_
          rintro _ ⟨u, rfl⟩
          go_wp2
          go_roundw
          case rel => exact ⟨k + 1, by omega, by go_num, by rw [take_snoc EX.out, take_snoc EY.out, HT.out, HE.out], _, rfl⟩
          case measure => simp [intOf]; omega
        · have hd : (x != y) = true := by simp [he]
          have HE := Lib.hid (show xs ≠ ys by rintro rfl; rw [ex] at ey; injection ey with e; exact he e)
          clear he ex ey
          go_wp2
          refine wp_region_ext (W := w) (by kernel_rfl) (by kernel_rfl) ⟨_, rfl⟩ ?_
          repeat quiet_step ((fail))
          refine wpQuiet_nil ?_
          rintro _ ⟨u, rfl⟩
          go_wp2
          go_ret
          exact ⟨ret_bool (by simp [HE.out]), u.hb⟩
      · have HR := Lib.hid (show xs = ys by have := HT.out; rwa [List.take_of_length_le (by omega), List.take_of_length_le (by have := HL.out; omega)] at this)
        go_wp2
        go_ret
        exact ⟨ret_bool (by simp [HR.out]), u.hb⟩
  · have hb : ((xs.length : Int) != ys.length) = true := by simp; omega
    have HN := Lib.hid (show xs ≠ ys from fun e => hl (by rw [e]))
    clear hl
    go_wp2
    go_ret
    exact ⟨ret_bool (by simp [HN.out]), Below.refl _ _⟩
set_option maxHeartbeats 2000000 in
theorem eqPhi_c (X1 Y1 : Option Addr) (cX1 cY1 : Nat) (x y : Phi) (w : World) (hx1 : C (kInt .i64) w X1 x.args) (hy1 : C (kInt .i64) w Y1 y.args) (lx1 : x.args.length ≤ 140737488351232) (ly1 : y.args.length ≤ 140737488351232) :
    Calls Tryd.prog 118 #[.agg #[.int .i64 x.dst, .slice X1 x.args.length cX1], .agg #[.int .i64 y.dst, .slice Y1 y.args.length cY1]] w fun e w' => e = .returned (.bool (decide (x = y))) ∧ Below w.heap.size w w' := by
  obtain ⟨x0, x1⟩ := x
  obtain ⟨y0, y1⟩ := y
  dsimp only at *
  go_enter Tryd.func118, Tryd.ntmps118
  go_wp2_with (first | (go_at_call 29; refine (eqInt64S_c _ _ _ _ _ _ _ (hx1.below (by first | assumption | (repeat (first | (with_reducible first | exact Below.refl _ _ | assumption | exact ext_box _) | (with_reducible apply Below.drew) | ((with_reducible refine Below.setCell ?_ ?hs _); (case hs => first | (simp; done) | (simp; omega) | omega)) | ((with_reducible refine Below.alloc ?_ ?hs _); (case hs => first | (simp; done) | (simp; omega) | omega)))))) (hy1.below (by first | assumption | (repeat (first | (with_reducible first | exact Below.refl _ _ | assumption | exact ext_box _) | (with_reducible apply Below.drew) | ((with_reducible refine Below.setCell ?_ ?hs _); (case hs => first | (simp; done) | (simp; omega) | omega)) | ((with_reducible refine Below.alloc ?_ ?hs _); (case hs => first | (simp; done) | (simp; omega) | omega)))))) lx1 ly1).mono ?_; rintro e w2 ⟨rfl, hb2⟩; have HB2 : Below w.heap.size w w2 := Below.then_ (by first | exact Below.drew ‹Below w.heap.size w _› | assumption | (repeat (first | (with_reducible first | exact Below.refl _ _ | assumption | exact ext_box _) | (with_reducible apply Below.drew) | ((with_reducible refine Below.setCell ?_ ?hs _); (case hs => first | (simp; done) | (simp; omega) | omega)) | ((with_reducible refine Below.alloc ?_ ?hs _); (case hs => first | (simp; done) | (simp; omega) | omega))))) hb2; obtain ⟨hc2, hf2⟩ := bcell hb2; have hz2 := hb2.size; have za2 : w.heap.size < w2.heap.size := (by have := hb2.size; (try simp at this); omega); have zb2 : w.heap.size + 1 < w2.heap.size := (by have := hb2.size; (try simp at this); omega)))
  all_goals go_ret
  all_goals go_light
  all_goals exact ⟨by first | (simp_all; done) | (simp_all; omega), by first | assumption | (repeat (first | (with_reducible first | exact Below.refl _ _ | assumption | exact ext_box _) | (with_reducible apply Below.drew) | ((with_reducible refine Below.setCell ?_ ?hs _); (case hs => first | (simp; done) | (simp; omega) | omega)) | ((with_reducible refine Below.alloc ?_ ?hs _); (case hs => first | (simp; done) | (simp; omega) | omega))))⟩
set_option maxHeartbeats 2000000 in
theorem eqPhiS_c (A0 A1 : Option Addr) (c0 c1 : Nat) (xs ys : List Phi) (w : World) (hx : C (kPhi 0) w A0 xs) (hy : C (kPhi 0) w A1 ys) (hm : xs.length ≤ 140737488351232) (hm2 : ys.length ≤ 140737488351232) (bx_ : ∀ (i : Nat) z, xs[i]? = some z → okPhi 140737488351232 z) (by_ : ∀ (i : Nat) z, ys[i]? = some z → okPhi 140737488351232 z) :
    Calls Tryd.prog 109 #[.slice A0 xs.length c0, .slice A1 ys.length c1] w fun e w' => e = .returned (.bool (decide (xs = ys))) ∧ Below w.heap.size w w' := by
  go_enter Tryd.func109, Tryd.ntmps109
  by_cases hl : xs.length = ys.length
  · have hb : ((xs.length : Int) != ys.length) = false := by simp [hl]
    have HL := Lib.hid hl
    clear hl
    go_wp2
    go_loopw [5] (fun i wr => ∃ k : Nat, k ≤ xs.length ∧ i = .int .i64 k ∧ xs.take k = ys.take k ∧ ∃ u : Ext w, wr = u.w) (fun i _ => xs.length - (intOf i).toNat)
    case atStart => exact ⟨0, by omega, rfl, by simp, Ext.self w, rfl⟩
    case round =>
      obtain ⟨k, hk, rfl, ht, u, rfl⟩ := hrel
      have HT := Lib.hid ht
      clear ht
      by_cases hlt : k < xs.length
      · obtain ⟨x, ex⟩ := get_of_lt hlt
        obtain ⟨y, ey⟩ := get_of_lt (HL.out ▸ hlt)
        obtain ⟨a0, _, rfl, ⟨_, _, rfl, rfl, ⟨Ax, cx, rfl, lx, rx⟩⟩, hxc⟩ := hx.at ex
        have P0 := hc2E (n := k * 2) hxc
        have rxE := fun u : Ext w => C.ext rx u
        have mx := bx_ _ _ ex
        clear hxc
        obtain ⟨a1, _, rfl, ⟨_, _, rfl, rfl, ⟨Ay, cy, rfl, ly, ry⟩⟩, hyc⟩ := hy.at ey
        have P1 := hc2E (n := k * 2) hyc
        have ryE := fun u : Ext w => C.ext ry u
        have my := by_ _ _ ey
        clear hyc
        have hlt2 : k < ys.length := HL.out ▸ hlt
        have EX := Lib.hid ex
        have EY := Lib.hid ey
        by_cases he : x = y
        · have hd : decide (x = y) = true := by simp [he]
          have HE := Lib.hid he
          clear he ex ey
          go_wp2
          refine wp_region_ext (W := w) (by kernel_rfl) (by kernel_rfl) ⟨_, rfl⟩ ?_
          repeat quiet_step ((first | (go_at_call 118; exact ext_of (eqPhi_c _ _ _ _ x y _ (rxE _) (ryE _) mx my))))
          refine wpQuiet_nil ?_
          rintro _ ⟨u, rfl⟩
          go_wp2
          go_roundw
          case rel => exact ⟨k + 1, by omega, by go_num, by rw [take_snoc EX.out, take_snoc EY.out, HT.out, HE.out], _, rfl⟩
          case measure => simp [intOf]; omega
        · have hd : decide (x = y) = false := by simp [he]
          have HE := Lib.hid (show xs ≠ ys by rintro rfl; rw [ex] at ey; injection ey with e; exact he e)
          clear he ex ey
          go_wp2
          refine wp_region_ext (W := w) (by kernel_rfl) (by kernel_rfl) ⟨_, rfl⟩ ?_
          repeat quiet_step ((first | (go_at_call 118; exact ext_of (eqPhi_c _ _ _ _ x y _ (rxE _) (ryE _) mx my))))
          refine wpQuiet_nil ?_
          rintro _ ⟨u, rfl⟩
          go_wp2
          go_ret
          exact ⟨ret_bool (by simp [HE.out]), u.hb⟩
      · have HR := Lib.hid (show xs = ys by have := HT.out; rwa [List.take_of_length_le (by omega), List.take_of_length_le (by have := HL.out; omega)] at this)
        go_wp2
        go_ret
        exact ⟨ret_bool (by simp [HR.out]), u.hb⟩
  · have hb : ((xs.length : Int) != ys.length) = true := by simp; omega
    have HN := Lib.hid (show xs ≠ ys from fun e => hl (by rw [e]))
    clear hl
    go_wp2
    go_ret
    exact ⟨ret_bool (by simp [HN.out]), Below.refl _ _⟩
set_option maxHeartbeats 2000000 in
theorem eqBlock_c (X0 Y0 : Option Addr) (cX0 cY0 : Nat) (X1 Y1 : Option Addr) (cX1 cY1 : Nat) (x y : Block) (w : World) (hx0 : C (kPhi 0) w X0 x.phis) (hy0 : C (kPhi 0) w Y0 y.phis) (lx0 : x.phis.length ≤ 140737488351232) (ly0 : y.phis.length ≤ 140737488351232) (hx1 : C kInstr w X1 x.instrs) (hy1 : C kInstr w Y1 y.instrs) (lx1 : x.instrs.length ≤ 140737488351232) (ly1 : y.instrs.length ≤ 140737488351232) (px_ : ∀ (i : Nat) z, x.phis[i]? = some z → okPhi 140737488351232 z) (py_ : ∀ (i : Nat) z, y.phis[i]? = some z → okPhi 140737488351232 z) :
    Calls Tryd.prog 84 #[.agg #[.slice X0 x.phis.length cX0, .slice X1 x.instrs.length cX1, .int .i64 x.term.kind, .int .i64 x.term.a, .int .i64 x.term.to, .int .i64 x.term.els], .agg #[.slice Y0 y.phis.length cY0, .slice Y1 y.instrs.length cY1, .int .i64 y.term.kind, .int .i64 y.term.a, .int .i64 y.term.to, .int .i64 y.term.els]] w fun e w' => e = .returned (.bool (decide (x = y))) ∧ Below w.heap.size w w' := by
  obtain ⟨x0, x1, ⟨x2, x3, x4, x5⟩⟩ := x
  obtain ⟨y0, y1, ⟨y2, y3, y4, y5⟩⟩ := y
  dsimp only at *
  go_enter Tryd.func84, Tryd.ntmps84
  go_wp2_with (first | (go_at_call 109; refine (eqPhiS_c _ _ _ _ _ _ _ (hx0.below (by first | assumption | (repeat (first | (with_reducible first | exact Below.refl _ _ | assumption | exact ext_box _) | (with_reducible apply Below.drew) | ((with_reducible refine Below.setCell ?_ ?hs _); (case hs => first | (simp; done) | (simp; omega) | omega)) | ((with_reducible refine Below.alloc ?_ ?hs _); (case hs => first | (simp; done) | (simp; omega) | omega)))))) (hy0.below (by first | assumption | (repeat (first | (with_reducible first | exact Below.refl _ _ | assumption | exact ext_box _) | (with_reducible apply Below.drew) | ((with_reducible refine Below.setCell ?_ ?hs _); (case hs => first | (simp; done) | (simp; omega) | omega)) | ((with_reducible refine Below.alloc ?_ ?hs _); (case hs => first | (simp; done) | (simp; omega) | omega)))))) lx0 ly0 px_ py_).mono ?_; rintro e w1 ⟨rfl, hb1⟩; have HB1 : Below w.heap.size w w1 := Below.then_ (by first | exact Below.drew ‹Below w.heap.size w _› | assumption | (repeat (first | (with_reducible first | exact Below.refl _ _ | assumption | exact ext_box _) | (with_reducible apply Below.drew) | ((with_reducible refine Below.setCell ?_ ?hs _); (case hs => first | (simp; done) | (simp; omega) | omega)) | ((with_reducible refine Below.alloc ?_ ?hs _); (case hs => first | (simp; done) | (simp; omega) | omega))))) hb1; obtain ⟨hc1, hf1⟩ := bcell hb1; have hz1 := hb1.size; have za1 : w.heap.size < w1.heap.size := (by have := hb1.size; (try simp at this); omega); have zb1 : w.heap.size + 1 < w1.heap.size := (by have := hb1.size; (try simp at this); omega)) | (go_at_call 105; refine (eqInstrS_c _ _ _ _ _ _ _ (hx1.below (by first | assumption | (repeat (first | (with_reducible first | exact Below.refl _ _ | assumption | exact ext_box _) | (with_reducible apply Below.drew) | ((with_reducible refine Below.setCell ?_ ?hs _); (case hs => first | (simp; done) | (simp; omega) | omega)) | ((with_reducible refine Below.alloc ?_ ?hs _); (case hs => first | (simp; done) | (simp; omega) | omega)))))) (hy1.below (by first | assumption | (repeat (first | (with_reducible first | exact Below.refl _ _ | assumption | exact ext_box _) | (with_reducible apply Below.drew) | ((with_reducible refine Below.setCell ?_ ?hs _); (case hs => first | (simp; done) | (simp; omega) | omega)) | ((with_reducible refine Below.alloc ?_ ?hs _); (case hs => first | (simp; done) | (simp; omega) | omega)))))) lx1 ly1).mono ?_; rintro e w2 ⟨rfl, hb2⟩; have HB2 : Below w.heap.size w w2 := Below.then_ (by first | exact Below.drew ‹Below w.heap.size w _› | assumption | (repeat (first | (with_reducible first | exact Below.refl _ _ | assumption | exact ext_box _) | (with_reducible apply Below.drew) | ((with_reducible refine Below.setCell ?_ ?hs _); (case hs => first | (simp; done) | (simp; omega) | omega)) | ((with_reducible refine Below.alloc ?_ ?hs _); (case hs => first | (simp; done) | (simp; omega) | omega))))) hb2; obtain ⟨hc2, hf2⟩ := bcell hb2; have hz2 := hb2.size; have za2 : w.heap.size < w2.heap.size := (by have := hb2.size; (try simp at this); omega); have zb2 : w.heap.size + 1 < w2.heap.size := (by have := hb2.size; (try simp at this); omega)) | (go_at_call 106; refine (eqTerm_c ⟨_, _, _, _⟩ ⟨_, _, _, _⟩ _).mono ?_; rintro e w3 ⟨rfl, hb3⟩; have HB3 : Below w.heap.size w w3 := Below.then_ (by first | exact Below.drew ‹Below w.heap.size w _› | assumption | (repeat (first | (with_reducible first | exact Below.refl _ _ | assumption | exact ext_box _) | (with_reducible apply Below.drew) | ((with_reducible refine Below.setCell ?_ ?hs _); (case hs => first | (simp; done) | (simp; omega) | omega)) | ((with_reducible refine Below.alloc ?_ ?hs _); (case hs => first | (simp; done) | (simp; omega) | omega))))) hb3; obtain ⟨hc3, hf3⟩ := bcell hb3; have hz3 := hb3.size; have za3 : w.heap.size < w3.heap.size := (by have := hb3.size; (try simp at this); omega); have zb3 : w.heap.size + 1 < w3.heap.size := (by have := hb3.size; (try simp at this); omega)))
  all_goals go_ret
  all_goals go_light
  all_goals exact ⟨by first | (simp_all; done) | (simp_all; omega), by first | assumption | (repeat (first | (with_reducible first | exact Below.refl _ _ | assumption | exact ext_box _) | (with_reducible apply Below.drew) | ((with_reducible refine Below.setCell ?_ ?hs _); (case hs => first | (simp; done) | (simp; omega) | omega)) | ((with_reducible refine Below.alloc ?_ ?hs _); (case hs => first | (simp; done) | (simp; omega) | omega))))⟩
set_option maxHeartbeats 2000000 in
theorem eqBlockS_c (A0 A1 : Option Addr) (c0 c1 : Nat) (xs ys : List Block) (w : World) (hx : C (kBlock 0 0 0) w A0 xs) (hy : C (kBlock 0 0 0) w A1 ys) (hm : xs.length ≤ 140737488351232) (hm2 : ys.length ≤ 140737488351232) (bx_ : ∀ (i : Nat) z, xs[i]? = some z → okBlk 140737488351232 z) (by_ : ∀ (i : Nat) z, ys[i]? = some z → okBlk 140737488351232 z) :
    Calls Tryd.prog 54 #[.slice A0 xs.length c0, .slice A1 ys.length c1] w fun e w' => e = .returned (.bool (decide (xs = ys))) ∧ Below w.heap.size w w' := by
  go_enter Tryd.func54, Tryd.ntmps54
  by_cases hl : xs.length = ys.length
  · have hb : ((xs.length : Int) != ys.length) = false := by simp [hl]
    have HL := Lib.hid hl
    clear hl
    go_wp2
    go_loopw [5] (fun i wr => ∃ k : Nat, k ≤ xs.length ∧ i = .int .i64 k ∧ xs.take k = ys.take k ∧ ∃ u : Ext w, wr = u.w) (fun i _ => xs.length - (intOf i).toNat)
    case atStart => exact ⟨0, by omega, rfl, by simp, Ext.self w, rfl⟩
    case round =>
      obtain ⟨k, hk, rfl, ht, u, rfl⟩ := hrel
      have HT := Lib.hid ht
      clear ht
      by_cases hlt : k < xs.length
      · obtain ⟨x, ex⟩ := get_of_lt hlt
        obtain ⟨y, ey⟩ := get_of_lt (HL.out ▸ hlt)
        obtain ⟨a0, _, rfl, ⟨_, _, rfl, ⟨Ax, cx, rfl, lx, rx⟩, _, _, rfl, ⟨Bx, dx, rfl, kx, sx⟩, rfl⟩, hxc⟩ := hx.at ex
        have P0 := hc6E (n := k * 6) hxc
        have rxE := fun u : Ext w => C.ext rx u
        have sxE := fun u : Ext w => C.ext sx u
        have mx := bx_ _ _ ex
        clear hxc
        obtain ⟨a1, _, rfl, ⟨_, _, rfl, ⟨Ay, cy, rfl, ly, ry⟩, _, _, rfl, ⟨By, dy, rfl, ky, sy⟩, rfl⟩, hyc⟩ := hy.at ey
        have P1 := hc6E (n := k * 6) hyc
        have ryE := fun u : Ext w => C.ext ry u
        have syE := fun u : Ext w => C.ext sy u
        have my := by_ _ _ ey
        clear hyc
        have hlt2 : k < ys.length := HL.out ▸ hlt
        have EX := Lib.hid ex
        have EY := Lib.hid ey
        by_cases he : x = y
        · have hd : decide (x = y) = true := by simp [he]
          have HE := Lib.hid he
          clear he ex ey
          go_wp2
          refine wp_region_ext (W := w) (by kernel_rfl) (by kernel_rfl) ⟨_, rfl⟩ ?_
          repeat quiet_step ((first | (go_at_call 84; exact ext_of (eqBlock_c _ _ _ _ _ _ _ _ x y _ (rxE _) (ryE _) mx.1 my.1 (sxE _) (syE _) mx.2.2 my.2.2 mx.2.1 my.2.1))))
          refine wpQuiet_nil ?_
          rintro _ ⟨u, rfl⟩
          go_wp2
          go_roundw
          case rel => exact ⟨k + 1, by omega, by go_num, by rw [take_snoc EX.out, take_snoc EY.out, HT.out, HE.out], _, rfl⟩
          case measure => simp [intOf]; omega
        · have hd : decide (x = y) = false := by simp [he]
          have HE := Lib.hid (show xs ≠ ys by rintro rfl; rw [ex] at ey; injection ey with e; exact he e)
          clear he ex ey
          go_wp2
          refine wp_region_ext (W := w) (by kernel_rfl) (by kernel_rfl) ⟨_, rfl⟩ ?_
          repeat quiet_step ((first | (go_at_call 84; exact ext_of (eqBlock_c _ _ _ _ _ _ _ _ x y _ (rxE _) (ryE _) mx.1 my.1 (sxE _) (syE _) mx.2.2 my.2.2 mx.2.1 my.2.1))))
          refine wpQuiet_nil ?_
          rintro _ ⟨u, rfl⟩
          go_wp2
          go_ret
          exact ⟨ret_bool (by simp [HE.out]), u.hb⟩
      · have HR := Lib.hid (show xs = ys by have := HT.out; rwa [List.take_of_length_le (by omega), List.take_of_length_le (by have := HL.out; omega)] at this)
        go_wp2
        go_ret
        exact ⟨ret_bool (by simp [HR.out]), u.hb⟩
  · have hb : ((xs.length : Int) != ys.length) = true := by simp; omega
    have HN := Lib.hid (show xs ≠ ys from fun e => hl (by rw [e]))
    clear hl
    go_wp2
    go_ret
    exact ⟨ret_bool (by simp [HN.out]), Below.refl _ _⟩
set_option maxHeartbeats 2000000 in
theorem eqFunc_c (X1 Y1 : Option Addr) (cX1 cY1 : Nat) (x y : Func) (w : World) (hx1 : C (kBlock 0 0 0) w X1 x.blocks) (hy1 : C (kBlock 0 0 0) w Y1 y.blocks) (lx1 : x.blocks.length ≤ 140737488351232) (ly1 : y.blocks.length ≤ 140737488351232) (bx_ : ∀ (i : Nat) z, x.blocks[i]? = some z → okBlk 140737488351232 z) (by_ : ∀ (i : Nat) z, y.blocks[i]? = some z → okBlk 140737488351232 z) :
    Calls Tryd.prog 18 #[.agg #[.int .i64 x.values, .slice X1 x.blocks.length cX1], .agg #[.int .i64 y.values, .slice Y1 y.blocks.length cY1]] w fun e w' => e = .returned (.bool (decide (x = y))) ∧ Below w.heap.size w w' := by
  obtain ⟨x0, x1⟩ := x
  obtain ⟨y0, y1⟩ := y
  dsimp only at *
  go_enter Tryd.func18, Tryd.ntmps18
  go_wp2_with (first | (go_at_call 54; refine (eqBlockS_c _ _ _ _ _ _ _ (hx1.below (by first | assumption | (repeat (first | (with_reducible first | exact Below.refl _ _ | assumption | exact ext_box _) | (with_reducible apply Below.drew) | ((with_reducible refine Below.setCell ?_ ?hs _); (case hs => first | (simp; done) | (simp; omega) | omega)) | ((with_reducible refine Below.alloc ?_ ?hs _); (case hs => first | (simp; done) | (simp; omega) | omega)))))) (hy1.below (by first | assumption | (repeat (first | (with_reducible first | exact Below.refl _ _ | assumption | exact ext_box _) | (with_reducible apply Below.drew) | ((with_reducible refine Below.setCell ?_ ?hs _); (case hs => first | (simp; done) | (simp; omega) | omega)) | ((with_reducible refine Below.alloc ?_ ?hs _); (case hs => first | (simp; done) | (simp; omega) | omega)))))) lx1 ly1 bx_ by_).mono ?_; rintro e w2 ⟨rfl, hb2⟩; have HB2 : Below w.heap.size w w2 := Below.then_ (by first | exact Below.drew ‹Below w.heap.size w _› | assumption | (repeat (first | (with_reducible first | exact Below.refl _ _ | assumption | exact ext_box _) | (with_reducible apply Below.drew) | ((with_reducible refine Below.setCell ?_ ?hs _); (case hs => first | (simp; done) | (simp; omega) | omega)) | ((with_reducible refine Below.alloc ?_ ?hs _); (case hs => first | (simp; done) | (simp; omega) | omega))))) hb2; obtain ⟨hc2, hf2⟩ := bcell hb2; have hz2 := hb2.size; have za2 : w.heap.size < w2.heap.size := (by have := hb2.size; (try simp at this); omega); have zb2 : w.heap.size + 1 < w2.heap.size := (by have := hb2.size; (try simp at this); omega)))
  all_goals go_ret
  all_goals go_light
  all_goals exact ⟨by first | (simp_all; done) | (simp_all; omega), by first | assumption | (repeat (first | (with_reducible first | exact Below.refl _ _ | assumption | exact ext_box _) | (with_reducible apply Below.drew) | ((with_reducible refine Below.setCell ?_ ?hs _); (case hs => first | (simp; done) | (simp; omega) | omega)) | ((with_reducible refine Below.alloc ?_ ?hs _); (case hs => first | (simp; done) | (simp; omega) | omega))))⟩
end Go.Proofs.YtnnfjjgohhicjaaDoor
namespace Go.Proofs.YtnnfjjgohhicjaaDoor
open Go.RowKit
set_option linter.unusedSimpArgs false
set_option linter.unusedVariables false
set_option maxRecDepth 100000

set_option maxHeartbeats 800000 in
theorem eqOutcome_c (R : Outc) (A1 A2 A3 A4 : Option Addr) (c1 c2 c3 c4 : Nat) (w : World) (q1 : C kI64 w A1 R.heap) (q2 : C kI64 w A2 R.trace) (q3 : C kI64 w A3 R.heap) (q4 : C kI64 w A4 R.trace) (h1 : R.heap.length ≤ 1048576) (h2 : R.trace.length ≤ 1048576) :
    Calls Tryd.prog 28 #[outV R (.slice A1 R.heap.length c1) (.slice A2 R.trace.length c2), outV R (.slice A3 R.heap.length c3) (.slice A4 R.trace.length c4)] w fun e w' => e = .returned (.bool true) ∧ Below w.heap.size w w' := by
  have HT := Lib.hid (fun W (h : Below w.heap.size w W) => eqInt64S_c A2 A4 c2 c4 R.trace R.trace W (q2.below h) (q4.below h) (by omega) (by omega))
  have HH := Lib.hid (fun W (h : Below w.heap.size w W) => eqInt64S_c A1 A3 c1 c3 R.heap R.heap W (q1.below h) (q3.below h) (by omega) (by omega))
  clear q1 q2 q3 q4
  simp only [outV]
  go_enter Tryd.func28, Tryd.ntmps28
  go_wp2_with (first
    | (go_at_call 29; with_reducible refine (HT.out _ (by (repeat (first | (with_reducible first | exact Below.refl _ _ | assumption | exact ext_box _) | (with_reducible apply Below.drew) | ((with_reducible refine Below.setCell ?_ ?hs _); (case hs => first | (simp; done) | (simp; omega) | omega)) | ((with_reducible refine Below.alloc ?_ ?hs _); (case hs => first | (simp; done) | (simp; omega) | omega)))))).mono ?_; intro e w1 hp1; obtain ⟨rfl, hb1⟩ := hp1; have HB1 : Below w.heap.size w w1 := Below.then_ (by (repeat (first | (with_reducible first | exact Below.refl _ _ | assumption | exact ext_box _) | (with_reducible apply Below.drew) | ((with_reducible refine Below.setCell ?_ ?hs _); (case hs => first | (simp; done) | (simp; omega) | omega)) | ((with_reducible refine Below.alloc ?_ ?hs _); (case hs => first | (simp; done) | (simp; omega) | omega))))) hb1; obtain ⟨hc1, hf1⟩ := bcell hb1; have zw1 := hb1.size; simp at zw1)
    | (go_at_call 29; with_reducible refine (HH.out _ (by (repeat (first | (with_reducible first | exact Below.refl _ _ | assumption | exact ext_box _) | (with_reducible apply Below.drew) | ((with_reducible refine Below.setCell ?_ ?hs _); (case hs => first | (simp; done) | (simp; omega) | omega)) | ((with_reducible refine Below.alloc ?_ ?hs _); (case hs => first | (simp; done) | (simp; omega) | omega)))))).mono ?_; intro e w2 hp2; obtain ⟨rfl, hb2⟩ := hp2; have HB2 : Below w.heap.size w w2 := Below.then_ (by (repeat (first | (with_reducible first | exact Below.refl _ _ | assumption | exact ext_box _) | (with_reducible apply Below.drew) | ((with_reducible refine Below.setCell ?_ ?hs _); (case hs => first | (simp; done) | (simp; omega) | omega)) | ((with_reducible refine Below.alloc ?_ ?hs _); (case hs => first | (simp; done) | (simp; omega) | omega))))) hb2))
  go_ret
  exact ⟨rfl, by (repeat (first | (with_reducible first | exact Below.refl _ _ | assumption | exact ext_box _) | (with_reducible apply Below.drew) | ((with_reducible refine Below.setCell ?_ ?hs _); (case hs => first | (simp; done) | (simp; omega) | omega)) | ((with_reducible refine Below.alloc ?_ ?hs _); (case hs => first | (simp; done) | (simp; omega) | omega))))⟩
end Go.Proofs.YtnnfjjgohhicjaaDoor
