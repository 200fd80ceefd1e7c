/- The law's walk: laws.FnExactEncodeFunc. -/
import Derived.Test.YtnnfjjgohhicjaaDoorMg5
import Derived.Test.YtnnfjjgohhicjaaDoorKy
import Derived.Test.YtnnfjjgohhicjaaDoorMg4
import Derived.Test.YtnnfjjgohhicjaaDoorMg3
import Derived.Test.YtnnfjjgohhicjaaDoorKs
import Derived.Deep.RegionHeld3
namespace Go.Proofs.YtnnfjjgohhicjaaDoor
open Go.RowKit
set_option linter.unusedSimpArgs false
set_option linter.unusedVariables false
set_option maxRecDepth 100000

set_option maxHeartbeats 4000000 in
theorem markPhiS_c (v : Value) (xs : List Phi) (fp : List Nat) (k : Int) (w : World) (h : Row 84 (kPhi 2) w v xs fp) (hk : 0 ≤ k) (hk2 : k ≤ 2305843009213693952) (hl : xs.length ≤ 1048576) (hs : ∀ (i : Nat) p, xs[i]? = some p → p.args.length ≤ 1048576) :
    Calls Tryd.prog 101 #[v, .int .i64 k] w (MarkRow 84 (kPhi 2) v xs.length k (1048577 * (xs.length : Int)) fp w) := by
  rcases h.form' with ⟨rfl, rfl, rfl⟩ | ⟨g, cap, rfl, hg, -⟩
  · have HH := Lib.hid h
    clear h hs
    go_enter Tryd.func101, Tryd.ntmps101
    go_wp2
    go_loopw [1, 5] (fun k1 i wr => k1 = .int .i64 k ∧ i = .int .i64 0 ∧ wr = w) (fun _ _ _ => 0)
    case atStart => exact ⟨rfl, rfl, rfl⟩
    case round =>
      obtain ⟨rfl, rfl, rfl⟩ := hrel
      go_wp2
      go_ret
      exact ⟨k, [], [], by simp, by omega, by simp, rfl, HH.out, fun _ h => h, Chg.refl _ _⟩
  · have HX := Lib.hid h
    have HG := Lib.hid hg
    have HS := Lib.hid hs
    clear h hg hs
    go_enter Tryd.func101, Tryd.ntmps101
    go_wp2
    go_loopw [1, 5] (fun k1 i wr => ∃ (j : Nat) (k' : Int) (ys : List Phi) (fp' : List Nat), j ≤ xs.length ∧ k1 = .int .i64 k' ∧ k ≤ k' ∧ k' ≤ k + 1048577 * (j : Int) ∧ i = .int .i64 j ∧ ys.length = xs.length ∧ (∀ (i : Nat) b, ys[i]? = some b → b.args.length ≤ 1048576) ∧ Row 84 (kPhi 2) wr (.slice (some ⟨g, 0, none⟩) xs.length cap) ys fp' ∧ g ∈ fp' ∧ (∀ b ∈ fp', b ∈ fp) ∧ Chg (fun b => b ∈ fp) w wr) (fun _ i _ => xs.length - (intOf i).toNat)
    case atStart => exact ⟨0, k, xs, fp, by omega, rfl, by omega, by omega, rfl, rfl, HS.out, HX.out, HG.out, fun _ h => h, Chg.refl _ _⟩
    case round =>
      obtain ⟨j, k', ys, fp', hj, rfl, hk3, hk4, rfl, hy, hys, hr, hgf, hf, hc⟩ := hrel
      have HF := Lib.hid hf
      have HY := Lib.hid hy
      have HYS := Lib.hid hys
      by_cases hlt : j < xs.length
      · obtain ⟨y, ey⟩ := get_of_lt (show j < ys.length by omega)
        have hyl := hys _ _ ey
        obtain ⟨_, _, hq, hfz⟩ := hr.cellsAt hy ey
        have f0 := hfz (j * 2)
        have f1 := hfz (j * 2 + 1)
        obtain ⟨_, f9, hO, hcs, hsub, hgn, hset⟩ := hr.focus hy ey
        obtain ⟨_, _, r1, r2, rfl, rfl, hnd, ⟨rfl, rfl⟩, ⟨v0, rfl, r0⟩⟩ := hO
        obtain ⟨A4, c4, rfl, hl4⟩ := r0.form
        obtain ⟨q0, q1⟩ := ha2 (n := j * 2) hcs
        obtain ⟨fp1, hR1, hf1, hc1⟩ := hset wr ⟨k', y.args⟩ [.int .i64 k', .slice A4 y.args.length c4] r2 (Nat.le_refl _) (fun _ _ _ => rfl) (kPhi_O (p := ⟨k', y.args⟩) r0) (fun b hb => .inl (by simpa using hb))
        replace hR1 : Row 84 (kPhi 2) (setCells wr g (j * 2) [.int .i64 k', .slice A4 y.args.length c4]) (.slice (some ⟨g, 0, none⟩) xs.length cap) (ys.set j ⟨k', y.args⟩) fp1 := hR1
        replace hc1 : Chg (fun b => b = g) wr (setCells wr g (j * 2) [.int .i64 k', .slice A4 y.args.length c4]) := hc1
        have hq1 : (wr.setCell ⟨g, j * 2, none⟩ (.int .i64 k')).cell? ⟨g, j * 2 + 1, none⟩ = some (.slice A4 y.args.length c4) := by
          simp [go_sem, q1, f0]
        rw [setCells2, set_self hq1] at hR1 hc1
        have HR1 := Lib.hid hR1
        have HC1 := Lib.hid ((hc).trans (hc1.mono fun b _ e => by rw [e]; exact HG.out))
        have HF1 := Lib.hid (show ∀ b ∈ fp1, b ∈ fp from fun b hb => (hf1 b hb).elim (hf b) fun h => hf b (hsub b (by simpa using h)))
        clear hset hsub hgn hR1 hf1 hc1 hr r0 hcs hq hfz hl4 hnd hc hf hys ey
        go_upto_region 6 with (fail)
        generalize wr.setCell ⟨g, j * 2, none⟩ (.int .i64 k') = W1 at *
        clear q0 q1 f0 f1
        have hy1 : (ys.set j ⟨k', y.args⟩).length = xs.length := by rw [List.length_set]; exact HY.out
        have ey1 : (ys.set j ⟨k', y.args⟩)[j]? = some ⟨k', y.args⟩ := List.getElem?_set_self (by rw [HY.out]; exact hlt)
        obtain ⟨_, f9, hO, hcs, hsub, hgn, hset⟩ := HR1.out.focus hy1 ey1
        obtain ⟨_, _, r1, r3, rfl, rfl, hnd, ⟨rfl, rfl⟩, ⟨v0, rfl, r0⟩⟩ := hO
        obtain ⟨A5, c5, rfl, hl4⟩ := r0.form
        obtain ⟨s0, s1⟩ := ha2 (n := j * 2) hcs
        replace s0 : W1.cell? ⟨g, j * 2, none⟩ = some (.int .i64 k') := s0
        replace s1 : W1.cell? ⟨g, j * 2 + 1, none⟩ = some (.slice A5 y.args.length c5) := s1
        obtain ⟨rfl, rfl⟩ : A4 = A5 ∧ c4 = c5 := by have := hq1.symm.trans s1; simpa using this
        clear hq1
        have HM := Lib.hid (markInt64S_c (.slice A4 y.args.length c4) y.args r3 (k' + 1) W1 r0 (by omega) (by omega) (by omega))
        have HST := Lib.hid hset
        have HSB := Lib.hid hsub
        have HGN := Lib.hid (show g ∉ r3 by simpa using hgn)
        have HLT := Lib.hid (show ∀ b ∈ fp1, b < W1.heap.size from fun b hb => HR1.out.lt b hb)
        have zg := World.block_lt_of_cell? W1 _ s0
        clear hset hsub hgn hcs r0 hl4 hnd
        go_wp2_with (
          go_at_call 30; with_reducible refine HM.out.mono ?_; intro e w1 hp1; unfold MarkPost at hp1; obtain ⟨rfl, hr6, hc6⟩ := hp1
          have t0 := Chg.at hc6 s0 HGN.out
          have t1 := Chg.at hc6 s1 HGN.out
          obtain ⟨fp2, hr8, hf8, hc8⟩ := HST.out w1 ⟨k', mk64 (k' + 1) y.args.length⟩ _ r3 hc6.size (fun b hb hn => hc6.block b (HLT.out b hb) (by simpa using hn)) (kPhi_O (p := ⟨k', mk64 (k' + 1) y.args.length⟩) hr6) (fun b hb => .inl (by simpa using hb))
          replace hr8 : Row 84 (kPhi 2) (setCells w1 g (j * 2) [.int .i64 k', .slice A4 y.args.length c4]) (.slice (some ⟨g, 0, none⟩) xs.length cap) ((ys.set j ⟨k', y.args⟩).set j ⟨k', mk64 (k' + 1) y.args.length⟩) fp2 := hr8
          rw [setCells2, set_self t0, set_self t1] at hr8
          have HR8 := Lib.hid hr8
          have HC8 := Lib.hid (HC1.out.trans (hc6.mono fun b _ hb => HF1.out b (HSB.out b (by simpa using hb))))
          have HF8 := Lib.hid (show ∀ b ∈ fp2, b ∈ fp from fun b hb => HF1.out b ((hf8 b hb).elim id fun h => HSB.out b (by simpa using h)))
          clear hr8 hf8 hc8 hr6 hc6 s0 s1)
        have hgf2 : g ∈ fp2 := by obtain ⟨_, _, _, _, e, _⟩ := HR8.out; rw [e]; simp [Value.ownBlock]
        have HY1 := Lib.hid hy1
        go_roundw
        case rel => exact ⟨j + 1, k' + 1 + (y.args.length : Int), _, fp2, by omega, by go_num, by omega, by omega, by go_num, by rw [List.length_set]; exact HY1.out, fun i b hb => by
          by_cases hi : j = i
          · subst hi
            rw [List.getElem?_set_self (by rw [HY1.out]; exact hlt)] at hb
            obtain rfl := Option.some.inj hb
            simpa [mk64_len] using hyl
          · rw [List.getElem?_set_ne hi, List.getElem?_set_ne hi] at hb
            exact HYS.out i b hb, HR8.out, hgf2, HF8.out, HC8.out⟩
        case measure => simp [intOf]; omega
      · have hjn : j = xs.length := by omega
        subst hjn
        have HR := Lib.hid hr
        have HC := Lib.hid hc
        clear hr hc hf
        go_wp2
        go_ret
        exact ⟨_, ys, fp', rfl, by omega, by omega, HY.out, HR.out, HF.out, HC.out⟩
theorem Row.nd {α : Type} {e : TypeId} {d : Kd α} {w : World} {v : Value} {xs : List α} {fp : List Nat} (h : Row e d w v xs fp) : fp.Nodup := by obtain ⟨_, _, _, _, _, hn⟩ := h; exact hn
set_option maxHeartbeats 4000000 in
theorem markBlockS_c (v : Value) (xs : List Block) (fp : List Nat) (k : Int) (w : World) (h : Row 81 (kBlock 2 84 72) w v xs fp) (hk : 0 ≤ k) (hk2 : k ≤ 1048576) (hl : xs.length ≤ 1048576) (hs : ∀ (i : Nat) b, xs[i]? = some b → okBlk 1048576 b) :
    Calls Tryd.prog 71 #[v, .int .i64 k] w (MarkRow 81 (kBlock 2 84 72) v xs.length k (1099520000000 * (xs.length : Int)) fp w) := by
  rcases h.form' with ⟨rfl, rfl, rfl⟩ | ⟨g, cap, rfl, hg, -⟩
  · have HH := Lib.hid h
    clear h hs
    go_enter Tryd.func71, Tryd.ntmps71
    go_wp2
    go_loopw [1, 5] (fun k1 i wr => k1 = .int .i64 k ∧ i = .int .i64 0 ∧ wr = w) (fun _ _ _ => 0)
    case atStart => exact ⟨rfl, rfl, rfl⟩
    case round =>
      obtain ⟨rfl, rfl, rfl⟩ := hrel
      go_wp2
      go_ret
      exact ⟨k, [], [], by simp, by omega, by simp, rfl, HH.out, fun _ h => h, Chg.refl _ _⟩
  · have HX := Lib.hid h
    have HG := Lib.hid hg
    have HS := Lib.hid (show ∀ j : Nat, ∀ (i : Nat) b, i < xs.length → j ≤ i → xs[i]? = some b → okBlk 1048576 b from fun _ i b _ _ h => hs i b h)
    clear h hg hs
    go_enter Tryd.func71, Tryd.ntmps71
    go_wp2
    go_loopw [1, 5] (fun k1 i wr => ∃ (j : Nat) (k' : Int) (ys : List Block) (fp' : List Nat), j ≤ xs.length ∧ k1 = .int .i64 k' ∧ k ≤ k' ∧ k' ≤ k + 1099520000000 * (j : Int) ∧ i = .int .i64 j ∧ ys.length = xs.length ∧ (∀ (i : Nat) b, j ≤ i → ys[i]? = some b → okBlk 1048576 b) ∧ Row 81 (kBlock 2 84 72) wr (.slice (some ⟨g, 0, none⟩) xs.length cap) ys fp' ∧ (∀ b ∈ fp', b ∈ fp) ∧ Chg (fun b => b ∈ fp) w wr) (fun _ i _ => xs.length - (intOf i).toNat)
    case atStart => exact ⟨0, k, xs, fp, by omega, rfl, by omega, by omega, rfl, rfl, fun i b h1 h2 => HS.out 0 i b (List.getElem?_eq_some_iff.1 h2).1 h1 h2, HX.out, fun _ h => h, Chg.refl _ _⟩
    case round =>
      obtain ⟨j, k', ys, fp', hj, rfl, hk3, hk4, rfl, hy, hys, hr, hf, hc⟩ := hrel
      have HF := Lib.hid hf
      have HY := Lib.hid hy
      have HYS := Lib.hid hys
      by_cases hlt : j < xs.length
      · obtain ⟨y, ey⟩ := get_of_lt (show j < ys.length by omega)
        obtain ⟨ok1, ok2, ok3⟩ := hys _ _ (Nat.le_refl _) ey
        obtain ⟨_, _, hq, hfz⟩ := hr.cellsAt hy ey
        obtain ⟨_, f9, hO, hcs, hsub, hgn, hset⟩ := hr.focus hy ey
        obtain ⟨_, _, r1, r9, rfl, rfl, hnd, ⟨v1, rfl, h1⟩, _, _, r2, r3, rfl, rfl, hnd2, ⟨v2, rfl, h2⟩, rfl, rfl⟩ := hO
        obtain ⟨A1, c1, rfl, hl1⟩ := h1.form
        obtain ⟨A2, c2, rfl, hl2⟩ := h2.form
        obtain ⟨q0, q1, q2, q3, q4, q5⟩ := ha6 (n := j * 6) hcs
        simp only [List.append_nil] at hsub hgn hset hnd hnd2
        replace hset : ∀ (w' : World) (y2 : Block) (cs' : List Value) (f : List Nat), wr.heap.size ≤ w'.heap.size → (∀ b ∈ fp', b ∉ r1 ++ r2 → w'.heap[b]? = wr.heap[b]?) → (kBlock 2 84 72).O w' y2 cs' f → (∀ b ∈ f, b ∈ r1 ++ r2 ∨ b ∉ fp') → ∃ fp'', Row 81 (kBlock 2 84 72) (setCells w' g (j * 6) cs') (.slice (some ⟨g, 0, none⟩) xs.length cap) (ys.set j y2) fp'' ∧ (∀ b ∈ fp'', b ∈ fp' ∨ b ∈ f) ∧ Chg (fun k => k = g) w' (setCells w' g (j * 6) cs') := hset
        replace q0 : wr.cell? ⟨g, j * 6, none⟩ = some (.slice A1 y.phis.length c1) := q0
        replace q1 : wr.cell? ⟨g, j * 6 + 1, none⟩ = some (.slice A2 y.instrs.length c2) := q1
        replace h1 : Row 84 (kPhi 2) wr (.slice A1 y.phis.length c1) y.phis r1 := h1
        replace h2 : Row 72 kInstr wr (.slice A2 y.instrs.length c2) y.instrs r2 := h2
        have HST := Lib.hid hset
        have HSB := Lib.hid hsub
        have HGN := Lib.hid (show g ∉ r1 ∧ g ∉ r2 from ⟨fun hm => hgn (List.mem_append_left _ hm), fun hm => hgn (List.mem_append_right _ hm)⟩)
        have HD := Lib.hid (show ∀ b ∈ r1, b ∉ r2 from fun b hb hb2 => (List.nodup_append.1 hnd).2.2 b hb b hb2 rfl)
        have HM := Lib.hid (markPhiS_c (.slice A1 y.phis.length c1) y.phis r1 k' wr h1 (by omega) (by omega) ok1 (fun i p hp => ok2 i p hp))
        have H2 := Lib.hid h2
        have HLT := Lib.hid (show ∀ b ∈ fp', b < wr.heap.size from fun b hb => hr.lt b hb)
        have HFZ := Lib.hid hfz
        have HC := Lib.hid hc
        have zg := World.block_lt_of_cell? wr _ q0
        clear hset hsub hgn hr hcs hq hfz hc h1 h2 hys hf ey hl1 hl2 hnd hnd2
        go_upto_region 5 with (
          go_at_call 101; with_reducible refine HM.out.mono ?_; intro e w1 hp1; unfold MarkRow at hp1; obtain ⟨k2, zp, r1', rfl, hk5, hk6, hzl1, hr6, hr7, hc6⟩ := hp1)
        have s0 := Chg.at hc6 q0 HGN.out.1
        have s1 := Chg.at hc6 q1 HGN.out.1
        have hblk1 : w1.heap[g]? = wr.heap[g]? := hc6.block g zg HGN.out.1
        have HM2 := Lib.hid (markInstrS_c (.slice A2 y.instrs.length c2) y.instrs r2 k2 w1 (H2.out.chg hc6 fun b hb hb1 => HD.out b hb1 hb) (by omega) (by omega) ok3)
        have HP1 := Lib.hid hr6
        have HR7 := Lib.hid hr7
        have HC6 := Lib.hid hc6
        have zg1 := World.block_lt_of_cell? w1 _ s0
        clear hr6 hr7 hc6 q0 q1 HM H2
        go_upto_region 6 with (
          go_at_call 92; with_reducible refine HM2.out.mono ?_; intro e w2 hp1; unfold MarkRow at hp1; obtain ⟨k3, zi, r2', rfl, hk7, hk8, hzl2, hr8, hr9, hc8⟩ := hp1)
        have hblk2 : w2.heap[g]? = wr.heap[g]? := (hc8.block g zg1 HGN.out.2).trans hblk1
        have hcg : ∀ o v, wr.cell? ⟨g, o, none⟩ = some v → w2.cell? ⟨g, o, none⟩ = some v := fun o v h => (World.cell?_of_block hblk2).trans h
        have t0 : w2.cell? ⟨g, j * 6, none⟩ = some (.slice A1 y.phis.length c1) := (World.cell?_of_block (hc8.block g zg1 HGN.out.2)).trans s0
        have t1 : w2.cell? ⟨g, j * 6 + 1, none⟩ = some (.slice A2 y.instrs.length c2) := (World.cell?_of_block (hc8.block g zg1 HGN.out.2)).trans s1
        have t2 := hcg _ _ q2
        have t3 := hcg _ _ q3
        have t4 := hcg _ _ q4
        have t5 := hcg _ _ q5
        have hfz1 : ∀ o, w2.frozen? ⟨g, o, none⟩ = false := fun o => by have := HFZ.out o; unfold World.frozen? at this ⊢; rw [hblk2]; exact this
        have f12 := hfz1 (j * 6 + 2)
        have f13 := hfz1 (j * 6 + 3)
        have f14 := hfz1 (j * 6 + 4)
        have f15 := hfz1 (j * 6 + 5)
        have hD' : ∀ b ∈ r1', b ∉ r2 := fun b hb => HD.out b (HR7.out b hb)
        have hPh := HP1.out.chg hc8 (fun b hb hb2 => hD' b hb hb2)
        have hnd' : (r1' ++ r2').Nodup := List.nodup_append.2 ⟨hPh.nd, hr8.nd, fun a ha b hb e => hD' a ha (by rw [e]; exact hr9 b hb)⟩
        obtain ⟨fp2, hr10, hf10, hc10⟩ := HST.out w2 ⟨zp, zi, ⟨k3, k3 + 1, k3 + 1 + 1, k3 + 1 + 1 + 1⟩⟩ [.slice A1 y.phis.length c1, .slice A2 y.instrs.length c2, .int .i64 k3, .int .i64 (k3 + 1), .int .i64 (k3 + 1 + 1), .int .i64 (k3 + 1 + 1 + 1)] (r1' ++ r2') (Nat.le_trans HC6.out.size hc8.size)
          (fun b hb hn => (hc8.block b (Nat.lt_of_lt_of_le (HLT.out b hb) HC6.out.size) (fun h => hn (List.mem_append_right _ h))).trans (HC6.out.block b (HLT.out b hb) (fun h => hn (List.mem_append_left _ h))))
          (kBlock_O (b := ⟨zp, zi, ⟨k3, k3 + 1, k3 + 1 + 1, k3 + 1 + 1 + 1⟩⟩) hPh hr8 hnd') (fun b hb => .inl (by rcases List.mem_append.1 hb with h | h; exact List.mem_append_left _ (HR7.out b h); exact List.mem_append_right _ (hr9 b h)))
        rw [setCells6, set_self t0, set_self t1] at hr10 hc10
        have HR8 := Lib.hid hr10
        have HC8 := Lib.hid (((HC.out.trans (HC6.out.mono fun b _ hb => HF.out b (HSB.out b (List.mem_append_left _ hb)))).trans (hc8.mono fun b _ hb => HF.out b (HSB.out b (List.mem_append_right _ hb)))).trans (hc10.mono fun b _ e => by rw [e]; exact HG.out))
        have HF8 := Lib.hid (show ∀ b ∈ fp2, b ∈ fp from fun b hb => HF.out b ((hf10 b hb).elim id fun h => HSB.out b (by rcases List.mem_append.1 h with h | h; exact List.mem_append_left _ (HR7.out b h); exact List.mem_append_right _ (hr9 b h))))
        clear hr10 hc10 hf10 hr8 hr9 hc8 hblk1 hblk2 hcg hfz1 q2 q3 q4 q5 s0 s1 hD' hPh hnd' HM2
        go_wp2
        go_roundw
        case rel => exact ⟨j + 1, k3 + 1 + 1 + 1 + 1, _, fp2, by omega, by go_num, by omega, by omega, by go_num, by simpa using hy, fun i b h1 hb => by
          rw [List.getElem?_set_ne (by omega)] at hb
          exact HYS.out i b (by omega) hb, HR8.out, HF8.out, HC8.out⟩
        case measure => simp [intOf]; omega
      · have hjn : j = xs.length := by omega
        subst hjn
        have HR := Lib.hid hr
        have HC := Lib.hid hc
        clear hr hc hf
        go_wp2
        go_ret
        exact ⟨_, ys, fp', rfl, by omega, by omega, HY.out, HR.out, HF.out, HC.out⟩
def MarkFunc (n : Nat) (k : Int) (fp : List Nat) (w : World) (e : Ending) (w' : World) : Prop := ∃ k' : Int, e = .returned (.int .i64 k') ∧ k ≤ k' ∧ k' ≤ k + 1099520000000 * (n : Int) ∧ Chg (fun b => b ∈ fp) w w'
set_option maxHeartbeats 1000000 in
theorem markFunc_c (values : Int) (v : Value) (xs : List Block) (fp : List Nat) (k : Int) (w : World) (h : Row 81 (kBlock 2 84 72) w v xs fp) (hk : 0 ≤ k) (hk2 : k ≤ 1048576) (hl : xs.length ≤ 1048576) (hs : ∀ (i : Nat) b, xs[i]? = some b → okBlk 1048576 b) :
    Calls Tryd.prog 35 #[.agg #[.int .i64 values, v], .int .i64 k] w (MarkFunc xs.length k fp w) := by
  obtain ⟨A, c, rfl, -⟩ := h.form
  have HM := Lib.hid (fun W (hb : Below w.heap.size w W) => markBlockS_c _ xs fp k W (h.chg (chg_of hb) (by simp)) hk hk2 hl hs)
  clear h hs
  go_enter Tryd.func35, Tryd.ntmps35
  go_wp2_with (
    go_at_call 71; with_reducible refine (HM.out _ (by (repeat (first | (with_reducible first | exact Below.refl _ _ | assumption | exact ext_box _) | (with_reducible apply Below.drew) | ((with_reducible refine Below.setCell ?_ ?hs _); (case hs => first | (simp; done) | (simp; omega) | omega)) | ((with_reducible refine Below.alloc ?_ ?hs _); (case hs => first | (simp; done) | (simp; omega) | omega)))))).mono ?_; intro e w1 hp1; unfold MarkRow at hp1; obtain ⟨k2, zs, r2, rfl, hk5, hk6, hzl, hr6, hr7, hc6⟩ := hp1
    have HC := Lib.hid (show Chg (fun b => b ∈ fp) w w1 from Chg.trans (by (repeat (first | (with_reducible first | exact Chg.refl _ _ | assumption) | (with_reducible refine Chg.drew ?_) | ((with_reducible refine Chg.setCell ?_ ?hs _); (case hs => first | (simp; done) | (simp; omega) | omega)) | (with_reducible refine Chg.alloc ?_ _)))) hc6)
    clear hr6 hr7 hc6)
  go_ret
  exact ⟨k2, rfl, hk5, hk6, HC.out⟩
end Go.Proofs.YtnnfjjgohhicjaaDoor
namespace Go.Proofs.YtnnfjjgohhicjaaDoor
open Go.RowKit
set_option linter.unusedSimpArgs false
set_option linter.unusedVariables false
set_option maxRecDepth 100000

set_option maxHeartbeats 800000 in
theorem eqOutcome_c (R : Outc) (A1 A2 A3 A4 : Option Addr) (c1 c2 c3 c4 : Nat) (w : World) (q1 : C kI64 w A1 R.heap) (q2 : C kI64 w A2 R.trace) (q3 : C kI64 w A3 R.heap) (q4 : C kI64 w A4 R.trace) (h1 : R.heap.length ≤ 1048576) (h2 : R.trace.length ≤ 1048576) :
    Calls Tryd.prog 28 #[outV R (.slice A1 R.heap.length c1) (.slice A2 R.trace.length c2), outV R (.slice A3 R.heap.length c3) (.slice A4 R.trace.length c4)] w fun e w' => e = .returned (.bool true) ∧ Below w.heap.size w w' := by
  have HT := Lib.hid (fun W (h : Below w.heap.size w W) => eqInt64S_c A2 A4 c2 c4 R.trace R.trace W (q2.below h) (q4.below h) (by omega) (by omega))
  have HH := Lib.hid (fun W (h : Below w.heap.size w W) => eqInt64S_c A1 A3 c1 c3 R.heap R.heap W (q1.below h) (q3.below h) (by omega) (by omega))
  clear q1 q2 q3 q4
  simp only [outV]
  go_enter Tryd.func28, Tryd.ntmps28
  go_wp2_with (first
    | (go_at_call 29; with_reducible refine (HT.out _ (by (repeat (first | (with_reducible first | exact Below.refl _ _ | assumption | exact ext_box _) | (with_reducible apply Below.drew) | ((with_reducible refine Below.setCell ?_ ?hs _); (case hs => first | (simp; done) | (simp; omega) | omega)) | ((with_reducible refine Below.alloc ?_ ?hs _); (case hs => first | (simp; done) | (simp; omega) | omega)))))).mono ?_; intro e w1 hp1; obtain ⟨rfl, hb1⟩ := hp1; have HB1 : Below w.heap.size w w1 := Below.then_ (by (repeat (first | (with_reducible first | exact Below.refl _ _ | assumption | exact ext_box _) | (with_reducible apply Below.drew) | ((with_reducible refine Below.setCell ?_ ?hs _); (case hs => first | (simp; done) | (simp; omega) | omega)) | ((with_reducible refine Below.alloc ?_ ?hs _); (case hs => first | (simp; done) | (simp; omega) | omega))))) hb1; obtain ⟨hc1, hf1⟩ := bcell hb1; have zw1 := hb1.size; simp at zw1)
    | (go_at_call 29; with_reducible refine (HH.out _ (by (repeat (first | (with_reducible first | exact Below.refl _ _ | assumption | exact ext_box _) | (with_reducible apply Below.drew) | ((with_reducible refine Below.setCell ?_ ?hs _); (case hs => first | (simp; done) | (simp; omega) | omega)) | ((with_reducible refine Below.alloc ?_ ?hs _); (case hs => first | (simp; done) | (simp; omega) | omega)))))).mono ?_; intro e w2 hp2; obtain ⟨rfl, hb2⟩ := hp2; have HB2 : Below w.heap.size w w2 := Below.then_ (by (repeat (first | (with_reducible first | exact Below.refl _ _ | assumption | exact ext_box _) | (with_reducible apply Below.drew) | ((with_reducible refine Below.setCell ?_ ?hs _); (case hs => first | (simp; done) | (simp; omega) | omega)) | ((with_reducible refine Below.alloc ?_ ?hs _); (case hs => first | (simp; done) | (simp; omega) | omega))))) hb2))
  go_ret
  exact ⟨rfl, by (repeat (first | (with_reducible first | exact Below.refl _ _ | assumption | exact ext_box _) | (with_reducible apply Below.drew) | ((with_reducible refine Below.setCell ?_ ?hs _); (case hs => first | (simp; done) | (simp; omega) | omega)) | ((with_reducible refine Below.alloc ?_ ?hs _); (case hs => first | (simp; done) | (simp; omega) | omega))))⟩
end Go.Proofs.YtnnfjjgohhicjaaDoor
namespace Go.Proofs.YtnnfjjgohhicjaaDoor
open Go.RowKit
set_option linter.unusedSimpArgs false
set_option linter.unusedVariables false
set_option maxRecDepth 100000

def InR (f : List Nat) (lo hi : Nat) : Prop := ∀ b ∈ f, lo ≤ b ∧ b < hi
/-- n0: the argument; n2: the spec's outcome. -/
structure LS2 (w0 : World) (R : Outc) (n0 n2 : Nat) (l0 : List Value) (T0 : TypeId) (vh5 vt5 : Value) (fh5 ft5 : List Nat) (w : World) : Prop where
  hb : Below w0.heap.size w0 w
  k0 : Bk n0 T0 l0 w
  k2 : Bk n2 51 (wolR R vh5 vt5) w
  h5 : Row 2 kI64 w vh5 R.heap fh5
  t5 : Row 2 kI64 w vt5 R.trace ft5
/-- n1: the copy; n3: the program's outcome. -/
structure LSt (w0 : World) (R : Outc) (n0 n1 n2 n3 : Nat) (l0 l1 : List Value) (T0 T1 : TypeId) (vh5 vt5 vh9 vt9 : Value) (fh5 ft5 fh9 ft9 : List Nat) (w : World) : Prop where
  s2 : LS2 w0 R n0 n2 l0 T0 vh5 vt5 fh5 ft5 w
  k1 : Bk n1 T1 l1 w
  k3 : Bk n3 51 (wolR R vh9 vt9) w
  h9 : Row 2 kI64 w vh9 R.heap fh9
  t9 : Row 2 kI64 w vt9 R.trace ft9
section
variable {w0 : World} {R : Outc} {n0 n1 n2 n3 : Nat} {l0 l1 : List Value} {T0 T1 : TypeId} {vh5 vt5 vh9 vt9 : Value} {fh5 ft5 fh9 ft9 : List Nat} {w w' : World} {S : Nat → Prop}
theorem LS2.keep (h : LS2 w0 R n0 n2 l0 T0 vh5 vt5 fh5 ft5 w) (hc : Chg S w w') (hs : ∀ k, S k → w0.heap.size ≤ k ∧ k ≠ n0 ∧ k ≠ n2 ∧ k ∉ fh5 ∧ k ∉ ft5) : LS2 w0 R n0 n2 l0 T0 vh5 vt5 fh5 ft5 w' :=
  ⟨h.hb.trans (hc.below h.hb.size fun k hk => (hs k hk).1), h.k0.chg hc fun e => (hs _ e).2.1 rfl, h.k2.chg hc fun e => (hs _ e).2.2.1 rfl, h.h5.chg hc fun b hb e => (hs _ e).2.2.2.1 hb, h.t5.chg hc fun b hb e => (hs _ e).2.2.2.2 hb⟩
theorem LS2.below (h : LS2 w0 R n0 n2 l0 T0 vh5 vt5 fh5 ft5 w) (hb : Below w.heap.size w w') : LS2 w0 R n0 n2 l0 T0 vh5 vt5 fh5 ft5 w' := h.keep (chg_of hb) fun _ h => h.elim
theorem LSt.keep (h : LSt w0 R n0 n1 n2 n3 l0 l1 T0 T1 vh5 vt5 vh9 vt9 fh5 ft5 fh9 ft9 w) (hc : Chg S w w') (hs : ∀ k, S k → w0.heap.size ≤ k ∧ k ≠ n0 ∧ k ≠ n2 ∧ k ∉ fh5 ∧ k ∉ ft5) (hs2 : ∀ k, S k → k ≠ n1 ∧ k ≠ n3 ∧ k ∉ fh9 ∧ k ∉ ft9) :
    LSt w0 R n0 n1 n2 n3 l0 l1 T0 T1 vh5 vt5 vh9 vt9 fh5 ft5 fh9 ft9 w' :=
  ⟨h.s2.keep hc hs, h.k1.chg hc fun e => (hs2 _ e).1 rfl, h.k3.chg hc fun e => (hs2 _ e).2.1 rfl, h.h9.chg hc fun b hb e => (hs2 _ e).2.2.1 hb, h.t9.chg hc fun b hb e => (hs2 _ e).2.2.2 hb⟩
theorem LSt.below (h : LSt w0 R n0 n1 n2 n3 l0 l1 T0 T1 vh5 vt5 vh9 vt9 fh5 ft5 fh9 ft9 w) (hb : Below w.heap.size w w') : LSt w0 R n0 n1 n2 n3 l0 l1 T0 T1 vh5 vt5 vh9 vt9 fh5 ft5 fh9 ft9 w' := h.keep (chg_of hb) (fun _ h => h.elim) (fun _ h => h.elim)
/-- Blocks of an argument's copy, between the two runs. -/
theorem LSt.mark {fp : List Nat} {s4 s5 s8 s9 lo hi : Nat} (h : LSt w0 R n0 n1 n2 n3 l0 l1 T0 T1 vh5 vt5 vh9 vt9 fh5 ft5 fh9 ft9 w) (hc : Chg (fun b => b ∈ fp) w w') (hf : InR fp lo hi) (h5 : InR fh5 s4 s5) (t5 : InR ft5 s4 s5) (h9 : InR fh9 s8 s9) (t9 : InR ft9 s8 s9)
    (q : w0.heap.size ≤ lo ∧ n0 < lo ∧ n2 < lo ∧ s5 ≤ lo ∧ hi ≤ s8 ∧ hi ≤ n3) (q1 : n1 < lo ∨ hi ≤ n1) : LSt w0 R n0 n1 n2 n3 l0 l1 T0 T1 vh5 vt5 vh9 vt9 fh5 ft5 fh9 ft9 w' := by
  obtain ⟨q2, q3, q4, q5, q6, q7⟩ := q
  refine h.keep hc (fun k hk => ?_) (fun k hk => ?_)
  · have := hf k hk
    exact ⟨by omega, by omega, by omega, fun hm => by have := h5 k hm; omega, fun hm => by have := t5 k hm; omega⟩
  · have := hf k hk
    exact ⟨by omega, by omega, fun hm => by have := h9 k hm; omega, fun hm => by have := t9 k hm; omega⟩
theorem LSt.outs {s4 s5 s8 s9 : Nat} (h : LSt w0 R n0 n1 n2 n3 l0 l1 T0 T1 vh5 vt5 vh9 vt9 fh5 ft5 fh9 ft9 w) (hc : Chg (fun b => b ∈ ft9 ∨ b ∈ fh9) w w') (h5 : InR fh5 s4 s5) (t5 : InR ft5 s4 s5) (h9 : InR fh9 s8 s9) (t9 : InR ft9 s8 s9)
    (q : w0.heap.size ≤ s8 ∧ n0 < s8 ∧ n2 < s8 ∧ s5 ≤ s8 ∧ s9 ≤ n3) : LS2 w0 R n0 n2 l0 T0 vh5 vt5 fh5 ft5 w' ∧ Bk n3 51 (wolR R vh9 vt9) w' := by
  obtain ⟨q2, q3, q4, q5, q6⟩ := q
  have hf : ∀ k, k ∈ ft9 ∨ k ∈ fh9 → s8 ≤ k ∧ k < s9 := fun k hk => hk.elim (t9 k) (h9 k)
  refine ⟨h.s2.keep hc fun k hk => ?_, h.k3.chg hc fun hk => by have := hf _ hk; omega⟩
  have := hf k hk
  exact ⟨by omega, by omega, by omega, fun hm => by have := h5 k hm; omega, fun hm => by have := t5 k hm; omega⟩
end
theorem Row.inR {α : Type} {e : TypeId} {d : Kd α} {w : World} {v : Value} {xs : List α} {fp : List Nat} {lo : Nat} (h : Row e d w v xs fp) (hl : ∀ b ∈ fp, lo ≤ b) : InR fp lo w.heap.size := fun b hb => ⟨hl b hb, h.lt b hb⟩
/-- An outcome's five cells. -/
theorem out5 {n : Nat} {R : Outc} {vh vt : Value} {w : World} (h : Bk n 51 (wolR R vh vt) w) : w.cell? ⟨n, 0, none⟩ = some (.int .i64 R.code) ∧ w.cell? ⟨n, 1, none⟩ = some (.int .i64 R.value) ∧ w.cell? ⟨n, 2, none⟩ = some (.int .i64 R.steps) ∧ w.cell? ⟨n, 3, none⟩ = some vt ∧ w.cell? ⟨n, 4, none⟩ = some vh :=
  ⟨h.cell 0 rfl, h.cell 1 rfl, h.cell 2 rfl, h.cell 3 rfl, h.cell 4 rfl⟩
theorem two {n : Nat} {T : TypeId} {a b : Value} {w : World} (h : Bk n T [a, b] w) : w.cell? ⟨n, 0, none⟩ = some a ∧ w.cell? ⟨n, 1, none⟩ = some b := ⟨h.cell 0 rfl, h.cell 1 rfl⟩
/-- A run's trace is no longer than its fuel; its heap has 32 cells. -/
theorem runS_len (Bf : Int → List Instr × Term) (E : Int → Int → Wd → Wd) (hE : ∀ p q s, (E p q s).trace = s.trace ∧ (E p q s).heap = s.heap) : ∀ (n : Nat) (b : Int) (k : Nat) (s : Wd), (runS Bf E n b k s).trace.length ≤ s.trace.length + n ∧ (runS Bf E n b k s).heap.length = s.heap.length
  | 0, b, k, s => by simp [runS, fin]
  | n + 1, b, k, s => by
    unfold runS
    split
    · split
      · simp [fin, step]
      · rename_i s' he
        obtain ⟨e1, e2, e3, e4, e5, e6⟩ := exec_same he
        have := runS_len Bf E hE n b (k + 1) s'
        simp only [step] at e5 e6
        omega
    · split
      · simp [fin, step]
      · have := runS_len Bf E hE n (nextB (Bf b).2 s) 0 (E b (nextB (Bf b).2 s) (step s))
        rw [(hE _ _ _).1, (hE _ _ _).2, show (step s).trace = s.trace from rfl, show (step s).heap = s.heap from rfl] at this
        omega
theorem runMach_len (m : Mach) (args heap : List Int) (fuel : Int) : (runMach m args heap fuel).trace.length ≤ 1048576 ∧ (runMach m args heap fuel).heap.length ≤ 1048576 := by
  unfold runMach
  split
  · rename_i h
    obtain ⟨-, -, h3, h4⟩ := runOK_iff.1 h.2
    have := runS_len (blkM m) (fun _ _ s => s) (fun _ _ _ => ⟨rfl, rfl⟩) fuel.toNat 0 0 (initW args heap fuel m.regs.toNat)
    rw [show (initW args heap fuel m.regs.toNat).trace.length = 0 from rfl, show (initW args heap fuel m.regs.toNat).heap.length = 32 from heap32_len _] at this
    omega
  · simp [badOut]
end Go.Proofs.YtnnfjjgohhicjaaDoor
namespace Go.Proofs.YtnnfjjgohhicjaaDoor
open Go.RowKit
set_option linter.unusedSimpArgs false
set_option linter.unusedVariables false
set_option maxRecDepth 100000

theorem szL_mem {α : Type} {f : α → Int → Int} (hf : ∀ x l, 0 ≤ l → f x l ≤ l ∧ -1 ≤ f x l) : ∀ (xs : List α) (l : Int), 0 ≤ l → 0 ≤ szL f xs l → ∀ x ∈ xs, ∃ q, 0 ≤ q ∧ q ≤ l ∧ 0 ≤ f x q
  | [], _, _, _, x, hx => by simp at hx
  | y :: r, l, hl, h, x, hx => by
    simp only [szL] at h
    have h1 := hf y l hl
    split at h
    · omega
    · rcases List.mem_cons.1 hx with rfl | hx
      · exact ⟨l, hl, by omega, by omega⟩
      · obtain ⟨q, q0, q1, q2⟩ := szL_mem hf r (f y l) (by omega) h x hx
        exact ⟨q, q0, by omega, q2⟩
theorem okBlk_mono {L L' : Nat} {b : Block} (h : okBlk L b) (hl : L ≤ L') : okBlk L' b := ⟨Nat.le_trans h.1 hl, fun i p hp => Nat.le_trans (h.2.1 i p hp) hl, Nat.le_trans h.2.2 hl⟩
theorem szS_mem {α : Type} {f : α → Int → Int} (hf : ∀ x l, 0 ≤ l → f x l ≤ l ∧ -1 ≤ f x l) {xs : List α} {l : Int} (h0 : 0 ≤ l) (h : ¬ szS f xs l < 0) : (xs.length : Int) ≤ l ∧ ∀ x ∈ xs, ∃ q, 0 ≤ q ∧ q ≤ l ∧ 0 ≤ f x q := by
  have h1 := szN_le xs.length l h0
  unfold szS at h
  split at h
  · omega
  · rename_i hn
    refine ⟨by simp only [szN] at hn; split at hn <;> omega, fun x hx => ?_⟩
    obtain ⟨q, q0, q1, q2⟩ := szL_mem hf xs (szN xs.length l) (by omega) (by omega) x hx
    exact ⟨q, q0, by omega, q2⟩
theorem szFunc_len {m : Func} {l : Int} (h0 : 0 ≤ l) (hl : l ≤ 1048576) (h : ¬ szFunc m l < 0) : (m.blocks.length : Int) ≤ l ∧ ∀ (i : Nat) b, m.blocks[i]? = some b → okBlk 1048576 b := by
  obtain ⟨h1, h2⟩ := szS_mem szBlk_le h0 (xs := m.blocks) h
  refine ⟨h1, fun i b hb => ?_⟩
  obtain ⟨q, q0, q1, q2⟩ := h2 b (List.mem_of_getElem? hb)
  unfold szBlk at q2
  have h3 := szS_le szPhi_le b.phis q q0
  split at q2
  · omega
  · rename_i hn
    obtain ⟨p1, p2⟩ := szS_mem szPhi_le q0 (xs := b.phis) hn
    refine ⟨by omega, fun j p hp => ?_, ?_⟩
    · obtain ⟨r, r0, r1, r2⟩ := p2 p (List.mem_of_getElem? hp)
      simp only [szPhi, szN] at r2
      unfold okPhi
      split at r2 <;> omega
    · simp only [szN] at q2
      split at q2 <;> omega
set_option maxHeartbeats 4000000 in
theorem lawValidFunc_c (A : Option Addr) (c : Nat) (m : Func) (w : World) (hx : C (kBlock 0 0 0) w A m.blocks) (hS : Shapes w) (hn : m.blocks.length ≤ 9223372036854775807) (hm : ∀ (i : Nat) b, m.blocks[i]? = some b → okBlk 9223372036854775807 b) :
    Calls Tryd.prog 4 #[.agg #[.int .i64 m.values, .slice A m.blocks.length c]] w fun e w' => e = .returned (.bool true) ∧ Below w.heap.size w w' := by
  by_cases hz : szFunc m 1048576 < 0
  · have HSZ := Lib.hid (fun W (h : C (kBlock 0 0 0) W A m.blocks) => szFunc_c A c m 1048576 W h hn hm (by omega) (by omega))
    go_enter Tryd.func4, Tryd.ntmps4
    go_wp2_with (go_at_call 14; refine (HSZ.out _ (hx.below (by repeat (first | (with_reducible first | exact Below.refl _ _ | assumption | exact ext_box _) | (with_reducible apply Below.drew) | ((with_reducible refine Below.setCell ?_ ?hs _); (case hs => first | (simp; done) | (simp; omega) | omega)) | ((with_reducible refine Below.alloc ?_ ?hs _); (case hs => first | (simp; done) | (simp; omega) | omega)))))).mono ?_; rintro e w1 ⟨rfl, hb1⟩; have HB1 := Below.then_ (w := w) (by repeat (first | (with_reducible first | exact Below.refl _ _ | assumption | exact ext_box _) | (with_reducible apply Below.drew) | ((with_reducible refine Below.setCell ?_ ?hs _); (case hs => first | (simp; done) | (simp; omega) | omega)) | ((with_reducible refine Below.alloc ?_ ?hs _); (case hs => first | (simp; done) | (simp; omega) | omega)))) hb1)
    go_ret
    exact ⟨rfl, HB1⟩
  · have HSZ := Lib.hid (fun W (h : C (kBlock 0 0 0) W A m.blocks) => szFunc_c A c m 1048576 W h hn hm (by omega) (by omega))
    have HB := Lib.hid (szFunc_len (by omega) (by omega) hz)
    go_enter Tryd.func4, Tryd.ntmps4
    have hbl : m.blocks.length ≤ 1048576 := by have := HB.out.1; omega
    have HIL := Lib.hid (show ∀ (i : Nat) b, m.blocks[i]? = some b → okBlk 1048576 b from HB.out.2)
    have HTO := Lib.hid (fun W (h : C (kBlock 0 0 0) W A m.blocks) => toFunc_c A c m W h hbl HIL.out)
    have HSV := Lib.hid (fun A c W (h : C (kBlock 0 0 0) W A m.blocks) => validFS_c A c m W h hbl HIL.out)
    go_upto_region 6 with (first
      | (go_at_call 14; refine (HSZ.out _ (hx.below (by repeat (first | (with_reducible first | exact Below.refl _ _ | assumption | exact ext_box _) | (with_reducible apply Below.drew) | ((with_reducible refine Below.setCell ?_ ?hs _); (case hs => first | (simp; done) | (simp; omega) | omega)) | ((with_reducible refine Below.alloc ?_ ?hs _); (case hs => first | (simp; done) | (simp; omega) | omega)))))).mono ?_; rintro e w1 ⟨rfl, hb1⟩; have HB1 := Below.then_ (w := w) (by repeat (first | (with_reducible first | exact Below.refl _ _ | assumption | exact ext_box _) | (with_reducible apply Below.drew) | ((with_reducible refine Below.setCell ?_ ?hs _); (case hs => first | (simp; done) | (simp; omega) | omega)) | ((with_reducible refine Below.alloc ?_ ?hs _); (case hs => first | (simp; done) | (simp; omega) | omega)))) hb1; obtain ⟨hc1, hf1⟩ := bcell hb1; have zw1 : w.heap.size < w1.heap.size := (by have := hb1.size; (try simp at this); omega))
      | (go_at_call 16; refine (HTO.out _ (hx.below (by assumption))).mono ?_; rintro e w2 ⟨v2, fp2, rfl, r2, -, hb2⟩; obtain ⟨A2, c2, rfl, hl2⟩ := r2.form; have HR2 : Hid (C (kBlock 0 0 0) w2 A2 m.blocks) := Lib.hid r2.reads; clear r2; have HB2 := Below.then_ (w := w) (by assumption) hb2; obtain ⟨hc2, hf2⟩ := bcell hb2; have zw2 : w.heap.size < w2.heap.size := (by have := hb2.size; (try simp at this); omega))
      | (go_at_call 15; refine (HSV.out _ _ _ HR2.out).mono ?_; rintro e w3 ⟨rfl, hb3⟩; have HB3 := Below.then_ (w := w) (by assumption) hb3; obtain ⟨hc3, hf3⟩ := bcell hb3; have zw3 : w.heap.size < w3.heap.size := (by have := hb3.size; (try simp at this); omega)))
    have HIV := Lib.hid (fun A c W (h : C (kBlock 0 0 0) W A m.blocks) (h2 : Below w.heap.size w W) => validF_i A c m W h (hS.below h2 hS.pos) hbl HIL.out)
    go_upto_region 10 with (first
      | (go_at_call 16; refine (HTO.out _ (hx.below (by assumption))).mono ?_; rintro e w4 ⟨v4, fp4, rfl, r4, -, hb4⟩; obtain ⟨A4, c4, rfl, hl4⟩ := r4.form; have HR4 : Hid (C (kBlock 0 0 0) w4 A4 m.blocks) := Lib.hid r4.reads; clear r4; have HB4 := Below.then_ (w := w) (by assumption) hb4; obtain ⟨hc4, hf4⟩ := bcell hb4; have zw4 : w.heap.size < w4.heap.size := (by have := hb4.size; (try simp at this); omega))
      | (go_at_call 17; refine (HIV.out _ _ _ (HR4.out.below (by repeat (first | (with_reducible first | exact Below.refl _ _ | assumption | exact ext_box _) | (with_reducible apply Below.drew) | ((with_reducible refine Below.setCell ?_ ?hs _); (case hs => first | (simp; done) | (simp; omega) | omega)) | ((with_reducible refine Below.alloc ?_ ?hs _); (case hs => first | (simp; done) | (simp; omega) | omega))))) (by repeat (first | (with_reducible first | exact Below.refl _ _ | assumption | exact ext_box _) | (with_reducible apply Below.drew) | ((with_reducible refine Below.setCell ?_ ?hs _); (case hs => first | (simp; done) | (simp; omega) | omega)) | ((with_reducible refine Below.alloc ?_ ?hs _); (case hs => first | (simp; done) | (simp; omega) | omega))))).mono ?_; rintro e w5 ⟨rfl, hb5⟩; have HB5 := Below.then_ (w := w) (by repeat (first | (with_reducible first | exact Below.refl _ _ | assumption | exact ext_box _) | (with_reducible apply Below.drew) | ((with_reducible refine Below.setCell ?_ ?hs _); (case hs => first | (simp; done) | (simp; omega) | omega)) | ((with_reducible refine Below.alloc ?_ ?hs _); (case hs => first | (simp; done) | (simp; omega) | omega)))) hb5; have HR5 := Lib.hid ((HR4.out.below (by repeat (first | (with_reducible first | exact Below.refl _ _ | assumption | exact ext_box _) | (with_reducible apply Below.drew) | ((with_reducible refine Below.setCell ?_ ?hs _); (case hs => first | (simp; done) | (simp; omega) | omega)) | ((with_reducible refine Below.alloc ?_ ?hs _); (case hs => first | (simp; done) | (simp; omega) | omega))))).below hb5); obtain ⟨hc5, hf5⟩ := bcell hb5; have zv5 : w4.heap.size < w5.heap.size := (by have := hb5.size; (try simp at this); omega); have zw5 : w.heap.size < w5.heap.size := (by have := hb5.size; (try simp at this); omega)))
    have HEQ := Lib.hid (fun A0 A1 c0 c1 W (h : C (kBlock 0 0 0) W A0 m.blocks) (h2 : C (kBlock 0 0 0) W A1 m.blocks) => eqFunc_c A0 A1 c0 c1 m m W h h2 (by omega) (by omega) (fun i b hb => okBlk_mono (HIL.out i b hb) (by omega)) (fun i b hb => okBlk_mono (HIL.out i b hb) (by omega)))
    have y0 : w5.cell? ⟨w4.heap.size, 0, none⟩ = some (.int .i64 m.values) := by simp [*]
    have y1 : w5.cell? ⟨w4.heap.size, 1, none⟩ = some (.slice A4 m.blocks.length c4) := by simp [*]
    have y2 : w5.cell? ⟨w.heap.size, 0, none⟩ = some (.int .i64 m.values) := (hc5 _ _ (by simp; omega)).trans ((((Below.refl _ w4).alloc (Nat.le_refl _) _).cell zw4).trans ((hc4 _ _ zw3).trans ((hc3 _ _ zw2).trans ((hc2 _ _ zw1).trans ((hc1 _ _ (by simp)).trans (by simp))))))
    have y3 : w5.cell? ⟨w.heap.size, 1, none⟩ = some (.slice A m.blocks.length c) := (hc5 _ _ (by simp; omega)).trans ((((Below.refl _ w4).alloc (Nat.le_refl _) _).cell zw4).trans ((hc4 _ _ zw3).trans ((hc3 _ _ zw2).trans ((hc2 _ _ zw1).trans ((hc1 _ _ (by simp)).trans (by simp))))))
    have KS := Lib.hid (fun w' (h : Below w5.heap.size w5 w') => (⟨(h.cell zv5).trans y0, (h.cell zv5).trans y1, (h.cell zw5).trans y2, (h.cell zw5).trans y3, h⟩ : w'.cell? ⟨w4.heap.size, 0, none⟩ = some (.int .i64 m.values) ∧ w'.cell? ⟨w4.heap.size, 1, none⟩ = some (.slice A4 m.blocks.length c4) ∧ w'.cell? ⟨w.heap.size, 0, none⟩ = some (.int .i64 m.values) ∧ w'.cell? ⟨w.heap.size, 1, none⟩ = some (.slice A m.blocks.length c) ∧ Below w5.heap.size w5 w'))
    go_region_held3 (fun w' => w'.cell? ⟨w4.heap.size, 0, none⟩ = some (.int .i64 m.values) ∧ w'.cell? ⟨w4.heap.size, 1, none⟩ = some (.slice A4 m.blocks.length c4) ∧ w'.cell? ⟨w.heap.size, 0, none⟩ = some (.int .i64 m.values) ∧ w'.cell? ⟨w.heap.size, 1, none⟩ = some (.slice A m.blocks.length c) ∧ Below w5.heap.size w5 w') ((refine KS.out _ ?_; (repeat (first | (with_reducible first | exact Below.refl _ _ | assumption | exact ext_box _) | (with_reducible apply Below.drew) | ((with_reducible refine Below.setCell ?_ ?hs _); (case hs => first | (simp; done) | (simp; omega) | omega)) | ((with_reducible refine Below.alloc ?_ ?hs _); (case hs => first | (simp; done) | (simp; omega) | omega))))))
      (first
      | (go_at_call 16; refine (HTO.out _ (hx.below (Below.then_ HB5 (by (repeat (first | (with_reducible first | exact Below.refl _ _ | assumption | exact ext_box _) | (with_reducible apply Below.drew) | ((with_reducible refine Below.setCell ?_ ?hs _); (case hs => first | (simp; done) | (simp; omega) | omega)) | ((with_reducible refine Below.alloc ?_ ?hs _); (case hs => first | (simp; done) | (simp; omega) | omega)))))))).mono ?_; rintro e w6 ⟨v6, fp6, rfl, r6, -, hb6⟩; obtain ⟨A6, c6, rfl, hl6⟩ := r6.form; have HR6 : Hid (C (kBlock 0 0 0) w6 A6 m.blocks) := Lib.hid r6.reads; clear r6; have HR65 := Lib.hid (HR5.out.below (Below.then_ (by repeat (first | (with_reducible first | exact Below.refl _ _ | assumption | exact ext_box _) | (with_reducible apply Below.drew) | ((with_reducible refine Below.setCell ?_ ?hs _); (case hs => first | (simp; done) | (simp; omega) | omega)) | ((with_reducible refine Below.alloc ?_ ?hs _); (case hs => first | (simp; done) | (simp; omega) | omega)))) hb6)); have HB6 := Below.then_ (w := w5) (by repeat (first | (with_reducible first | exact Below.refl _ _ | assumption | exact ext_box _) | (with_reducible apply Below.drew) | ((with_reducible refine Below.setCell ?_ ?hs _); (case hs => first | (simp; done) | (simp; omega) | omega)) | ((with_reducible refine Below.alloc ?_ ?hs _); (case hs => first | (simp; done) | (simp; omega) | omega)))) hb6)
      | (go_at_call 18; refine (HEQ.out _ _ _ _ _ (HR65.out.below (by repeat (first | (with_reducible first | exact Below.refl _ _ | assumption | exact ext_box _) | (with_reducible apply Below.drew) | ((with_reducible refine Below.setCell ?_ ?hs _); (case hs => first | (simp; done) | (simp; omega) | omega)) | ((with_reducible refine Below.alloc ?_ ?hs _); (case hs => first | (simp; done) | (simp; omega) | omega))))) (HR6.out.below (by repeat (first | (with_reducible first | exact Below.refl _ _ | assumption | exact ext_box _) | (with_reducible apply Below.drew) | ((with_reducible refine Below.setCell ?_ ?hs _); (case hs => first | (simp; done) | (simp; omega) | omega)) | ((with_reducible refine Below.alloc ?_ ?hs _); (case hs => first | (simp; done) | (simp; omega) | omega)))))).mono ?_; rintro e w7 ⟨rfl, hb7⟩; have HB7 := Below.then_ (w := w5) (by repeat (first | (with_reducible first | exact Below.refl _ _ | assumption | exact ext_box _) | (with_reducible apply Below.drew) | ((with_reducible refine Below.setCell ?_ ?hs _); (case hs => first | (simp; done) | (simp; omega) | omega)) | ((with_reducible refine Below.alloc ?_ ?hs _); (case hs => first | (simp; done) | (simp; omega) | omega)))) hb7))
    all_goals go_wp2
    all_goals go_ret
    all_goals exact ⟨rfl, Below.trans HB5 (Below.mono (by (repeat (first | (with_reducible first | exact Below.refl _ _ | assumption | exact ext_box _) | (with_reducible apply Below.drew) | ((with_reducible refine Below.setCell ?_ ?hs _); (case hs => first | (simp; done) | (simp; omega) | omega)) | ((with_reducible refine Below.alloc ?_ ?hs _); (case hs => first | (simp; done) | (simp; omega) | omega))))) (by omega))⟩
end Go.Proofs.YtnnfjjgohhicjaaDoor
namespace Go.Proofs.YtnnfjjgohhicjaaDoor
open Go.RowKit
set_option linter.unusedSimpArgs false
set_option linter.unusedVariables false
set_option maxRecDepth 100000

theorem C_blkE {e f g : TypeId} {w : World} {A : Option Addr} {xs : List Block} (h : C (kBlock e f g) w A xs) : C (kBlock 0 0 0) w A xs := by
  first | exact h | (unfold C at h ⊢; exact h) | (simpa [C, kBlock, kPhi, kIso, kProd, kSlice] using h)
theorem encFunc_len (m : Func) : (encFunc m).length ≤ 27 + 1000 * 401000000 := by
  unfold encFunc
  split
  · rename_i h
    have hm := validF_FT h
    have h1 := hm.upto m.blocks.length
    rw [List.take_length] at h1
    have h2 := line_len (word := funcW) hm.vals
    simp only [funcL, List.length_append, List.length_cons, List.length_nil] at h2 ⊢
    omega
  · simp
/-- Memory behind the two texts. -/
structure ESt (w0 : World) (E : List UInt8) (b0 b1 : Nat) (l0 l1 : List Value) (T0 T1 : TypeId) (v4 : Value) (f4 : List Nat) (w : World) : Prop where
  hb : Below w0.heap.size w0 w
  k0 : Bk b0 T0 l0 w
  k1 : Bk b1 T1 l1 w
  r4 : Row 5 kU8 w v4 E f4
namespace ESt
variable {w0 : World} {E : List UInt8} {b0 b1 : Nat} {l0 l1 : List Value} {T0 T1 : TypeId} {v4 : Value} {f4 : List Nat} {w w' : World}
theorem chg {S : Nat → Prop} (h : ESt w0 E b0 b1 l0 l1 T0 T1 v4 f4 w) (hc : Chg S w w') (hw : ∀ k, S k → w0.heap.size ≤ k) (h0 : ¬ S b0) (h1 : ¬ S b1) (h4 : ∀ b ∈ f4, ¬ S b) : ESt w0 E b0 b1 l0 l1 T0 T1 v4 f4 w' :=
  ⟨h.hb.trans (hc.below h.hb.size hw), h.k0.chg hc h0, h.k1.chg hc h1, h.r4.chg hc h4⟩
theorem below (h : ESt w0 E b0 b1 l0 l1 T0 T1 v4 f4 w) (hb : Below w.heap.size w w') : ESt w0 E b0 b1 l0 l1 T0 T1 v4 f4 w' :=
  ⟨h.hb.trans (hb.mono h.hb.size), h.k0.below hb, h.k1.below hb, h.r4.chg (chg_of hb) (by simp)⟩
end ESt
set_option maxHeartbeats 8000000 in
theorem lawEncodeFunc_c (L : Option Addr) (c : Nat) (m : Func) (w : World) (hx : C (kBlock 0 0 0) w L m.blocks) (hG : Globs w) (hn : m.blocks.length ≤ 9223372036854775807) (hm : ∀ (i : Nat) b, m.blocks[i]? = some b → okBlk 9223372036854775807 b) :
    Calls Tryd.prog 7 #[.agg #[.int .i64 m.values, .slice L m.blocks.length c]] w fun e w' => e = .returned (.bool true) ∧ Below w.heap.size w w' := by
  have HSZ := Lib.hid (fun W (h : C (kBlock 0 0 0) W L m.blocks) => szFunc_c L c m 1048576 W h hn hm (by omega) (by omega))
  by_cases hz : szFunc m 1048576 < 0
  · go_enter Tryd.func7, Tryd.ntmps7
    go_wp2_with (go_at_call 14; refine (HSZ.out _ (hx.below (by repeat (first | (with_reducible first | exact Below.refl _ _ | assumption | exact ext_box _) | (with_reducible apply Below.drew) | ((with_reducible refine Below.setCell ?_ ?hs _); (case hs => first | (simp; done) | (simp; omega) | omega)) | ((with_reducible refine Below.alloc ?_ ?hs _); (case hs => first | (simp; done) | (simp; omega) | omega)))))).mono ?_; rintro e w1 ⟨rfl, hb1⟩; have HB1 := Below.then_ (w := w) (by repeat (first | (with_reducible first | exact Below.refl _ _ | assumption | exact ext_box _) | (with_reducible apply Below.drew) | ((with_reducible refine Below.setCell ?_ ?hs _); (case hs => first | (simp; done) | (simp; omega) | omega)) | ((with_reducible refine Below.alloc ?_ ?hs _); (case hs => first | (simp; done) | (simp; omega) | omega)))) hb1)
    go_ret
    exact ⟨rfl, HB1⟩
  · have HB := Lib.hid (szFunc_len (by omega) (by omega) hz)
    have hbl : m.blocks.length ≤ 1048576 := by have := HB.out.1; omega
    have HIL := Lib.hid (show ∀ (i : Nat) b, m.blocks[i]? = some b → okBlk 1048576 b from HB.out.2)
    have HTO := Lib.hid (fun W (h : Below w.heap.size w W) => toFunc_c L c m W (hx.below h) hbl HIL.out)
    obtain ⟨E, hE⟩ : ∃ E, encFunc m = E := ⟨_, rfl⟩
    have hel := encFunc_len m
    rw [hE] at hel
    have hil : (ints8 E).length = E.length := by simp
    have HSV := Lib.hid (fun A c W (h1 : C (kBlock 0 0 0) W A m.blocks) => hE ▸ encFunc_s A c m W h1 hbl HIL.out)
    have HIV := Lib.hid (fun A c W (h1 : C (kBlock 0 0 0) W A m.blocks) (hb : Below w.heap.size w W) => hE ▸ encFunc_i A c m W h1 (hG.bel hb) hbl HIL.out)
    clear hE
    go_enter Tryd.func7, Tryd.ntmps7
    go_upto_region 6 with (first
      | (go_at_call 14; refine (HSZ.out _ (hx.below (by repeat (first | (with_reducible first | exact Below.refl _ _ | assumption | exact ext_box _) | (with_reducible apply Below.drew) | ((with_reducible refine Below.setCell ?_ ?hs _); (case hs => first | (simp; done) | (simp; omega) | omega)) | ((with_reducible refine Below.alloc ?_ ?hs _); (case hs => first | (simp; done) | (simp; omega) | omega)))))).mono ?_; rintro e w1 ⟨rfl, hb1⟩; have HB1 := Below.then_ (w := w) (by repeat (first | (with_reducible first | exact Below.refl _ _ | assumption | exact ext_box _) | (with_reducible apply Below.drew) | ((with_reducible refine Below.setCell ?_ ?hs _); (case hs => first | (simp; done) | (simp; omega) | omega)) | ((with_reducible refine Below.alloc ?_ ?hs _); (case hs => first | (simp; done) | (simp; omega) | omega)))) hb1; have zw1 : w.heap.size < w1.heap.size := (by have := hb1.size; (try simp at this); omega); obtain ⟨hc1, hf1⟩ := bcell hb1)
      | (go_at_call 16; (with_reducible refine (HTO.out _ (by assumption)).mono ?_); intro e w2 hp2; unfold RetFunc at hp2; obtain ⟨v2, fp2, rfl, r2, -, hb2⟩ := hp2; obtain ⟨A2, c2, rfl, hl2⟩ := r2.form; have HR2 := Lib.hid (C_blkE r2.reads); clear r2; have HB2 := Below.then_ (w := w) (by assumption) hb2)
      | (go_at_call 33; (with_reducible refine (HSV.out _ _ _ HR2.out).mono ?_); intro e w4 hp4; unfold RetB at hp4; obtain ⟨A4, c4, f4, rfl, r4, h4, hb4⟩ := hp4; have HB4 := Below.then_ (w := w) (by assumption) hb4; have HR4 := Lib.hid r4; have HF4 := Lib.hid (r4.inR h4); clear r4 h4))
    have hb14 : Below w1.heap.size w1 w4 := Below.then_ hb2 hb4
    have K0 := Lib.hid (((Bk.made w 35 [.int .i64 m.values, .slice L m.blocks.length c]).below hb1).below hb14)
    have y0 := K0.out.cell 0 (v := .int .i64 m.values) rfl
    have y1 := K0.out.cell 1 (v := .slice L m.blocks.length c) rfl
    have zw4 : w.heap.size < w4.heap.size := Nat.lt_of_lt_of_le zw1 hb14.size
    clear hb1 hc1 hf1 hb2 hb4
    go_upto_region 8 with (first
      | (go_at_call 16; (with_reducible refine (HTO.out _ (by assumption)).mono ?_); intro e w5 hp5; unfold RetFunc at hp5; obtain ⟨v5, fp5, rfl, r5, h5, hb5⟩ := hp5; obtain ⟨A5, c5, rfl, hl5⟩ := r5.form; have HR5 := Lib.hid r5; have HF5 := Lib.hid (r5.inR h5); clear r5 h5; have HB5 := Below.then_ (w := w) (by assumption) hb5; have zb5 := hb5.size)
      | (go_at_call 34; (with_reducible refine (HIV.out _ _ _ (C_blkE (HR5.out.chg (chg_of ((Below.refl _ _).alloc (Nat.le_refl _) _)) (by simp)).reads) (HB5.alloc HB5.size _)).mono ?_); intro e w6 hp6; obtain ⟨v6, f6, rfl, hv6, hf6, hb6⟩ := hp6.wv; have HF6 := Lib.hid (show InR f6 (w5.heap.size + 1) w6.heap.size from fun b hb => ⟨by have := hf6 b hb; simpa using this, hv6.lt b hb⟩); have HV6 := Lib.hid hv6; clear hp6 hf6 hv6))
    have hb56 := Below.then_ ((Below.refl w5.heap.size w5).alloc (Nat.le_refl _) (.cells #[.int .i64 m.values, .slice A5 m.blocks.length c5] 40)) hb6
    obtain ⟨A6, c6, rfl, -⟩ := HV6.out.form
    have HV6 := Lib.hid (show Wv (.slice A6 E.length c6) (ints8 E) f6 w6 by have := HV6.out; rwa [hil] at this)
    have HX6 := Lib.hid (show Row 81 (kBlock 2 84 72) w6 (.slice A5 m.blocks.length c5) m.blocks fp5 from HR5.out.chg (chg_of hb56) (by simp))
    have HL6 := Lib.hid (show ESt w E w.heap.size w5.heap.size [.int .i64 m.values, .slice L m.blocks.length c] [.int .i64 m.values, .slice A5 m.blocks.length c5] 35 40 (.slice A4 E.length c4) f4 w6 from
      ⟨HB5.trans (hb56.mono HB5.size), (K0.out.below hb5).below hb56, (Bk.made w5 40 [.int .i64 m.values, .slice A5 m.blocks.length c5]).below hb6, (HR4.out.chg (chg_of hb5) (by simp)).chg (chg_of hb56) (by simp)⟩)
    have zz6 := HL6.out.k1.lt
    have HEQ := Lib.hid (fun W (A A' : Option Addr) (c c' : Nat) (h1 : C (kInt .u8) W A (ints8 E)) (h2 : C (kInt .u8) W A' (ints8 E)) => (by have := eqByteS_c A A' c c' (ints8 E) W h1 h2 (by omega); rwa [hil] at this : Calls Tryd.prog 21 #[.slice A E.length c, .slice A' E.length c'] W fun e w' => e = .returned (.bool true) ∧ Below W.heap.size W w'))
    have HWC := Lib.hid (fun W xs (h : Wv (.slice A6 E.length c6) xs f6 W) => (by obtain ⟨A, c, e, h⟩ := h.form; injection e with e _ _; subst e; exact h : C (kInt .u8) W A6 xs))
    simp only [hil]
    clear hb14 K0 y0 y1 HR2 HB1 HB2 HB4 HSV HSZ hb5 hb6 HR5 HR4 hb56
    go_upto_region 10 with (
      go_at_call 21; (with_reducible refine (HEQ.out w6 _ _ _ _ (HWC.out _ _ HV6.out) (C_u8 HL6.out.r4.reads)).mono ?_); rintro e w7 ⟨rfl, hb7⟩)
    have HL7 := Lib.hid (HL6.out.below hb7)
    have HV7 := Lib.hid (HV6.out.below hb7)
    have HX7 := Lib.hid (HX6.out.chg (chg_of hb7) (by simp))
    have zs7 := hb7.size
    clear hb7 HL6 HV6 HX6
    have KS := Lib.hid (fun w' (h : Below w7.heap.size w7 w') => (by
      have hl := HL7.out.below h
      obtain ⟨a0, a1⟩ := two hl.k0
      obtain ⟨b0, b1⟩ := two hl.k1
      exact ⟨b0, b1, a0, a1, h⟩ : w'.cell? ⟨w5.heap.size, 0, none⟩ = some (.int .i64 m.values) ∧ w'.cell? ⟨w5.heap.size, 1, none⟩ = some (.slice A5 m.blocks.length c5) ∧ w'.cell? ⟨w.heap.size, 0, none⟩ = some (.int .i64 m.values) ∧ w'.cell? ⟨w.heap.size, 1, none⟩ = some (.slice L m.blocks.length c) ∧ Below w7.heap.size w7 w'))
    obtain ⟨k1, k2, k3, k4, -⟩ := KS.out w7 (Below.refl _ _)
    have HW := Lib.hid (fun W (h : Below w7.heap.size w7 W) => HL7.out.hb.trans (h.mono HL7.out.hb.size))
    have HEM := Lib.hid (fun A1 c1 W (h : Below w7.heap.size w7 W) (h2 : C (kBlock 0 0 0) W A1 m.blocks) => eqFunc_c A5 A1 c5 c1 m m W (C_blkE (HX7.out.chg (chg_of h) (by simp)).reads) h2 (by omega) (by omega) (fun i b hb => okBlk_mono (HIL.out i b hb) (by omega)) (fun i b hb => okBlk_mono (HIL.out i b hb) (by omega)))
    have zz7 : w.heap.size < w7.heap.size := HL7.out.k0.lt
    have zy7 : w5.heap.size < w7.heap.size := HL7.out.k1.lt
    go_region_held3 (fun w' => w'.cell? ⟨w5.heap.size, 0, none⟩ = some (.int .i64 m.values) ∧ w'.cell? ⟨w5.heap.size, 1, none⟩ = some (.slice A5 m.blocks.length c5) ∧ w'.cell? ⟨w.heap.size, 0, none⟩ = some (.int .i64 m.values) ∧ w'.cell? ⟨w.heap.size, 1, none⟩ = some (.slice L m.blocks.length c) ∧ Below w7.heap.size w7 w') ((refine KS.out _ ?_; (repeat (first | (with_reducible first | exact Below.refl _ _ | assumption | exact ext_box _) | (with_reducible apply Below.drew) | ((with_reducible refine Below.setCell ?_ ?hs _); (case hs => first | (simp; done) | (simp; omega) | omega)) | ((with_reducible refine Below.alloc ?_ ?hs _); (case hs => first | (simp; done) | (simp; omega) | omega))))))
      (first
      | (go_at_call 16; (with_reducible refine (HTO.out _ (HW.out _ (by (repeat (first | (with_reducible first | exact Below.refl _ _ | assumption | exact ext_box _) | (with_reducible apply Below.drew) | ((with_reducible refine Below.setCell ?_ ?hs _); (case hs => first | (simp; done) | (simp; omega) | omega)) | ((with_reducible refine Below.alloc ?_ ?hs _); (case hs => first | (simp; done) | (simp; omega) | omega))))))).mono ?_); intro e v2 hp2; unfold RetFunc at hp2; obtain ⟨v3, fp3, rfl, r3, -, hb3⟩ := hp2; obtain ⟨B3, e3, rfl, -⟩ := r3.form; have HR3 := Lib.hid (C_blkE r3.reads); clear r3; have HV2 : Below w7.heap.size w7 v2 := Below.then_ (by (repeat (first | (with_reducible first | exact Below.refl _ _ | assumption | exact ext_box _) | (with_reducible apply Below.drew) | ((with_reducible refine Below.setCell ?_ ?hs _); (case hs => first | (simp; done) | (simp; omega) | omega)) | ((with_reducible refine Below.alloc ?_ ?hs _); (case hs => first | (simp; done) | (simp; omega) | omega))))) hb3)
      | (go_at_call 18; (with_reducible refine (HEM.out _ _ _ (by (repeat (first | (with_reducible first | exact Below.refl _ _ | assumption | exact ext_box _) | (with_reducible apply Below.drew) | ((with_reducible refine Below.setCell ?_ ?hs _); (case hs => first | (simp; done) | (simp; omega) | omega)) | ((with_reducible refine Below.alloc ?_ ?hs _); (case hs => first | (simp; done) | (simp; omega) | omega))))) (HR3.out.below (by (repeat (first | (with_reducible first | exact Below.refl _ _ | assumption | exact ext_box _) | (with_reducible apply Below.drew) | ((with_reducible refine Below.setCell ?_ ?hs _); (case hs => first | (simp; done) | (simp; omega) | omega)) | ((with_reducible refine Below.alloc ?_ ?hs _); (case hs => first | (simp; done) | (simp; omega) | omega))))))).mono ?_); rintro e v4 ⟨rfl, hb4⟩; have HV4 : Below w7.heap.size w7 v4 := Below.then_ (by (repeat (first | (with_reducible first | exact Below.refl _ _ | assumption | exact ext_box _) | (with_reducible apply Below.drew) | ((with_reducible refine Below.setCell ?_ ?hs _); (case hs => first | (simp; done) | (simp; omega) | omega)) | ((with_reducible refine Below.alloc ?_ ?hs _); (case hs => first | (simp; done) | (simp; omega) | omega))))) hb4))
    all_goals
      have HL8 := Lib.hid (HL7.out.below HV4)
      have HV8 := Lib.hid (HV7.out.below HV4)
      have HX8 := Lib.hid (HX7.out.chg (chg_of HV4) (by simp))
      have zs8 := HV4.size
      clear k1 k2 k3 k4 KS HL7 HV7 HX7 HEM HW
      go_upto_region 13 with (fail)
      obtain ⟨b0, b1⟩ := two HL8.out.k1
      have HM8 := Lib.hid (markFunc_c m.values (.slice A5 m.blocks.length c5) m.blocks fp5 1 _ HX8.out (by omega) (by omega) hbl HIL.out)
      go_upto_region 14 with (
        go_at_call 35; (with_reducible refine HM8.out.mono ?_); intro e v8 hp; unfold MarkFunc at hp; obtain ⟨k7, rfl, hk7, hk8, hc8⟩ := hp)
      have HL9 := Lib.hid (HL8.out.chg hc8 (fun k hk => by have := HF5.out k hk; omega) (fun h => by have := HF5.out _ h; omega) (fun h => by have := HF5.out _ h; omega) (fun b hb h => by have h1 := HF5.out _ h; have h2 := HF4.out b hb; omega))
      have HV9 := Lib.hid (HV8.out.chg hc8 fun b hb h => by have h1 := HF5.out _ h; have h2 := HF6.out b hb; omega)
      have zs9 := hc8.size
      have hk70 : decide (k7 < 0) = false := by simp; omega
      clear HM8 HX8 HL8 HV8 hc8 b0 b1
      go_upto_region 17 with (
        go_at_call 21; (with_reducible refine (HEQ.out v8 _ _ _ _ (HWC.out _ _ HV9.out) (C_u8 HL9.out.r4.reads)).mono ?_); rintro e v9 ⟨rfl, hb9⟩)
      have HL10 := Lib.hid (HL9.out.below hb9)
      have HV10 := Lib.hid (HV9.out.below hb9)
      have zs10 := hb9.size
      clear HL9 HV9 hb9
      have HMB := Lib.hid (by have := markByteS_c (.slice A6 E.length c6) (ints8 E) f6 1 v9 HV10.out (by omega) (by omega) (by omega); rwa [hil] at this : Calls Tryd.prog 23 #[.slice A6 E.length c6, .int .i64 1] v9 fun e w' => e = .returned (.int .i64 (1 + (E.length : Int))) ∧ Wv (.slice A6 E.length c6) (mk8 1 E.length) f6 w' ∧ Chg (fun b => b ∈ f6) v9 w')
      go_upto_region 18 with (
        go_at_call 23; (with_reducible refine HMB.out.mono ?_); rintro e v10 ⟨rfl, hw10, hc10⟩)
      have HL11 := Lib.hid (HL10.out.chg hc10 (fun k hk => by have := HF6.out k hk; omega) (fun h => by have := HF6.out _ h; omega) (fun h => by have := HF6.out _ h; omega) (fun b hb h => by have h1 := HF6.out _ h; have h2 := HF4.out b hb; omega))
      have HHB := Lib.hid (heldByteS_c (.slice A6 E.length c6) E.length f6 1 v10 hw10 (by omega) (by omega) (by omega))
      have zs11 := hc10.size
      clear HMB HL10 HV10 hw10 hc10
      go_upto_region 24 with (
        go_at_call 24; (with_reducible refine HHB.out.mono ?_); rintro e v11 ⟨rfl, rfl⟩)
      obtain ⟨a0, a1⟩ := two HL11.out.k0
      have HH := Lib.hid HL11.out.hb
      go_upto_region 25 with (first
        | (go_at_call 16; (with_reducible refine (HTO.out _ HH.out).mono ?_); intro e y2 hp2; unfold RetFunc at hp2; obtain ⟨q2, p2, rfl, r2, -, hb2⟩ := hp2; obtain ⟨A2', c2', rfl, -⟩ := r2.form; have HR2 := Lib.hid (C_blkE r2.reads); clear r2; have HB2 := Below.then_ (w := w) HH.out hb2)
        | (go_at_call 34; (with_reducible refine (HIV.out _ _ _ HR2.out HB2).mono ?_); intro e y5 hp5; obtain ⟨v5', f5', rfl, hv5, -, hb5⟩ := hp5.wv; obtain ⟨A5', c5', rfl, hq5⟩ := hv5.form; have HQ5 := Lib.hid hq5; have HLI := Lib.hid (HL11.out.below (Below.then_ hb2 hb5)); have HB5 := Below.then_ (w := w) HB2 hb5; clear hp5))
      try simp only [hil]
      clear a0 a1 hb2 hb5
      go_wp2_with (
        go_at_call 21; (with_reducible refine (HEQ.out y5 _ _ _ _ HQ5.out (C_u8 HLI.out.r4.reads)).mono ?_); rintro e y6 ⟨rfl, hy6⟩; have HY6 := Below.then_ (w := w) HB5 hy6)
      go_ret
      exact ⟨rfl, HY6⟩
end Go.Proofs.YtnnfjjgohhicjaaDoor
