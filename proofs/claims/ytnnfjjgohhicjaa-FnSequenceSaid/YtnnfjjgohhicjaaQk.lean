/- Contract: impl.sequence. -/
import Derived.Test.YtnnfjjgohhicjaaQj
import Derived.Test.YtnnfjjgohhicjaaQn
namespace Go.Proofs.Ytnnfjjgohhicjaa
open Go.RowKit
set_option linter.unusedSimpArgs false
set_option linter.unusedVariables false
set_option maxRecDepth 100000
open Go.Maps

def lenV : Value → Nat
  | .slice _ n _ => n
  | _ => 0
theorem zero64 (w : World) : (zeroValue 2).run Try.prog w = .ok (.int .i64 0) w := by kernel_rfl
def OKL (L : List Move) : Prop := L.length ≤ 64 ∧ ∀ m ∈ L, (0 ≤ m.to ∧ m.to < 64) ∧ -1 ≤ m.src ∧ m.src < 64
theorem wfI {x : Int} (h0 : -9223372036854775808 ≤ x) (h1 : x < 9223372036854775808) : (Lit.int .i64 x).wf = true := WalkArith.wf_i64 (by omega)
/-- How far impl.sequence has come. -/
structure SI (w : World) (b n : Nat) (L Lr : List Move) (outs : List Instr) (t3 : Value) (fp : List Nat) (wr : World) : Prop where
  own : wr.ownsMap Try.prog 2 (plainElem (H := Unit) Try.prog 2) b n (mapD Lr)
  srt : Srt Lr
  okm : Okm Lr
  okl : OKL Lr
  eq : seqM L = outs ++ seqM Lr
  row : Row 41 kInstr wr t3 outs fp
  form : ∃ g cap, t3 = .slice (some ⟨g, 0, none⟩) outs.length cap
  fresh : ∀ q ∈ fp, w.heap.size ≤ q
  chg : Chg (fun q => q = b ∨ w.heap.size ≤ q) w wr
def SeqPost (w : World) (b : Nat) (L : List Move) (e : Ending) (w' : World) : Prop := ∃ v fp, e = .returned v ∧ Row 41 kInstr w' v (seqM L) fp ∧ (∀ q ∈ fp, w.heap.size ≤ q) ∧ Chg (fun q => q = b ∨ w.heap.size ≤ q) w w'
theorem addr_add0 (a : Addr) : a.add 0 = a := if_pos rfl
theorem SI.next {w wv w8 : World} {b n : Nat} {L Lr Lr2 : List Move} {outs : List Instr} {t3 : Value} {fp fp7 : List Nat} {x : Instr} {g3 cap3 : Nat} (h : SI w b n L Lr outs t3 fp wv) (hsm : seqM Lr = x :: seqM Lr2)
    (own : w8.ownsMap Try.prog 2 (plainElem (H := Unit) Try.prog 2) b n (mapD Lr2)) (srt : Srt Lr2) (okm : Okm Lr2) (okl : OKL Lr2) (row : Row 41 kInstr w8 (.slice (some ⟨g3, 0, none⟩) (outs.length + 1) cap3) (outs ++ [x]) fp7)
    (fresh : ∀ q ∈ fp7, w.heap.size ≤ q) (chg : Chg (fun q => q = b ∨ w.heap.size ≤ q) w w8) : SI w b n L Lr2 (outs ++ [x]) (.slice (some ⟨g3, 0, none⟩) (outs.length + 1) cap3) fp7 w8 :=
  ⟨own, srt, okm, okl, by rw [h.eq, hsm, List.append_assoc]; rfl, row, ⟨g3, cap3, by simp⟩, fresh, chg⟩
theorem okl_filter {L : List Move} (p : Move → Bool) (h : OKL L) : OKL (L.filter p) := ⟨Nat.le_trans (List.length_filter_le _ _) h.1, fun m hm => h.2 m (List.mem_filter.1 hm).1⟩
theorem okl_scr {L : List Move} (r : Int) (h : OKL L) : OKL (L.map (scr r)) := by
  refine ⟨by simpa using h.1, fun m hm => ?_⟩
  obtain ⟨x, hx, rfl⟩ := List.mem_map.1 hm
  have := h.2 x hx
  unfold scr
  split
  · exact ⟨this.1, by show -1 ≤ (-1 : Int); omega, by show (-1 : Int) < 64; omega⟩
  · exact this
set_option maxHeartbeats 8000000 in
theorem sequence_c (b n : Nat) (L : List Move) (w : World) (hown : w.ownsMap Try.prog 2 (plainElem (H := Unit) Try.prog 2) b n (mapD L)) (hs : Srt L) (ho : Okm L) (hL : OKL L) (hn : n < maxLen) :
    Calls Try.prog 20 #[.map (some b)] w (SeqPost w b L) := by
  obtain ⟨i0, hi, hz0, hz1, hz2⟩ := info_parts info_instr
  have hmm := @run_makeMap Try.prog
  have hbl := hown.lt
  have hsl := seqM_len L
  have hl64 := hL.1
  have HSI := Lib.hid (SI.mk (w := w) (b := b) (n := n) (L := L) (Lr := L) (outs := []) (t3 := .slice (some ⟨w.heap.size, 0, none⟩) 0 0) (fp := [w.heap.size]) (wr := w.alloc (.cells #[] 41)) (hown.alloc _) hs ho hL rfl (Row.empty0 rfl) ⟨_, _, rfl⟩ (by simp) ((Chg.refl _ _).alloc _))
  clear hown hs ho hL
  go_enter Try.func20, Try.ntmps20
  go_wp2
  go_loopw [3] (fun t3 wr => ∃ (Lr : List Move) (outs : List Instr) (fp : List Nat), SI w b n L Lr outs t3 fp wr) (fun t3 _ => 200 - lenV t3)
  case atStart => exact ⟨_, _, _, HSI.out⟩
  case round =>
    clear HSI
    obtain ⟨Lr, outs, fp, hsi⟩ := hrel
    obtain ⟨wv, hwv⟩ : ∃ x, x = wr := ⟨_, rfl⟩
    subst hwv
    have HSI := Lib.hid hsi
    obtain ⟨g, cap, rfl⟩ := hsi.form
    have hol : outs.length + (seqM Lr).length ≤ 128 := by have := hsi.eq; rw [this, List.length_append] at hsl; omega
    have hw0 := hsi.chg.size
    have hown := hsi.own
    have hrl := hsi.okl.1
    clear hsi
    have hsz : Maps.size (mapD Lr) = Lr.length := size_mapD Lr
    by_cases hem : Lr.length = 0
    · have HE := Lib.hid (show seqM L = outs by rw [HSI.out.eq, List.eq_nil_of_length_eq_zero hem, seqM_nil, List.append_nil])
      go_wp2_with (at_len; refine wpList_len_own _ rfl _ 47 rfl 2 2 Try.underlying47 _ b n (mapD Lr) rfl hown ?_; rw [hsz])
      go_ret
      exact ⟨_, fp, rfl, by rw [HE.out]; exact HSI.out.row, HSI.out.fresh, HSI.out.chg⟩
    · have hpos : 0 < Lr.length := by omega
      have HO := Lib.hid hown
      go_wp2_with (first
        | (at_len; refine wpList_len_own _ rfl _ 47 rfl 2 2 Try.underlying47 _ b n (mapD Lr) rfl hown ?_; rw [hsz])
        | (at_range; refine wpList_range_own _ rfl _ 47 rfl 2 2 law64 Try.underlying47 _ b n (mapD Lr) rfl (HO.out.alloc _) ?_; intro w0 hrg0 hg0 hs0)
        | go_in)
      go_frame
      simp only [World.size_alloc] at hrg0 hs0 ⊢
      have HC0 := Lib.hid (show Chg (fun q => wv.heap.size ≤ q) wv w0 from ((Chg.refl _ wv).alloc (.map #[] 0)).trans ((chg_of_g hg0).mono fun _ _ h => h.elim))
      have HM0 := Lib.hid ((World.ownsMap_made (H := Unit) wv Try.prog 2 (plainElem (H := Unit) Try.prog 2)).kept hg0 (by simp))
      clear hg0 hown
      go_loopw [6] (fun _ wq => ∃ (left : Lit → Bool) (cnt n2 : Nat) (Dr : DataW Unit), wq.ranges Try.prog 2 (plainElem (H := Unit) Try.prog 2) b (wv.heap.size + 1) n (mapD Lr) left cnt ∧ wq.ownsMap Try.prog 2 (plainElem (H := Unit) Try.prog 2) wv.heap.size n2 Dr ∧ RdOK Dr Lr left ∧ n2 + cnt ≤ 64 ∧ Chg (fun q => wv.heap.size ≤ q) wv wq) (fun _ wq => wq.rangeLeft b (wv.heap.size + 1))
      case atStart => exact ⟨_, _, 0, _, hrg0, HM0.out, rd_start Lr, by omega, HC0.out⟩
      case round =>
        clear HC0 HM0 hrg0 HO
        obtain ⟨left, cnt, n2, Dr, hrg, hm, hrd, hnc, hc⟩ := hrel
        have HM := Lib.hid hm
        have HRD := Lib.hid hrd
        have HC := Lib.hid hc
        have HG := Lib.hid hrg
        clear hm hrd hc
        go_wp2_with (first
          | (at_next; refine wpList_next_ranges_ii _ rfl _ rfl 2 2 .i64 .i64 law64 Try.underlying2 Try.underlying2 b (wv.heap.size + 1) n _ _ _ rfl hrg ?_ ?_)
          | go_in)
        · intro _ hl0
          have HL0 := Lib.hid hl0
          have HO2 := Lib.hid hrg.owns
          have HIN := Lib.hid (inOrder_c b n Lr wr hrg.owns HSI.out.srt (by omega))
          have hwz := HC.out.size
          clear hrg hl0
          go_wp2_with (go_at_call 27; (with_reducible refine HIN.out.mono ?_); intro e w5 hp; unfold RetRow at hp; obtain ⟨v5, fp5, rfl, hr5, hf5, hb5⟩ := hp; obtain ⟨A5, c5, rfl, -⟩ := hr5.form; have HK := Lib.hid hr5.reads; have HB5 := Lib.hid hb5; clear hr5 hf5 hb5)
          have hkl : (Lr.map (·.to)).length = Lr.length := by simp
          have HM5 := Lib.hid (ownsMap_below HM.out HB5.out)
          have HO5 := Lib.hid (ownsMap_below HO2.out HB5.out)
          have HC5 := Lib.hid (HC.out.trans ((Chg.of_below HB5.out).mono fun q _ hq => Nat.le_trans hwz hq))
          (try simp only [hkl])
          clear HM HO2 HIN HB5 HC HG
          have HR5 := Lib.hid (HSI.out.row.chg HC5.out (fun q hq h => by have := HSI.out.row.lt q hq; omega))
          have HCW := Lib.hid (HSI.out.chg.trans (HC5.out.mono fun q _ hq => .inr (Nat.le_trans hw0 hq)))
          have hol2 : outs.length ≤ 128 := by omega
          have hfb : b ∉ fp := fun hm => by have := HSI.out.fresh b hm; omega
          go_loopw [3, 7, 31] (fun t3 t7 t31 wq => ∃ k : Nat, k ≤ Lr.length ∧ t31 = .int .i64 k ∧ t7 = .bool false ∧ t3 = .slice (some ⟨g, 0, none⟩) outs.length cap ∧ wq = w5 ∧ ∀ j, j < k → ∀ m, Lr[j]? = some m → isSrc Lr m.to = true) (fun _ _ t31 _ => Lr.length - (intOf t31).toNat)
          case atStart => exact ⟨0, by omega, rfl, rfl, rfl, rfl, fun j hj => by omega⟩
          case round =>
            obtain ⟨k, hk, rfl, rfl, rfl, hww, hsrc⟩ := hrel
            subst hww
            have HSR := Lib.hid hsrc
            clear hsrc
            by_cases hlt : k < Lr.length
            · obtain ⟨m, em⟩ := get_of_lt hlt
              obtain ⟨a, _, rfl, rfl, hc⟩ := HK.out.at (i := k) (x := m.to) (by rw [List.getElem?_map, em]; rfl)
              have v0 := hc1 (n := k * 1) hc
              rw [Nat.mul_one] at v0
              have hmm1 := List.mem_of_getElem? em
              obtain ⟨⟨m1, m2⟩, m3, m4⟩ := HSI.out.okl.2 m hmm1
              have hkt := HRD.out.2 m.to
              have hks := atKey_mapD HSI.out.srt hmm1 (.lit (li 0))
              have hiff := cntS_end (L := Lr) HL0.out m.to
              have hwt : (Lit.int .i64 m.to).wf = true := wfI (by omega) (by omega)
              have HKT := Lib.hid hkt
              have HKS := Lib.hid hks
              have HEM := Lib.hid em
              clear hc hkt hks em
              by_cases hsr : isSrc Lr m.to = true
              · have h0 : 0 < cntS Lr left m.to := hiff.2 hsr
                clear hiff
                go_wp2_with (at_lookup; refine wpList_lookup_own_int _ rfl _ _ 47 rfl 2 2 .i64 law64 Try.underlying47 Try.underlying2 (zero64 _) wv.heap.size n2 Dr rfl HM5.out _ _ rfl (keyOf_int_mk Try.underlying2 hwt) ?_; intro c2 hat2 hwc2; obtain rfl : c2 = cntS Lr left m.to := by { rw [HKT.out] at hat2; injection hat2 with hat2; injection hat2 with _ hat2; exact hat2.symm })
                go_roundw
                case rel => exact ⟨k + 1, by omega, by go_num, rfl, rfl, by first | rfl | trivial, fun j hj x hx => by
                  by_cases e : j = k
                  · subst e; rw [HEM.out] at hx; obtain rfl := Option.some.inj hx; exact hsr
                  · exact HSR.out j (by omega) x hx⟩
                case measure => simp [intOf]; omega
              · have h0 : ¬ 0 < cntS Lr left m.to := fun h => hsr (hiff.1 h)
                have HF := Lib.hid (show (Lr.find? fun m => !isSrc Lr m.to) = some m from find_at (k := k) (fun j hj x hx => by simp [HSR.out j hj x hx]) HEM.out (by simpa using hsr))
                have HSM := Lib.hid (seqM_mv HSI.out.okm HF.out)
                have tok1 : True := trivial
                clear hiff
                by_cases hm1 : m.src = -1
                · have HMV := Lib.hid (show mvI m = ⟨13, m.to, 0, 0, 0⟩ by simp [mvI, hm1])
                  go_wp2_with (first
                    | (at_lookup; have _t := tok1; refine wpList_lookup_own_int _ rfl _ _ 47 rfl 2 2 .i64 law64 Try.underlying47 Try.underlying2 (zero64 _) wv.heap.size n2 Dr rfl HM5.out _ _ rfl (keyOf_int_mk Try.underlying2 hwt) ?_; intro c2 hat2 hwc2; obtain rfl : c2 = cntS Lr left m.to := by { rw [HKT.out] at hat2; injection hat2 with hat2; injection hat2 with _ hat2; exact hat2.symm }; clear tok1)
                    | (at_lookup; refine wpList_lookup_own_int _ rfl _ _ 47 rfl 2 2 .i64 law64 Try.underlying47 Try.underlying2 (zero64 _) b n (mapD Lr) rfl HO5.out _ _ rfl (keyOf_int_mk Try.underlying2 hwt) ?_; intro c3 hat3 hwc3; obtain rfl : c3 = -1 := by { rw [HKS.out, hm1] at hat3; injection hat3 with hat3; injection hat3 with _ hat3; exact hat3.symm })
                    | (at_builtin; refine wpList_append_row kInstr rfl _ _ 25 rfl 41 i0 _ 40 Try.underlying25 hi hz0 hz1 hz2 rfl (by decide) _ outs fp rfl (HR5.out.chg (S := fun _ => False) (by (repeat (first | (with_reducible first | exact Chg.refl _ _ | assumption) | (with_reducible refine Chg.drew ?_) | ((with_reducible refine Chg.setCell ?_ ?hs _); (case hs => first | (simp; done) | (simp; omega) | omega)) | (with_reducible refine Chg.alloc ?_ _)))) (by simp)) _ _ [.int .i64 13, .int .i64 m.to, .int .i64 0, .int .i64 0, .int .i64 0] (mvI m) [] rfl ⟨by rw [HMV.out], rfl⟩ (by simp) (box_news (by simp)) (by simp [maxLen]; omega) (by omega) ?_; intro g3 cap3 w7 fp7 hr7 hf7 hC7; have HO7 := Lib.hid (ownsMap_chg (HO5.out.alloc _) hC7 hfb))
                    | (at_delete; refine wpList_delete_own _ rfl _ _ 47 2 rfl 2 law64 Try.underlying47 _ b n (mapD Lr) rfl HO7.out _ _ rfl (keyOf_int_mk Try.underlying2 hwt) ?_; intro w8 hown8 hturn8))
                  have hw5 := HCW.out.size
                  have hfr : ∀ q ∈ fp7, w.heap.size ≤ q := fun q hq => by
                    rcases hf7 q hq with h | h | h
                    · exact HSI.out.fresh q h
                    · simp at h
                    · simp at h; omega
                  have hC78 : Chg (fun q => q = b) w7 w8 := (Chg.of_grown hturn8.grown).mono fun q _ hq => by simpa [eq_comm] using hq
                  rw [del_mapD] at hown8
                  refine ⟨⟨_, _, fp7, SI.next HSI.out HSM.out hown8 (srt_filter _ HSI.out.srt) (okm_filter _ HSI.out.okm) (okl_filter _ HSI.out.okl) (hr7.chg hC78 fun q hq e => by have := hfr q hq; omega) hfr ?_⟩, ?_⟩
                  · exact HCW.out.trans (((Chg.refl _ _).alloc _).trans ((hC7.mono fun q _ hq => .inr (HSI.out.fresh q hq)).trans (hC78.mono fun q _ hq => .inl hq)))
                  · simp only [lenV]; omega
                · have HMV := Lib.hid (show mvI m = ⟨11, m.to, m.src, 0, 0⟩ by rw [mvI, if_neg (by omega)])
                  have hb1 : (m.src == -1) = false := by simp [hm1]
                  go_wp2_with (first
                    | (at_lookup; have _t := tok1; refine wpList_lookup_own_int _ rfl _ _ 47 rfl 2 2 .i64 law64 Try.underlying47 Try.underlying2 (zero64 _) wv.heap.size n2 Dr rfl HM5.out _ _ rfl (keyOf_int_mk Try.underlying2 hwt) ?_; intro c2 hat2 hwc2; obtain rfl : c2 = cntS Lr left m.to := by { rw [HKT.out] at hat2; injection hat2 with hat2; injection hat2 with _ hat2; exact hat2.symm }; clear tok1)
                    | (at_lookup; refine wpList_lookup_own_int _ rfl _ _ 47 rfl 2 2 .i64 law64 Try.underlying47 Try.underlying2 (zero64 _) b n (mapD Lr) rfl HO5.out _ _ rfl (keyOf_int_mk Try.underlying2 hwt) ?_; intro c3 hat3 hwc3; obtain rfl : c3 = m.src := by { rw [HKS.out] at hat3; injection hat3 with hat3; injection hat3 with _ hat3; exact hat3.symm })
                    | (at_builtin; refine wpList_append_row kInstr rfl _ _ 25 rfl 41 i0 _ 40 Try.underlying25 hi hz0 hz1 hz2 rfl (by decide) _ outs fp rfl (HR5.out.chg (S := fun _ => False) (by (repeat (first | (with_reducible first | exact Chg.refl _ _ | assumption) | (with_reducible refine Chg.drew ?_) | ((with_reducible refine Chg.setCell ?_ ?hs _); (case hs => first | (simp; done) | (simp; omega) | omega)) | (with_reducible refine Chg.alloc ?_ _)))) (by simp)) _ _ [.int .i64 11, .int .i64 m.to, .int .i64 m.src, .int .i64 0, .int .i64 0] (mvI m) [] rfl ⟨by rw [HMV.out], rfl⟩ (by simp) (box_news (by simp)) (by simp [maxLen]; omega) (by omega) ?_; intro g3 cap3 w7 fp7 hr7 hf7 hC7; have HO7 := Lib.hid (ownsMap_chg (HO5.out.alloc _) hC7 hfb))
                    | (at_delete; refine wpList_delete_own _ rfl _ _ 47 2 rfl 2 law64 Try.underlying47 _ b n (mapD Lr) rfl HO7.out _ _ rfl (keyOf_int_mk Try.underlying2 hwt) ?_; intro w8 hown8 hturn8))
                  have hw5 := HCW.out.size
                  have hfr : ∀ q ∈ fp7, w.heap.size ≤ q := fun q hq => by
                    rcases hf7 q hq with h | h | h
                    · exact HSI.out.fresh q h
                    · simp at h
                    · simp at h; omega
                  have hC78 : Chg (fun q => q = b) w7 w8 := (Chg.of_grown hturn8.grown).mono fun q _ hq => by simpa [eq_comm] using hq
                  rw [del_mapD] at hown8
                  refine ⟨⟨_, _, fp7, SI.next HSI.out HSM.out hown8 (srt_filter _ HSI.out.srt) (okm_filter _ HSI.out.okm) (okl_filter _ HSI.out.okl) (hr7.chg hC78 fun q hq e => by have := hfr q hq; omega) hfr ?_⟩, ?_⟩
                  · exact HCW.out.trans (((Chg.refl _ _).alloc _).trans ((hC7.mono fun q _ hq => .inr (HSI.out.fresh q hq)).trans (hC78.mono fun q _ hq => .inl hq)))
                  · simp only [lenV]; omega
            · have hke : k = Lr.length := by omega
              obtain ⟨h, tl, hht⟩ : ∃ h tl, Lr = h :: tl := by
                cases Lr with
                | nil => simp at hpos
                | cons h tl => exact ⟨h, tl, rfl⟩
              have hh0 : Lr[0]? = some h := by rw [hht]; rfl
              have HFN := Lib.hid (show (Lr.find? fun m => !isSrc Lr m.to) = none from List.find?_eq_none.2 fun m hm => by
                obtain ⟨j, hj⟩ := List.getElem?_of_mem hm
                have := HSR.out j (by rw [hke]; exact (List.getElem?_eq_some_iff.1 hj).1) m hj
                simp [this])
              have HSM := Lib.hid (show seqM Lr = putI h.to :: seqM (Lr.map (scr h.to)) by
                have h1 := HFN.out; have h2 := HSI.out.okm
                rw [hht] at h1 h2 ⊢
                exact seqM_put h2 h1)
              have hhm : h ∈ Lr := List.mem_of_getElem? hh0
              obtain ⟨⟨m1, m2⟩, m3, m4⟩ := HSI.out.okl.2 h hhm
              have HIN := Lib.hid (inOrder_c b n Lr wr HO5.out HSI.out.srt (by omega))
              have HPU := Lib.hid (show putI h.to = ⟨12, 0, h.to, 0, 0⟩ from rfl)
              obtain ⟨wu, hwu⟩ : ∃ x, x = wr := ⟨_, rfl⟩
              subst hwu
              clear HSR HFN HK hht
              go_wp2_with (first
                | (go_at_call 27; (with_reducible refine HIN.out.mono ?_); intro e w6 hp; unfold RetRow at hp; obtain ⟨v6, fp6, rfl, hr6, hf6, hb6⟩ := hp; obtain ⟨A6, c6, rfl, -⟩ := hr6.form; obtain ⟨a6, _, rfl, rfl, hc6⟩ := hr6.reads.at (i := 0) (x := h.to) (by rw [List.getElem?_map, hh0]; rfl); have v6 : w6.cell? a6 = some (.int .i64 h.to) := (by have := hc1 (n := 0 * 1) hc6; rw [show 0 * 1 = 0 from rfl, addr_add0] at this; exact this); have HB6 := Lib.hid hb6; have HR6 := Lib.hid (HR5.out.chg (chg_of hb6) (by simp)); clear hr6 hf6 hb6 hc6)
                | (at_builtin; refine wpList_append_row kInstr rfl _ _ 25 rfl 41 i0 _ 40 Try.underlying25 hi hz0 hz1 hz2 rfl (by decide) _ outs fp rfl (HR6.out.chg (S := fun _ => False) (by (repeat (first | (with_reducible first | exact Chg.refl _ _ | assumption) | (with_reducible refine Chg.drew ?_) | ((with_reducible refine Chg.setCell ?_ ?hs _); (case hs => first | (simp; done) | (simp; omega) | omega)) | (with_reducible refine Chg.alloc ?_ _)))) (by simp)) _ _ [.int .i64 12, .int .i64 0, .int .i64 h.to, .int .i64 0, .int .i64 0] (putI h.to) [] rfl ⟨rfl, rfl⟩ (by simp) (box_news (by simp)) (by simp [maxLen]; omega) (by omega) ?_; intro g3 cap3 w7 fp7 hr7 hf7 hC7; have HO7 := Lib.hid (ownsMap_chg ((ownsMap_below HO5.out HB6.out).alloc _) hC7 hfb))
                | (at_range; refine wpList_range_own _ rfl _ 47 rfl 2 2 law64 Try.underlying47 _ b n (mapD Lr) rfl HO7.out ?_; intro w8 hrg8 hg8 hs8))
              (try go_frame)
              (try simp only [World.size_alloc] at hrg8 hs8)
              generalize h.to = r at *
              have hw5 := HCW.out.size
              have hb65 := HB6.out.size
              have h7 := hC7.size
              simp only [World.size_alloc] at h7
              have hfr : ∀ q ∈ fp7, w.heap.size ≤ q := fun q hq => by
                rcases hf7 q hq with h | h | h
                · exact HSI.out.fresh q h
                · simp at h
                · simp at h; omega
              have HR8 := Lib.hid (hr7.chg (chg_of_g hg8) (by simp))
              have HL7 := Lib.hid (fun q (hq : q ∈ fp7) => hr7.lt q hq)
              have HC8 := Lib.hid (show Chg (fun q => q = b ∨ w.heap.size ≤ q) w w8 from HCW.out.trans (((Chg.of_below HB6.out).mono fun q _ hq => .inr (Nat.le_trans hw5 hq)).trans (((Chg.refl _ _).alloc _).trans ((hC7.mono fun q _ hq => .inr (HSI.out.fresh q hq)).trans ((chg_of_g hg8).mono fun _ _ h => h.elim)))))
              have hrg8' : w8.ranges Try.prog 2 (plainElem (H := Unit) Try.prog 2) b w7.heap.size n (mapD (scrP Lr (Maps.has (mapD Lr)) r)) (Maps.has (mapD Lr)) (Maps.size (mapD Lr)) := by rw [scrP_start]; exact hrg8
              clear hr7 hf7 hC7 hg8 hrg8 HO7 HO5 HM5 HIN HR5 HR6 HB6
              go_loopw [11] (fun _ wq => ∃ (left : Lit → Bool) (cnt : Nat), wq.ranges Try.prog 2 (plainElem (H := Unit) Try.prog 2) b w7.heap.size n (mapD (scrP Lr left r)) left cnt ∧ Chg (fun q => q = b ∨ q = w7.heap.size) w8 wq) (fun _ wq => wq.rangeLeft b w7.heap.size)
              case atStart => exact ⟨_, _, hrg8', Chg.refl _ _⟩
              case round =>
                clear hrg8'
                obtain ⟨left3, cnt3, hrg, hc⟩ := hrel
                have HG3 := Lib.hid hrg
                have HC3 := Lib.hid hc
                have hcs := hc.size
                clear hc
                go_wp2_with (first
                  | (at_next; refine wpList_next_ranges_ii _ rfl _ rfl 2 2 .i64 .i64 law64 Try.underlying2 Try.underlying2 b w7.heap.size n _ _ _ rfl hrg ?_ ?_))
                · intro _ hl0
                  have hown9 := hrg.owns
                  rw [scrP_end hl0] at hown9
                  go_wp2
                  go_roundw
                  case rel => exact ⟨Lr.map (scr r), _, fp7, SI.next HSI.out HSM.out hown9 (srt_scr r HSI.out.srt) (okm_scr r HSI.out.okm) (okl_scr r HSI.out.okl) (HR8.out.chg HC3.out fun q hq e => by have := hfr q hq; have := HL7.out q hq; rcases e with e | e <;> omega) hfr (HC8.out.trans (HC3.out.mono fun q _ hq => hq.imp id fun h => by omega))⟩
                  case measure => simp only [lenV]; omega
                · intro x c w1 cnt1 hwx hwc hlx hat hrg1 hlt hg1 hs1 hen
                  have hmem := atKey_mem (scrP_srt HSI.out.srt left3 r) hat
                  have HC4 := Lib.hid (HC3.out.trans ((Chg.of_grown hg1).mono fun q _ hq => by simp at hq; exact .inr hq.symm))
                  by_cases hcr : c = r
                  · subst hcr
                    have hhs := has_self hmem
                    have HHIT := Lib.hid (scrP_hit HSI.out.srt hlx hmem)
                    go_wp2_with (first
                      | (at_mapUpdate; refine wpList_store_ranges _ rfl _ _ _ 47 rfl 2 2 law64 Try.underlying47 _ b w7.heap.size n _ _ _ rfl hrg1 hn _ _ _ rfl rfl (keyOf_int_mk Try.underlying2 hwx) _ [] (plainElem_int Try.underlying2 (wfI (by omega) (by omega))) hhs ?_; intro w2 hrg2 hgrow2 hs2))
                    rw [HHIT.out] at hrg2
                    refine ⟨⟨⟨_, cnt1, hrg2⟩, HC4.out.trans ((Chg.of_grown hgrow2).mono fun q _ hq => by simp at hq; exact .inl hq.symm)⟩, ?_⟩
                    rw [hrg2.left_eq, HG3.out.left_eq]; exact hlt
                  · have HMS := Lib.hid (scrP_miss HSI.out.srt hlx hmem hcr)
                    have hb1 : (c == r) = false := by simp [hcr]
                    rw [HMS.out] at hrg1
                    go_wp2
                    go_roundw
                    case rel => exact ⟨_, cnt1, hrg1, HC4.out⟩
                    case measure => rw [hrg1.left_eq, HG3.out.left_eq]; exact hlt
        · intro x c w1 cnt1 hwx hwc hlx hat hrg1 hlt hg1 hs1 hen
          have hmem := atKey_mem HSI.out.srt hat
          have HM1 := Lib.hid (HM.out.kept hg1 (by simp))
          have hcb := cntS_le Lr left c
          have hwv : IntKind.i64.wrap (cntS Lr left c + 1) = cntS Lr left c + 1 := wi64 (by omega) (by omega)
          have HR2 := Lib.hid (rd_step HSI.out.srt HRD.out hlx hmem trivial)
          have HC1 := Lib.hid (HC.out.trans ((Chg.of_grown hg1).mono fun q _ hq => by simp at hq; omega))
          clear hs1 hrg hg1
          go_wp2_with (first
            | (at_lookup; refine wpList_lookup_own_int _ rfl _ _ 47 rfl 2 2 .i64 law64 Try.underlying47 Try.underlying2 (zero64 _) wv.heap.size n2 Dr rfl HM1.out _ _ rfl (keyOf_int_mk Try.underlying2 hwc) ?_; intro c2 hat2 hwc2; obtain rfl : c2 = cntS Lr left c := by { rw [HRD.out.2] at hat2; injection hat2 with hat2; injection hat2 with _ hat2; exact hat2.symm })
            | (at_mapUpdate; refine wpList_mapUpdate_own _ rfl _ _ _ 47 rfl 2 2 law64 Try.underlying47 _ wv.heap.size n2 Dr rfl HM1.out (by unfold maxLen; omega) _ _ _ rfl rfl (keyOf_int_mk Try.underlying2 hwc) _ [] (plainElem_int Try.underlying2 (wfI (by omega) (by omega))) ?_; intro w2 hown2 hgrow2))
          have hbw : b ≠ wv.heap.size := by omega
          have hrg2 := hrg1.kept hgrow2 (fun e => hbw (Option.some.inj e)) (fun e => by have := Option.some.inj e; omega)
          have HC2 := Lib.hid (HC1.out.trans ((Chg.of_grown hgrow2).mono fun q _ hq => by simp at hq; omega))
          (try go_frame)
          go_roundw
          case rel => exact ⟨_, cnt1, n2 + 1, _, hrg2, hown2, HR2.out, by omega, HC2.out⟩
          case measure => rw [hrg2.left_eq, HG.out.left_eq]; exact hlt
end Go.Proofs.Ytnnfjjgohhicjaa
