/- Contract: impl.Sequence. -/
import Derived.Test.YtnnfjjgohhicjaaQk
import Derived.Test.YtnnfjjgohhicjaaQc
namespace Go.Proofs.Ytnnfjjgohhicjaa
open Go.RowKit
set_option linter.unusedSimpArgs false
set_option linter.unusedVariables false
set_option maxRecDepth 100000
open Go.Maps

theorem seqF_eq {ms L : List Move} (hok : okM ms) (hp : L.Perm (live ms)) (hs : Srt L) : seqF ms = seqM L ∧ Okm L ∧ OKL L := by
  have hg := hok.2.1
  have hL : ∀ m ∈ L, InRg m ∧ m.to ≠ m.src := fun m hm => by
    obtain ⟨h1, h2⟩ := List.mem_filter.1 (hp.mem_iff.1 hm)
    exact ⟨hg m h1, by simpa using h2⟩
  have ho : Okm L := fun m hm => ⟨(hL m hm).1.1.1, (hL m hm).2⟩
  refine ⟨by rw [seqF, if_pos hok, emitS_seqM hp.symm hs ho], ho, by rw [hp.length_eq]; exact Nat.le_trans (live_len ms) hok.1, fun m hm => ?_⟩
  obtain ⟨⟨⟨h1, h2⟩, h3, h4⟩, -⟩ := hL m hm
  exact ⟨⟨h1, h2⟩, by omega, h4⟩
set_option maxHeartbeats 8000000 in
theorem seq_i (A : Option Addr) (c : Nat) (ms : List Move) (w : World) (hx : C kMove w A ms) (hm : ms.length ≤ 1048576) (hwf : ∀ m ∈ ms, (Lit.int .i64 m.to).wf = true ∧ (Lit.int .i64 m.src).wf = true) :
    Calls Try.prog 9 #[.slice A ms.length c] w (RetRow 41 kInstr w (seqF ms)) := by
  by_cases h64 : ms.length ≤ 64
  · have hle : ¬ 64 < ms.length := by omega
    have hmm := @run_makeMap Try.prog
    have HM0 := Lib.hid (World.ownsMap_made (H := Unit) w Try.prog 2 (plainElem (H := Unit) Try.prog 2))
    go_enter Try.func9, Try.ntmps9
    go_wp2
    go_loopw [16] (fun t16 wr => ∃ (k : Nat) (Lk : List Move) (u : Ext w), k ≤ ms.length ∧ t16 = .int .i64 k ∧ wr.ownsMap Try.prog 2 (plainElem (H := Unit) Try.prog 2) w.heap.size k (mapD Lk) ∧ Srt Lk ∧ Lk.Perm (ms.take k) ∧ GoodP (ms.take k) ∧ wr = u.w) (fun t16 _ => ms.length - (intOf t16).toNat)
    case atStart => exact ⟨0, [], ⟨w.alloc (.map #[] 0), (Below.refl _ _).alloc (Nat.le_refl _) _⟩, by omega, rfl, HM0.out, by simp [Srt], by simp, by simpa using goodP_nil, rfl⟩
    case round =>
      clear HM0
      obtain ⟨k, Lk, u, hk, rfl, hown, hs, hp, hg, rfl⟩ := hrel
      have HO := Lib.hid hown
      have HS := Lib.hid hs
      have HP := Lib.hid hp
      have HG := Lib.hid hg
      have hbl := hown.lt
      clear hown hs hp hg
      by_cases hlt : k < ms.length
      · obtain ⟨x, ex⟩ := get_of_lt hlt
        obtain ⟨a, _, rfl, rfl, hc⟩ := (hx.ext u).at ex
        obtain ⟨v0, v1⟩ := hc2 (n := k * 2) hc
        obtain ⟨hwt, hws⟩ := hwf x (List.mem_of_getElem? ex)
        have HEX := Lib.hid ex
        have HNE := Lib.hid (show Maps.has (mapD Lk) (li x.to) = false → ∀ m ∈ Lk, m.to ≠ x.to from fun h m hm e => by rw [has_mapD] at h; have := List.any_eq_false.1 h m hm; simp [e] at this)
        have HEQ := Lib.hid (show Maps.has (mapD Lk) (li x.to) = true → ¬ okM ms from fun h => by
          rw [has_mapD, List.any_eq_true] at h
          obtain ⟨m, hm, he⟩ := h
          obtain ⟨j, hj⟩ := List.getElem?_of_mem (HP.out.mem_iff.1 hm)
          have hjk : j < k := by have := (List.getElem?_eq_some_iff.1 hj).1; simp at this; omega
          rw [List.getElem?_take_of_lt hjk] at hj
          exact not_okM_eq hjk HEX.out hj (by simpa using he))
        clear hc ex
        cases htw : Maps.has (mapD Lk) (li x.to)
        · have HN := Lib.hid (HNE.out htw)
          by_cases hin : InRg x
          · have d1 : decide (0 ≤ x.to ∧ x.to ≤ 63) = true := by unfold InRg at hin; simp; omega
            have d2 : decide (0 ≤ x.src ∧ x.src ≤ 63) = true := by unfold InRg at hin; simp; omega
            have HIN := Lib.hid hin
            have HW1 := Lib.hid (fun W => d1 ▸ within_c x.to 0 63 W)
            have HW2 := Lib.hid (fun W => d2 ▸ within_c x.src 0 63 W)
            clear d1 d2
            go_wp2_with (first
              | (at_lookup; refine wpList_lookup_own_ok_int _ rfl _ _ 47 rfl 2 2 .i64 law64 Try.underlying47 Try.underlying2 (zero64 _) w.heap.size k (mapD Lk) rfl (HO.out.alloc _) _ _ rfl (keyOf_int_mk Try.underlying2 hwt) ?_; intro c2 hat2 hwc2; rw [htw])
              | (go_at_call 19; (with_reducible refine (HW1.out _).mono ?_); rintro e w2 ⟨rfl, rfl⟩)
              | (go_at_call 19; (with_reducible refine (HW2.out _).mono ?_); rintro e w2 ⟨rfl, rfl⟩)
              | (at_mapUpdate; refine wpList_mapUpdate_own _ rfl _ _ _ 47 rfl 2 2 law64 Try.underlying47 _ w.heap.size k (mapD Lk) rfl (HO.out.alloc _) (by unfold maxLen; omega) _ _ _ rfl rfl (keyOf_int_mk Try.underlying2 hwt) _ [] (plainElem_int Try.underlying2 hws) ?_; intro w2 hown2 hgrow2))
            have hsz := u.hb.size
            rw [put_mapD, filter_same HN.out] at hown2
            refine ⟨⟨k + 1, insM x Lk, ⟨w2, (u.hb.alloc hsz _).trans ((Chg.of_grown hgrow2).below (by simp; omega) fun q hq => by simp at hq; omega)⟩, by omega, by go_num, hown2, insM_srt HS.out HN.out, ?_, ?_, rfl⟩, by simp [intOf]; omega⟩
            · rw [take_snoc HEX.out]
              exact (insM_perm x Lk).trans ((HP.out.cons x).trans (List.perm_append_singleton _ _).symm)
            · rw [take_snoc HEX.out]
              exact goodP_snoc HG.out HIN.out fun m hm => HN.out m (HP.out.mem_iff.2 hm)
          · have HE := Lib.hid (show seqF ms = [] by simp [seqF, not_okM_rg HEX.out hin])
            by_cases h1 : 0 ≤ x.to ∧ x.to ≤ 63
            · have d1 : decide (0 ≤ x.to ∧ x.to ≤ 63) = true := decide_eq_true h1
              have d2 : decide (0 ≤ x.src ∧ x.src ≤ 63) = false := decide_eq_false (by unfold InRg at hin; omega)
              have HW1 := Lib.hid (fun W => d1 ▸ within_c x.to 0 63 W)
              have HW2 := Lib.hid (fun W => d2 ▸ within_c x.src 0 63 W)
              clear h1 d1 d2
              go_wp2_with (first
                | (at_lookup; refine wpList_lookup_own_ok_int _ rfl _ _ 47 rfl 2 2 .i64 law64 Try.underlying47 Try.underlying2 (zero64 _) w.heap.size k (mapD Lk) rfl (HO.out.alloc _) _ _ rfl (keyOf_int_mk Try.underlying2 hwt) ?_; intro c2 hat2 hwc2; rw [htw])
                | (go_at_call 19; (with_reducible refine (HW1.out _).mono ?_); rintro e w2 ⟨rfl, rfl⟩)
                | (go_at_call 19; (with_reducible refine (HW2.out _).mono ?_); rintro e w2 ⟨rfl, rfl⟩))
              go_ret
              exact ⟨_, [], rfl, by rw [HE.out]; exact Row.nil _ _ _, by simp, u.hb.alloc u.hb.size _⟩
            · have d1 : decide (0 ≤ x.to ∧ x.to ≤ 63) = false := decide_eq_false h1
              have HW1 := Lib.hid (fun W => d1 ▸ within_c x.to 0 63 W)
              clear d1
              clear h1
              go_wp2_with (first
                | (at_lookup; refine wpList_lookup_own_ok_int _ rfl _ _ 47 rfl 2 2 .i64 law64 Try.underlying47 Try.underlying2 (zero64 _) w.heap.size k (mapD Lk) rfl (HO.out.alloc _) _ _ rfl (keyOf_int_mk Try.underlying2 hwt) ?_; intro c2 hat2 hwc2; rw [htw])
                | (go_at_call 19; (with_reducible refine (HW1.out _).mono ?_); rintro e w2 ⟨rfl, rfl⟩))
              go_ret
              exact ⟨_, [], rfl, by rw [HE.out]; exact Row.nil _ _ _, by simp, u.hb.alloc u.hb.size _⟩
        · have HE := Lib.hid (show seqF ms = [] by simp [seqF, HEQ.out htw])
          go_wp2_with ((at_lookup; refine wpList_lookup_own_ok_int _ rfl _ _ 47 rfl 2 2 .i64 law64 Try.underlying47 Try.underlying2 (zero64 _) w.heap.size k (mapD Lk) rfl (HO.out.alloc _) _ _ rfl (keyOf_int_mk Try.underlying2 hwt) ?_; intro c2 hat2 hwc2; rw [htw]))
          go_ret
          exact ⟨_, [], rfl, by rw [HE.out]; exact Row.nil _ _ _, by simp, u.hb.alloc u.hb.size _⟩
      · have hke : k = ms.length := by omega
        subst hke
        rw [List.take_length] at HP HG
        have HOK := Lib.hid (show okM ms from ⟨h64, HG.out⟩)
        go_wp2
        go_loopw [48] (fun t48 wr => ∃ (k : Nat) (Lk : List Move) (u : Ext w), k ≤ ms.length ∧ t48 = .int .i64 k ∧ wr.ownsMap Try.prog 2 (plainElem (H := Unit) Try.prog 2) w.heap.size ms.length (mapD Lk) ∧ Srt Lk ∧ Lk.Perm (live (ms.take k) ++ ms.drop k) ∧ wr = u.w) (fun t48 _ => ms.length - (intOf t48).toNat)
        case atStart => exact ⟨0, Lk, u, by omega, rfl, HO.out, HS.out, by simpa [live] using HP.out, rfl⟩
        case round =>
          clear HO HS HP
          obtain ⟨k, Lk, u, hk, rfl, hown, hs, hp, rfl⟩ := hrel
          have HO := Lib.hid hown
          have HS := Lib.hid hs
          have HP := Lib.hid hp
          have hbl := hown.lt
          clear hown hs hp
          by_cases hlt : k < ms.length
          · obtain ⟨x, ex⟩ := get_of_lt hlt
            obtain ⟨a, _, rfl, rfl, hc⟩ := (hx.ext u).at ex
            obtain ⟨v0, v1⟩ := hc2 (n := k * 2) hc
            obtain ⟨hwt, hws⟩ := hwf x (List.mem_of_getElem? ex)
            have HDR := Lib.hid (show ms.drop k = x :: ms.drop (k + 1) by rw [List.drop_eq_getElem_cons hlt]; rw [List.getElem?_eq_getElem hlt] at ex; rw [Option.some.inj ex])
            have HLV := Lib.hid (show live (ms.take (k + 1)) = live (ms.take k) ++ if decide (x.to ≠ x.src) then [x] else [] from filter_snoc (fun m : Move => decide (m.to ≠ m.src)) ex)
            clear hc ex
            by_cases he : x.to = x.src
            · have hb1 : (x.to == x.src) = true := by simp [he]
              have HP2 := Lib.hid (show (Lk.filter fun m => decide (m.to ≠ x.to)).Perm (live (ms.take (k + 1)) ++ ms.drop (k + 1)) by
                have h1 := HP.out
                rw [HDR.out] at h1
                have hd := distTo_perm h1.symm HS.out
                have h2 := h1.filter fun m => decide (m.to ≠ x.to)
                rw [HLV.out, if_neg (by simp [he]), List.append_nil]
                refine h2.trans ?_
                unfold DistTo at hd
                rw [List.pairwise_append, List.pairwise_cons] at hd
                obtain ⟨-, ⟨hd2, -⟩, hd3⟩ := hd
                rw [List.filter_append, List.filter_cons_of_neg (by simp), filter_same fun m hm => hd3 m hm x (by simp), filter_same fun m hm e => hd2 m hm e.symm])
              clear he
              go_wp2_with (at_delete; refine wpList_delete_own _ rfl _ _ 47 2 rfl 2 law64 Try.underlying47 _ w.heap.size ms.length (mapD Lk) rfl (HO.out.alloc _) _ _ rfl (keyOf_int_mk Try.underlying2 hwt) ?_; intro w2 hown2 hturn2)
              have hsz := u.hb.size
              rw [del_mapD] at hown2
              refine ⟨⟨k + 1, _, ⟨w2, (u.hb.alloc hsz _).trans ((Chg.of_grown hturn2.grown).below (by simp; omega) fun q hq => by simp at hq; omega)⟩, by omega, by go_num, hown2, srt_filter _ HS.out, HP2.out, rfl⟩, by simp [intOf]; omega⟩
            · have hb1 : (x.to == x.src) = false := by simp [he]
              have HP2 := Lib.hid (show Lk.Perm (live (ms.take (k + 1)) ++ ms.drop (k + 1)) by
                have h1 := HP.out
                rw [HDR.out] at h1
                rw [HLV.out, if_pos (by simp [he]), List.append_assoc]; exact h1)
              have HO2 := Lib.hid (HO.out.alloc (.cells #[.int .i64 x.to, .int .i64 x.src] 39))
              go_wp2
              go_roundw
              case rel => exact ⟨k + 1, Lk, ⟨_, u.hb.alloc u.hb.size _⟩, by omega, by go_num, HO2.out, HS.out, HP2.out, rfl⟩
              case measure => simp [intOf]; omega
          · have hke : k = ms.length := by omega
            subst hke
            have hpl : Lk.Perm (live ms) := by have := HP.out; rwa [List.take_length, List.drop_length, List.append_nil] at this
            obtain ⟨h1, h2, h3⟩ := seqF_eq HOK.out hpl HS.out
            have HE := Lib.hid h1
            have HSQ := Lib.hid (sequence_c w.heap.size ms.length Lk u.w HO.out HS.out h2 h3 (by unfold maxLen; omega))
            clear h1 h2 h3 hpl
            go_wp2_with (go_at_call 20; (with_reducible refine HSQ.out.mono ?_); intro e w5 hp; unfold SeqPost at hp; obtain ⟨v5, fp5, rfl, hr5, hf5, hc5⟩ := hp)
            go_ret
            have hsz := u.hb.size
            exact ⟨_, fp5, rfl, by rw [HE.out]; exact hr5, fun q hq => Nat.le_trans hsz (hf5 q hq), u.hb.trans (hc5.below hsz fun q hq => by rcases hq with h | h <;> omega)⟩
  · have hle : 64 < ms.length := by omega
    have HE := Lib.hid (show seqF ms = [] by simp [seqF, okM, h64])
    go_enter Try.func9, Try.ntmps9
    go_wp2
    go_ret
    exact ⟨_, [], rfl, by rw [HE.out]; exact Row.nil _ _ _, by simp, Below.refl _ _⟩
end Go.Proofs.Ytnnfjjgohhicjaa
