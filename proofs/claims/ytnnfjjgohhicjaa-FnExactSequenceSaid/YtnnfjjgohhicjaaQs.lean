/- Contracts: spec.l4GoodMoves, l4IsRead, l4Without. -/
import Derived.Test.YtnnfjjgohhicjaaQa
import Derived.Test.YtnnfjjgohhicjaaQc
namespace Go.Proofs.Ytnnfjjgohhicjaa
open Go.RowKit
set_option linter.unusedSimpArgs false
set_option linter.unusedVariables false
set_option maxRecDepth 100000

set_option maxHeartbeats 2000000 in
theorem goodMoves_c (A : Option Addr) (c : Nat) (ms : List Move) (w : World) (hx : C kMove w A ms) (hm : ms.length ≤ 1048576) :
    Calls Try.prog 16 #[.slice A ms.length c] w fun e w' => e = .returned (.bool (decide (okM ms))) ∧ Below w.heap.size w w' := by
  by_cases hlen : ms.length ≤ 64
  · have hle : ¬ (64 < ms.length) := by omega
    have HLE := Lib.hid hlen
    clear hlen
    go_enter Try.func16, Try.ntmps16
    go_wp2
    go_loopw [3] (fun t3 wr => ∃ (i : Nat), i ≤ ms.length ∧ t3 = .int .i64 i ∧ GoodP (ms.take i) ∧ ∃ u : Ext w, wr = u.w) (fun t3 _ => ms.length - (intOf t3).toNat)
    case atStart => exact ⟨0, by omega, rfl, by simpa using goodP_nil, Ext.self w, rfl⟩
    case round =>
      obtain ⟨i, hi, rfl, hg, u, rfl⟩ := hrel
      have HG := Lib.hid hg
      clear hg
      by_cases hlt : i < ms.length
      · obtain ⟨x, ex⟩ := get_of_lt hlt
        obtain ⟨a, _, rfl, rfl, hc⟩ := hx.at ex
        have P := hc2E (n := i * 2) hc
        obtain ⟨v0, v1⟩ := P u
        have HEX := Lib.hid ex
        clear hc ex
        by_cases hin : InRg x
        · have HIN := Lib.hid hin
          obtain ⟨⟨h1, h2⟩, h3, h4⟩ := hin
          have n1 : ¬ x.to < 0 := by omega
          have n2 : ¬ 64 ≤ x.to := by omega
          have n3 : ¬ x.src < 0 := by omega
          have n4 : ¬ 64 ≤ x.src := by omega
          clear h1 h2 h3 h4
          go_wp2
          go_loopw [4] (fun t4 wr => ∃ (j : Nat), j ≤ i ∧ t4 = .int .i64 j ∧ (∀ m ∈ ms.take j, m.to ≠ x.to) ∧ ∃ u : Ext w, wr = u.w) (fun t4 _ => i - (intOf t4).toNat)
          case atStart => exact ⟨0, by omega, rfl, by simp, u, rfl⟩
          case round =>
            clear v0 v1
            obtain ⟨j, hj, rfl, hd, u2, rfl⟩ := hrel
            have HD := Lib.hid hd
            clear hd
            by_cases hlt2 : j < i
            · obtain ⟨y, ey⟩ := get_of_lt (show j < ms.length by omega)
              have hjl : j < ms.length := by omega
              obtain ⟨_, _, he0, rfl, hc2⟩ := hx.at ey
              obtain rfl := Option.some.inj he0
              have P2 := hc2E (n := j * 2) hc2
              have HEY := Lib.hid ey
              clear hc2 ey he0
              by_cases he : y.to = x.to
              · have HN := Lib.hid (show decide (okM ms) = false by simp [not_okM_eq hlt2 HEX.out HEY.out he])
                go_wp2
                refine wp_region_ext (W := w) (by kernel_rfl) (by kernel_rfl) ⟨_, rfl⟩ ?_
                repeat quiet_step (fail)
                refine wpQuiet_nil ?_
                rintro _ ⟨u, rfl⟩
                go_wp2
                go_ret
                exact ⟨ret_bool HN.out.symm, u.hb⟩
              · go_wp2
                refine wp_region_ext (W := w) (by kernel_rfl) (by kernel_rfl) ⟨_, rfl⟩ ?_
                repeat quiet_step (fail)
                refine wpQuiet_nil ?_
                rintro _ ⟨u, rfl⟩
                go_wp2
                go_roundw
                case rel => exact ⟨j + 1, by omega, by go_num, fun m hm => by
                  rw [take_snoc HEY.out] at hm
                  rcases List.mem_append.1 hm with h | h
                  · exact HD.out m h
                  · simp at h; subst h; exact he, u, rfl⟩
                case measure => simp [intOf]; omega
            · have hje : j = i := by omega
              subst hje
              go_wp2
              go_roundw
              case rel => exact ⟨j + 1, by omega, by go_num, by rw [take_snoc HEX.out]; exact goodP_snoc HG.out HIN.out HD.out, u2, rfl⟩
              case measure => simp [intOf]; omega
        · have HN := Lib.hid (show decide (okM ms) = false by simp [not_okM_rg HEX.out hin])
          have hcs : x.to < 0 ∨ (¬ x.to < 0 ∧ 64 ≤ x.to) ∨ (¬ x.to < 0 ∧ ¬ 64 ≤ x.to ∧ x.src < 0) ∨ (¬ x.to < 0 ∧ ¬ 64 ≤ x.to ∧ ¬ x.src < 0 ∧ 64 ≤ x.src) := by unfold InRg at hin; omega
          clear hin
          rcases hcs with h1 | ⟨h1, h2⟩ | ⟨h1, h2, h3⟩ | ⟨h1, h2, h3, h4⟩
          all_goals
            go_wp2
            go_ret
            exact ⟨ret_bool HN.out.symm, u.hb⟩
      · have hie : i = ms.length := by omega
        subst hie
        have HN := Lib.hid (show decide (okM ms) = true by have := HG.out; rw [List.take_length] at this; simp [okM, this, HLE.out])
        go_wp2
        go_ret
        exact ⟨ret_bool HN.out.symm, u.hb⟩
  · have hle : 64 < ms.length := by omega
    have HN := Lib.hid (show decide (okM ms) = false from decide_eq_false fun h => hlen h.1)
    go_enter Try.func16, Try.ntmps16
    go_wp2
    go_ret
    exact ⟨ret_bool HN.out.symm, Below.refl _ _⟩
set_option maxHeartbeats 2000000 in
theorem isRead_c (A : Option Addr) (c : Nat) (ms : List Move) (but : Nat) (r : Int) (w : World) (hx : C kMove w A ms) (hm : ms.length ≤ 1048576) (hb : but ≤ 1048576) :
    Calls Try.prog 25 #[.slice A ms.length c, .int .i64 but, .int .i64 r] w fun e w' => e = .returned (.bool (isRd ms but r)) ∧ Below w.heap.size w w' := by
  go_enter Try.func25, Try.ntmps25
  go_wp2
  go_loopw [7] (fun t7 wr => ∃ (j : Nat), j ≤ ms.length ∧ t7 = .int .i64 j ∧ (∀ i, i < j → ¬ (i ≠ but ∧ (ms[i]?.map (·.src)) = some r)) ∧ wr = w) (fun t7 _ => ms.length - (intOf t7).toNat)
  case atStart => exact ⟨0, by omega, rfl, by simp, rfl⟩
  case round =>
    obtain ⟨j, hj, rfl, hn, rfl⟩ := hrel
    have HN := Lib.hid hn
    clear hn
    by_cases hlt : j < ms.length
    · obtain ⟨x, ex⟩ := get_of_lt hlt
      obtain ⟨a, _, rfl, rfl, hc⟩ := hx.at ex
      obtain ⟨v0, v1⟩ := hc2 (n := j * 2) hc
      have HEX := Lib.hid ex
      clear hc ex
      have hnext : ∀ (h : ¬ (j ≠ but ∧ x.src = r)), ∀ i, i < j + 1 → ¬ (i ≠ but ∧ (ms[i]?.map (·.src)) = some r) := fun h i hi => by
        by_cases e : i = j
        · subst e; rw [HEX.out]; simpa using h
        · exact HN.out i (by omega)
      have HNX := Lib.hid hnext
      clear hnext
      by_cases hjb : j = but
      · have hb1 : ((j : Int) != (but : Int)) = false := by simp [hjb]
        go_wp2
        go_roundw
        case rel => exact ⟨j + 1, by omega, by go_num, HNX.out (fun h => h.1 hjb), by first | rfl | trivial⟩
        case measure => simp [intOf]; omega
      · have hb1 : ((j : Int) != (but : Int)) = true := by rw [bne_iff_ne]; omega
        by_cases hr : x.src = r
        · have HT := Lib.hid (show isRd ms but r = true by
            simp only [isRd, List.any_eq_true, List.mem_range, Bool.and_eq_true, decide_eq_true_eq]
            exact ⟨j, hlt, hjb, by rw [HEX.out]; simp [hr]⟩)
          go_wp2
          go_ret
          exact ⟨ret_bool HT.out.symm, Below.refl _ _⟩
        · go_wp2
          go_roundw
          case rel => exact ⟨j + 1, by omega, by go_num, HNX.out (fun h => hr h.2), by first | rfl | trivial⟩
          case measure => simp [intOf]; omega
    · have HF := Lib.hid (show isRd ms but r = false by
        rw [Bool.eq_false_iff]
        intro h
        simp only [isRd, List.any_eq_true, List.mem_range, Bool.and_eq_true, decide_eq_true_eq] at h
        obtain ⟨i, hi, h1, h2⟩ := h
        exact HN.out i (by omega) ⟨h1, h2⟩)
      go_wp2
      go_ret
      exact ⟨ret_bool HF.out.symm, Below.refl _ _⟩
set_option maxHeartbeats 2000000 in
theorem without_c (A : Option Addr) (c : Nat) (ms : List Move) (i : Nat) (w : World) (hx : C kMove w A ms) (hm : ms.length ≤ 1048576) (hb : i ≤ 1048576) :
    Calls Try.prog 26 #[.slice A ms.length c, .int .i64 i] w (RetRow 39 kMove w (ms.eraseIdx i)) := by
  obtain ⟨i0, hi, hz0, hz1, hz2⟩ := info_parts info_move
  go_enter Try.func26, Try.ntmps26
  go_wp2
  go_loopw [5, 6] (fun v t6 wr => ∃ (k : Nat) (fp : List Nat) (u : Ext w), k ≤ ms.length ∧ t6 = .int .i64 k ∧ Row 39 kMove wr v ((ms.take k).eraseIdx i) fp ∧ (∀ q ∈ fp, w.heap.size ≤ q) ∧ wr = u.w) (fun _ t6 _ => ms.length - (intOf t6).toNat)
  case atStart => exact ⟨0, [w.heap.size], ⟨w.alloc (.cells #[] 39), (Below.refl _ _).alloc (Nat.le_refl _) _⟩, by omega, rfl, by simpa using Row.empty0 rfl, by simp, rfl⟩
  case round =>
    obtain ⟨k, fp, u, hk, rfl, hr, hfp, rfl⟩ := hrel
    have HR := Lib.hid hr
    have HF := Lib.hid hfp
    obtain ⟨A0, c0, hv, hl0⟩ := hr.form
    clear hr hfp
    subst hv
    have hlen : ((ms.take k).eraseIdx i).length ≤ 1048576 := Nat.le_trans (List.length_eraseIdx_le _ _) (by simp; omega)
    by_cases hlt : k < ms.length
    · obtain ⟨x, ex⟩ := get_of_lt hlt
      obtain ⟨a, _, rfl, rfl, hc⟩ := (hx.ext u).at ex
      obtain ⟨v0, v1⟩ := hc2 (n := k * 2) hc
      have HSN := Lib.hid (erase_snoc i ex)
      clear hc ex
      obtain ⟨ys, hys⟩ : ∃ ys, (ms.take k).eraseIdx i = ys := ⟨_, rfl⟩
      rw [hys] at HR HSN hlen
      simp only [hys]
      clear hys
      by_cases hki : k = i
      · have hb1 : ((k : Int) != (i : Int)) = false := by simp [hki]
        have HS2 := Lib.hid (show (ms.take (k + 1)).eraseIdx i = ys by rw [HSN.out, if_pos hki, List.append_nil])
        go_wp2
        go_roundw
        case rel => exact ⟨k + 1, fp, u, by omega, by go_num, by rw [HS2.out]; exact HR.out, HF.out, rfl⟩
        case measure => simp [intOf]; omega
      · have hb1 : ((k : Int) != (i : Int)) = true := by simp; omega
        have HS2 := Lib.hid (show (ms.take (k + 1)).eraseIdx i = ys ++ [x] by rw [HSN.out, if_neg hki])
        go_wp2_with (at_builtin; refine wpList_append_row kMove rfl _ _ 27 rfl 39 i0 _ 16 Try.underlying27 hi hz0 hz1 hz2 rfl (by decide) _ ys fp rfl (HR.out.chg (S := fun _ => False) (by (repeat (first | (with_reducible first | exact Chg.refl _ _ | assumption) | (with_reducible refine Chg.drew ?_) | ((with_reducible refine Chg.setCell ?_ ?hs _); (case hs => first | (simp; done) | (simp; omega) | omega)) | (with_reducible refine Chg.alloc ?_ _)))) (by simp)) _ _ [.int .i64 x.to, .int .i64 x.src] x [] rfl ⟨rfl, rfl⟩ (by simp) (box_news (by simp)) (by simp [maxLen]; omega) (by omega) ?_; intro g cap w3 fp3 hr3 hf3 hC3)
        obtain ⟨u3, rfl⟩ := u.app (by repeat (first | (with_reducible first | exact Below.refl _ _ | assumption | exact ext_box _) | (with_reducible apply Below.drew) | ((with_reducible refine Below.setCell ?_ ?hs _); (case hs => first | (simp; done) | (simp; omega) | omega)) | ((with_reducible refine Below.alloc ?_ ?hs _); (case hs => first | (simp; done) | (simp; omega) | omega)))) hC3 (fun q hq => HF.out q hq)
        go_roundw
        case rel => exact ⟨k + 1, fp3, u3, by omega, by go_num, by rw [HS2.out]; simpa using hr3, fun q hq => by
          have := u.hb.size
          rcases hf3 q hq with h | h | h
          · exact HF.out q h
          · simp at h
          · simp at h; omega, rfl⟩
        case measure => simp [intOf]; omega
    · have hke : k = ms.length := by omega
      subst hke
      rw [List.take_length] at HR
      simp only [List.take_length]
      go_wp2
      go_ret
      exact ⟨_, fp, rfl, HR.out, HF.out, u.hb⟩
end Go.Proofs.Ytnnfjjgohhicjaa
