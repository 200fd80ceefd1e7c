/- Contract: spec.l4Emit. -/
import Derived.Test.YtnnfjjgohhicjaaQs
import Derived.Test.YtnnfjjgohhicjaaKxa
import Derived.Test.YtnnfjjgohhicjaaKxb
import Derived.Deep.RegionHeld3
import Derived.StillTailTactics
namespace Go.Proofs.Ytnnfjjgohhicjaa
open Go.RowKit
set_option linter.unusedSimpArgs false
set_option linter.unusedVariables false
set_option maxRecDepth 100000

theorem emitS_len : ∀ (n : Nat) (ms : List Move), (emitS n ms).length ≤ n
  | 0, _ => Nat.le_refl _
  | n + 1, ms => by
    rw [emitS]
    split
    · simp
    · split
      · have := emitS_len n (ms.map (scr (toAt ms (lowF ms ms.length))))
        rw [List.length_cons]; omega
      · have := emitS_len n (ms.eraseIdx (bestF ms ms.length).toNat)
        rw [List.length_append]
        have h1 : ((ms[(bestF ms ms.length).toNat]?.map mvI).toList).length ≤ 1 := by
          cases ms[(bestF ms ms.length).toNat]? <;> simp
        omega
/-- A block of one element's cells is a row of one. -/
theorem row_one {α : Type} {d : Kd α} {T : TypeId} {g : Nat} {w : World} {x : α} {cs : List Value} (hO : d.O w x cs []) (h : Bk g T cs w) (h1 : d.sz = cs.length) (h0 : 0 < cs.length) : Row T d w (.slice (some ⟨g, 0, none⟩) 1 1) [x] [g] := by
  refine ⟨[cs], [[]], ?_, .cons hO .nil, by simp [Value.ownBlock], by simp⟩
  refine ⟨by simp [h1], .inr ⟨g, 1, cs.toArray, rfl, Nat.zero_le _, h, Nat.le_refl _, by simp [maxLen], by simp [h1], by simp [h1]⟩⟩
theorem best_cases (ms : List Move) (k : Nat) : bestF ms k = -1 ∨ ∃ b : Nat, bestF ms k = b ∧ b < k := by
  rcases bestF_is ms k with ⟨h, _⟩ | ⟨i, hi, hb, _⟩
  · exact .inl h
  · exact .inr ⟨i, hb, hi⟩
def icells (o d a : Int) : List Value := [.int .i64 o, .int .i64 d, .int .i64 a, .int .i64 0, .int .i64 0]
set_option maxHeartbeats 16000000 in
theorem emit_c : ∀ (n : Nat) (l : Int) (A : Option Addr) (c : Nat) (ms : List Move) (w : World), l = n → C kMove w A ms → ms.length ≤ 1048576 → n ≤ 1048576 →
    Calls Try.prog 17 #[.slice A ms.length c, .int .i64 l] w (RetRow 41 kInstr w (emitS n ms)) := by
  intro n
  induction n with
  | zero =>
    rintro l A c ms w rfl hx hm -
    by_cases h0 : ms.length = 0
    · go_enter Try.func17, Try.ntmps17
      go_wp2
      go_ret
      exact ⟨_, [w.heap.size], rfl, by rw [show emitS 0 ms = [] from rfl]; exact Row.empty0 rfl, by simp, (Below.refl _ _).alloc (Nat.le_refl _) _⟩
    · have h1 : ((ms.length : Int) == 0) = false := by rw [beq_eq_false_iff_ne]; omega
      go_enter Try.func17, Try.ntmps17
      go_wp2
      go_ret
      exact ⟨_, [w.heap.size], rfl, by rw [show emitS 0 ms = [] from rfl]; exact Row.empty0 rfl, by simp, (Below.refl _ _).alloc (Nat.le_refl _) _⟩
  | succ n ih =>
    intro l A c ms w hl hx hm hn
    obtain rfl : l = (n : Int) + 1 := by omega
    clear hl
    obtain ⟨i0, hi, hz0, hz1, hz2⟩ := info_parts info_instr
    obtain ⟨j0, hj, hjz0, hjz1, hjz2⟩ := info_parts info_move
    by_cases h0 : ms.length = 0
    · have HE := Lib.hid (show emitS (n + 1) ms = [] by rw [emitS, if_pos (List.eq_nil_of_length_eq_zero h0)])
      go_enter Try.func17, Try.ntmps17
      go_wp2
      go_ret
      exact ⟨_, [w.heap.size], rfl, by rw [HE.out]; exact Row.empty0 rfl, by simp, (Below.refl _ _).alloc (Nat.le_refl _) _⟩
    · have h1 : ((ms.length : Int) == 0) = false := by rw [beq_eq_false_iff_ne]; omega
      have h2 : ((n : Int) + 1 == 0) = false := by rw [beq_eq_false_iff_ne]; omega
      have HIH := Lib.hid ih
      have HNE := Lib.hid h0
      clear ih h0
      go_enter Try.func17, Try.ntmps17
      go_wp2
      go_loopw [5, 6, 7] (fun t5 t6 t7 wr => ∃ (i : Nat) (u : Ext w), i ≤ ms.length ∧ t7 = .int .i64 i ∧ t6 = .int .i64 (lowF ms i : Nat) ∧ t5 = .int .i64 (bestF ms i) ∧ wr = u.w) (fun _ _ t7 _ => ms.length - (intOf t7).toNat)
      case atStart => exact ⟨0, Ext.self w, by omega, rfl, rfl, rfl, rfl⟩
      case round =>
        obtain ⟨i, u, hil, rfl, rfl, rfl, rfl⟩ := hrel
        have hlo := lowF_le ms i
        by_cases hlt : i < ms.length
        · obtain ⟨x, ex⟩ := get_of_lt hlt
          have hlol : lowF ms i < ms.length := by omega
          obtain ⟨y, ey⟩ := get_of_lt hlol
          have HLO := Lib.hid (show lowF ms (i + 1) = if x.to < y.to then i else lowF ms i by rw [lowF, toAt_of ex, toAt_of ey])
          obtain ⟨a, _, rfl, rfl, hc⟩ := hx.at ex
          obtain ⟨_, _, he0, rfl, hcy⟩ := hx.at ey
          obtain rfl := Option.some.inj he0
          have PX := hc2E (n := i * 2) hc
          have PY := hc2E (n := lowF ms i * 2) hcy
          have HEX := Lib.hid ex
          clear hc hcy he0 ex ey
          generalize lowF ms i = lo at *
          obtain ⟨lo2, HL2, hcase⟩ : ∃ lo2 : Nat, Hid (lowF ms (i + 1) = lo2) ∧ ((x.to < y.to ∧ i = lo2) ∨ (¬ x.to < y.to ∧ lo = lo2)) := by
            by_cases h : x.to < y.to
            · exact ⟨i, Lib.hid (by rw [HLO.out, if_pos h]), .inl ⟨h, rfl⟩⟩
            · exact ⟨lo, Lib.hid (by rw [HLO.out, if_neg h]), .inr ⟨h, rfl⟩⟩
          clear HLO
          rcases hcase with ⟨hxy, rfl⟩ | ⟨hxy, rfl⟩
          all_goals
            go_wp2
            refine wp_region_ext (W := w) (by kernel_rfl) (by kernel_rfl) ⟨_, rfl⟩ ?_
            repeat quiet_step (fail)
            refine wpQuiet_nil ?_
            rintro _ ⟨u1, rfl⟩
            go_wp2
            clear hxy PY
            cases hrd : isRd ms i x.to
            · rcases best_cases ms i with hb | ⟨b, hb, hbi⟩
              · have HB := Lib.hid (show bestF ms (i + 1) = i by rw [bestF, toAt_of HEX.out, hrd, hb]; simp)
                rw [hb]
                have HRE := Lib.hid (fun u : Ext w => hrd ▸ isRead_c (some a) c ms i x.to u.w (hx.ext u) hm (by omega))
                clear hrd hb
                refine wp_region_ext (W := w) (by kernel_rfl) (by kernel_rfl) ⟨_, rfl⟩ ?_
                (repeat (rw [wpQuiet_cons]; go_simp)); apply Exists.intro; apply And.intro; (focus (intro _; (go_at_call 25; exact ext_of (HRE.out _)))); (repeat (rw [wpQuiet_cons]; go_simp)); rw [wpQuiet_nil']
                intro u2
                go_wp2
                go_roundw
                case rel => exact ⟨i + 1, u2, by omega, by go_num, by rw [HL2.out], by rw [HB.out], rfl⟩
                case measure => simp [intOf]; omega
              · obtain ⟨z, ez⟩ := get_of_lt (show b < ms.length by omega)
                have hbl : b < ms.length := by omega
                obtain ⟨_, _, he0, rfl, hcz⟩ := hx.at ez
                obtain rfl := Option.some.inj he0
                have PZ := hc2E (n := b * 2) hcz
                have HBB := Lib.hid (show bestF ms (i + 1) = if x.to < z.to then (i : Int) else b by rw [bestF, toAt_of HEX.out, hrd, hb, Int.toNat_natCast, toAt_of ez]; simp [show ¬ ((b : Int) < 0) by omega])
                rw [hb]
                have HRE := Lib.hid (fun u : Ext w => hrd ▸ isRead_c (some a) c ms i x.to u.w (hx.ext u) hm (by omega))
                clear hrd hb hcz he0 ez
                by_cases hxz : x.to < z.to
                all_goals
                  refine wp_region_ext (W := w) (by kernel_rfl) (by kernel_rfl) ⟨_, rfl⟩ ?_
                  (repeat (rw [wpQuiet_cons]; go_simp)); apply Exists.intro; apply And.intro; (focus (intro _; (go_at_call 25; exact ext_of (HRE.out _)))); (repeat (rw [wpQuiet_cons]; go_simp)); rw [wpQuiet_nil']
                  intro u2
                  go_wp2
                  go_roundw
                  case rel => exact ⟨i + 1, u2, by omega, by go_num, by rw [HL2.out], by rw [HBB.out]; simp [hxz], rfl⟩
                  case measure => simp [intOf]; omega
            · have HB := Lib.hid (show bestF ms (i + 1) = bestF ms i by rw [bestF, toAt_of HEX.out, hrd]; simp)
              have HRE := Lib.hid (fun u : Ext w => hrd ▸ isRead_c (some a) c ms i x.to u.w (hx.ext u) hm (by omega))
              clear hrd
              have hyu := yield_undef
              generalize bestF ms i = bb at *
              refine wp_region_ext (W := w) (by kernel_rfl) (by kernel_rfl) ⟨_, rfl⟩ ?_
              (repeat (rw [wpQuiet_cons]; go_simp)); apply Exists.intro; apply And.intro; (focus (intro _; (go_at_call 25; exact ext_of (HRE.out _)))); (repeat (rw [wpQuiet_cons]; go_simp)); rw [wpQuiet_nil']
              intro u2
              go_wp2
              go_roundw
              case rel => exact ⟨i + 1, u2, by omega, by go_num, by rw [HL2.out], by rw [HB.out], rfl⟩
              case measure => simp [intOf]; omega
        · have hie : i = ms.length := by omega
          subst hie
          have hlol : lowF ms ms.length < ms.length := by have := HNE.out; omega
          rcases best_cases ms ms.length with hb | ⟨b, hb, hbi⟩
          · obtain ⟨z, ez⟩ := get_of_lt hlol
            obtain ⟨a, _, rfl, rfl, hcz⟩ := hx.at ez
            have PZ := hc2E (n := lowF ms ms.length * 2) hcz
            have HE0 := Lib.hid (show emitS (n + 1) ms = putI z.to :: emitS n (ms.map (scr z.to)) by
              rw [emitS, if_neg (fun e => HNE.out (by rw [e]; rfl)), if_pos (by omega), toAt_of ez])
            clear hcz ez
            rw [hb]
            generalize lowF ms ms.length = lo at *
            generalize z.to = r at *
            have hneg : (-1 : Int) < 0 := by omega
            go_wp2
            go_loopw [9, 10] (fun t9 t10 wr => ∃ (k : Nat) (fp : List Nat) (u : Ext w), k ≤ ms.length ∧ t10 = .int .i64 k ∧ Row 39 kMove wr t9 ((ms.take k).map (scr r)) fp ∧ (∀ q ∈ fp, w.heap.size ≤ q) ∧ wr = u.w) (fun _ t10 _ => ms.length - (intOf t10).toNat)
            case atStart => exact ⟨0, [u.w.heap.size], ⟨u.w.alloc (.cells #[] 39), u.hb.alloc u.hb.size _⟩, by omega, rfl, by simpa using Row.empty0 rfl, fun q hq => by simp at hq; subst hq; exact u.hb.size, rfl⟩
            case round =>
              obtain ⟨k, fp, u, hk, rfl, hr, hfp, rfl⟩ := hrel
              have HR := Lib.hid hr
              have HF := Lib.hid hfp
              obtain ⟨A9, c9, hv, hl9⟩ := hr.form
              clear hr hfp PZ
              subst hv
              have hlen : ((ms.take k).map (scr r)).length ≤ 1048576 := by simp; omega
              by_cases hlt : k < ms.length
              · obtain ⟨x, ex⟩ := get_of_lt hlt
                obtain ⟨_, _, he0, rfl, hc⟩ := (hx.ext u).at ex
                obtain rfl := Option.some.inj he0
                obtain ⟨v0, v1⟩ := hc2 (n := k * 2) hc
                have HSN := Lib.hid (show (ms.take (k + 1)).map (scr r) = (ms.take k).map (scr r) ++ [scr r x] by rw [take_snoc ex, List.map_append]; rfl)
                clear hc he0 ex
                obtain ⟨ys, hys⟩ : ∃ ys, (ms.take k).map (scr r) = ys := ⟨_, rfl⟩
                rw [hys] at HR HSN hlen
                simp only [hys]
                clear hys
                by_cases hs : x.src = r
                · have HX2 := Lib.hid (show scr r x = ⟨x.to, -1⟩ by simp [scr, hs])
                  go_wp2_with (at_builtin; refine wpList_append_row kMove rfl _ _ 27 rfl 39 j0 _ 16 Try.underlying27 hj hjz0 hjz1 hjz2 rfl (by decide) _ ys fp rfl (HR.out.chg (S := fun _ => False) (by (repeat (first | (with_reducible first | exact Chg.refl _ _ | assumption) | (with_reducible refine Chg.drew ?_) | ((with_reducible refine Chg.setCell ?_ ?hs _); (case hs => first | (simp; done) | (simp; omega) | omega)) | (with_reducible refine Chg.alloc ?_ _)))) (by simp)) _ _ [.int .i64 x.to, .int .i64 (-1)] (⟨x.to, -1⟩ : Move) [] rfl ⟨rfl, rfl⟩ (by simp) (box_news (by simp)) (by simp [maxLen]; omega) (by omega) ?_; intro g cap w3 fp3 hr3 hf3 hC3)
                  obtain ⟨u3, rfl⟩ := u.app (by repeat (first | (with_reducible first | exact Below.refl _ _ | assumption | exact ext_box _) | (with_reducible apply Below.drew) | ((with_reducible refine Below.setCell ?_ ?hs _); (case hs => first | (simp; done) | (simp; omega) | omega)) | ((with_reducible refine Below.alloc ?_ ?hs _); (case hs => first | (simp; done) | (simp; omega) | omega)))) hC3 (fun q hq => HF.out q hq)
                  go_roundw
                  case rel => exact ⟨k + 1, fp3, u3, by omega, by go_num, by rw [HSN.out, HX2.out]; simpa using hr3, fun q hq => by
                    have := u.hb.size
                    rcases hf3 q hq with h | h | h
                    · exact HF.out q h
                    · simp at h
                    · simp at h; omega, rfl⟩
                  case measure => simp [intOf]; omega
                · have HX2 := Lib.hid (show scr r x = x by simp [scr, hs])
                  go_wp2_with (at_builtin; refine wpList_append_row kMove rfl _ _ 27 rfl 39 j0 _ 16 Try.underlying27 hj hjz0 hjz1 hjz2 rfl (by decide) _ ys fp rfl (HR.out.chg (S := fun _ => False) (by (repeat (first | (with_reducible first | exact Chg.refl _ _ | assumption) | (with_reducible refine Chg.drew ?_) | ((with_reducible refine Chg.setCell ?_ ?hs _); (case hs => first | (simp; done) | (simp; omega) | omega)) | (with_reducible refine Chg.alloc ?_ _)))) (by simp)) _ _ [.int .i64 x.to, .int .i64 x.src] x [] rfl ⟨rfl, rfl⟩ (by simp) (box_news (by simp)) (by simp [maxLen]; omega) (by omega) ?_; intro g cap w3 fp3 hr3 hf3 hC3)
                  obtain ⟨u3, rfl⟩ := u.app (by repeat (first | (with_reducible first | exact Below.refl _ _ | assumption | exact ext_box _) | (with_reducible apply Below.drew) | ((with_reducible refine Below.setCell ?_ ?hs _); (case hs => first | (simp; done) | (simp; omega) | omega)) | ((with_reducible refine Below.alloc ?_ ?hs _); (case hs => first | (simp; done) | (simp; omega) | omega)))) hC3 (fun q hq => HF.out q hq)
                  go_roundw
                  case rel => exact ⟨k + 1, fp3, u3, by omega, by go_num, by rw [HSN.out, HX2.out]; simpa using hr3, fun q hq => by
                    have := u.hb.size
                    rcases hf3 q hq with h | h | h
                    · exact HF.out q h
                    · simp at h
                    · simp at h; omega, rfl⟩
                  case measure => simp [intOf]; omega
              · have hke : k = ms.length := by omega
                subst hke
                rw [List.take_length] at HR hlen
                simp only [List.take_length]
                obtain ⟨nx, hnx⟩ : ∃ nx, ms.map (scr r) = nx := ⟨_, rfl⟩
                rw [hnx] at HR HE0 hlen
                simp only [hnx]
                clear hnx
                have hel := emitS_len n nx
                have HCA := Lib.hid (fun W (h : Below u.w.heap.size u.w W) => HIH.out n A9 c9 nx W rfl (HR.out.reads.below h) hlen (by omega))
                go_wp2_with (first
                  | (go_at_call 17; (with_reducible refine (HCA.out _ (by (repeat (first | (with_reducible first | exact Below.refl _ _ | assumption | exact ext_box _) | (with_reducible apply Below.drew) | ((with_reducible refine Below.setCell ?_ ?hs _); (case hs => first | (simp; done) | (simp; omega) | omega)) | ((with_reducible refine Below.alloc ?_ ?hs _); (case hs => first | (simp; done) | (simp; omega) | omega)))))).mono ?_); intro e w5 hp; unfold RetRow at hp; obtain ⟨v5, fp5, rfl, hr5, hf5, hb5⟩ := hp; obtain ⟨A5, c5, rfl, -⟩ := hr5.form; have KL := Lib.hid ((Bk.made u.w 41 [.int .i64 12, .int .i64 0, .int .i64 r, .int .i64 0, .int .i64 0]).below hb5); have HC5 := Lib.hid hr5.reads; have HB5 : Below u.w.heap.size u.w w5 := Below.then_ (by (repeat (first | (with_reducible first | exact Below.refl _ _ | assumption | exact ext_box _) | (with_reducible apply Below.drew) | ((with_reducible refine Below.setCell ?_ ?hs _); (case hs => first | (simp; done) | (simp; omega) | omega)) | ((with_reducible refine Below.alloc ?_ ?hs _); (case hs => first | (simp; done) | (simp; omega) | omega))))) hb5; clear hr5)
                  | (at_builtin; refine wpList_append_flat kInstr flat_flat rfl _ _ 25 rfl 41 i0 _ 40 Try.underlying25 hi hz0 hz1 hz2 rfl (by decide) _ [putI r] [u.w.heap.size] rfl (row_one ⟨rfl, rfl⟩ KL.out rfl (by simp)) A5 c5 (emitS n nx) rfl HC5.out (by simp [maxLen]; omega) (by simp; omega) ?_; intro A7 c7 w7 fp7 hr7 hf7 hc7 hne7; generalize hgl : [putI r] ++ emitS n nx = out at *))
                go_ret
                have hu := u.hb.size
                have h5 := HB5.size
                refine ⟨_, fp7, rfl, by rw [HE0.out, show putI r :: emitS n nx = out from hgl]; exact hr7, fun b hb => ?_, ?_⟩
                · rcases hf7 b hb with h | h
                  · simp at h; omega
                  · omega
                · exact (u.hb.trans (HB5.mono hu)).trans (hc7.below (by omega) fun q hq => by simp at hq; omega)
          · obtain ⟨z, ez⟩ := get_of_lt hbi
            obtain ⟨a, _, rfl, rfl, hcz⟩ := hx.at ez
            have PZ := hc2E (n := b * 2) hcz
            have HE0 := Lib.hid (show emitS (n + 1) ms = [mvI z] ++ emitS n (ms.eraseIdx b) by
              rw [emitS, if_neg (fun e => HNE.out (by rw [e]; rfl)), if_neg (by omega), hb, Int.toNat_natCast, ez]; rfl)
            have hel := emitS_len n (ms.eraseIdx b)
            have hml := List.length_eraseIdx_le ms b
            have HWO := Lib.hid (fun W (h : Below w.heap.size w W) => without_c (some a) c ms b W (hx.below h) hm (by omega))
            clear hcz ez hlol hlo
            rw [hb]
            clear hb
            generalize lowF ms ms.length = lo at *
            obtain ⟨v0, v1⟩ := PZ u
            have zv : (a.add (b * 2)).block < u.w.heap.size := World.block_lt_of_cell? u.w _ v0
            obtain ⟨nx, hnx⟩ : ∃ nx, ms.eraseIdx b = nx := ⟨_, rfl⟩
            rw [hnx] at HE0 hel hml HWO
            clear hnx PZ
            have HCA := Lib.hid (fun W A9 c9 (h : C kMove W A9 nx) => HIH.out n A9 c9 nx W rfl h (by omega) (by omega))
            clear HIH
            have hbn : ¬ ((b : Int) < 0) := by omega
            have hwn : IntKind.i64.wrap (n : Int) = n := wi64 (by omega) (by omega)
            by_cases hs : z.src < 0
            · have HMV := Lib.hid (show mvI z = ⟨13, z.to, 0, 0, 0⟩ by simp [mvI, hs])
              have KS := Lib.hid (fun W (h : Below u.w.heap.size u.w W) => (⟨(h.cell zv).trans v0, (h.cell (p := ⟨(a.add (b * 2)).block, (a.add (b * 2)).off + 1, none⟩) zv).trans v1⟩ : W.cell? (a.add (b * 2)) = some (.int .i64 z.to) ∧ W.cell? ⟨(a.add (b * 2)).block, (a.add (b * 2)).off + 1, none⟩ = some (.int .i64 z.src)))
              go_wp2
              go_region_held3 (fun w' => w'.cell? (a.add (b * 2)) = some (.int .i64 z.to) ∧ w'.cell? ⟨(a.add (b * 2)).block, (a.add (b * 2)).off + 1, none⟩ = some (.int .i64 z.src)) ((refine KS.out _ ?_; (repeat (first | (with_reducible first | exact Below.refl _ _ | assumption | exact ext_box _) | (with_reducible apply Below.drew) | ((with_reducible refine Below.setCell ?_ ?hs _); (case hs => first | (simp; done) | (simp; omega) | omega)) | ((with_reducible refine Below.alloc ?_ ?hs _); (case hs => first | (simp; done) | (simp; omega) | omega))))))
                (fail)
              go_upto_region 25 with (fail)
              have K6 := Lib.hid (show Bk u.w.heap.size 41 [.int .i64 13, .int .i64 z.to, .int .i64 0, .int .i64 0, .int .i64 0] (u.w.alloc (.cells #[.int .i64 13, .int .i64 z.to, .int .i64 0, .int .i64 0, .int .i64 0] 41)).drew from bk_drew (Bk.made u.w 41 [.int .i64 13, .int .i64 z.to, .int .i64 0, .int .i64 0, .int .i64 0]))
              have HB6 := Lib.hid (show Below u.w.heap.size u.w (u.w.alloc (.cells #[.int .i64 13, .int .i64 z.to, .int .i64 0, .int .i64 0, .int .i64 0] 41)).drew from ((Below.refl _ _).alloc (Nat.le_refl _) _).drew)
              generalize (u.w.alloc (.cells #[.int .i64 13, .int .i64 z.to, .int .i64 0, .int .i64 0, .int .i64 0] 41)).drew = w6 at *
              have HW6 := Lib.hid (fun W (h : Below w6.heap.size w6 W) => (u.hb.trans (HB6.out.mono u.hb.size)).trans (h.mono (Nat.le_trans u.hb.size HB6.out.size)))
              have KS2 := Lib.hid (fun W (h : Below w6.heap.size w6 W) => (by
                have k := K6.out.below h
                exact ⟨k.cell 0 rfl, k.cell 1 rfl, k.cell 2 rfl, k.cell 3 rfl, k.cell 4 rfl⟩ : W.cell? ⟨u.w.heap.size, 0, none⟩ = some (.int .i64 13) ∧ W.cell? ⟨u.w.heap.size, 1, none⟩ = some (.int .i64 z.to) ∧ W.cell? ⟨u.w.heap.size, 2, none⟩ = some (.int .i64 0) ∧ W.cell? ⟨u.w.heap.size, 3, none⟩ = some (.int .i64 0) ∧ W.cell? ⟨u.w.heap.size, 4, none⟩ = some (.int .i64 0)))
              obtain ⟨k0, k1, k2, k3, k4⟩ := KS2.out w6 (Below.refl _ _)
              have z6 := K6.out.lt
              have hu6 := HB6.out.size
              clear KS v0 v1 zv
              go_region_held3 (fun w' => w'.cell? ⟨u.w.heap.size, 0, none⟩ = some (.int .i64 13) ∧ w'.cell? ⟨u.w.heap.size, 1, none⟩ = some (.int .i64 z.to) ∧ w'.cell? ⟨u.w.heap.size, 2, none⟩ = some (.int .i64 0) ∧ w'.cell? ⟨u.w.heap.size, 3, none⟩ = some (.int .i64 0) ∧ w'.cell? ⟨u.w.heap.size, 4, none⟩ = some (.int .i64 0)) ((refine KS2.out _ ?_; (repeat (first | (with_reducible first | exact Below.refl _ _ | assumption | exact ext_box _) | (with_reducible apply Below.drew) | ((with_reducible refine Below.setCell ?_ ?hs _); (case hs => first | (simp; done) | (simp; omega) | omega)) | ((with_reducible refine Below.alloc ?_ ?hs _); (case hs => first | (simp; done) | (simp; omega) | omega))))))
                (first
                | (go_at_call 26; (with_reducible refine (HWO.out _ (HW6.out _ (by (repeat (first | (with_reducible first | exact Below.refl _ _ | assumption | exact ext_box _) | (with_reducible apply Below.drew) | ((with_reducible refine Below.setCell ?_ ?hs _); (case hs => first | (simp; done) | (simp; omega) | omega)) | ((with_reducible refine Below.alloc ?_ ?hs _); (case hs => first | (simp; done) | (simp; omega) | omega))))))).mono ?_); intro e w7 hp; unfold RetRow at hp; obtain ⟨v7, fp7, rfl, hr7, hf7, hb7⟩ := hp; obtain ⟨A9, c9, rfl, -⟩ := hr7.form; have HC7 := Lib.hid hr7.reads; have HV7 : Below w6.heap.size w6 w7 := Below.then_ (by (repeat (first | (with_reducible first | exact Below.refl _ _ | assumption | exact ext_box _) | (with_reducible apply Below.drew) | ((with_reducible refine Below.setCell ?_ ?hs _); (case hs => first | (simp; done) | (simp; omega) | omega)) | ((with_reducible refine Below.alloc ?_ ?hs _); (case hs => first | (simp; done) | (simp; omega) | omega))))) hb7; have hv7 := HV7.size; first | (have KL := Lib.hid ((Bk.made w6 41 [.int .i64 13, .int .i64 z.to, .int .i64 0, .int .i64 0, .int .i64 0]).below hb7)) | (have KL := Lib.hid ((bk_drew (Bk.made w6 41 [.int .i64 13, .int .i64 z.to, .int .i64 0, .int .i64 0, .int .i64 0])).below hb7)) | skip; clear hr7 hf7 hb7)
                | (go_at_call 17; (with_reducible refine (HCA.out _ _ _ (HC7.out.below (by (repeat (first | (with_reducible first | exact Below.refl _ _ | assumption | exact ext_box _) | (with_reducible apply Below.drew) | ((with_reducible refine Below.setCell ?_ ?hs _); (case hs => first | (simp; done) | (simp; omega) | omega)) | ((with_reducible refine Below.alloc ?_ ?hs _); (case hs => first | (simp; done) | (simp; omega) | omega))))))).mono ?_); intro e w8 hp; unfold RetRow at hp; obtain ⟨v8, fp8, rfl, hr8, hf8, hb8⟩ := hp; obtain ⟨A8, c8, rfl, -⟩ := hr8.form; have HC8 := Lib.hid hr8.reads; have HV8 : Below w6.heap.size w6 w8 := Below.then_ (by (repeat (first | (with_reducible first | exact Below.refl _ _ | assumption | exact ext_box _) | (with_reducible apply Below.drew) | ((with_reducible refine Below.setCell ?_ ?hs _); (case hs => first | (simp; done) | (simp; omega) | omega)) | ((with_reducible refine Below.alloc ?_ ?hs _); (case hs => first | (simp; done) | (simp; omega) | omega))))) hb8; have hv8 := HV8.size; first | (have KL2 := Lib.hid (KL.out.below (Below.then_ (by (repeat (first | (with_reducible first | exact Below.refl _ _ | assumption | exact ext_box _) | (with_reducible apply Below.drew) | ((with_reducible refine Below.setCell ?_ ?hs _); (case hs => first | (simp; done) | (simp; omega) | omega)) | ((with_reducible refine Below.alloc ?_ ?hs _); (case hs => first | (simp; done) | (simp; omega) | omega))))) hb8))) | (have KL2 := Lib.hid ((Bk.made w7 41 [.int .i64 13, .int .i64 z.to, .int .i64 0, .int .i64 0, .int .i64 0]).below hb8)) | (have KL2 := Lib.hid ((bk_drew (Bk.made w7 41 [.int .i64 13, .int .i64 z.to, .int .i64 0, .int .i64 0, .int .i64 0])).below hb8)) | skip; clear hr8 hf8 hb8)
                | (refine step_append_flat kInstr flat_flat rfl _ _ 25 rfl 41 i0 _ 40 Try.underlying25 hi hz0 hz1 hz2 rfl (by decide) _ [mvI z] _ rfl (row_one (d := kInstr) (x := mvI z) (cs := [.int .i64 13, .int .i64 z.to, .int .i64 0, .int .i64 0, .int .i64 0]) ⟨by rw [HMV.out], rfl⟩ (by first | exact KL2.out.below (by (repeat (first | (with_reducible first | exact Below.refl _ _ | assumption | exact ext_box _) | (with_reducible apply Below.drew) | ((with_reducible refine Below.setCell ?_ ?hs _); (case hs => first | (simp; done) | (simp; omega) | omega)) | ((with_reducible refine Below.alloc ?_ ?hs _); (case hs => first | (simp; done) | (simp; omega) | omega))))) | exact Bk.made w8 41 [.int .i64 13, .int .i64 z.to, .int .i64 0, .int .i64 0, .int .i64 0] | exact bk_drew (Bk.made w8 41 [.int .i64 13, .int .i64 z.to, .int .i64 0, .int .i64 0, .int .i64 0])) rfl (by simp)) A8 c8 (emitS n nx) rfl (HC8.out.below (by (repeat (first | (with_reducible first | exact Below.refl _ _ | assumption | exact ext_box _) | (with_reducible apply Below.drew) | ((with_reducible refine Below.setCell ?_ ?hs _); (case hs => first | (simp; done) | (simp; omega) | omega)) | ((with_reducible refine Below.alloc ?_ ?hs _); (case hs => first | (simp; done) | (simp; omega) | omega)))))) (by simp [maxLen]; omega) (by simp; omega) ?_; intro A7 c7' w9 fp9 hr9 hf9 hc9 hne9; have HV9 : Below w6.heap.size w6 w9 := Chg.below (S := fun q => w6.heap.size ≤ q) (Chg.trans (Chg.of_below (by (repeat (first | (with_reducible first | exact Below.refl _ _ | assumption | exact ext_box _) | (with_reducible apply Below.drew) | ((with_reducible refine Below.setCell ?_ ?hs _); (case hs => first | (simp; done) | (simp; omega) | omega)) | ((with_reducible refine Below.alloc ?_ ?hs _); (case hs => first | (simp; done) | (simp; omega) | omega)))))) (hc9.mono fun q _ hq => by simp at hq; have := HV7.size; have := HV8.size; omega)) (Nat.le_refl _) (fun _ h => h); have HF9 := Lib.hid (show ∀ q ∈ fp9, w6.heap.size ≤ q from fun q hq => (hf9 q hq).elim (fun h => by have := HV7.size; have := HV8.size; rw [List.mem_singleton.1 h]; omega) (fun h => by have := HV7.size; have := HV8.size; rw [h]; (try simp); omega)); clear hf9 hc9 hne9)
                | fail)
              all_goals
                go_wp2
                go_ret
                exact ⟨_, fp9, rfl, by rw [HE0.out]; exact hr9, fun b hb => Nat.le_trans (Nat.le_trans u.hb.size hu6) (HF9.out b hb), HW6.out _ HV9⟩
            · have HMV := Lib.hid (show mvI z = ⟨11, z.to, z.src, 0, 0⟩ by simp [mvI, hs])
              have KS := Lib.hid (fun W (h : Below u.w.heap.size u.w W) => (⟨(h.cell zv).trans v0, (h.cell (p := ⟨(a.add (b * 2)).block, (a.add (b * 2)).off + 1, none⟩) zv).trans v1⟩ : W.cell? (a.add (b * 2)) = some (.int .i64 z.to) ∧ W.cell? ⟨(a.add (b * 2)).block, (a.add (b * 2)).off + 1, none⟩ = some (.int .i64 z.src)))
              go_wp2
              go_region_held3 (fun w' => w'.cell? (a.add (b * 2)) = some (.int .i64 z.to) ∧ w'.cell? ⟨(a.add (b * 2)).block, (a.add (b * 2)).off + 1, none⟩ = some (.int .i64 z.src)) ((refine KS.out _ ?_; (repeat (first | (with_reducible first | exact Below.refl _ _ | assumption | exact ext_box _) | (with_reducible apply Below.drew) | ((with_reducible refine Below.setCell ?_ ?hs _); (case hs => first | (simp; done) | (simp; omega) | omega)) | ((with_reducible refine Below.alloc ?_ ?hs _); (case hs => first | (simp; done) | (simp; omega) | omega))))))
                (fail)
              go_upto_region 25 with (fail)
              have K6 := Lib.hid (show Bk u.w.heap.size 41 [.int .i64 11, .int .i64 z.to, .int .i64 z.src, .int .i64 0, .int .i64 0] (u.w.alloc (.cells #[.int .i64 11, .int .i64 z.to, .int .i64 z.src, .int .i64 0, .int .i64 0] 41)).drew from bk_drew (Bk.made u.w 41 [.int .i64 11, .int .i64 z.to, .int .i64 z.src, .int .i64 0, .int .i64 0]))
              have HB6 := Lib.hid (show Below u.w.heap.size u.w (u.w.alloc (.cells #[.int .i64 11, .int .i64 z.to, .int .i64 z.src, .int .i64 0, .int .i64 0] 41)).drew from ((Below.refl _ _).alloc (Nat.le_refl _) _).drew)
              generalize (u.w.alloc (.cells #[.int .i64 11, .int .i64 z.to, .int .i64 z.src, .int .i64 0, .int .i64 0] 41)).drew = w6 at *
              have HW6 := Lib.hid (fun W (h : Below w6.heap.size w6 W) => (u.hb.trans (HB6.out.mono u.hb.size)).trans (h.mono (Nat.le_trans u.hb.size HB6.out.size)))
              have KS2 := Lib.hid (fun W (h : Below w6.heap.size w6 W) => (by
                have k := K6.out.below h
                exact ⟨k.cell 0 rfl, k.cell 1 rfl, k.cell 2 rfl, k.cell 3 rfl, k.cell 4 rfl⟩ : W.cell? ⟨u.w.heap.size, 0, none⟩ = some (.int .i64 11) ∧ W.cell? ⟨u.w.heap.size, 1, none⟩ = some (.int .i64 z.to) ∧ W.cell? ⟨u.w.heap.size, 2, none⟩ = some (.int .i64 z.src) ∧ W.cell? ⟨u.w.heap.size, 3, none⟩ = some (.int .i64 0) ∧ W.cell? ⟨u.w.heap.size, 4, none⟩ = some (.int .i64 0)))
              obtain ⟨k0, k1, k2, k3, k4⟩ := KS2.out w6 (Below.refl _ _)
              have z6 := K6.out.lt
              have hu6 := HB6.out.size
              clear KS v0 v1 zv
              go_region_held3 (fun w' => w'.cell? ⟨u.w.heap.size, 0, none⟩ = some (.int .i64 11) ∧ w'.cell? ⟨u.w.heap.size, 1, none⟩ = some (.int .i64 z.to) ∧ w'.cell? ⟨u.w.heap.size, 2, none⟩ = some (.int .i64 z.src) ∧ w'.cell? ⟨u.w.heap.size, 3, none⟩ = some (.int .i64 0) ∧ w'.cell? ⟨u.w.heap.size, 4, none⟩ = some (.int .i64 0)) ((refine KS2.out _ ?_; (repeat (first | (with_reducible first | exact Below.refl _ _ | assumption | exact ext_box _) | (with_reducible apply Below.drew) | ((with_reducible refine Below.setCell ?_ ?hs _); (case hs => first | (simp; done) | (simp; omega) | omega)) | ((with_reducible refine Below.alloc ?_ ?hs _); (case hs => first | (simp; done) | (simp; omega) | omega))))))
                (first
                | (go_at_call 26; (with_reducible refine (HWO.out _ (HW6.out _ (by (repeat (first | (with_reducible first | exact Below.refl _ _ | assumption | exact ext_box _) | (with_reducible apply Below.drew) | ((with_reducible refine Below.setCell ?_ ?hs _); (case hs => first | (simp; done) | (simp; omega) | omega)) | ((with_reducible refine Below.alloc ?_ ?hs _); (case hs => first | (simp; done) | (simp; omega) | omega))))))).mono ?_); intro e w7 hp; unfold RetRow at hp; obtain ⟨v7, fp7, rfl, hr7, hf7, hb7⟩ := hp; obtain ⟨A9, c9, rfl, -⟩ := hr7.form; have HC7 := Lib.hid hr7.reads; have HV7 : Below w6.heap.size w6 w7 := Below.then_ (by (repeat (first | (with_reducible first | exact Below.refl _ _ | assumption | exact ext_box _) | (with_reducible apply Below.drew) | ((with_reducible refine Below.setCell ?_ ?hs _); (case hs => first | (simp; done) | (simp; omega) | omega)) | ((with_reducible refine Below.alloc ?_ ?hs _); (case hs => first | (simp; done) | (simp; omega) | omega))))) hb7; have hv7 := HV7.size; first | (have KL := Lib.hid ((Bk.made w6 41 [.int .i64 11, .int .i64 z.to, .int .i64 z.src, .int .i64 0, .int .i64 0]).below hb7)) | (have KL := Lib.hid ((bk_drew (Bk.made w6 41 [.int .i64 11, .int .i64 z.to, .int .i64 z.src, .int .i64 0, .int .i64 0])).below hb7)) | skip; clear hr7 hf7 hb7)
                | (go_at_call 17; (with_reducible refine (HCA.out _ _ _ (HC7.out.below (by (repeat (first | (with_reducible first | exact Below.refl _ _ | assumption | exact ext_box _) | (with_reducible apply Below.drew) | ((with_reducible refine Below.setCell ?_ ?hs _); (case hs => first | (simp; done) | (simp; omega) | omega)) | ((with_reducible refine Below.alloc ?_ ?hs _); (case hs => first | (simp; done) | (simp; omega) | omega))))))).mono ?_); intro e w8 hp; unfold RetRow at hp; obtain ⟨v8, fp8, rfl, hr8, hf8, hb8⟩ := hp; obtain ⟨A8, c8, rfl, -⟩ := hr8.form; have HC8 := Lib.hid hr8.reads; have HV8 : Below w6.heap.size w6 w8 := Below.then_ (by (repeat (first | (with_reducible first | exact Below.refl _ _ | assumption | exact ext_box _) | (with_reducible apply Below.drew) | ((with_reducible refine Below.setCell ?_ ?hs _); (case hs => first | (simp; done) | (simp; omega) | omega)) | ((with_reducible refine Below.alloc ?_ ?hs _); (case hs => first | (simp; done) | (simp; omega) | omega))))) hb8; have hv8 := HV8.size; first | (have KL2 := Lib.hid (KL.out.below (Below.then_ (by (repeat (first | (with_reducible first | exact Below.refl _ _ | assumption | exact ext_box _) | (with_reducible apply Below.drew) | ((with_reducible refine Below.setCell ?_ ?hs _); (case hs => first | (simp; done) | (simp; omega) | omega)) | ((with_reducible refine Below.alloc ?_ ?hs _); (case hs => first | (simp; done) | (simp; omega) | omega))))) hb8))) | (have KL2 := Lib.hid ((Bk.made w7 41 [.int .i64 11, .int .i64 z.to, .int .i64 z.src, .int .i64 0, .int .i64 0]).below hb8)) | (have KL2 := Lib.hid ((bk_drew (Bk.made w7 41 [.int .i64 11, .int .i64 z.to, .int .i64 z.src, .int .i64 0, .int .i64 0])).below hb8)) | skip; clear hr8 hf8 hb8)
                | (refine step_append_flat kInstr flat_flat rfl _ _ 25 rfl 41 i0 _ 40 Try.underlying25 hi hz0 hz1 hz2 rfl (by decide) _ [mvI z] _ rfl (row_one (d := kInstr) (x := mvI z) (cs := [.int .i64 11, .int .i64 z.to, .int .i64 z.src, .int .i64 0, .int .i64 0]) ⟨by rw [HMV.out], rfl⟩ (by first | exact KL2.out.below (by (repeat (first | (with_reducible first | exact Below.refl _ _ | assumption | exact ext_box _) | (with_reducible apply Below.drew) | ((with_reducible refine Below.setCell ?_ ?hs _); (case hs => first | (simp; done) | (simp; omega) | omega)) | ((with_reducible refine Below.alloc ?_ ?hs _); (case hs => first | (simp; done) | (simp; omega) | omega))))) | exact Bk.made w8 41 [.int .i64 11, .int .i64 z.to, .int .i64 z.src, .int .i64 0, .int .i64 0] | exact bk_drew (Bk.made w8 41 [.int .i64 11, .int .i64 z.to, .int .i64 z.src, .int .i64 0, .int .i64 0])) rfl (by simp)) A8 c8 (emitS n nx) rfl (HC8.out.below (by (repeat (first | (with_reducible first | exact Below.refl _ _ | assumption | exact ext_box _) | (with_reducible apply Below.drew) | ((with_reducible refine Below.setCell ?_ ?hs _); (case hs => first | (simp; done) | (simp; omega) | omega)) | ((with_reducible refine Below.alloc ?_ ?hs _); (case hs => first | (simp; done) | (simp; omega) | omega)))))) (by simp [maxLen]; omega) (by simp; omega) ?_; intro A7 c7' w9 fp9 hr9 hf9 hc9 hne9; have HV9 : Below w6.heap.size w6 w9 := Chg.below (S := fun q => w6.heap.size ≤ q) (Chg.trans (Chg.of_below (by (repeat (first | (with_reducible first | exact Below.refl _ _ | assumption | exact ext_box _) | (with_reducible apply Below.drew) | ((with_reducible refine Below.setCell ?_ ?hs _); (case hs => first | (simp; done) | (simp; omega) | omega)) | ((with_reducible refine Below.alloc ?_ ?hs _); (case hs => first | (simp; done) | (simp; omega) | omega)))))) (hc9.mono fun q _ hq => by simp at hq; have := HV7.size; have := HV8.size; omega)) (Nat.le_refl _) (fun _ h => h); have HF9 := Lib.hid (show ∀ q ∈ fp9, w6.heap.size ≤ q from fun q hq => (hf9 q hq).elim (fun h => by have := HV7.size; have := HV8.size; rw [List.mem_singleton.1 h]; omega) (fun h => by have := HV7.size; have := HV8.size; rw [h]; (try simp); omega)); clear hf9 hc9 hne9)
                | fail)
              all_goals
                go_wp2
                go_ret
                exact ⟨_, fp9, rfl, by rw [HE0.out]; exact hr9, fun b hb => Nat.le_trans (Nat.le_trans u.hb.size hu6) (HF9.out b hb), HW6.out _ HV9⟩
end Go.Proofs.Ytnnfjjgohhicjaa
