/- Contract: spec.Sequence. -/
import Derived.Test.YtnnfjjgohhicjaaQe
namespace Go.Proofs.Ytnnfjjgohhicjaa
open Go.RowKit
set_option linter.unusedSimpArgs false
set_option linter.unusedVariables false
set_option maxRecDepth 100000

set_option maxHeartbeats 4000000 in
theorem seq_s (A : Option Addr) (c : Nat) (ms : List Move) (w : World) (hx : C kMove w A ms) (hm : ms.length ≤ 1048576) :
    Calls Try.prog 7 #[.slice A ms.length c] w (RetRow 41 kInstr w (seqF ms)) := by
  obtain ⟨j0, hj, hjz0, hjz1, hjz2⟩ := info_parts info_move
  have HGM := Lib.hid (goodMoves_c A c ms w hx hm)
  by_cases hok : okM ms
  · have HD : Hid (decide (okM ms) = true) := Lib.hid (by simp [hok])
    have HE := Lib.hid (show seqF ms = emitS (2 * (live ms).length) (live ms) by simp [seqF, hok])
    have h64 : ms.length ≤ 64 := hok.1
    clear hok
    go_enter Try.func7, Try.ntmps7
    go_upto_region 4 with (go_at_call 16; have hgm := HGM.out; rw [HD.out] at hgm; (with_reducible refine hgm.mono ?_); rintro e w1 ⟨rfl, hb1⟩)
    have HB1 := Lib.hid hb1
    go_wp2
    go_loopw [3, 4] (fun t3 t4 wr => ∃ (k : Nat) (fp : List Nat) (u : Ext w), k ≤ ms.length ∧ t4 = .int .i64 k ∧ Row 39 kMove wr t3 (live (ms.take k)) fp ∧ (∀ q ∈ fp, w.heap.size ≤ q) ∧ wr = u.w) (fun _ t4 _ => ms.length - (intOf t4).toNat)
    case atStart => exact ⟨0, [w1.heap.size], ⟨w1.alloc (.cells #[] 39), HB1.out.alloc HB1.out.size _⟩, by omega, rfl, by simpa [live] using Row.empty0 rfl, fun q hq => by simp at hq; subst hq; exact HB1.out.size, rfl⟩
    case round =>
      obtain ⟨k, fp, u, hk, rfl, hr, hfp, rfl⟩ := hrel
      have HR := Lib.hid hr
      have HF := Lib.hid hfp
      obtain ⟨A9, c9, hv, hl9⟩ := hr.form
      clear hr hfp hb1
      subst hv
      have hlen : (live (ms.take k)).length ≤ 64 := Nat.le_trans (live_len _) (by simp; omega)
      by_cases hlt : k < ms.length
      · obtain ⟨x, ex⟩ := get_of_lt hlt
        obtain ⟨a, _, rfl, rfl, hc⟩ := hx.at ex
        have PX := hc2E (n := k * 2) hc
        have HSN := Lib.hid (filter_snoc (fun m : Move => decide (m.to ≠ m.src)) ex)
        have HL := Lib.hid (show live (ms.take (k + 1)) = live (ms.take k) ++ if decide (x.to ≠ x.src) then [x] else [] from HSN.out)
        clear hc ex HSN
        obtain ⟨ys, hys⟩ : ∃ ys, live (ms.take k) = ys := ⟨_, rfl⟩
        rw [hys] at HR HL hlen
        simp only [hys]
        clear hys
        by_cases he : x.to = x.src
        · have hb1 : (x.to != x.src) = false := by simp [he]
          have HL2 := Lib.hid (show live (ms.take (k + 1)) = ys by rw [HL.out]; simp [he])
          have HR' := Lib.hid (fun (u2 : Ext u.w) => HR.out.chg (chg_of u2.hb) (by simp))
          have PX' := fun (u2 : Ext u.w) => PX ⟨u2.w, u.hb.trans (u2.hb.mono u.hb.size)⟩
          clear PX
          go_wp2
          refine wp_region_ext (W := u.w) (by kernel_rfl) (by kernel_rfl) ⟨Ext.self u.w, rfl⟩ ?_
          (repeat (rw [wpQuiet_cons]; go_simp)); rw [wpQuiet_nil']
          intro u2
          go_wp2
          go_roundw
          case rel => exact ⟨k + 1, fp, ⟨u2.w, u.hb.trans (u2.hb.mono u.hb.size)⟩, by omega, by go_num, by rw [HL2.out]; exact HR'.out u2, HF.out, rfl⟩
          case measure => simp [intOf]; omega
        · have hb1 : (x.to != x.src) = true := by simp [he]
          have HL2 := Lib.hid (show live (ms.take (k + 1)) = ys ++ [x] by rw [HL.out]; simp [he])
          have HR' := Lib.hid (fun (u2 : Ext u.w) => HR.out.chg (chg_of u2.hb) (by simp))
          have PX' := fun (u2 : Ext u.w) => PX ⟨u2.w, u.hb.trans (u2.hb.mono u.hb.size)⟩
          clear PX
          go_wp2
          refine wp_region_ext (W := u.w) (by kernel_rfl) (by kernel_rfl) ⟨Ext.self u.w, rfl⟩ ?_
          (repeat (rw [wpQuiet_cons]; go_simp)); rw [wpQuiet_nil']
          intro u2
          obtain ⟨v0, v1⟩ := PX' u2
          have HR2 := Lib.hid (HR'.out u2)
          have hu2 := u2.hb.size
          go_wp2_with (at_builtin; refine wpList_append_row kMove rfl _ _ 27 rfl 39 j0 _ 16 Try.underlying27 hj hjz0 hjz1 hjz2 rfl (by decide) _ ys fp rfl (HR2.out.chg (S := fun _ => False) (by (repeat (first | (with_reducible first | exact Chg.refl _ _ | assumption) | (with_reducible refine Chg.drew ?_) | ((with_reducible refine Chg.setCell ?_ ?hs _); (case hs => first | (simp; done) | (simp; omega) | omega)) | (with_reducible refine Chg.alloc ?_ _)))) (by simp)) _ _ [.int .i64 x.to, .int .i64 x.src] x [] rfl ⟨rfl, rfl⟩ (by simp) (box_news (by simp)) (by simp [maxLen]; omega) (by omega) ?_; intro g cap w3 fp3 hr3 hf3 hC3)
          obtain ⟨u3, rfl⟩ := (⟨u2.w, u.hb.trans (u2.hb.mono u.hb.size)⟩ : Ext w).app (by repeat (first | (with_reducible first | exact Below.refl _ _ | assumption | exact ext_box _) | (with_reducible apply Below.drew) | ((with_reducible refine Below.setCell ?_ ?hs _); (case hs => first | (simp; done) | (simp; omega) | omega)) | ((with_reducible refine Below.alloc ?_ ?hs _); (case hs => first | (simp; done) | (simp; omega) | omega)))) hC3 (fun q hq => HF.out q hq)
          go_roundw
          case rel => exact ⟨k + 1, fp3, u3, by omega, by go_num, by rw [HL2.out]; simpa using hr3, fun q hq => by
            have := u.hb.size
            rcases hf3 q hq with h | h | h
            · exact HF.out q h
            · simp at h
            · simp at h; omega, rfl⟩
          case measure => simp [intOf]; omega
      · have hke : k = ms.length := by omega
        subst hke
        rw [List.take_length] at HR hlen
        simp only [List.take_length]
        obtain ⟨nx, hnx⟩ : ∃ nx, live ms = nx := ⟨_, rfl⟩
        rw [hnx] at HR HE hlen
        simp only [hnx]
        clear hnx
        have hwn : IntKind.i64.wrap (2 * (nx.length : Int)) = 2 * (nx.length : Int) := wi64 (by omega) (by omega)
        have HCA := Lib.hid (fun W (h : Below u.w.heap.size u.w W) => emit_c (2 * nx.length) (2 * (nx.length : Int)) A9 c9 nx W (by push_cast; rfl) (HR.out.reads.below h) (by omega) (by omega))
        go_wp2_with (go_at_call 17; (with_reducible refine (HCA.out _ (by (repeat (first | (with_reducible first | exact Below.refl _ _ | assumption | exact ext_box _) | (with_reducible apply Below.drew) | ((with_reducible refine Below.setCell ?_ ?hs _); (case hs => first | (simp; done) | (simp; omega) | omega)) | ((with_reducible refine Below.alloc ?_ ?hs _); (case hs => first | (simp; done) | (simp; omega) | omega)))))).mono ?_); intro e w5 hp; unfold RetRow at hp; obtain ⟨v5, fp5, rfl, hr5, hf5, hb5⟩ := hp; obtain ⟨A5, c5, rfl, -⟩ := hr5.form; have HB5 : Below u.w.heap.size u.w w5 := Below.then_ (by (repeat (first | (with_reducible first | exact Below.refl _ _ | assumption | exact ext_box _) | (with_reducible apply Below.drew) | ((with_reducible refine Below.setCell ?_ ?hs _); (case hs => first | (simp; done) | (simp; omega) | omega)) | ((with_reducible refine Below.alloc ?_ ?hs _); (case hs => first | (simp; done) | (simp; omega) | omega))))) hb5)
        go_ret
        exact ⟨_, fp5, rfl, by rw [HE.out]; exact hr5, fun b hb => Nat.le_trans u.hb.size (hf5 b hb), u.hb.trans (HB5.mono u.hb.size)⟩
  · have HD : Hid (decide (okM ms) = false) := Lib.hid (by simp [hok])
    have HE := Lib.hid (show seqF ms = [] by simp [seqF, hok])
    clear hok
    go_enter Try.func7, Try.ntmps7
    go_wp2_with (go_at_call 16; have hgm := HGM.out; rw [HD.out] at hgm; (with_reducible refine hgm.mono ?_); rintro e w1 ⟨rfl, hb1⟩)
    go_ret
    exact ⟨_, [w1.heap.size], rfl, by rw [HE.out]; exact Row.empty0 rfl, fun b hb => by simp at hb; subst hb; exact hb1.size, hb1.alloc hb1.size _⟩
end Go.Proofs.Ytnnfjjgohhicjaa
