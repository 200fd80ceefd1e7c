/- Contracts: spec.l1Has, spec.l1Preds, spec.l1Defs, spec.l1Size. -/
import Derived.Test.YtnbkgaofdkkdnaaDoorKy
import Derived.Test.YtnbkgaofdkkdnaaDoorKx
import Derived.Test.YtnbkgaofdkkdnaaDoorKv
import Derived.Test.YtnbkgaofdkkdnaaDoorKn
import Derived.Test.YtnbkgaofdkkdnaaDoorPf
namespace Go.Proofs.YtnbkgaofdkkdnaaDoor
open Go.RowKit
set_option linter.unusedSimpArgs false
set_option linter.unusedVariables false
set_option maxRecDepth 100000

theorem has_c (A : Option Addr) (c : Nat) (xs : List Int) (x : Int) (w : World) (hx : C (kInt .i64) w A xs) (hm : xs.length ≤ 140737488351232) :
    Calls Tryd.prog 27 #[.slice A xs.length c, .int .i64 x] w fun e w' => e = .returned (.bool (decide (x ∈ xs))) ∧ w = w' := by
  go_enter Tryd.func27, Tryd.ntmps27
  go_wp2
  go_loop [5] (fun i => ∃ k : Nat, k ≤ xs.length ∧ i = .int .i64 k ∧ x ∉ xs.take k) (fun i => xs.length - (intOf i).toNat)
  case atStart => exact ⟨0, by omega, rfl, by simp⟩
  case round =>
    obtain ⟨k, hk, rfl, ht⟩ := hrel
    have HT := Lib.hid ht
    clear ht
    by_cases hlt : k < xs.length
    · obtain ⟨y, ey⟩ := get_of_lt hlt
      obtain ⟨a, _, rfl, rfl, hc⟩ := hx.at ey
      have p0 := hc1 (n := k * 1) hc
      rw [Nat.mul_one] at p0
      clear hc
      have EY := Lib.hid ey
      clear ey
      by_cases he : y = x
      · have hb : (y == x) = true := by simp [he]
        have HE := Lib.hid he
        clear he
        go_wp2
        go_ret
        have := List.mem_of_getElem? EY.out
        rw [HE.out] at this
        exact ⟨ret_bool (by simp [this]), rfl⟩
      · have hb : (y == x) = false := by simp [he]
        have HE := Lib.hid he
        clear he
        go_wp2
        go_round
        case rel => exact ⟨k + 1, by omega, by go_num, by rw [take_snoc EY.out, List.mem_append]; rintro (h | h); exact HT.out h; simp at h; exact HE.out h.symm⟩
        case measure => simp [intOf]; omega
    · have hn : x ∉ xs := by have := HT.out; rwa [List.take_of_length_le (by omega)] at this
      have HN := Lib.hid hn
      clear hn
      go_wp2
      go_ret
      exact ⟨ret_bool (by simp [HN.out]), rfl⟩
theorem box_news {W : World} {T : TypeId} {l : List Value} {b : Nat} (hb : b = W.heap.size) : ∀ (j : Nat) u, l[j]? = some u → (W.alloc (.cells l.toArray T)).cell? ((⟨b, 0, none⟩ : Addr).add j) = some u := by
  subst hb
  intro j u hu
  rw [add_plain, Nat.zero_add]
  have h := box_cell W l.toArray T (Ext.self _) j
  simp only [Ext.self] at h
  rw [h]
  simpa using hu
theorem Row.empty0 {α : Type} {e : TypeId} {d : Kd α} {W : World} {b : Nat} (hb : b = W.heap.size) : Row e d (W.alloc (.cells #[] e)) (.slice (some ⟨b, 0, none⟩) 0 0) ([] : List α) [b] := by
  subst hb
  exact Row.empty (heap_alloc_new W _)
theorem Ext.app {W0 W w3 : World} {fp : List Nat} (u : Ext W0) (h1 : Below u.w.heap.size u.w W) (h2 : Chg (fun k => k ∈ fp) W w3) (hf : ∀ q ∈ fp, W0.heap.size ≤ q) : ∃ u3 : Ext W0, w3 = u3.w :=
  ⟨⟨w3, u.hb.trans ((h1.mono u.hb.size).trans (h2.below (Nat.le_trans u.hb.size h1.size) hf))⟩, rfl⟩
theorem isPred_box {k a to els b : Int} {r : Bool} (h : isPred ⟨k, a, to, els⟩ b = r) : (if r then (k = 1 ∧ to = b ∨ k = 2 ∧ (to = b ∨ els = b)) else ¬ (k = 1 ∧ to = b ∨ k = 2 ∧ (to = b ∨ els = b))) := by
  subst h
  by_cases h : (k = 1 ∧ to = b ∨ k = 2 ∧ (to = b ∨ els = b))
  · rw [if_pos (by simpa [isPred] using h)]; exact h
  · rw [if_neg (by simpa [isPred] using h)]; exact h
set_option maxHeartbeats 4000000 in
theorem preds_c (A : Option Addr) (c : Nat) (m : Func) (b : Int) (w : World) (hx : C (kBlock 0 0 0) w A m.blocks) (hm : m.blocks.length ≤ 1048576) :
    Calls Tryd.prog 35 #[.agg #[.int .i64 m.values, .slice A m.blocks.length c], .int .i64 b] w (RetRow 2 (kInt .i64) w (preds m.blocks b)) := by
  obtain ⟨i0, hi, hz0, hz1, hz2⟩ := info_parts info_i64
  have HLE := Lib.hid (fun k => preds_len (m.blocks.take k) b)
  go_enter Tryd.func35, Tryd.ntmps35
  go_wp2
  go_loopw [5, 6] (fun v i wr => ∃ (k : Nat) (fp : List Nat) (u : Ext (w.alloc (.cells #[.int .i64 m.values, .slice A m.blocks.length c] 29))), k ≤ m.blocks.length ∧ i = .int .i64 k ∧ Row 2 (kInt .i64) wr v (preds (m.blocks.take k) b) fp ∧ (∀ q ∈ fp, w.heap.size < q) ∧ wr = u.w) (fun _ i _ => m.blocks.length - (intOf i).toNat)
  case atStart => exact ⟨0, [w.heap.size + 1], ⟨(w.alloc (.cells #[.int .i64 m.values, .slice A m.blocks.length c] 29)).alloc (.cells #[] 2), by repeat (first | (with_reducible first | exact Below.refl _ _ | assumption | exact ext_box _) | (with_reducible apply Below.drew) | ((with_reducible refine Below.setCell ?_ ?hs _); (case hs => first | (simp; done) | (simp; omega) | omega)) | ((with_reducible refine Below.alloc ?_ ?hs _); (case hs => first | (simp; done) | (simp; omega) | omega)))⟩, by omega, rfl, Row.empty0 (by simp), by simp, rfl⟩
  case round =>
    obtain ⟨k, fp, u, hk, rfl, hr, hfp, rfl⟩ := hrel
    have HR := Lib.hid hr
    have HF := Lib.hid hfp
    obtain ⟨A0, c0, hv, hl0⟩ := hr.form
    clear hr hfp
    subst hv
    obtain ⟨b0, b1, -⟩ := box_at u
    have hzu : w.heap.size < u.w.heap.size := by have := u.hb.size; simp at this; omega
    have hxu := (hx.below (ext_box u))
    by_cases hlt : k < m.blocks.length
    · obtain ⟨x, ex⟩ := get_of_lt hlt
      obtain ⟨a, _, rfl, ⟨_, _, rfl, ⟨A1', c1', rfl, l1', r1'⟩, _, _, rfl, ⟨A2', c2', rfl, l2', r2'⟩, rfl⟩, hc⟩ := hxu.at ex
      obtain ⟨p0, p1, p2, p3, p4, p5⟩ := hc6 (n := k * 6) hc
      clear hc
      have HP := Lib.hid (preds_snoc b ex)
      have hlen : (preds (m.blocks.take k) b).length ≤ k := by have := HLE.out k; rw [List.length_take_of_le hk] at this; exact this
      clear ex
      obtain ⟨ps, is, kd, ta, to, els⟩ := x
      dsimp only at *
      by_cases h1 : kd = 1
      · subst h1
        by_cases h2 : to = b
        · subst h2
          have HPF : isPred ⟨1, ta, to, els⟩ to = true := by simp [isPred, *]
          have HP2 := Lib.hid (show preds (m.blocks.take (k + 1)) to = preds (m.blocks.take k) to ++ [(k : Int)] by rw [HP.out, HPF]; simp)
          clear HPF
          go_wp2_with (at_builtin; refine wpList_append_row (kInt .i64) rfl _ _ 35 rfl 2 i0 _ 8 Tryd.underlying35 hi hz0 hz1 hz2 rfl (by decide) _ _ fp rfl (HR.out.chg (S := fun _ => False) (by (repeat (first | (with_reducible first | exact Chg.refl _ _ | assumption) | (with_reducible refine Chg.drew ?_) | ((with_reducible refine Chg.setCell ?_ ?hs _); (case hs => first | (simp; done) | (simp; omega) | omega)) | (with_reducible refine Chg.alloc ?_ _)))) (by simp)) _ _ [.int .i64 k] (k : Int) [] rfl ⟨rfl, rfl⟩ (by simp) (box_news (by simp)) (by simp [maxLen]; omega) (by omega) ?_; intro g cap w3 fp3 hr3 hf3 hC3)
          have HR3 := Lib.hid hr3
          have HF3 := Lib.hid hf3
          clear hr3 hf3
          obtain ⟨u3, rfl⟩ := u.app (by repeat (first | (with_reducible first | exact Below.refl _ _ | assumption | exact ext_box _) | (with_reducible apply Below.drew) | ((with_reducible refine Below.setCell ?_ ?hs _); (case hs => first | (simp; done) | (simp; omega) | omega)) | ((with_reducible refine Below.alloc ?_ ?hs _); (case hs => first | (simp; done) | (simp; omega) | omega)))) hC3 (fun q hq => by have := HF.out q hq; simp; omega)
          go_roundw
          case rel => exact ⟨k + 1, fp3, u3, by omega, by go_num, by rw [HP2.out]; simpa using HR3.out, fun q hq => by rcases HF3.out q hq with h | h | h; exact HF.out q h; simp at h; simp at h; omega, rfl⟩
          case measure => simp [intOf]; omega
        · have HPF : isPred ⟨1, ta, to, els⟩ b = false := by simp [isPred, *]
          have HP2 := Lib.hid (show preds (m.blocks.take (k + 1)) b = preds (m.blocks.take k) b by rw [HP.out, HPF]; simp)
          clear HPF
          have g2 : (to == b) = false := by simp [h2]
          go_wp2
          go_roundw
          case rel => exact ⟨k + 1, fp, ⟨u.w.alloc (.cells #[.int .i64 1, .int .i64 ta, .int .i64 to, .int .i64 els] 102), u.hb.trans (Below.mono (by repeat (first | (with_reducible first | exact Below.refl _ _ | assumption | exact ext_box _) | (with_reducible apply Below.drew) | ((with_reducible refine Below.setCell ?_ ?hs _); (case hs => first | (simp; done) | (simp; omega) | omega)) | ((with_reducible refine Below.alloc ?_ ?hs _); (case hs => first | (simp; done) | (simp; omega) | omega)))) u.hb.size)⟩, by omega, by go_num, by rw [HP2.out]; exact HR.out.chg (S := fun _ => False) (by (repeat (first | (with_reducible first | exact Chg.refl _ _ | assumption) | (with_reducible refine Chg.drew ?_) | ((with_reducible refine Chg.setCell ?_ ?hs _); (case hs => first | (simp; done) | (simp; omega) | omega)) | (with_reducible refine Chg.alloc ?_ _)))) (by simp), HF.out, rfl⟩
          case measure => simp [intOf]; omega
      · by_cases h3 : kd = 2
        · subst h3
          by_cases h2 : to = b
          · subst h2
            have HPF : isPred ⟨2, ta, to, els⟩ to = true := by simp [isPred, *]
            have HP2 := Lib.hid (show preds (m.blocks.take (k + 1)) to = preds (m.blocks.take k) to ++ [(k : Int)] by rw [HP.out, HPF]; simp)
            clear HPF
            go_wp2_with (at_builtin; refine wpList_append_row (kInt .i64) rfl _ _ 35 rfl 2 i0 _ 8 Tryd.underlying35 hi hz0 hz1 hz2 rfl (by decide) _ _ fp rfl (HR.out.chg (S := fun _ => False) (by (repeat (first | (with_reducible first | exact Chg.refl _ _ | assumption) | (with_reducible refine Chg.drew ?_) | ((with_reducible refine Chg.setCell ?_ ?hs _); (case hs => first | (simp; done) | (simp; omega) | omega)) | (with_reducible refine Chg.alloc ?_ _)))) (by simp)) _ _ [.int .i64 k] (k : Int) [] rfl ⟨rfl, rfl⟩ (by simp) (box_news (by simp)) (by simp [maxLen]; omega) (by omega) ?_; intro g cap w3 fp3 hr3 hf3 hC3)
            have HR3 := Lib.hid hr3
            have HF3 := Lib.hid hf3
            clear hr3 hf3
            obtain ⟨u3, rfl⟩ := u.app (by repeat (first | (with_reducible first | exact Below.refl _ _ | assumption | exact ext_box _) | (with_reducible apply Below.drew) | ((with_reducible refine Below.setCell ?_ ?hs _); (case hs => first | (simp; done) | (simp; omega) | omega)) | ((with_reducible refine Below.alloc ?_ ?hs _); (case hs => first | (simp; done) | (simp; omega) | omega)))) hC3 (fun q hq => by have := HF.out q hq; simp; omega)
            go_roundw
            case rel => exact ⟨k + 1, fp3, u3, by omega, by go_num, by rw [HP2.out]; simpa using HR3.out, fun q hq => by rcases HF3.out q hq with h | h | h; exact HF.out q h; simp at h; simp at h; omega, rfl⟩
            case measure => simp [intOf]; omega
          · by_cases h4 : els = b
            · subst h4
              have HPF : isPred ⟨2, ta, to, els⟩ els = true := by simp [isPred, *]
              have HP2 := Lib.hid (show preds (m.blocks.take (k + 1)) els = preds (m.blocks.take k) els ++ [(k : Int)] by rw [HP.out, HPF]; simp)
              clear HPF
              have g2 : (to == els) = false := by simp [h2]
              go_wp2_with (at_builtin; refine wpList_append_row (kInt .i64) rfl _ _ 35 rfl 2 i0 _ 8 Tryd.underlying35 hi hz0 hz1 hz2 rfl (by decide) _ _ fp rfl (HR.out.chg (S := fun _ => False) (by (repeat (first | (with_reducible first | exact Chg.refl _ _ | assumption) | (with_reducible refine Chg.drew ?_) | ((with_reducible refine Chg.setCell ?_ ?hs _); (case hs => first | (simp; done) | (simp; omega) | omega)) | (with_reducible refine Chg.alloc ?_ _)))) (by simp)) _ _ [.int .i64 k] (k : Int) [] rfl ⟨rfl, rfl⟩ (by simp) (box_news (by simp)) (by simp [maxLen]; omega) (by omega) ?_; intro g cap w3 fp3 hr3 hf3 hC3)
              have HR3 := Lib.hid hr3
              have HF3 := Lib.hid hf3
              clear hr3 hf3
              obtain ⟨u3, rfl⟩ := u.app (by repeat (first | (with_reducible first | exact Below.refl _ _ | assumption | exact ext_box _) | (with_reducible apply Below.drew) | ((with_reducible refine Below.setCell ?_ ?hs _); (case hs => first | (simp; done) | (simp; omega) | omega)) | ((with_reducible refine Below.alloc ?_ ?hs _); (case hs => first | (simp; done) | (simp; omega) | omega)))) hC3 (fun q hq => by have := HF.out q hq; simp; omega)
              go_roundw
              case rel => exact ⟨k + 1, fp3, u3, by omega, by go_num, by rw [HP2.out]; simpa using HR3.out, fun q hq => by rcases HF3.out q hq with h | h | h; exact HF.out q h; simp at h; simp at h; omega, rfl⟩
              case measure => simp [intOf]; omega
            · have HPF : isPred ⟨2, ta, to, els⟩ b = false := by simp [isPred, *]
              have HP2 := Lib.hid (show preds (m.blocks.take (k + 1)) b = preds (m.blocks.take k) b by rw [HP.out, HPF]; simp)
              clear HPF
              have g2 : (to == b) = false := by simp [h2]
              have g4 : (els == b) = false := by simp [h4]
              go_wp2
              go_roundw
              case rel => exact ⟨k + 1, fp, ⟨u.w.alloc (.cells #[.int .i64 2, .int .i64 ta, .int .i64 to, .int .i64 els] 102), u.hb.trans (Below.mono (by repeat (first | (with_reducible first | exact Below.refl _ _ | assumption | exact ext_box _) | (with_reducible apply Below.drew) | ((with_reducible refine Below.setCell ?_ ?hs _); (case hs => first | (simp; done) | (simp; omega) | omega)) | ((with_reducible refine Below.alloc ?_ ?hs _); (case hs => first | (simp; done) | (simp; omega) | omega)))) u.hb.size)⟩, by omega, by go_num, by rw [HP2.out]; exact HR.out.chg (S := fun _ => False) (by (repeat (first | (with_reducible first | exact Chg.refl _ _ | assumption) | (with_reducible refine Chg.drew ?_) | ((with_reducible refine Chg.setCell ?_ ?hs _); (case hs => first | (simp; done) | (simp; omega) | omega)) | (with_reducible refine Chg.alloc ?_ _)))) (by simp), HF.out, rfl⟩
              case measure => simp [intOf]; omega
        · have HPF : isPred ⟨kd, ta, to, els⟩ b = false := by simp [isPred, *]
          have HP2 := Lib.hid (show preds (m.blocks.take (k + 1)) b = preds (m.blocks.take k) b by rw [HP.out, HPF]; simp)
          clear HPF
          have g1 : (kd == 1) = false := by simp [h1]
          have g3 : (kd == 2) = false := by simp [h3]
          go_wp2
          go_roundw
          case rel => exact ⟨k + 1, fp, ⟨u.w.alloc (.cells #[.int .i64 kd, .int .i64 ta, .int .i64 to, .int .i64 els] 102), u.hb.trans (Below.mono (by repeat (first | (with_reducible first | exact Below.refl _ _ | assumption | exact ext_box _) | (with_reducible apply Below.drew) | ((with_reducible refine Below.setCell ?_ ?hs _); (case hs => first | (simp; done) | (simp; omega) | omega)) | ((with_reducible refine Below.alloc ?_ ?hs _); (case hs => first | (simp; done) | (simp; omega) | omega)))) u.hb.size)⟩, by omega, by go_num, by rw [HP2.out]; exact HR.out.chg (S := fun _ => False) (by (repeat (first | (with_reducible first | exact Chg.refl _ _ | assumption) | (with_reducible refine Chg.drew ?_) | ((with_reducible refine Chg.setCell ?_ ?hs _); (case hs => first | (simp; done) | (simp; omega) | omega)) | (with_reducible refine Chg.alloc ?_ _)))) (by simp), HF.out, rfl⟩
          case measure => simp [intOf]; omega
    · have hkn : k = m.blocks.length := by omega
      go_wp2
      go_ret
      refine ⟨_, fp, rfl, ?_, fun q hq => Nat.le_of_lt (HF.out q hq), ext_box u⟩
      have := HR.out
      show Row _ _ u.w (.slice A0 (preds (m.blocks.take k) b).length c0) _ _
      rw [List.take_of_length_le (show m.blocks.length ≤ k by omega)] at this ⊢
      exact this
theorem sizePhis_le {ps : List Phi} {L : Nat} (h1 : ps.length ≤ L) (h2 : ∀ (i : Nat) p, ps[i]? = some p → okPhi L p) (k : Nat) : sizePhis (ps.take k) ≤ L * (L + 1) := by
  have h3 := sum_take_le (fun p : Phi => 1 + p.args.length) ps k
  have h4 := sum_bound (f := fun p : Phi => 1 + p.args.length) (L := L + 1) (xs := ps) fun i p hp => by have := h2 i p hp; unfold okPhi at this; omega
  have h5 := Nat.mul_le_mul_right (L + 1) h1
  unfold sizePhis
  omega
theorem sizeB_le {x : Block} {L : Nat} (h : okBlk L x) : sizeB x ≤ 1 + L + L * (L + 1) := by
  obtain ⟨h1, h2, h3⟩ := h
  have := sizePhis_le h1 h2 x.phis.length
  rw [List.take_length] at this
  unfold sizeB
  omega
set_option maxHeartbeats 2000000 in
theorem l1Size_c (A : Option Addr) (c : Nat) (m : Func) (w : World) (hx : C (kBlock 0 0 0) w A m.blocks) (hm : m.blocks.length ≤ 1048576) (hs : ∀ (i : Nat) b, m.blocks[i]? = some b → okBlk 1048576 b) :
    Calls Tryd.prog 57 #[.agg #[.int .i64 m.values, .slice A m.blocks.length c]] w fun e w' => e = .returned (.int .i64 (sizeF m.blocks)) ∧ Below w.heap.size w w' := by
  have hxu := hx.below (w' := w.alloc (.cells #[.int .i64 m.values, .slice A m.blocks.length c] 29)) (by repeat (first | (with_reducible first | exact Below.refl _ _ | assumption | exact ext_box _) | (with_reducible apply Below.drew) | ((with_reducible refine Below.setCell ?_ ?hs _); (case hs => first | (simp; done) | (simp; omega) | omega)) | ((with_reducible refine Below.alloc ?_ ?hs _); (case hs => first | (simp; done) | (simp; omega) | omega))))
  have HT := Lib.hid (fun k => sum_take_le sizeB m.blocks k)
  have HS := Lib.hid (sum_bound (f := sizeB) (xs := m.blocks) fun i b hb => sizeB_le (hs i b hb))
  have HB := Lib.hid hs
  clear hs
  go_enter Tryd.func57, Tryd.ntmps57
  go_wp2
  go_loop [3, 4] (fun t i => ∃ k : Nat, k ≤ m.blocks.length ∧ i = .int .i64 k ∧ t = .int .i64 (sizeF (m.blocks.take k) : Nat)) (fun _ i => m.blocks.length - (intOf i).toNat)
  case atStart => exact ⟨0, by omega, rfl, by simp [sizeF]⟩
  case round =>
    obtain ⟨k, hk, rfl, rfl⟩ := hrel
    by_cases hlt : k < m.blocks.length
    · obtain ⟨x, ex⟩ := get_of_lt hlt
      obtain ⟨a, _, rfl, ⟨_, _, rfl, ⟨A1', c1', rfl, l1', r1'⟩, _, _, rfl, ⟨A2', c2', rfl, l2', r2'⟩, rfl⟩, hc⟩ := hxu.at ex
      obtain ⟨p0, p1, p2, p3, p4, p5⟩ := hc6 (n := k * 6) hc
      clear hc
      have HO := Lib.hid (HB.out _ _ ex)
      have hb3 : x.instrs.length ≤ 1048576 := HO.out.2.2
      have hb1 : x.phis.length ≤ 1048576 := HO.out.1
      have HZ := Lib.hid (sizeF_snoc ex)
      have hbd : sizeF (m.blocks.take k) ≤ 1152923703634165760 := by have h1 := HT.out k; have h2 := HS.out; unfold sizeF; omega
      have HEX := Lib.hid ex
      clear ex
      go_wp2
      go_loop [3, 5] (fun t i => ∃ j : Nat, j ≤ x.phis.length ∧ i = .int .i64 j ∧ t = .int .i64 ((sizeF (m.blocks.take k) : Int) + (1 + (x.instrs.length : Int)) + (sizePhis (x.phis.take j) : Int))) (fun _ i => x.phis.length - (intOf i).toNat)
      case atStart => exact ⟨0, by omega, rfl, by simp [sizePhis]⟩
      case round =>
        obtain ⟨j, hj, rfl, rfl⟩ := hrel
        by_cases hlj : j < x.phis.length
        · obtain ⟨p, ep⟩ := get_of_lt hlj
          obtain ⟨a2, _, rfl, ⟨_, _, rfl, rfl, ⟨A3', c3', rfl, l3', r3'⟩⟩, hc⟩ := r1'.at ep
          obtain ⟨q0, q1⟩ := hc2 (n := j * 2) hc
          clear hc
          have hpl : p.args.length ≤ 1048576 := HO.out.2.1 _ _ ep
          have hps := sizePhis_le HO.out.1 HO.out.2.1 j
          have HZP := Lib.hid (sizePhis_snoc ep)
          clear ep
          go_wp2
          go_round
          case rel => exact ⟨j + 1, by omega, by go_num, by rw [HZP.out]; go_num⟩
          case measure => simp [intOf]; omega
        · have hjn : j = x.phis.length := by omega
          have HZ2 := Lib.hid (show (sizeF (m.blocks.take (k + 1)) : Int) = (sizeF (m.blocks.take k) : Int) + (1 + (x.instrs.length : Int)) + (sizePhis (x.phis.take j) : Int) by rw [HZ.out, hjn, List.take_length]; unfold sizeB; omega)
          clear hjn
          go_wp2
          go_round
          case rel => exact ⟨k + 1, by omega, by go_num, by rw [HZ2.out]⟩
          case measure => simp [intOf]; omega
    · have hkn : k = m.blocks.length := by omega
      go_wp2
      go_ret
      exact ⟨ret_int (by subst hkn; simp), by repeat (first | (with_reducible first | exact Below.refl _ _ | assumption | exact ext_box _) | (with_reducible apply Below.drew) | ((with_reducible refine Below.setCell ?_ ?hs _); (case hs => first | (simp; done) | (simp; omega) | omega)) | ((with_reducible refine Below.alloc ?_ ?hs _); (case hs => first | (simp; done) | (simp; omega) | omega)))⟩
end Go.Proofs.YtnbkgaofdkkdnaaDoor
