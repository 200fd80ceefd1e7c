/- Contract: spec.l1Defs. -/
import Derived.Test.YtnnfjjgohhicjaaDoorKp
namespace Go.Proofs.YtnnfjjgohhicjaaDoor
open Go.RowKit
set_option linter.unusedSimpArgs false
set_option linter.unusedVariables false
set_option maxRecDepth 100000

theorem defsB_len {x : Block} {L : Nat} (h : okBlk L x) : (defsB x).length ≤ L + L := by
  obtain ⟨h1, _, h3⟩ := h
  have := dstsI_len x.instrs
  unfold defsB
  rw [List.length_append, List.length_map]
  omega
theorem defs_len {bs : List Block} {L : Nat} (h : ∀ (i : Nat) b, bs[i]? = some b → okBlk L b) (k : Nat) : (defs (bs.take k)).length ≤ bs.length * (L + L) := by
  have h1 := sum_take_le (fun b => (defsB b).length) bs k
  have h2 := sum_bound (f := fun b => (defsB b).length) (xs := bs) fun i b hb => defsB_len (h i b hb)
  unfold defs
  rw [List.length_flatMap]
  omega
set_option maxHeartbeats 4000000 in
theorem l1Defs_c (A : Option Addr) (c : Nat) (m : Func) (w : World) (hx : C (kBlock 0 0 0) w A m.blocks) (hm : m.blocks.length ≤ 1048576) (hs : ∀ (i : Nat) b, m.blocks[i]? = some b → okBlk 1048576 b) :
    Calls Tryd.prog 50 #[.agg #[.int .i64 m.values, .slice A m.blocks.length c]] w (RetRow 2 (kInt .i64) w (defs m.blocks)) := by
  obtain ⟨i0, hi, hz0, hz1, hz2⟩ := info_parts info_i64
  have HDL := Lib.hid (defs_len hs)
  have HB := Lib.hid hs
  clear hs
  go_enter Tryd.func50, Tryd.ntmps50
  go_wp2
  go_loopw [3, 4] (fun v i wr => ∃ (k : Nat) (fp : List Nat) (u : Ext (w.alloc (.cells #[.int .i64 m.values, .slice A m.blocks.length c] 40))), k ≤ m.blocks.length ∧ i = .int .i64 k ∧ Row 2 (kInt .i64) wr v (defs (m.blocks.take k)) fp ∧ (∀ q ∈ fp, w.heap.size < q) ∧ wr = u.w) (fun _ i _ => m.blocks.length - (intOf i).toNat)
  case atStart => exact ⟨0, [w.heap.size + 1], ⟨(w.alloc (.cells #[.int .i64 m.values, .slice A m.blocks.length c] 40)).alloc (.cells #[] 2), by repeat (first | (with_reducible first | exact Below.refl _ _ | assumption | exact ext_box _) | (with_reducible apply Below.drew) | ((with_reducible refine Below.setCell ?_ ?hs _); (case hs => first | (simp; done) | (simp; omega) | omega)) | ((with_reducible refine Below.alloc ?_ ?hs _); (case hs => first | (simp; done) | (simp; omega) | omega)))⟩, by omega, rfl, Row.empty0 (by simp), by simp, rfl⟩
  case round =>
    obtain ⟨k, fp, u, hk, rfl, hr, hfp, rfl⟩ := hrel
    have HR := Lib.hid hr
    have HF := Lib.hid hfp
    obtain ⟨A0, c0, hv, hl0⟩ := hr.form
    clear hr hfp
    subst hv
    obtain ⟨b0, b1, -⟩ := box_at u
    have hzu : w.heap.size < u.w.heap.size := by have := u.hb.size; simp at this; omega
    have hxu := (hx.below (ext_box u))
    by_cases hlt : k < m.blocks.length
    · obtain ⟨x, ex⟩ := get_of_lt hlt
      have HEX := Lib.hid ex
      have hd1 := HDL.out k
      have HO := Lib.hid (HB.out _ _ ex)
      have hb3 : x.instrs.length ≤ 1048576 := HO.out.2.2
      have hb1 : x.phis.length ≤ 1048576 := HO.out.1
      clear ex
      go_wp2
      go_loopw [3, 5] (fun v i wr => ∃ (j : Nat) (ys : List Int) (fp : List Nat) (u : Ext (w.alloc (.cells #[.int .i64 m.values, .slice A m.blocks.length c] 40))), j ≤ x.phis.length ∧ i = .int .i64 j ∧ ys = defs (m.blocks.take k) ++ (x.phis.take j).map (·.dst) ∧ Row 2 (kInt .i64) wr v ys fp ∧ (∀ q ∈ fp, w.heap.size < q) ∧ wr = u.w) (fun _ i _ => x.phis.length - (intOf i).toNat)
      case atStart => exact ⟨0, _, fp, u, by omega, rfl, by simp, HR.out, HF.out, rfl⟩
      case round =>
        clear b0 b1 hzu hxu hl0 HR HF
        obtain ⟨j, ys, fp, u, hj, rfl, hys, hr, hfp, rfl⟩ := hrel
        have HY := Lib.hid hys
        clear hys
        have HR := Lib.hid hr
        have HF := Lib.hid hfp
        obtain ⟨A0, c0, hv, hl0⟩ := hr.form
        clear hr hfp
        subst hv
        obtain ⟨b0, b1, -⟩ := box_at u
        have hzu : w.heap.size < u.w.heap.size := by have := u.hb.size; simp at this; omega
        obtain ⟨a, _, rfl, ⟨_, _, rfl, ⟨A1', c1', rfl, l1', r1'⟩, _, _, rfl, ⟨A2', c2', rfl, l2', r2'⟩, rfl⟩, hc⟩ := (hx.below (ext_box u)).at HEX.out
        obtain ⟨p0, p1, p2, p3, p4, p5⟩ := hc6 (n := k * 6) hc
        clear hc
        by_cases hlj : j < x.phis.length
        · obtain ⟨p, ep⟩ := get_of_lt hlj
          obtain ⟨a2, _, rfl, ⟨_, _, rfl, rfl, ⟨A3', c3', rfl, l3', r3'⟩⟩, hc⟩ := r1'.at ep
          obtain ⟨q0, q1⟩ := hc2 (n := j * 2) hc
          clear hc
          have EP := Lib.hid (show ys ++ [p.dst] = defs (m.blocks.take k) ++ (x.phis.take (j + 1)).map (·.dst) by rw [take_snoc ep, HY.out]; simp)
          clear ep
          have hll : ys.length ≤ 2199023255552 + 1048576 := by rw [HY.out, List.length_append, List.length_map, List.length_take]; omega
          go_wp2_with (at_builtin; refine wpList_append_row (kInt .i64) rfl _ _ 49 rfl 2 i0 _ 8 Tryd.underlying49 hi hz0 hz1 hz2 rfl (by decide) _ _ fp rfl (HR.out.chg (S := fun _ => False) (by (repeat (first | (with_reducible first | exact Chg.refl _ _ | assumption) | (with_reducible refine Chg.drew ?_) | ((with_reducible refine Chg.setCell ?_ ?hs _); (case hs => first | (simp; done) | (simp; omega) | omega)) | (with_reducible refine Chg.alloc ?_ _)))) (by simp)) _ _ [.int .i64 p.dst] p.dst [] rfl ⟨rfl, rfl⟩ (by simp) (box_news (by simp)) (by simp only [maxLen]; omega) (by omega) ?_; intro g cap w3 fp3 hr3 hf3 hC3)
          have HR3 := Lib.hid hr3
          have HF3 := Lib.hid hf3
          clear hr3 hf3
          obtain ⟨u3, rfl⟩ := u.app (by repeat (first | (with_reducible first | exact Below.refl _ _ | assumption | exact ext_box _) | (with_reducible apply Below.drew) | ((with_reducible refine Below.setCell ?_ ?hs _); (case hs => first | (simp; done) | (simp; omega) | omega)) | ((with_reducible refine Below.alloc ?_ ?hs _); (case hs => first | (simp; done) | (simp; omega) | omega)))) hC3 (fun q hq => by have := HF.out q hq; simp; omega)
          go_roundw
          case rel => exact ⟨j + 1, _, fp3, u3, by omega, by go_num, EP.out, HR3.out, fun q hq => by rcases HF3.out q hq with h | h | h; exact HF.out q h; simp at h; simp at h; omega, rfl⟩
          case measure => simp [intOf]; omega
        · have hjn : j = x.phis.length := by omega
          have HY2 := Lib.hid (show ys = defs (m.blocks.take k) ++ x.phis.map (·.dst) by have := HY.out; rwa [hjn, List.take_length] at this)
          clear HY hjn
          go_wp2
          go_loopw [3, 6] (fun v i wr => ∃ (j : Nat) (ys : List Int) (fp : List Nat) (u : Ext (w.alloc (.cells #[.int .i64 m.values, .slice (some a) m.blocks.length c] 40))), j ≤ x.instrs.length ∧ i = .int .i64 j ∧ ys = defs (m.blocks.take k) ++ x.phis.map (·.dst) ++ dstsI (x.instrs.take j) ∧ Row 2 (kInt .i64) wr v ys fp ∧ (∀ q ∈ fp, w.heap.size < q) ∧ wr = u.w) (fun _ i _ => x.instrs.length - (intOf i).toNat)
          case atStart => exact ⟨0, ys, fp, u, by omega, rfl, by rw [HY2.out]; simp [dstsI], HR.out, HF.out, rfl⟩
          case round =>
            clear b0 b1 hzu p0 p1 p2 p3 p4 p5 hl0 HR HF HY2
            obtain ⟨j, ys, fp, u, hj, rfl, hys, hr, hfp, rfl⟩ := hrel
            have HY := Lib.hid hys
            clear hys
            have HR := Lib.hid hr
            have HF := Lib.hid hfp
            obtain ⟨A0, c0, hv, hl0⟩ := hr.form
            clear hr hfp
            subst hv
            obtain ⟨b0, b1, -⟩ := box_at u
            have hzu : w.heap.size < u.w.heap.size := by have := u.hb.size; simp at this; omega
            obtain ⟨a, _, ha, ⟨_, _, rfl, ⟨A1', c1', rfl, l1', r1'⟩, _, _, rfl, ⟨A2', c2', rfl, l2', r2'⟩, rfl⟩, hc⟩ := (hx.below (ext_box u)).at HEX.out
            obtain rfl := Option.some.inj ha
            clear ha
            obtain ⟨p0, p1, p2, p3, p4, p5⟩ := hc6 (n := k * 6) hc
            clear hc
            by_cases hlj : j < x.instrs.length
            · obtain ⟨y, ey⟩ := get_of_lt hlj
              obtain ⟨a3, _, rfl, rfl, hc⟩ := r2'.at ey
              obtain ⟨q0, q1, q2, q3, q4⟩ := hc5 (n := j * 5) hc
              clear hc
              have hll : ys.length ≤ 2199023255552 + 1048576 + 1048576 := by have := dstsI_len (x.instrs.take j); rw [List.length_take] at this; rw [HY.out, List.length_append, List.length_append, List.length_map]; omega
              have cd := fun W => usedD_c y.op W
              cases hd : usedD y.op
              · rw [hd] at cd
                have EP := Lib.hid (show ys = defs (m.blocks.take k) ++ x.phis.map (·.dst) ++ dstsI (x.instrs.take (j + 1)) by rw [dstsI_snoc ey, HY.out, hd]; simp)
                clear ey hd
                go_wp2_with (go_at_call 75; (with_reducible refine (cd _).mono ?_); rintro e w1 ⟨rfl, rfl⟩)
                go_roundw
                case rel => exact ⟨j + 1, ys, fp, u, by omega, by go_num, EP.out, HR.out, HF.out, rfl⟩
                case measure => simp [intOf]; omega
              · rw [hd] at cd
                have EP := Lib.hid (show ys ++ [y.dst] = defs (m.blocks.take k) ++ x.phis.map (·.dst) ++ dstsI (x.instrs.take (j + 1)) by rw [dstsI_snoc ey, HY.out, hd]; simp)
                clear ey hd
                go_wp2_with (first | (go_at_call 75; (with_reducible refine (cd _).mono ?_); rintro e w1 ⟨rfl, rfl⟩) | (at_builtin; refine wpList_append_row (kInt .i64) rfl _ _ 49 rfl 2 i0 _ 8 Tryd.underlying49 hi hz0 hz1 hz2 rfl (by decide) _ _ fp rfl (HR.out.chg (S := fun _ => False) (by (repeat (first | (with_reducible first | exact Chg.refl _ _ | assumption) | (with_reducible refine Chg.drew ?_) | ((with_reducible refine Chg.setCell ?_ ?hs _); (case hs => first | (simp; done) | (simp; omega) | omega)) | (with_reducible refine Chg.alloc ?_ _)))) (by simp)) _ _ [.int .i64 y.dst] y.dst [] rfl ⟨rfl, rfl⟩ (by simp) (box_news (by simp)) (by simp only [maxLen]; omega) (by omega) ?_; intro g cap w3 fp3 hr3 hf3 hC3))
                have HR3 := Lib.hid hr3
                have HF3 := Lib.hid hf3
                clear hr3 hf3
                obtain ⟨u3, rfl⟩ := u.app (by repeat (first | (with_reducible first | exact Below.refl _ _ | assumption | exact ext_box _) | (with_reducible apply Below.drew) | ((with_reducible refine Below.setCell ?_ ?hs _); (case hs => first | (simp; done) | (simp; omega) | omega)) | ((with_reducible refine Below.alloc ?_ ?hs _); (case hs => first | (simp; done) | (simp; omega) | omega)))) hC3 (fun q hq => by have := HF.out q hq; simp; omega)
                go_roundw
                case rel => exact ⟨j + 1, _, fp3, u3, by omega, by go_num, EP.out, HR3.out, fun q hq => by rcases HF3.out q hq with h | h | h; exact HF.out q h; simp at h; simp at h; omega, rfl⟩
                case measure => simp [intOf]; omega
            · have HYZ := Lib.hid (show ys = defs (m.blocks.take (k + 1)) by rw [defs_snoc HEX.out, HY.out, show j = x.instrs.length by omega, List.take_length]; simp [defsB])
              go_wp2
              go_roundw
              case rel => exact ⟨k + 1, fp, u, by omega, by go_num, by rw [← HYZ.out]; exact HR.out, HF.out, rfl⟩
              case measure => simp [intOf]; omega
    · go_wp2
      go_ret
      refine ⟨_, fp, rfl, ?_, fun q hq => Nat.le_of_lt (HF.out q hq), ext_box u⟩
      have := HR.out
      show Row _ _ u.w (.slice A0 (defs (m.blocks.take k)).length c0) _ _
      rw [List.take_of_length_le (show m.blocks.length ≤ k by omega)] at this ⊢
      exact this
end Go.Proofs.YtnnfjjgohhicjaaDoor
