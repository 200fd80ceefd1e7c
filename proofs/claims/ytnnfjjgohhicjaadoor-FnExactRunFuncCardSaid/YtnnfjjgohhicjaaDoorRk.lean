/- Contract: spec.l1Exec at an output; all together. -/
import Derived.Test.YtnnfjjgohhicjaaDoorRj
import Derived.Test.YtnnfjjgohhicjaaDoorRg
namespace Go.Proofs.YtnnfjjgohhicjaaDoor
open Go.RowKit
set_option linter.unusedSimpArgs false
set_option linter.unusedVariables false
set_option maxRecDepth 100000

section
variable (N : Nat) (X : List Nat) (D cD G cG : Nat) (s : Wd) (w : World) (A : Option Addr) (ca : Nat) (At : Option Addr) (ct : Nat) (code value : Int)
theorem exOut {N : Nat} {X : List Nat} {D cD G cG : Nat} {s : Wd} {w w3 wf : World} {vt : Value} {code value x : Int} {e : Ending} {ft fp3 : List Nat} {g cap : Nat} (h : Rws N X D cD G cG vt s w) (hN : N ≤ w.heap.size) (hX : ∀ x ∈ X, x < w.heap.size)
    (hfo : ∀ b ∈ ft, N ≤ b ∧ b ≠ D ∧ b ≠ G ∧ b ∉ X) (hr3 : Row 2 kI64 w3 (.slice (some ⟨g, 0, none⟩) (s.trace.length + 1) cap) (s.trace ++ [x]) fp3) (hf3 : ∀ b ∈ fp3, b ∈ ft ∨ w.heap.size + 3 ≤ b) (hft : ∀ b ∈ ft, b < w.heap.size)
    (c0 : Chg (fun b => b ∈ ft) w wf) (c3 : Chg (fun b => b = w.heap.size + 1 ∨ b = w.heap.size + 1 + 1) w3 wf)
    (he : e = .returned (.tuple #[.slice (some ⟨D, 0, none⟩) s.cells.length cD, .agg #[.int .i64 code, .int .i64 value, .int .i64 s.steps, .slice (some ⟨g, 0, none⟩) (s.trace.length + 1) cap, .slice (some ⟨G, 0, none⟩) 32 cG]])) : ExecPost N X D cD G cG code value { s with trace := s.trace ++ [x] } w e wf := by
  have hl := h.lt
  obtain ⟨h1, h2, h3, h4, h5, h6, h7, h8, _⟩ := h
  refine ⟨some ⟨g, 0, none⟩, cap, by rw [he]; simp, ⟨h1.chg c0 (by simp; exact fun hm => (hfo _ hm).2.1 rfl), h2.chg c0 (by simp; exact fun hm => (hfo _ hm).2.2.1 rfl), h3, h4, h5, h6, h7, h8, fp3, ?_, fun b hb => ?_⟩, c0.mono fun b _ hm => ⟨(hfo b hm).1, (hfo b hm).2.2.2⟩⟩
  · rw [List.length_append]
    exact hr3.chg c3 (fun b hb e => by rcases hf3 b hb with h | h; have := hft b h; omega; omega)
  · rcases hf3 b hb with h | h
    · exact hfo b h
    · exact ⟨by omega, by omega, by omega, fun hm => by have := hX b hm; omega⟩
set_option maxHeartbeats 4000000 in
theorem ex_out (dst a b imm : Int) (h : Rws N X D cD G cG (.slice At s.trace.length ct) s w) (ha : 0 ≤ a ∧ a < s.cells.length) (hl : s.trace.length ≤ 1048576) (hN : N ≤ w.heap.size) (hX : ∀ x ∈ X, x < w.heap.size) :
    Calls Tryd.prog 65 (exArgs D cD G cG s A ca At ct code value ⟨10, dst, a, b, imm⟩) w (ExecPost N X D cD G cG code value { s with trace := s.trace ++ [getI s.cells a] } w) := by
  obtain ⟨i0, hi, hz0, hz1, hz2⟩ := info_parts info_i64
  obtain ⟨k, rfl⟩ : ∃ k : Nat, a = k := ⟨a.toNat, by omega⟩
  obtain ⟨a1, a2⟩ := ha
  obtain ⟨qa, pa⟩ := h.reg (r := k) (by omega)
  obtain ⟨zD, zG⟩ := h.lt
  have zD1 : D < w.heap.size + 1 := by omega
  have zD2 : D < w.heap.size + 1 + 1 := by omega
  rw [Int.toNat_natCast] at qa pa
  obtain ⟨ft, hft, hfo⟩ := h.tr
  have HR := Lib.hid hft
  have HF := Lib.hid hfo
  have HH := Lib.hid h
  have HX := Lib.hid hX
  have HFT := Lib.hid (show ∀ b ∈ ft, b < w.heap.size from fun b hb => hft.lt b hb)
  have HN0 := Lib.hid (show ∀ j, w.heap.size + j ∉ ft from fun j hm => by have := hft.lt _ hm; omega)
  clear hft hfo h hX
  simp only [exArgs, Instr.v]
  go_enter Tryd.func65, Tryd.ntmps65
  go_wp2
  go_region_law
    (first
      | (refine step_append_row kI64 rfl _ _ 49 rfl 2 i0 _ 8 Tryd.underlying49 hi hz0 hz1 hz2 rfl (by decide) _ s.trace ft rfl (HR.out.chg (S := fun _ => False) (by (repeat (first | (with_reducible first | exact Chg.refl _ _ | assumption) | (with_reducible refine Chg.drew ?_) | ((with_reducible refine Chg.setCell ?_ ?hs _); (case hs => first | (simp; done) | (simp; omega) | omega)) | (with_reducible refine Chg.alloc ?_ _)))) (by simp)) _ _ [.int .i64 (getI s.cells k)] (getI s.cells k) [] rfl ⟨rfl, rfl⟩ (by simp) (box_news (by simp)) (by simp [maxLen]; omega) (by omega) ?_; intro g cap w3 fp3 hr3 hf3 hC3
         have K7 := Bk.chg (B := w.heap.size + 1) (T := 51) (l := [.int .i64 code, .int .i64 value, .int .i64 s.steps, .slice At s.trace.length ct, .slice (some ⟨G, 0, none⟩) 32 cG]) (by (repeat (first | exact bk_newl (by simp) | refine bk_drew ?_ | refine bk_old ?_)); done) hC3 (HN0.out 1)
         have K9 := Bk.chg (B := w.heap.size + 1 + 1) (T := 51) (l := [.int .i64 0, .int .i64 0, .int .i64 0, .slice none 0 0, .slice none 0 0]) (by (repeat (first | exact bk_newl (by simp) | refine bk_drew ?_ | refine bk_old ?_)); done) hC3 (HN0.out 2)
         have e0 := K7.cell 0 rfl
         have e1 := K7.cell 1 rfl
         have e2 := K7.cell 2 rfl
         have e3 := K7.cell 3 rfl
         have e4 := K7.cell 4 rfl
         have f7 := K7.frozen
         have d0 := K9.cell 0 rfl
         have d1 := K9.cell 1 rfl
         have d2 := K9.cell 2 rfl
         have d3 := K9.cell 3 rfl
         have d4 := K9.cell 4 rfl
         have f9 := K9.frozen
         have C3 : Chg (fun b => b ∈ ft) w w3 := Chg.trans (by (repeat (first | (with_reducible first | exact Chg.refl _ _ | assumption) | (with_reducible refine Chg.drew ?_) | ((with_reducible refine Chg.setCell ?_ ?hs _); (case hs => first | (simp; done) | (simp; omega) | omega)) | (with_reducible refine Chg.alloc ?_ _)))) hC3
         clear K7 K9))
  all_goals
    go_wp2
    refine wp_region_still_tail 3 (by kernel_rfl) (by kernel_rfl) ?_; simp only [List.take_succ_cons, List.take_zero, List.drop_succ_cons, List.drop_zero]; change wpStill _ _ (World.drew _) _ _ _
    repeat still_step
    refine wpStill_nil ?_
    change wpList _ _ _ _ _ (World.drew _)
    go_wp2
    exact bodyPost_ret (v := .tuple #[.slice (some ⟨D, 0, none⟩) s.cells.length cD, .agg #[.int .i64 code, .int .i64 value, .int .i64 s.steps, .slice (some ⟨g, 0, none⟩) (s.trace.length + 1) cap, .slice (some ⟨G, 0, none⟩) 32 cG]]) (by simp [results, Tryd.results65, go_sem, d0, d1, d2, d3, d4]) rfl
      (exOut HH.out hN HX.out HF.out hr3 (fun b hb => by rcases hf3 b hb with h | h | h; exact .inl h; simp at h; simp at h; exact .inr (by omega)) HFT.out (by (repeat (first | (with_reducible first | exact Chg.refl _ _ | assumption) | (with_reducible refine Chg.drew ?_) | ((with_reducible refine Chg.setCell ?_ ?hs _); (case hs => first | (simp; done) | (simp; omega) | omega)) | (with_reducible refine Chg.alloc ?_ _)))) (by (repeat (first | (with_reducible first | exact Chg.refl _ _ | assumption) | (with_reducible refine Chg.drew ?_) | ((with_reducible refine Chg.setCell ?_ ?hs _); (case hs => first | (simp; done) | (simp; omega) | omega)) | (with_reducible refine Chg.alloc ?_ _)))) rfl)
end
end Go.Proofs.YtnnfjjgohhicjaaDoor
