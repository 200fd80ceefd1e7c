/- Contracts over a run's state: impl's (*world).at, step, outcome, block's closure. -/
import Derived.Test.YtnnfjjgohhicjaaDoorRa
import Derived.StillTailTactics
namespace Go.Proofs.YtnnfjjgohhicjaaDoor
open Go.RowKit
set_option linter.unusedSimpArgs false
set_option linter.unusedVariables false
set_option maxRecDepth 100000

/-- The seven cells of a state, and what lies behind them. -/
def wl (va vh vt vc : Value) (s : Wd) (ex : List Value) : List Value := va :: vh :: vt :: .int .i64 s.fuel :: .int .i64 s.steps :: vc :: .int .i64 s.scratch :: ex
theorem at_c (B G cG : Nat) (x : Int) (w : World) (h1 : w.cell? ⟨B, 1, none⟩ = some (.slice (some ⟨G, 0, none⟩) 32 cG)) :
    Calls Tryd.prog 113 #[.pointer (some ⟨B, 0, none⟩), .int .i64 x] w fun e w' => e = .returned (.pointer (some ⟨G, (x % 32).toNat, none⟩)) ∧ w = w' := by
  have hr := rem32 x
  have h3 := mod32 x
  have h4 : -32 < x.tmod 32 ∧ x.tmod 32 < 32 := by have h1 := Int.tmod_eq_emod (a := x) (b := 32); split at h1 <;> omega
  obtain ⟨h5, h6⟩ := h4
  obtain ⟨h7, h8⟩ := h3
  go_enter Tryd.func113, Tryd.ntmps113
  go_wp2
  go_ret
  exact ⟨rfl, rfl⟩
theorem step_yes (B : Nat) (T : TypeId) (va vh vt vc : Value) (s : Wd) (ex : List Value) (w : World) (h : Bk B T (wl va vh vt vc s ex) w) (hs : 0 ≤ s.steps) (hf : s.steps < s.fuel) (hm : s.fuel ≤ 60000) :
    Calls Tryd.prog 98 #[.pointer (some ⟨B, 0, none⟩)] w fun e w' => e = .returned (.bool true) ∧ Bk B T (wl va vh vt vc (step s) ex) w' ∧ Chg (fun k => k = B) w w' := by
  have c3 := h.cell 3 (v := .int .i64 s.fuel) rfl
  have c4 := h.cell 4 (v := .int .i64 s.steps) rfl
  have f4 := h.frozen 4
  have hb : (s.steps == s.fuel) = false := by simp; omega
  go_enter Tryd.func98, Tryd.ntmps98
  go_wp2
  go_quiet (fail)
  go_wp2
  go_ret
  obtain ⟨b1, k1⟩ := (h.keep (w' := w.drewN nq) rfl).set 4 (.int .i64 (s.steps + 1))
  exact ⟨rfl, b1, ((Chg.refl (fun k => k = B) w).drewN nq).trans k1⟩
theorem step_no (B : Nat) (T : TypeId) (va vh vt vc : Value) (s : Wd) (ex : List Value) (w : World) (h : Bk B T (wl va vh vt vc s ex) w) (hs : s.steps = s.fuel) :
    Calls Tryd.prog 98 #[.pointer (some ⟨B, 0, none⟩)] w fun e w' => e = .returned (.bool false) ∧ Below w.heap.size w w' := by
  have c3 := h.cell 3 (v := .int .i64 s.fuel) rfl
  have c4 := h.cell 4 (v := .int .i64 s.steps) rfl
  have hb : (s.steps == s.fuel) = true := by simp [hs]
  clear hs
  go_enter Tryd.func98, Tryd.ntmps98
  go_wp2
  go_quiet (fail)
  go_wp2
  go_ret
  exact ⟨rfl, below_drewN (Below.refl _ _) _⟩
def wov (code value : Int) (s : Wd) (vh vt : Value) : Value := .agg #[.int .i64 code, .int .i64 value, .int .i64 s.steps, vt, vh]
def wol (code value : Int) (s : Wd) (vh vt : Value) : List Value := [.int .i64 code, .int .i64 value, .int .i64 s.steps, vt, vh]
theorem outcome_c (B : Nat) (T : TypeId) (va vc : Value) (At Ah : Option Addr) (lt ct lh ch : Nat) (s : Wd) (ex : List Value) (w : World) (code value : Int) (h : Bk B T (wl va (.slice Ah lh ch) (.slice At lt ct) vc s ex) w) :
    Calls Tryd.prog 97 #[.pointer (some ⟨B, 0, none⟩), .int .i64 code, .int .i64 value] w fun e w' => e = .returned (wov code value s (.slice Ah lh ch) (.slice At lt ct)) ∧ Below w.heap.size w w' := by
  have hz := h.lt
  have c1 := h.cell 1 (v := .slice Ah lh ch) rfl
  have c2 := h.cell 2 (v := .slice At lt ct) rfl
  have c4 := h.cell 4 (v := .int .i64 s.steps) rfl
  go_enter Tryd.func97, Tryd.ntmps97
  go_wp2
  refine wp_region_still_tail 15 (by kernel_rfl) (by kernel_rfl) ?_; simp only [List.take_succ_cons, List.take_zero, List.drop_succ_cons, List.drop_zero]; change wpStill _ _ (World.drew _) _ _ _
  repeat still_step
  refine wpStill_nil ?_
  change wpList _ _ _ _ _ (World.drew _)
  go_wp2
  exact bodyPost_ret (v := wov code value s (.slice Ah lh ch) (.slice At lt ct)) (by simp [results, Tryd.results97, go_sem, wov]) rfl ⟨rfl, (by repeat (first | (with_reducible first | exact Below.refl _ _ | assumption | exact ext_box _) | (with_reducible apply Below.drew) | ((with_reducible refine Below.setCell ?_ ?hs _); (case hs => first | (simp; done) | (simp; omega) | omega)) | ((with_reducible refine Below.alloc ?_ ?hs _); (case hs => first | (simp; done) | (simp; omega) | omega))))⟩
/-- An outcome that a pointer leads to. -/
def OutAt (W : World) (code value : Int) (s : Wd) (vh vt : Value) (en : Ending) (w' : World) : Prop :=
  ∃ o, en = .returned (.tuple #[.int .i64 0, .pointer (some ⟨o, 0, none⟩)]) ∧ Bk o 51 (wol code value s vh vt) w' ∧ W.heap.size ≤ o ∧ Below W.heap.size W w'
theorem end_c (B : Nat) (T : TypeId) (va vc : Value) (At Ah : Option Addr) (lt ct lh ch : Nat) (s : Wd) (ex : List Value) (w : World) (code value : Int) (p : Addr) (h : Bk B T (wl va (.slice Ah lh ch) (.slice At lt ct) vc s ex) w) (hp : w.cell? p = some (.pointer (some ⟨B, 0, none⟩))) :
    Calls Tryd.prog 96 #[.int .i64 code, .int .i64 value, .pointer (some p)] w (OutAt w code value s (.slice Ah lh ch) (.slice At lt ct)) := by
  have HO := Lib.hid (fun W (h : Bk B T (wl va (.slice Ah lh ch) (.slice At lt ct) vc s ex) W) => outcome_c B T va vc At Ah lt ct lh ch s ex W code value h)
  go_enter Tryd.func96, Tryd.ntmps96
  go_wp2_with (go_at_call 97; refine (HO.out _ (h.below (by repeat (first | (with_reducible first | exact Below.refl _ _ | assumption | exact ext_box _) | (with_reducible apply Below.drew) | ((with_reducible refine Below.setCell ?_ ?hs _); (case hs => first | (simp; done) | (simp; omega) | omega)) | ((with_reducible refine Below.alloc ?_ ?hs _); (case hs => first | (simp; done) | (simp; omega) | omega)))))).mono ?_; rintro e w1 ⟨rfl, hb1⟩; have HB1 := Below.then_ (w := w) (by repeat (first | (with_reducible first | exact Below.refl _ _ | assumption | exact ext_box _) | (with_reducible apply Below.drew) | ((with_reducible refine Below.setCell ?_ ?hs _); (case hs => first | (simp; done) | (simp; omega) | omega)) | ((with_reducible refine Below.alloc ?_ ?hs _); (case hs => first | (simp; done) | (simp; omega) | omega)))) hb1; unfold wov)
  have z1 := HB1.size
  exact bodyPost_ret (v := .tuple #[.int .i64 0, .pointer (some ⟨w1.heap.size, 0, none⟩)]) (by simp [results, Tryd.results96, go_sem]) rfl ⟨w1.heap.size, rfl, Bk.made _ _ _, HB1.size, (by repeat (first | (with_reducible first | exact Below.refl _ _ | assumption | exact ext_box _) | (with_reducible apply Below.drew) | ((with_reducible refine Below.setCell ?_ ?hs _); (case hs => first | (simp; done) | (simp; omega) | omega)) | ((with_reducible refine Below.alloc ?_ ?hs _); (case hs => first | (simp; done) | (simp; omega) | omega))))⟩
end Go.Proofs.YtnnfjjgohhicjaaDoor
