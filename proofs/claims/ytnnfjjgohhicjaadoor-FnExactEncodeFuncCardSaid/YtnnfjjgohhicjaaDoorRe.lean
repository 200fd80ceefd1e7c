/- Contract: impl's (*world).block. -/
import Derived.Test.YtnnfjjgohhicjaaDoorRo
import Derived.Deep.RegionHeld3
namespace Go.Proofs.YtnnfjjgohhicjaaDoor
open Go.RowKit
set_option linter.unusedSimpArgs false
set_option linter.unusedVariables false
set_option maxRecDepth 100000

theorem fld_t {u : Bool} {x n : Int} (h : Fld u x n) (hu : u = true) : 0 ≤ x ∧ x < n := by
  rcases h with ⟨_, h1, h2⟩ | ⟨h1, _⟩
  · exact ⟨h1, h2⟩
  · rw [hu] at h1; cases h1
section
variable (W0 : World) (X : List Nat) (B : Nat) (T : TypeId) (ex : List Value) (A : Option Addr) (ca D cD G cG : Nat) (s : Wd) (w : World)
theorem do_any (x : Instr) (n : Int) (h : St W0 X B T ex A ca D cD G cG s w) (hg : GoodInstr x n 13) (hn : (s.cells.length : Int) = n) (hl : s.trace.length ≤ 1048576) :
    Calls Tryd.prog 99 #[.pointer (some ⟨B, 0, none⟩), (nodeP s.args x).v] w (DoPost W0 X B T ex A ca D cD G cG s w (exec x s)) := by
  obtain ⟨g1, g2, g3, g4, g5, g6⟩ := hg
  rw [← doP_exec x s g1 g2]
  obtain ⟨op, dst, a, b, imm⟩ := x
  dsimp only at *
  subst hn
  rcases (by omega : op = 1 ∨ op = 2 ∨ op = 8 ∨ op = 9 ∨ op = 10 ∨ op = 11 ∨ op = 12 ∨ op = 13 ∨ op = 3 ∨ op = 4 ∨ op = 5 ∨ op = 6 ∨ op = 7) with rfl | rfl | rfl | rfl | rfl | rfl | rfl | rfl | rfl | rfl | rfl | rfl | rfl
  · exact do_cst W0 X B T ex A ca D cD G cG s w _ _ h (fld_t g3 (by decide))
  · exact do_cst W0 X B T ex A ca D cD G cG s w _ _ h (fld_t g3 (by decide))
  · exact do_ld W0 X B T ex A ca D cD G cG s w _ _ _ h (fld_t g3 (by decide)) (fld_t g4 (by decide))
  · exact do_st W0 X B T ex A ca D cD G cG s w _ _ _ h (fld_t g4 (by decide)) (fld_t g5 (by decide))
  · exact do_out W0 X B T ex A ca D cD G cG s w _ h (fld_t g4 (by decide)) hl
  · exact do_mov W0 X B T ex A ca D cD G cG s w _ _ h (fld_t g3 (by decide)) (fld_t g4 (by decide))
  · exact do_put W0 X B T ex A ca D cD G cG s w _ _ h (fld_t g4 (by decide))
  · exact do_get W0 X B T ex A ca D cD G cG s w _ _ h (fld_t g3 (by decide))
  all_goals exact do_ari W0 X B T ex A ca D cD G cG s w _ _ _ _ h ⟨by dsimp only; omega, by dsimp only; omega⟩ (fld_t g3 (by decide)) (fld_t g4 (by decide)) (fld_t g5 (by decide))
end
/-- What stays as it was in a run, and its bounds. -/
structure Ok (s0 s : Wd) : Prop where
  args : s.args = s0.args
  fuel : s.fuel = s0.fuel
  cells : s.cells.length = s0.cells.length
  lo : s0.steps ≤ s.steps
  pos : 0 ≤ s0.steps
  hi : s.steps ≤ s.fuel
  max : s.fuel ≤ 60000
  tr : (s.trace.length : Int) ≤ s.steps
  nargs : s.args.length ≤ 8
theorem Ok.go {s0 s s' : Wd} {x : Instr} (h : Ok s0 s) (hl : s.steps < s.fuel) (he : exec x (step s) = some s') : Ok s0 s' := by
  obtain ⟨e1, e2, e3, e4, e5, e6⟩ := exec_same he
  obtain ⟨h1, h2, h3, h4, h5, h6, h7, h8, h9⟩ := h
  simp only [step] at *
  exact ⟨by rw [e1, h1], by rw [e2, h2], by rw [e4, h3], by omega, h5, by omega, by omega, by omega, by rw [e1]; exact h9⟩
theorem Ok.step {s0 s : Wd} (h : Ok s0 s) (hl : s.steps < s.fuel) : Ok s0 (step s) := by
  obtain ⟨h1, h2, h3, h4, h5, h6, h7, h8, h9⟩ := h
  exact ⟨h1, h2, h3, by simp only [Go.Proofs.YtnnfjjgohhicjaaDoor.step]; omega, h5, by simp only [Go.Proofs.YtnnfjjgohhicjaaDoor.step]; omega, h7, by simp only [Go.Proofs.YtnnfjjgohhicjaaDoor.step]; omega, h9⟩
section
variable {Bf : Int → List Instr × Term} {E : Int → Int → Wd → Wd} {b : Int} {j : Nat} {s s' : Wd}
abbrev lft (s : Wd) : Nat := (s.fuel - s.steps).toNat
theorem runS_no (h : s.steps = s.fuel) : runS Bf E (lft s) b j s = fin 3 0 s := by rw [show lft s = 0 by unfold lft; omega]; rfl
theorem runS_trap {x : Instr} (h : s.steps < s.fuel) (hx : (Bf b).1[j]? = some x) (he : exec x (step s) = none) : runS Bf E (lft s) b j s = fin 2 0 (step s) := by
  rw [show lft s = (s.fuel - s.steps - 1).toNat + 1 by unfold lft; omega, runS, hx]; simp only [he]
theorem runS_go {x : Instr} (h : s.steps < s.fuel) (hx : (Bf b).1[j]? = some x) (he : exec x (step s) = some s') : runS Bf E (lft s) b j s = runS Bf E (lft s') b (j + 1) s' := by
  obtain ⟨e1, e2, e3, e4, e5, e6⟩ := exec_same he
  simp only [step] at e2 e3
  rw [show lft s = (s.fuel - s.steps - 1).toNat + 1 by unfold lft; omega, runS, hx, show lft s' = (s.fuel - s.steps - 1).toNat by unfold lft; rw [e2, e3]; omega]; simp only [he]
theorem runS_ret (h : s.steps < s.fuel) (hx : (Bf b).1[j]? = none) (hk : (Bf b).2.kind = 3) : runS Bf E (lft s) b j s = fin 1 (getI s.cells (Bf b).2.a) (step s) := by
  rw [show lft s = (s.fuel - s.steps - 1).toNat + 1 by unfold lft; omega, runS, hx]; simp only [hk, if_true]
theorem runS_next (h : s.steps < s.fuel) (hx : (Bf b).1[j]? = none) (hk : (Bf b).2.kind ≠ 3) : runS Bf E (lft s) b j s = runS Bf E (lft (step s)) (nextB (Bf b).2 s) 0 (E b (nextB (Bf b).2 s) (step s)) := by
  rw [show lft s = (s.fuel - s.steps - 1).toNat + 1 by unfold lft; omega, runS, hx, show lft (step s) = (s.fuel - s.steps - 1).toNat by unfold lft; simp only [step]; omega]; simp only [hk, if_false]
end
/-- The rows that an outcome leads to. -/
def OutRows (W0 : World) (R : Outc) (vh vt : Value) (w : World) : Prop := ∃ fh ft, Row 2 kI64 w vh R.heap fh ∧ Row 2 kI64 w vt R.trace ft ∧ (∀ b ∈ fh, W0.heap.size ≤ b) ∧ (∀ b ∈ ft, W0.heap.size ≤ b ∧ b ∉ fh)
def wolR (R : Outc) (vh vt : Value) : List Value := [.int .i64 R.code, .int .i64 R.value, .int .i64 R.steps, vt, vh]
theorem St.out {W0 : World} {X : List Nat} {D cD G cG : Nat} {s : Wd} {w : World} {vt : Value} (code value : Int) (h : Rws W0.heap.size X D cD G cG vt s w) :
    OutRows W0 (fin code value s) (.slice (some ⟨G, 0, none⟩) 32 cG) vt w := by
  obtain ⟨h1, h2, h3, h4, h5, h6, h7, h8, ft, h9, h10⟩ := h
  exact ⟨[G], ft, h2, h9, by simpa using h6, fun b hb => ⟨(h10 b hb).1, by simpa using (h10 b hb).2.2.1⟩⟩
theorem OutRows.below {W0 : World} {R : Outc} {vh vt : Value} {w w' : World} (h : OutRows W0 R vh vt w) (hb : Below w.heap.size w w') : OutRows W0 R vh vt w' := by
  obtain ⟨fh, ft, h1, h2, h3⟩ := h
  exact ⟨fh, ft, h1.chg (chg_of hb) (by simp), h2.chg (chg_of hb) (by simp), h3⟩
def BlkPost (W0 : World) (X : List Nat) (B : Nat) (T : TypeId) (ex : List Value) (A : Option Addr) (ca D cD G cG : Nat) (Bf : Int → List Instr × Term) (E : Int → Int → Wd → Wd) (b : Int) (s0 : Wd) (R : Outc) (w : World) (e : Ending) (w' : World) : Prop :=
  (∃ next s', e = .returned (.tuple #[.int .i64 next, .pointer none]) ∧ St W0 X B T ex A ca D cD G cG s' w' ∧ Ok s0 s' ∧ s0.steps < s'.steps ∧ R = runS Bf E (lft s') next 0 (E b next s') ∧ next ∈ targets (Bf b).2 ∧ Chg (Tn X B) w w') ∨
  (∃ o vh vt, e = .returned (.tuple #[.int .i64 0, .pointer (some ⟨o, 0, none⟩)]) ∧ Bk o 51 (wolR R vh vt) w' ∧ OutRows W0 R vh vt w' ∧ Below W0.heap.size W0 w' ∧ W0.heap.size ≤ o)
end Go.Proofs.YtnnfjjgohhicjaaDoor
