/- Contract: spec.RunMach. -/
import Derived.Test.YtnnfjjgohhicjaaDoorRk
import Derived.Test.YtnnfjjgohhicjaaDoorRi
import Derived.Test.YtnnfjjgohhicjaaDoorKo
namespace Go.Proofs.YtnnfjjgohhicjaaDoor
open Go.RowKit
set_option linter.unusedSimpArgs false
set_option linter.unusedVariables false
set_option maxRecDepth 100000

theorem l1Exec_c (N : Nat) (X : List Nat) (D cD G cG : Nat) (s s' : Wd) (w : World) (A : Option Addr) (ca : Nat) (At : Option Addr) (ct : Nat) (code value : Int) (x : Instr) (n : Int) (h : Rws N X D cD G cG (.slice At s.trace.length ct) s w) (hg : GoodInstr x n 13) (h10 : x.op ≤ 10) (hn : (s.cells.length : Int) = n)
    (hA : C kI64 w A s.args) (ha : s.args.length ≤ 1048576) (hl : s.trace.length ≤ 1048576) (hN : N ≤ w.heap.size) (hX : ∀ x ∈ X, x < w.heap.size) (he : exec x s = some s') :
    Calls Tryd.prog 65 #[x.v, .slice (some ⟨D, 0, none⟩) s.cells.length cD, .slice A s.args.length ca, .agg #[.int .i64 code, .int .i64 value, .int .i64 s.steps, .slice At s.trace.length ct, .slice (some ⟨G, 0, none⟩) 32 cG]] w (ExecPost N X D cD G cG code value s' w) := by
  obtain ⟨g1, g2, g3, g4, g5, g6⟩ := hg
  obtain ⟨op, dst, a, b, imm⟩ := x
  dsimp only at *
  subst hn
  rcases (by omega : op = 1 ∨ op = 2 ∨ op = 8 ∨ op = 9 ∨ op = 10 ∨ op = 3 ∨ op = 4 ∨ op = 5 ∨ op = 6 ∨ op = 7) with rfl | rfl | rfl | rfl | rfl | rfl | rfl | rfl | rfl | rfl
  · obtain rfl : { s with cells := setI s.cells dst imm } = s' := by simpa [exec] using he
    exact ex_const N X D cD G cG s w A ca At ct code value dst a b imm h (fld_t g3 (by decide))
  · obtain rfl : { s with cells := setI s.cells dst (getI s.args imm) } = s' := by simpa [exec] using he
    exact ex_arg N X D cD G cG s w A ca At ct code value dst a b imm h (fld_t g3 (by decide)) hA ha (by rcases g6 with h | h | h <;> omega)
  · obtain rfl : { s with cells := setI s.cells dst (getI s.heap (getI s.cells a % 32)) } = s' := by simpa [exec] using he
    exact ex_load N X D cD G cG s w A ca At ct code value dst a b imm h (fld_t g3 (by decide)) (fld_t g4 (by decide))
  · obtain rfl : { s with heap := setI s.heap (getI s.cells a % 32) (getI s.cells b) } = s' := by simpa [exec] using he
    exact ex_store N X D cD G cG s w A ca At ct code value dst a b imm h (fld_t g4 (by decide)) (fld_t g5 (by decide))
  · obtain rfl : { s with trace := s.trace ++ [getI s.cells a] } = s' := by simpa [exec] using he
    exact ex_out N X D cD G cG s w A ca At ct code value dst a b imm h (fld_t g4 (by decide)) hl hN hX
  case inr.inr.inr.inr.inr.inr.inr.inr.inl =>
    have hz : getI s.cells b ≠ 0 := fun e => by simp [exec, e] at he
    obtain rfl : { s with cells := setI s.cells dst (arithP 6 (getI s.cells a) (getI s.cells b)) } = s' := by simpa [exec, hz] using he
    exact ex_ari N X D cD G cG s w A ca At ct code value dst a b imm h (fld_t g3 (by decide)) (fld_t g4 (by decide)) (fld_t g5 (by decide)) _ (by omega) (fun _ => hz)
  all_goals
    obtain rfl : { s with cells := setI s.cells dst (arithP _ (getI s.cells a) (getI s.cells b)) } = s' := by simpa [exec] using he
    exact ex_ari N X D cD G cG s w A ca At ct code value dst a b imm h (fld_t g3 (by decide)) (fld_t g4 (by decide)) (fld_t g5 (by decide)) _ (by omega) (by omega)
/-- The spec's state in memory. -/
def SSt (W0 : World) (B D cD G cG : Nat) (code value : Int) (s : Wd) (w : World) : Prop :=
  ∃ At ct, Bk B 51 (wol code value s (.slice (some ⟨G, 0, none⟩) 32 cG) (.slice At s.trace.length ct)) w ∧ Rws W0.heap.size [B] D cD G cG (.slice At s.trace.length ct) s w ∧ W0.heap.size ≤ B ∧ Below W0.heap.size W0 w
namespace SSt
variable {W0 : World} {B D cD G cG : Nat} {code value : Int} {s s' : Wd} {w w' : World}
theorem below (h : SSt W0 B D cD G cG code value s w) (hb : Below w.heap.size w w') : SSt W0 B D cD G cG code value s w' := by
  obtain ⟨At, ct, h1, h2, h3, h4⟩ := h
  exact ⟨At, ct, h1.below hb, h2.below hb, h3, h4.trans (hb.mono h4.size)⟩
theorem step (h : SSt W0 B D cD G cG code value s w) : SSt W0 B D cD G cG code value (Go.Proofs.YtnnfjjgohhicjaaDoor.step s) (w.setCell ⟨B, 2, none⟩ (.int .i64 (s.steps + 1))) := by
  obtain ⟨At, ct, h1, h2, h3, h4⟩ := h
  obtain ⟨k1, k2⟩ := h1.set 2 (.int .i64 (s.steps + 1))
  exact ⟨At, ct, k1, h2.chg (k2.mono fun k _ e => by simp [e]), h3, h4.trans (k2.below h4.size fun k hk => by subst hk; exact h3)⟩
theorem setCode (h : SSt W0 B D cD G cG code value s w) (c2 : Int) : SSt W0 B D cD G cG c2 value s (w.setCell ⟨B, 0, none⟩ (.int .i64 c2)) := by
  obtain ⟨At, ct, h1, h2, h3, h4⟩ := h
  obtain ⟨k1, k2⟩ := h1.set 0 (.int .i64 c2)
  exact ⟨At, ct, k1, h2.chg (k2.mono fun k _ e => by simp [e]), h3, h4.trans (k2.below h4.size fun k hk => by subst hk; exact h3)⟩
theorem setValue (h : SSt W0 B D cD G cG code value s w) (v2 : Int) : SSt W0 B D cD G cG code v2 s (w.setCell ⟨B, 1, none⟩ (.int .i64 v2)) := by
  obtain ⟨At, ct, h1, h2, h3, h4⟩ := h
  obtain ⟨k1, k2⟩ := h1.set 1 (.int .i64 v2)
  exact ⟨At, ct, k1, h2.chg (k2.mono fun k _ e => by simp [e]), h3, h4.trans (k2.below h4.size fun k hk => by subst hk; exact h3)⟩
theorem setReg (h : SSt W0 B D cD G cG code value s w) {r : Int} (hr : r.toNat < s.cells.length) (v : Int) : SSt W0 B D cD G cG code value { s with cells := setI s.cells r v } (w.setCell ⟨D, r.toNat, none⟩ (.int .i64 v)) := by
  obtain ⟨At, ct, h1, h2, h3, h4⟩ := h
  obtain ⟨k1, k2⟩ := h2.setReg hr v
  have hX : ¬ B = D := fun e => h2.2.2.2.2.2.2.1 (by simp [e])
  exact ⟨At, ct, h1.chg k2 hX, k1, h3, h4.trans (k2.below h4.size fun k hk => by subst hk; exact h2.2.2.2.2.1)⟩
/-- All five cells anew. -/
theorem all {l : List Value} {At : Option Addr} {ct : Nat} (h1 : Bk B 51 l w) (hl : l.length = 5) (h2 : Rws W0.heap.size [B] D cD G cG (.slice At s.trace.length ct) s w) (h3 : W0.heap.size ≤ B) (h4 : Below W0.heap.size W0 w) :
    SSt W0 B D cD G cG code value s (((((w.setCell ⟨B, 0, none⟩ (.int .i64 code)).setCell ⟨B, 1, none⟩ (.int .i64 value)).setCell ⟨B, 2, none⟩ (.int .i64 s.steps)).setCell ⟨B, 3, none⟩ (.slice At s.trace.length ct)).setCell ⟨B, 4, none⟩ (.slice (some ⟨G, 0, none⟩) 32 cG)) := by
  match l, hl with
  | [a0, a1, a2, a3, a4], _ =>
    obtain ⟨k0, c0⟩ := h1.set 0 (.int .i64 code)
    obtain ⟨k1, c1⟩ := k0.set 1 (.int .i64 value)
    obtain ⟨k2, c2⟩ := k1.set 2 (.int .i64 s.steps)
    obtain ⟨k3, c3⟩ := k2.set 3 (.slice At s.trace.length ct)
    obtain ⟨k4, c4⟩ := k3.set 4 (.slice (some ⟨G, 0, none⟩) 32 cG)
    have c := (((c0.trans c1).trans c2).trans c3).trans c4
    exact ⟨At, ct, k4, h2.chg (c.mono fun k _ e => by simp [e]), h3, h4.trans (c.below h4.size fun k hk => by subst hk; exact h3)⟩
theorem outRows (h : SSt W0 B D cD G cG code value s w) : ∃ At ct, Bk B 51 (wol code value s (.slice (some ⟨G, 0, none⟩) 32 cG) (.slice At s.trace.length ct)) w ∧ OutRows W0 (fin code value s) (.slice (some ⟨G, 0, none⟩) 32 cG) (.slice At s.trace.length ct) w := by
  obtain ⟨At, ct, h1, h2, h3, h4⟩ := h
  exact ⟨At, ct, h1, St.out code value h2⟩
end SSt
end Go.Proofs.YtnnfjjgohhicjaaDoor
