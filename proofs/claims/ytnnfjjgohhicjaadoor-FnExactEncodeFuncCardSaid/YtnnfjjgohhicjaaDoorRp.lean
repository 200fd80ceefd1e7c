/- Plain: the state of a run, what an instruction does to it, a run from a place on. -/
import Derived.Test.YtnnfjjgohhicjaaDoorKf
import Derived.Test.YtnnfjjgohhicjaaDoorPm
namespace Go.Proofs.YtnnfjjgohhicjaaDoor
open Go.RowKit
set_option linter.unusedVariables false
structure Wd where
  args : List Int
  heap : List Int
  trace : List Int
  fuel : Int
  steps : Int
  cells : List Int
  scratch : Int
structure Outc where
  code : Int
  value : Int
  steps : Int
  trace : List Int
  heap : List Int
def getI (l : List Int) (i : Int) : Int := l.getD i.toNat 0
def setI (l : List Int) (i v : Int) : List Int := l.set i.toNat v
theorem setI_len (l : List Int) (i v : Int) : (setI l i v).length = l.length := by simp [setI]
theorem getI_get {l : List Int} {i : Int} (h : i.toNat < l.length) : l[i.toNat]? = some (getI l i) := by
  unfold getI; rw [List.getD_eq_getElem?_getD, List.getElem?_eq_getElem h]; rfl
def arithP (op a b : Int) : Int := if op = 3 then wrap64 (a + b) else if op = 4 then wrap64 (a - b) else if op = 5 then wrap64 (a * b) else if op = 6 then wrap64 (a.tdiv b) else if a < b then 1 else 0
def exec (x : Instr) (s : Wd) : Option Wd :=
  if x.op = 1 then some { s with cells := setI s.cells x.dst x.imm }
  else if x.op = 2 then some { s with cells := setI s.cells x.dst (getI s.args x.imm) }
  else if x.op = 8 then some { s with cells := setI s.cells x.dst (getI s.heap (getI s.cells x.a % 32)) }
  else if x.op = 9 then some { s with heap := setI s.heap (getI s.cells x.a % 32) (getI s.cells x.b) }
  else if x.op = 10 then some { s with trace := s.trace ++ [getI s.cells x.a] }
  else if x.op = 11 then some { s with cells := setI s.cells x.dst (getI s.cells x.a) }
  else if x.op = 12 then some { s with scratch := getI s.cells x.a }
  else if x.op = 13 then some { s with cells := setI s.cells x.dst s.scratch }
  else if x.op = 6 ∧ getI s.cells x.b = 0 then none
  else some { s with cells := setI s.cells x.dst (arithP x.op (getI s.cells x.a) (getI s.cells x.b)) }
def step (s : Wd) : Wd := { s with steps := s.steps + 1 }
def fin (code value : Int) (s : Wd) : Outc := ⟨code, value, s.steps, s.trace, s.heap⟩
def nextB (t : Term) (s : Wd) : Int := if t.kind = 2 ∧ getI s.cells t.a = 0 then t.els else t.to
/-- n: the steps that are left. -/
def runS (B : Int → List Instr × Term) (E : Int → Int → Wd → Wd) : Nat → Int → Nat → Wd → Outc
  | 0, _, _, s => fin 3 0 s
  | n + 1, b, k, s => match (B b).1[k]? with
    | some x => match exec x (step s) with
      | none => fin 2 0 (step s)
      | some s' => runS B E n b (k + 1) s'
    | none => if (B b).2.kind = 3 then fin 1 (getI s.cells (B b).2.a) (step s) else runS B E n (nextB (B b).2 s) 0 (E b (nextB (B b).2 s) (step s))
/-- What an instruction leaves. -/
structure Same (s s' : Wd) : Prop where
  args : s'.args = s.args
  fuel : s'.fuel = s.fuel
  steps : s'.steps = s.steps
  cells : s'.cells.length = s.cells.length
  heap : s'.heap.length = s.heap.length
  trace : s'.trace.length ≤ s.trace.length + 1
theorem exec_same {x : Instr} {s s' : Wd} (h : exec x s = some s') : Same s s' := by
  unfold exec at h
  split at h
  · cases h; exact ⟨rfl, rfl, rfl, setI_len _ _ _, rfl, Nat.le_succ _⟩
  split at h
  · cases h; exact ⟨rfl, rfl, rfl, setI_len _ _ _, rfl, Nat.le_succ _⟩
  split at h
  · cases h; exact ⟨rfl, rfl, rfl, setI_len _ _ _, rfl, Nat.le_succ _⟩
  split at h
  · cases h; exact ⟨rfl, rfl, rfl, rfl, setI_len _ _ _, Nat.le_succ _⟩
  split at h
  · cases h; exact ⟨rfl, rfl, rfl, rfl, rfl, by simp⟩
  split at h
  · cases h; exact ⟨rfl, rfl, rfl, setI_len _ _ _, rfl, Nat.le_succ _⟩
  split at h
  · cases h; exact ⟨rfl, rfl, rfl, rfl, rfl, Nat.le_succ _⟩
  split at h
  · cases h; exact ⟨rfl, rfl, rfl, setI_len _ _ _, rfl, Nat.le_succ _⟩
  split at h
  · cases h
  · cases h; exact ⟨rfl, rfl, rfl, setI_len _ _ _, rfl, Nat.le_succ _⟩
theorem step_same (s : Wd) : (step s).args = s.args ∧ (step s).fuel = s.fuel ∧ (step s).steps = s.steps + 1 ∧ (step s).cells = s.cells ∧ (step s).heap = s.heap ∧ (step s).trace = s.trace ∧ (step s).scratch = s.scratch := ⟨rfl, rfl, rfl, rfl, rfl, rfl, rfl⟩
/-- The heap at the start. -/
def heap32 (h : List Int) : List Int := (List.range 32).map fun i => h.getD i 0
theorem heap32_len (h : List Int) : (heap32 h).length = 32 := by simp [heap32]
theorem mod32 (a : Int) : 0 ≤ a % 32 ∧ a % 32 < 32 := by omega
theorem rem32 (a : Int) : (a.tmod 32 + 32).tmod 32 = a % 32 := by
  have h1 := Int.tmod_eq_emod (a := a) (b := 32)
  split at h1 <;> rw [h1, Int.tmod_eq_emod_of_nonneg (by omega)] <;> omega
end Go.Proofs.YtnnfjjgohhicjaaDoor
