/- The program's data as plain Lean types, and their kinds in memory. -/
import Derived.Test.YtnbkgaofdkkdnaaDoorKf
import Derived.Test.YtnbkgaofdkkdnaaDoorPv
import Derived.Test.YtnbkgaofdkkdnaaDoorProg
namespace Go.Proofs.YtnbkgaofdkkdnaaDoor
open Go.RowKit
set_option linter.unusedSimpArgs false
set_option linter.unusedVariables false

def Instr.v (x : Instr) : Value := .agg #[.int .i64 x.op, .int .i64 x.dst, .int .i64 x.a, .int .i64 x.b, .int .i64 x.imm]
def Term.v (x : Term) : Value := .agg #[.int .i64 x.kind, .int .i64 x.a, .int .i64 x.to, .int .i64 x.els]
def kInstr : Kd Instr := kFlat 5 (fun x => [.int .i64 x.op, .int .i64 x.dst, .int .i64 x.a, .int .i64 x.b, .int .i64 x.imm]) (fun _ => rfl) (by intro x u hu; simp at hu; rcases hu with rfl | rfl | rfl | rfl | rfl <;> rfl)
def kTerm : Kd Term := kFlat 4 (fun x => [.int .i64 x.kind, .int .i64 x.a, .int .i64 x.to, .int .i64 x.els]) (fun _ => rfl) (by intro x u hu; simp at hu; rcases hu with rfl | rfl | rfl | rfl <;> rfl)
def kMB (e : TypeId) : Kd MBlock := kIso (fun b => (b.instrs, b.term)) (kProd (kSlice e kInstr) kTerm)

theorem at_instr {w : World} {A : Option Addr} {xs : List Instr} {k : Nat} {x : Instr} (h : C kInstr w A xs) (hx : xs[k]? = some x) : ∃ a, A = some a ∧
    w.cell? (a.add (k * 5)) = some (.int .i64 x.op) ∧ w.cell? ⟨(a.add (k * 5)).block, (a.add (k * 5)).off + 1, none⟩ = some (.int .i64 x.dst) ∧ w.cell? ⟨(a.add (k * 5)).block, (a.add (k * 5)).off + 2, none⟩ = some (.int .i64 x.a) ∧
    w.cell? ⟨(a.add (k * 5)).block, (a.add (k * 5)).off + 3, none⟩ = some (.int .i64 x.b) ∧ w.cell? ⟨(a.add (k * 5)).block, (a.add (k * 5)).off + 4, none⟩ = some (.int .i64 x.imm) := by
  obtain ⟨a, cs, hA, rfl, hc⟩ := h k x hx
  exact ⟨a, hA, hc 0 _ rfl, by rw [← add_field _ _ 1 (by omega)]; exact hc 1 _ rfl, by rw [← add_field _ _ 2 (by omega)]; exact hc 2 _ rfl, by rw [← add_field _ _ 3 (by omega)]; exact hc 3 _ rfl, by rw [← add_field _ _ 4 (by omega)]; exact hc 4 _ rfl⟩
end Go.Proofs.YtnbkgaofdkkdnaaDoor
