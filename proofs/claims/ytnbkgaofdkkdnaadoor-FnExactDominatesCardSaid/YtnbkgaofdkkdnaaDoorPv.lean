/- Plain data and plain validity: no program, no memory. -/
namespace Go.Proofs.YtnbkgaofdkkdnaaDoor
structure Instr where
  op : Int
  dst : Int
  a : Int
  b : Int
  imm : Int
deriving DecidableEq
structure Term where
  kind : Int
  a : Int
  to : Int
  els : Int
deriving DecidableEq
structure Phi where
  dst : Int
  args : List Int
deriving DecidableEq
structure Block where
  phis : List Phi
  instrs : List Instr
  term : Term
deriving DecidableEq
structure Func where
  values : Int
  blocks : List Block
deriving DecidableEq
structure MBlock where
  instrs : List Instr
  term : Term
deriving DecidableEq
structure Mach where
  regs : Int
  blocks : List MBlock
deriving DecidableEq

def usedD (op : Int) : Bool := decide (1 ≤ op ∧ op ≤ 8 ∨ op = 11 ∨ op = 13)
def usedA (op : Int) : Bool := decide (3 ≤ op ∧ op ≤ 12)
def usedB (op : Int) : Bool := decide (3 ≤ op ∧ op ≤ 7 ∨ op = 9)
def usedI (op : Int) : Bool := decide (1 ≤ op ∧ op ≤ 2)
def Fld (u : Bool) (x n : Int) : Prop := (u = true ∧ 0 ≤ x ∧ x < n) ∨ (u = false ∧ x = 0)
instance (u : Bool) (x n : Int) : Decidable (Fld u x n) := by unfold Fld; infer_instance
def ImmOK (op imm : Int) : Prop := (op = 1 ∧ -1000000000 ≤ imm ∧ imm ≤ 1000000000) ∨ (op = 2 ∧ 0 ≤ imm ∧ imm < 8) ∨ (op ≠ 1 ∧ op ≠ 2 ∧ imm = 0)
def GoodInstr (x : Instr) (n most : Int) : Prop := 1 ≤ x.op ∧ x.op ≤ most ∧ Fld (usedD x.op) x.dst n ∧ Fld (usedA x.op) x.a n ∧ Fld (usedB x.op) x.b n ∧ ImmOK x.op x.imm
instance (x : Instr) (n most : Int) : Decidable (GoodInstr x n most) := by unfold GoodInstr Fld ImmOK; infer_instance
def goodInstr (x : Instr) (n most : Int) : Bool := decide (GoodInstr x n most)
def GoodTerm (t : Term) (n low blocks : Int) : Prop :=
  (t.kind = 1 ∧ t.a = 0 ∧ t.els = 0 ∧ low ≤ t.to ∧ t.to < blocks) ∨ (t.kind = 2 ∧ 0 ≤ t.a ∧ t.a < n ∧ low ≤ t.to ∧ t.to < blocks ∧ low ≤ t.els ∧ t.els < blocks) ∨ (t.kind = 3 ∧ t.to = 0 ∧ t.els = 0 ∧ 0 ≤ t.a ∧ t.a < n)
instance (t : Term) (n low blocks : Int) : Decidable (GoodTerm t n low blocks) := by unfold GoodTerm; infer_instance
def goodTerm (t : Term) (n low blocks : Int) : Bool := decide (GoodTerm t n low blocks)
theorem goodTerm_iff (t : Term) (n low blocks : Int) : goodTerm t n low blocks = true ↔ GoodTerm t n low blocks := by simp [goodTerm]
theorem goodInstr_iff (x : Instr) (n most : Int) : goodInstr x n most = true ↔ GoodInstr x n most := by simp [goodInstr]
theorem flags (op : Int) (h : 1 ≤ op) (h2 : op ≤ 13) : (usedD op = true ∧ usedA op = false ∧ usedB op = false ∧ (op ≤ 2 ∨ op = 13)) ∨ (usedD op = true ∧ usedA op = true ∧ usedB op = true ∧ 3 ≤ op ∧ op ≤ 7) ∨
    (usedD op = true ∧ usedA op = true ∧ usedB op = false ∧ 8 ≤ op) ∨ (usedD op = false ∧ usedA op = true ∧ usedB op = true ∧ 8 ≤ op) ∨ (usedD op = false ∧ usedA op = true ∧ usedB op = false ∧ 8 ≤ op) := by
  simp only [usedD, usedA, usedB, decide_eq_true_eq, decide_eq_false_iff_not]
  omega
/-- What is left of a budget. -/
def szN (n : Nat) (left : Int) : Int := if left - n < 0 then -1 else left - n
def szL {α : Type} (f : α → Int → Int) : List α → Int → Int
  | [], l => l
  | x :: xs, l => if f x l < 0 then -1 else szL f xs (f x l)
def szMB (b : MBlock) (left : Int) : Int := szN b.instrs.length left
def szS {α : Type} (f : α → Int → Int) (xs : List α) (l : Int) : Int := if szN xs.length l < 0 then -1 else szL f xs (szN xs.length l)
def szMach (m : Mach) (left : Int) : Int := szS szMB m.blocks left
theorem szN_le (n : Nat) (l : Int) (h : 0 ≤ l) : szN n l ≤ l ∧ -1 ≤ szN n l := by unfold szN; split <;> omega
theorem szMB_le (b : MBlock) (l : Int) (h : 0 ≤ l) : szMB b l ≤ l ∧ -1 ≤ szMB b l := szN_le _ _ h
theorem szL_le {α : Type} {f : α → Int → Int} (hf : ∀ x l, 0 ≤ l → f x l ≤ l ∧ -1 ≤ f x l) : ∀ (xs : List α) (l : Int), 0 ≤ l → szL f xs l ≤ l ∧ -1 ≤ szL f xs l
  | [], l, h => by simp [szL]; omega
  | x :: xs, l, h => by
    have h1 := hf x l h
    unfold szL
    split
    · omega
    · have h2 := szL_le hf xs (f x l) (by omega)
      omega
theorem szS_le {α : Type} {f : α → Int → Int} (hf : ∀ x l, 0 ≤ l → f x l ≤ l ∧ -1 ≤ f x l) (xs : List α) (l : Int) (h : 0 ≤ l) : szS f xs l ≤ l ∧ -1 ≤ szS f xs l := by
  have h1 := szN_le xs.length l h
  unfold szS
  split
  · omega
  · have h2 := szL_le hf xs (szN xs.length l) (by omega)
    omega
theorem szL_drop {α : Type} {f : α → Int → Int} {xs : List α} {k : Nat} {x : α} {l : Int} (h : xs[k]? = some x) : szL f (xs.drop k) l = if f x l < 0 then -1 else szL f (xs.drop (k + 1)) (f x l) := by
  have hk : k < xs.length := (List.getElem?_eq_some_iff.1 h).1
  rw [List.drop_eq_getElem_cons hk, (List.getElem?_eq_some_iff.1 h).2]; rfl
def machSize (m : Mach) : Nat := m.blocks.length + (m.blocks.map fun b => b.instrs.length).sum
def validMach (m : Mach) : Bool :=
  decide (1 ≤ m.regs ∧ m.regs ≤ 64) && decide (1 ≤ m.blocks.length ∧ m.blocks.length ≤ 3000) && decide (machSize m ≤ 20000) &&
  m.blocks.all fun b => (b.instrs.all fun x => goodInstr x m.regs 13) && goodTerm b.term m.regs 0 m.blocks.length
end Go.Proofs.YtnbkgaofdkkdnaaDoor
