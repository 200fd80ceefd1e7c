/- Plain facts on functions: predecessors, definitions, sizes. -/
import Derived.Test.YtnbkgaofdkkdnaaDoorPm
namespace Go.Proofs.YtnbkgaofdkkdnaaDoor
def isPred (t : Term) (b : Int) : Bool := (decide (t.kind = 1) && decide (t.to = b)) || (decide (t.kind = 2) && (decide (t.to = b) || decide (t.els = b)))
def predsN (b : Int) : List Block → Nat → List Int
  | [], _ => []
  | x :: xs, i => (if isPred x.term b then [(i : Int)] else []) ++ predsN b xs (i + 1)
theorem predsN_append (b : Int) : ∀ (xs ys : List Block) (i : Nat), predsN b (xs ++ ys) i = predsN b xs i ++ predsN b ys (i + xs.length)
  | [], ys, i => by simp [predsN]
  | x :: xs, ys, i => by rw [List.cons_append, predsN, predsN, predsN_append b xs ys (i + 1), List.append_assoc, List.length_cons, show i + 1 + xs.length = i + (xs.length + 1) by omega]
def preds (bs : List Block) (b : Int) : List Int := predsN b bs 0
theorem preds_snoc {bs : List Block} {k : Nat} {x : Block} (b : Int) (h : bs[k]? = some x) : preds (bs.take (k + 1)) b = preds (bs.take k) b ++ if isPred x.term b then [(k : Int)] else [] := by
  have hk : k < bs.length := (List.getElem?_eq_some_iff.1 h).1
  rw [List.take_add_one, h, preds, preds, predsN_append]
  simp [predsN, List.length_take_of_le (Nat.le_of_lt hk)]
theorem predsN_len (b : Int) : ∀ (xs : List Block) (i : Nat), (predsN b xs i).length ≤ xs.length
  | [], _ => by simp [predsN]
  | x :: xs, i => by
    have := predsN_len b xs (i + 1)
    simp only [predsN, List.length_append, List.length_cons]
    split <;> simp <;> omega
theorem preds_len (bs : List Block) (b : Int) : (preds bs b).length ≤ bs.length := predsN_len b bs 0
def dstsI (xs : List Instr) : List Int := (xs.filter fun x => usedD x.op).map (·.dst)
theorem dstsI_snoc {xs : List Instr} {k : Nat} {x : Instr} (h : xs[k]? = some x) : dstsI (xs.take (k + 1)) = dstsI (xs.take k) ++ if usedD x.op then [x.dst] else [] := by
  rw [List.take_add_one, h]
  cases hd : usedD x.op <;> simp [dstsI, List.filter_append, hd]
theorem dstsI_len (xs : List Instr) : (dstsI xs).length ≤ xs.length := by
  unfold dstsI
  rw [List.length_map]
  exact List.length_filter_le _ _
def defsB (x : Block) : List Int := x.phis.map (·.dst) ++ dstsI x.instrs
def defs (bs : List Block) : List Int := bs.flatMap defsB
theorem defs_snoc {bs : List Block} {k : Nat} {x : Block} (h : bs[k]? = some x) : defs (bs.take (k + 1)) = defs (bs.take k) ++ defsB x := by
  rw [List.take_add_one, h]
  simp [defs]
def sizePhis (ps : List Phi) : Nat := (ps.map fun p => 1 + p.args.length).sum
def sizeB (x : Block) : Nat := 1 + x.instrs.length + sizePhis x.phis
def sizeF (bs : List Block) : Nat := (bs.map sizeB).sum
theorem sizePhis_snoc {ps : List Phi} {k : Nat} {p : Phi} (h : ps[k]? = some p) : sizePhis (ps.take (k + 1)) = sizePhis (ps.take k) + (1 + p.args.length) := by
  unfold sizePhis; rw [List.take_add_one, h]; simp
theorem sizeF_snoc {bs : List Block} {k : Nat} {x : Block} (h : bs[k]? = some x) : sizeF (bs.take (k + 1)) = sizeF (bs.take k) + sizeB x := by
  unfold sizeF; rw [List.take_add_one, h]; simp
theorem sum_take_le {α : Type} (f : α → Nat) (xs : List α) (k : Nat) : ((xs.take k).map f).sum ≤ (xs.map f).sum := by
  have h := List.take_append_drop k xs
  have : (xs.map f).sum = ((xs.take k).map f).sum + ((xs.drop k).map f).sum := by rw [← List.sum_append, ← List.map_append, h]
  omega
theorem sum_bound {α : Type} {f : α → Nat} {L : Nat} : ∀ {xs : List α}, (∀ (i : Nat) x, xs[i]? = some x → f x ≤ L) → (xs.map f).sum ≤ xs.length * L
  | [], _ => by simp
  | x :: xs, h => by
    have h0 := h 0 x rfl
    have h1 := sum_bound (xs := xs) fun i y hy => h (i + 1) y (by simpa using hy)
    rw [List.map_cons, List.sum_cons, List.length_cons, Nat.succ_mul]
    omega
end Go.Proofs.YtnbkgaofdkkdnaaDoor
