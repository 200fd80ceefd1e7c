/- Plain: predecessors with repetitions, as impl collects them. -/
import Derived.Test.YtnbkgaofdkkdnaaDoorPf
namespace Go.Proofs.YtnbkgaofdkkdnaaDoor
def rep (ts : List Int) (t : Nat) (b : Int) : List Int := (ts.filter fun q => decide (q = (t : Int))).map fun _ => b
theorem rep_snoc {ts : List Int} {j : Nat} {q : Int} (h : ts[j]? = some q) (t : Nat) (b : Int) : rep (ts.take (j + 1)) t b = rep (ts.take j) t b ++ if q = (t : Int) then [b] else [] := by
  rw [List.take_add_one, h]
  by_cases hq : q = (t : Int) <;> simp [rep, List.filter_append, hq]
def predM (t : Nat) : List Block → Nat → List Int
  | [], _ => []
  | x :: xs, i => rep (targets x.term) t (i : Int) ++ predM t xs (i + 1)
theorem predM_append (t : Nat) : ∀ (xs ys : List Block) (i : Nat), predM t (xs ++ ys) i = predM t xs i ++ predM t ys (i + xs.length)
  | [], ys, i => by simp [predM]
  | x :: xs, ys, i => by rw [List.cons_append, predM, predM, predM_append t xs ys (i + 1), List.append_assoc, List.length_cons, show i + 1 + xs.length = i + (xs.length + 1) by omega]
theorem predM_snoc {bs : List Block} {k : Nat} {x : Block} (t : Nat) (h : bs[k]? = some x) : predM t (bs.take (k + 1)) 0 = predM t (bs.take k) 0 ++ rep (targets x.term) t (k : Int) := by
  have hk : k < bs.length := (List.getElem?_eq_some_iff.1 h).1
  rw [List.take_add_one, h, predM_append]
  simp [predM, List.length_take_of_le (Nat.le_of_lt hk)]
theorem rep_len (ts : List Int) (t : Nat) (b : Int) : (rep ts t b).length ≤ ts.length := by
  unfold rep
  rw [List.length_map]
  exact List.length_filter_le _ _
theorem predM_len (t : Nat) : ∀ (xs : List Block) (i : Nat), (predM t xs i).length ≤ 2 * xs.length
  | [], _ => by simp [predM]
  | x :: xs, i => by
    have h1 := predM_len t xs (i + 1)
    have h2 := rep_len (targets x.term) t (i : Int)
    have h3 := targets_len x.term
    rw [predM, List.length_append, List.length_cons]
    omega
/-- The table of predecessors, over n blocks. -/
def tab {α : Type} (n : Nat) (F : Nat → α) : List α := (List.range n).map F
theorem tab_len {α : Type} (n : Nat) (F : Nat → α) : (tab n F).length = n := by simp [tab]
theorem tab_get {α : Type} {n : Nat} (F : Nat → α) {t : Nat} (h : t < n) : (tab n F)[t]? = some (F t) := by simp [tab, h]
theorem tab_set {α : Type} {n : Nat} {F F' : Nat → α} {t : Nat} (h : t < n) (h1 : ∀ s, s ≠ t → F' s = F s) : (tab n F).set t (F' t) = tab n F' := by
  apply List.ext_getElem?
  intro i
  rw [List.getElem?_set]
  by_cases hi : i < n
  · rw [tab_get F' hi]
    by_cases he : t = i
    · subst he; simp [tab_len, h]
    · rw [if_neg he, tab_get F hi, h1 i (fun e => he e.symm)]
  · rw [List.getElem?_eq_none (by rw [tab_len]; omega)]
    rw [if_neg (by omega), List.getElem?_eq_none (by rw [tab_len]; omega)]
theorem tab_const {α : Type} (n : Nat) (z : α) : tab n (fun _ => z) = List.replicate n z := by
  unfold tab
  rw [List.map_const']
  simp
theorem tab_nil (n : Nat) : tab n (fun _ => ([] : List Int)) = List.replicate n [] := tab_const n []
end Go.Proofs.YtnbkgaofdkkdnaaDoor
