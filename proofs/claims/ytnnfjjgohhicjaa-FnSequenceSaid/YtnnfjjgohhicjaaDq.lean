/- Plain: what spec.DrawSequence draws, stage by stage. -/
import Derived.Test.YtnnfjjgohhicjaaDp
import Derived.Test.YtnnfjjgohhicjaaPq
namespace Go.Proofs.Ytnnfjjgohhicjaa
set_option linter.unusedVariables false

def swapL {α : Type} (l : List α) (i j : Nat) : List α := match l[i]?, l[j]? with
  | some x, some y => (l.set i y).set j x
  | _, _ => l
theorem swapL_of {α : Type} {l : List α} {i j : Nat} {x y : α} (hx : l[i]? = some x) (hy : l[j]? = some y) : swapL l i j = (l.set i y).set j x := by unfold swapL; rw [hx, hy]
theorem swapL_len {α : Type} (l : List α) (i j : Nat) : (swapL l i j).length = l.length := by
  unfold swapL
  split <;> simp
/-- From place i down to 1: with a place not above it. -/
def shufF {α : Type} : Nat → Src → List α → Src × List α
  | 0, s, l => (s, l)
  | i + 1, s, l => shufF i (nextS s ((i : Int) + 2)) (swapL l (i + 1) (nextV s ((i : Int) + 2)).toNat)
theorem shufF_pos {α : Type} {k : Nat} (h : 1 ≤ k) (s : Src) (l : List α) : shufF k s l = shufF (k - 1) (nextS s ((k : Int) + 1)) (swapL l k (nextV s ((k : Int) + 1)).toNat) := by
  obtain ⟨i, rfl⟩ : ∃ i, k = i + 1 := ⟨k - 1, by omega⟩
  rw [shufF, Nat.add_sub_cancel, show ((i + 1 : Nat) : Int) + 1 = (i : Int) + 2 by omega]
theorem shufF_len {α : Type} : ∀ (i : Nat) (s : Src) (l : List α), (shufF i s l).2.length = l.length
  | 0, _, _ => rfl
  | i + 1, s, l => by rw [shufF, shufF_len i, swapL_len]
theorem shufF_ok {α : Type} : ∀ (i : Nat) {s : Src} (l : List α), s.ok → (shufF i s l).1.ok
  | 0, _, _, h => h
  | i + 1, s, l, h => by rw [shufF]; exact shufF_ok i _ (nextS_ok h _)
def mvF (wide loose : Int) (at_ : List Int) : Nat → Nat → Src → List Move → Src × List Move
  | 0, _, s, ms => (s, ms)
  | r + 1, i, s, ms =>
    if loose = 0 then mvF wide loose at_ r (i + 1) (nextS s wide) (ms ++ [⟨at_.getD i 0, nextV s wide⟩])
    else if loose = 1 then
      if nextV s 6 = 0 then mvF wide loose at_ r (i + 1) (nextS (nextS s 6) wide) (ms ++ [⟨at_.getD i 0, nextV (nextS s 6) wide⟩])
      else mvF wide loose at_ r (i + 1) (nextS s 6) (ms ++ [⟨at_.getD i 0, i⟩])
    else mvF wide loose at_ r (i + 1) s (ms ++ [⟨at_.getD i 0, i⟩])
def d8 (k : Int) (i : Nat) (s : Src) (ms : List Move) : List Move :=
  if k = 0 then ms.modify i fun m => ⟨64 - nextV s 2, m.src⟩
  else if k = 1 then ms.modify i fun m => ⟨m.to, 64 - nextV s 2⟩
  else if k = 2 then ms.modify i fun m => ⟨toAt ms 0, m.src⟩
  else if k = 3 then ms.modify i fun m => ⟨m.to, -1⟩
  else if k = 4 then ms ++ [⟨63, 0⟩]
  else ms
def d7 (x : Src × List Move) : List Move := d8 (nextV x.1 20) (nextV (nextS x.1 20) x.2.length).toNat (nextS (nextS x.1 20) x.2.length) x.2
def d6 (x : Src × List Move) : List Move := d7 (shufF (x.2.length - 1) x.1 x.2)
def d5 (n wide : Nat) (x : Src × List Int) : List Move := d6 (mvF wide (nextV x.1 3) x.2 n 0 (nextS x.1 3) [])
def iota (n : Nat) : List Int := (List.range n).map Int.ofNat
theorem iota_snoc (n : Nat) : iota (n + 1) = iota n ++ [(n : Int)] := by simp [iota, List.range_succ]
theorem iota_len (n : Nat) : (iota n).length = n := by simp [iota]
def d4 (s : Src) (n wide : Nat) : List Move := d5 n wide (shufF (wide - 1) s (iota wide))
def d3 (s : Src) (n wide : Int) : List Move := if nextV s 10 = 0 then d4 (nextS s 10) 64 64 else d4 (nextS s 10) n.toNat wide.toNat
def d2 (s : Src) (n : Int) : List Move := if nextV s 2 = 0 then d3 (nextS (nextS s 2) 8) n (n + nextV (nextS s 2) 8) else d3 (nextS s 2) n n
def drawSeq (bytes : List UInt8) : List Move := d2 (nextS (srcOf bytes) (3 + 3 * (srcOf bytes).size)) (1 + nextV (srcOf bytes) (3 + 3 * (srcOf bytes).size))
end Go.Proofs.Ytnnfjjgohhicjaa
