/- Contract of impl.flowOf: the region that builds the flow. -/
import Derived.Test.YtnbkgaofdkkdnaaDoorHk
import Derived.Test.YtnbkgaofdkkdnaaDoorWi
import Derived.WalkMore
import Derived.Deep.LoopGhost
namespace Go.Proofs.YtnbkgaofdkkdnaaDoor
open Go.RowKit
set_option linter.unusedSimpArgs false
set_option linter.unusedVariables false
set_option maxRecDepth 100000
open Dom

theorem info_boolF : (Tryd.prog.info? 4).map (fun i => (i.zero, i.size, i.bytes)) = some (some (.bool false), 1, 1) := by kernel_rfl
theorem info_intF : (Tryd.prog.info? 3).map (fun i => (i.zero, i.size, i.bytes)) = some (some (.int .i64 0), 1, 8) := by kernel_rfl
def updF {α : Type} (f : Nat → α) (i : Nat) (x : α) : Nat → α := fun j => if j = i then x else f j
abbrev FR (f sl : Value) (B : Nat) (n : Nat) (V : Nat → Value) : Act := ⟨#[f, .pointer (some ⟨B, 0, none⟩), .pointer none, .int .i64 n, undef, undef, undef, undef, undef, undef, .pointer (some ⟨B, 1, none⟩), sl, .int .i64 n, V 0, V 1, V 2, V 3, V 4, V 5, V 6, V 7, V 8, V 9, undef, undef, undef, undef, undef, undef, undef, undef, undef, undef, undef, undef, undef, undef, undef, undef, undef, undef, undef, undef, undef, undef, undef, undef, undef, undef, undef, undef, undef, undef, undef, undef, undef, undef, undef, undef, undef, undef, undef, undef, undef, undef, undef, undef, undef, undef, undef, undef, undef, undef, undef, undef, undef, undef, undef, undef, undef, undef, undef, undef, undef, undef, undef, undef, undef, undef, undef, undef, undef, undef, undef, undef, undef, undef, undef, undef, undef], []⟩
def FactF (f : Value) (P : List (List Int)) (n : Nat) : Nat → Value → List Nat → World → Prop
  | 0, v, _, _ => v = f
  | 1, v, l, w => ∃ (A : Option Addr) (c : Nat), v = .slice A n c ∧ Row 35 kI64s w (.slice A n c) P l
  | 2, v, _, _ => v = .int .i64 n
  | 3, v, l, w => ∃ g, l = [g] ∧ v = .slice (some ⟨g, 0, none⟩) n n ∧ Arr 2 eI g n (List.replicate n 0) w
  | 4, v, _, _ => v = .int .i64 n
  | 5, v, l, w => ∃ g, l = [g] ∧ v = .slice (some ⟨g, 0, none⟩) n n ∧ Arr 2 eI g n (List.replicate n 0) w
  | 6, v, _, _ => v = .int .i64 n
  | 7, v, l, w => ∃ g, l = [g] ∧ v = .slice (some ⟨g, 0, none⟩) n n ∧ Arr 4 eB g n (List.replicate n false) w
  | 8, v, _, _ => v = .int .i64 n
  | 9, v, l, w => ∃ g, l = [g] ∧ v = .slice (some ⟨g, 0, none⟩) n n ∧ Arr 3 eI g n (List.replicate n 0) w
  | _, _, _, _ => True
theorem arr_below {α : Type} {T : TypeId} {e : α → Value} {g n : Nat} {xs : List α} {w w' : World} (h : Arr T e g n xs w) (hb : Below w.heap.size w w') : Arr T e g n xs w' := h.chg (chg_of hb) (fun h => h)
theorem FactF.keep {f : Value} {P : List (List Int)} {n i : Nat} {v : Value} {l : List Nat} {w w' : World} (h : FactF f P n i v l w) (hb : Below w.heap.size w w') : FactF f P n i v l w' := by
  match i, h with
  | 0, h => exact h
  | 1, ⟨A, c, h1, h2⟩ => exact ⟨A, c, h1, h2.chg (chg_of hb) fun _ _ h => h⟩
  | 2, h => exact h
  | 3, ⟨g, h1, h2, h3⟩ => exact ⟨g, h1, h2, arr_below h3 hb⟩
  | 4, h => exact h
  | 5, ⟨g, h1, h2, h3⟩ => exact ⟨g, h1, h2, arr_below h3 hb⟩
  | 6, h => exact h
  | 7, ⟨g, h1, h2, h3⟩ => exact ⟨g, h1, h2, arr_below h3 hb⟩
  | 8, h => exact h
  | 9, ⟨g, h1, h2, h3⟩ => exact ⟨g, h1, h2, arr_below h3 hb⟩
  | i + 10, _ => trivial
structure RD (W0 : World) (f : Value) (P : List (List Int)) (n : Nat) (bs : List Bool) (V : Nat → Value) (o : Nat → List Nat) (w : World) : Prop where
  fact : ∀ i, i < 10 → bs.getD i false = true → FactF f P n i (V i) (o i) w
  low : ∀ i, ∀ q ∈ o i, W0.heap.size ≤ q ∧ q < w.heap.size
  apart : ∀ i j, i ≠ j → ∀ q ∈ o i, q ∉ o j
  ext : Below W0.heap.size W0 w
theorem RD.step {W0 : World} {f : Value} {P : List (List Int)} {n : Nat} {bs : List Bool} {V : Nat → Value} {o : Nat → List Nat} {w w' : World} (h : RD W0 f P n bs V o w) (i : Nat) (v : Value) (l : List Nat) (hf : FactF f P n i v l w') (hB : Below w.heap.size w w') (hl : ∀ q ∈ l, w.heap.size ≤ q ∧ q < w'.heap.size) :
    RD W0 f P n (bs.set i true) (updF V i v) (updF o i l) w' := by
  refine ⟨fun j hj hd => ?_, fun j q hq => ?_, fun j k hjk q hq hk => ?_, h.ext.trans (hB.mono h.ext.size)⟩
  · unfold updF
    by_cases e : j = i
    · rw [if_pos e, if_pos e, e]; exact hf
    · rw [if_neg e, if_neg e]
      refine (h.fact j hj ?_).keep hB
      rw [List.getD_eq_getElem?_getD, List.getElem?_set, if_neg (fun k => e k.symm)] at hd
      rw [List.getD_eq_getElem?_getD]; exact hd
  · unfold updF at hq
    split at hq
    · exact ⟨Nat.le_trans h.ext.size (hl q hq).1, (hl q hq).2⟩
    · exact ⟨(h.low j q hq).1, Nat.lt_of_lt_of_le (h.low j q hq).2 hB.size⟩
  · unfold updF at hq hk
    split at hq
    · rename_i e1
      split at hk
      · rename_i e2; exact hjk (e1.trans e2.symm)
      · have := (h.low k q hk).2; have := (hl q hq).1; omega
    · split at hk
      · have := (h.low j q hq).2; have := (hl q hk).1; omega
      · exact h.apart j k hjk q hq hk
end Go.Proofs.YtnbkgaofdkkdnaaDoor
