/- Plain: the source of draws (spec.l2Source, l2Next) as a state. -/
import Derived.Test.YtnnfjjgohhicjaaPv
namespace Go.Proofs.Ytnnfjjgohhicjaa
set_option linter.unusedVariables false

structure Src where
  code : List UInt8
  at_ : Nat
  mix : Int
  size : Int
/-- What is true of every source on the way. -/
structure Src.ok (s : Src) : Prop where
  at_ : s.at_ ≤ s.code.length
  len : s.code.length ≤ 4000
  mix0 : 0 ≤ s.mix
  mix1 : s.mix < 1000003
  size : 1 ≤ s.size ∧ s.size ≤ 7
def mixL : List UInt8 → Int → Int
  | [], m => m
  | c :: r, m => mixL r ((m * 257 + (c.toNat : Int) + 1) % 1000003)
theorem mixL_snoc (c : UInt8) : ∀ (l : List UInt8) (m : Int), mixL (l ++ [c]) m = (mixL l m * 257 + (c.toNat : Int) + 1) % 1000003
  | [], m => rfl
  | d :: r, m => by rw [List.cons_append, mixL, mixL_snoc c r]; rfl
theorem mixL_rg : ∀ (l : List UInt8) {m : Int}, 0 ≤ m → m < 1000003 → 0 ≤ mixL l m ∧ mixL l m < 1000003
  | [], m, h0, h1 => ⟨h0, h1⟩
  | c :: r, m, h0, h1 => mixL_rg r (Int.emod_nonneg _ (by omega)) (Int.emod_lt_of_pos _ (by omega))
def srcOf (bytes : List UInt8) : Src :=
  ⟨bytes.take 4000, 0, mixL (bytes.take 4000) ((bytes.length : Int) % 1000 + 29), if 1 + ((bytes.take 4000).length : Int) / 50 > 7 then 7 else 1 + ((bytes.take 4000).length : Int) / 50⟩
theorem srcOf_ok (bytes : List UInt8) : (srcOf bytes).ok := by
  have h := mixL_rg (bytes.take 4000) (m := (bytes.length : Int) % 1000 + 29) (by omega) (by omega)
  refine ⟨Nat.zero_le _, by simp [srcOf]; omega, h.1, h.2, ?_⟩
  have : 0 ≤ ((bytes.take 4000).length : Int) / 50 := Int.ediv_nonneg (by omega) (by omega)
  simp only [srcOf]
  split <;> omega
def mix2 (s : Src) : Int := (s.mix * 1103 + 12347) % 1000003
/-- A number in 0..n-1, and the source behind it. -/
def nextV (s : Src) (n : Int) : Int := if n ≤ 1 then 0 else if s.at_ < s.code.length ∧ n ≤ 256 then (((s.code.getD s.at_ 0).toNat : Int)) % n else (mix2 s / 3) % n
def nextS (s : Src) (n : Int) : Src := if n ≤ 1 then s else if s.at_ < s.code.length ∧ n ≤ 256 then { s with at_ := s.at_ + 1 } else { s with mix := mix2 s }
theorem nextS_ok {s : Src} (h : s.ok) (n : Int) : (nextS s n).ok := by
  unfold nextS
  split
  · exact h
  · split
    · rename_i h2; exact ⟨h2.1, h.len, h.mix0, h.mix1, h.size⟩
    · exact ⟨h.at_, h.len, Int.emod_nonneg _ (by omega), Int.emod_lt_of_pos _ (by omega), h.size⟩
theorem nextV_rg (s : Src) (n : Int) : 0 ≤ nextV s n ∧ (1 ≤ n → nextV s n < n) := by
  unfold nextV
  split
  · exact ⟨by omega, by omega⟩
  · split
    · exact ⟨Int.emod_nonneg _ (by omega), fun _ => Int.emod_lt_of_pos _ (by omega)⟩
    · exact ⟨Int.emod_nonneg _ (by omega), fun _ => Int.emod_lt_of_pos _ (by omega)⟩
end Go.Proofs.Ytnnfjjgohhicjaa
