/- Plain: a function's blocks as a graph; what the numbering gives; one visit of a pass. -/
import Derived.Test.YtnbkgaofdkkdnaaDoorGz
import Derived.Test.YtnbkgaofdkkdnaaDoorPg
namespace Go.Proofs.YtnbkgaofdkkdnaaDoor
set_option linter.unusedVariables false

namespace Dom
def natI (l : List Nat) : List Int := l.map fun x : Nat => (x : Int)
theorem natI_len (l : List Nat) : (natI l).length = l.length := by simp [natI]
theorem natI_get {l : List Nat} {i x : Nat} (h : l[i]? = some x) : (natI l)[i]? = some (x : Int) := by simp [natI, h]
theorem natI_snoc (l : List Nat) (x : Nat) : natI (l ++ [x]) = natI l ++ [(x : Int)] := by simp [natI]
theorem mem_natI {l : List Nat} {x : Nat} : (x : Int) ∈ natI l ↔ x ∈ l := by
  unfold natI
  rw [List.mem_map]
  constructor
  · rintro ⟨y, hy, e⟩; have : y = x := by omega
    exact this ▸ hy
  · exact fun h => ⟨x, h, rfl⟩
theorem natI_to {l : List Int} (h : ∀ q ∈ l, 0 ≤ q) : natI (l.map Int.toNat) = l := by
  unfold natI
  rw [List.map_map]
  conv => rhs; rw [← List.map_id l]
  refine List.map_congr_left fun q hq => ?_
  have := h q hq
  show ((q.toNat : Nat) : Int) = q
  omega
def succB (bs : List Block) (x : Nat) : List Nat := match bs[x]? with
  | some b => (targets b.term).map Int.toNat
  | none => []
def OkT (bs : List Block) : Prop := ∀ (i : Nat) b, bs[i]? = some b → ∀ q ∈ targets b.term, 0 ≤ q ∧ q < bs.length
variable {bs : List Block}
theorem succB_at {x : Nat} {b : Block} (h : bs[x]? = some b) : succB bs x = (targets b.term).map Int.toNat := by unfold succB; rw [h]
theorem succB_cast (h : OkT bs) {x : Nat} {b : Block} (hx : bs[x]? = some b) : targets b.term = natI (succB bs x) := by
  rw [succB_at hx, natI_to fun q hq => (h x b hx q hq).1]
theorem succB_lt (h : OkT bs) (x t : Nat) (ht : t ∈ succB bs x) : t < bs.length := by
  unfold succB at ht
  split at ht
  · rename_i b hb
    obtain ⟨q, hq, rfl⟩ := List.mem_map.1 ht
    have := h x b hb q hq
    omega
  · simp at ht
theorem mem_rep {ts : List Int} {t : Nat} {b q : Int} : q ∈ rep ts t b ↔ (t : Int) ∈ ts ∧ q = b := by
  unfold rep
  rw [List.mem_map]
  constructor
  · rintro ⟨y, hy, e⟩
    have h1 := List.mem_filter.1 hy
    have h2 : y = (t : Int) := by simpa using h1.2
    exact ⟨h2 ▸ h1.1, e.symm⟩
  · rintro ⟨h1, h2⟩
    exact ⟨t, List.mem_filter.2 ⟨h1, by simp⟩, h2.symm⟩
theorem mem_predM (t : Nat) : ∀ (xs : List Block) (i : Nat) (q : Int), q ∈ predM t xs i ↔ ∃ (k : Nat) (x : Block), xs[k]? = some x ∧ (t : Int) ∈ targets x.term ∧ q = ((i + k : Nat) : Int)
  | [], i, q => by simp [predM]
  | x :: xs, i, q => by
    rw [predM, List.mem_append, mem_rep, mem_predM t xs (i + 1) q]
    constructor
    · rintro (⟨h1, h2⟩ | ⟨k, y, h1, h2, h3⟩)
      · exact ⟨0, x, rfl, h1, by simpa using h2⟩
      · exact ⟨k + 1, y, by simpa using h1, h2, by rw [h3]; omega⟩
    · rintro ⟨k, y, h1, h2, h3⟩
      cases k with
      | zero => simp at h1; subst h1; exact .inl ⟨h2, by simpa using h3⟩
      | succ k => exact .inr ⟨k, y, by simpa using h1, h2, by rw [h3]; omega⟩
def predB (bs : List Block) (c : Nat) : List Nat := (predM c bs 0).map Int.toNat
theorem predB_cast (bs : List Block) (c : Nat) : predM c bs 0 = natI (predB bs c) := by
  rw [predB, natI_to fun q hq => by obtain ⟨k, _, _, _, rfl⟩ := (mem_predM c bs 0 q).1 hq; omega]
theorem predB_len (bs : List Block) (c : Nat) : (predB bs c).length = (predM c bs 0).length := by simp [predB]
theorem mem_predB (h : OkT bs) {c p : Nat} : p ∈ predB bs c ↔ c ∈ succB bs p := by
  unfold predB
  rw [List.mem_map]
  constructor
  · rintro ⟨q, hq, rfl⟩
    obtain ⟨k, x, h1, h2, rfl⟩ := (mem_predM c bs 0 q).1 hq
    have : (((0 + k : Nat) : Int)).toNat = k := by omega
    rw [this, succB_at h1]
    exact List.mem_map.2 ⟨c, h2, by omega⟩
  · intro hc
    unfold succB at hc
    split at hc
    · rename_i b hb
      obtain ⟨q, hq, rfl⟩ := List.mem_map.1 hc
      have := h p b hb q hq
      refine ⟨((0 + p : Nat) : Int), (mem_predM _ bs 0 _).2 ⟨p, b, hb, ?_, rfl⟩, by omega⟩
      rw [show ((q.toNat : Nat) : Int) = q by omega]
      exact hq
    · simp at hc
theorem predB_lt {c p : Nat} (h : p ∈ predB bs c) : p < bs.length := by
  obtain ⟨q, hq, rfl⟩ := List.mem_map.1 h
  obtain ⟨k, x, h1, _, rfl⟩ := (mem_predM c bs 0 q).1 hq
  have := (List.getElem?_eq_some_iff.1 h1).1
  omega
/-- The predecessors that are marked. -/
def rpB (bs : List Block) (L : List Bool) (c : Nat) : List Nat := (predB bs c).filter fun p => L.getD p false
/-- What the numbering gives: marks L, the list S in postorder, a block t c ahead of each. -/
structure Num (bs : List Block) (L : List Bool) (S : List Nat) (t : Nat → Nat) : Prop where
  okt : OkT bs
  last : ∃ A, S = A ++ [0]
  nodup : S.Nodup
  mem : ∀ x, x ∈ S ↔ RA (succB bs) none x
  mks : ∀ x, Mk L x ↔ RA (succB bs) none x
  len : L.length = bs.length
  ahead : ∀ c, RA (succB bs) none c → c ≠ 0 → t c ∈ rpB bs L c ∧ S.idxOf c < S.idxOf (t c)
theorem Num.of (h : OkT bs) (h0 : 0 < bs.length) {L : List Bool} {S : List Nat} (e : dfs (succB bs) bs.length 0 (List.replicate bs.length false, []) = (L, S)) : ∃ t, Num bs L S t := by
  obtain ⟨S', A, h1, h2, h3, h4, h5, h6, h7⟩ := numbering (succB_lt h) h0
  rw [e] at h1 h5 h7
  obtain rfl : S = S' := by injection h1
  have hrp : ∀ c p, RA (succB bs) none p → c ∈ succB bs p → p ∈ rpB bs L c := fun c p hp hc => List.mem_filter.2 ⟨(mem_predB h).2 hc, (h5 p).2 hp⟩
  obtain ⟨t, ht⟩ := choose_t hrp h6
  exact ⟨t, h, ⟨A, h2⟩, h3, h4, h5, h7, ht⟩
namespace Num
variable {L : List Bool} {S : List Nat} {t : Nat → Nat} (h : Num bs L S t)
include h
theorem rp1 (c p : Nat) (hp : RA (succB bs) none p) (hc : c ∈ succB bs p) : p ∈ rpB bs L c := List.mem_filter.2 ⟨(mem_predB h.okt).2 hc, (h.mks p).2 hp⟩
theorem rp2 (c p : Nat) (hp : p ∈ rpB bs L c) : RA (succB bs) none p ∧ c ∈ succB bs p := ⟨(h.mks p).1 (List.mem_filter.1 hp).2, (mem_predB h.okt).1 (List.mem_filter.1 hp).1⟩
theorem inj (x y : Nat) (hx : RA (succB bs) none x) (hy : RA (succB bs) none y) (e : S.idxOf x = S.idxOf y) : x = y := idx_inj ((h.mem x).2 hx) e
theorem top (x : Nat) (hx : RA (succB bs) none x) (h0 : x ≠ 0) : S.idxOf x < S.idxOf 0 := by
  obtain ⟨A, rfl⟩ := h.last
  exact idx_top h.nodup ((h.mem x).2 hx) h0
theorem top0 : S.idxOf 0 + 1 = S.length := by
  obtain ⟨A, rfl⟩ := h.last
  rw [idx_last h.nodup]; simp
theorem lt {x : Nat} (hx : x ∈ S) : x < bs.length := by
  have := mk_lt ((h.mks x).2 ((h.mem x).1 hx))
  rw [h.len] at this; exact this
theorem at_ {i x : Nat} (hx : S[i]? = some x) : RA (succB bs) none x ∧ S.idxOf x = i ∧ x < bs.length := ⟨(h.mem x).1 (List.mem_of_getElem? hx), idx_get h.nodup hx, h.lt (List.mem_of_getElem? hx)⟩
theorem ne0 {i x : Nat} (hx : S[i]? = some x) (hi : i + 1 < S.length) : x ≠ 0 := fun e => by
  subst e
  have h1 := (h.at_ hx).2.1
  have := h.top0
  omega
theorem known {par : Nat → Option Nat} {cur : Nat} (hp : PassSt (succB bs) S.idxOf (rpB bs L) t par cur) {b : Nat} (hb : RA (succB bs) none b) (h0 : b ≠ 0) (hc : cur ≤ S.idxOf b + 1) : ∃ p ∈ rpB bs L b, (par p).isSome :=
  have h1 := h.ahead b hb h0
  ⟨t b, h1.1, hp.known (h.rp2 b _ h1.1).1 (by omega)⟩
end Num
/-- Known blocks are reached ones. -/
def Only (succ : Nat → List Nat) (par : Nat → Option Nat) : Prop := ∀ x, (par x).isSome → RA succ none x
theorem Only.upd {succ : Nat → List Nat} {par : Nat → Option Nat} {b N : Nat} (h : Only succ par) (hb : RA succ none b) : Only succ (upd par b N) := fun x hx => by
  unfold Dom.upd at hx
  split at hx
  · rename_i e; rw [e]; exact hb
  · exact h x hx
end Dom
end Go.Proofs.YtnbkgaofdkkdnaaDoor
