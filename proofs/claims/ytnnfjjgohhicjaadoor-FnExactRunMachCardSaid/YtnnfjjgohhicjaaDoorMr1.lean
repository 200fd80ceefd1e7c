/- Kinds of Phi and Block; contracts: sizes of a function's text (laws.sz..). -/
import Derived.WalkKit
import Derived.Below
import Derived.Laws.OwnMore
import Derived.Laws.MakeOwn
import Derived.Maps.AppendAt
import Derived.Deep.AppendLies
import Derived.Deep.QuietTactic
import Derived.BigQuiet
import Derived.Deep.Light
import Derived.Lib.Hide
import Derived.Laws.Rows
import Derived.Test.YtnnfjjgohhicjaaDoorProg
import Derived.Outline
namespace Go.Proofs.YtnnfjjgohhicjaaDoor
open Go.RowKit
set_option linter.unusedSimpArgs false
set_option linter.unusedVariables false

/-- From w to w' only blocks of S (and new ones) have turned. -/
structure Chg (S : Nat → Prop) (w w' : World) : Prop where
  os : w'.os = w.os
  tape : w'.tape = w.tape
  output : w'.output = w.output
  size : w.heap.size ≤ w'.heap.size
  block : ∀ k, k < w.heap.size → ¬ S k → w'.heap[k]? = w.heap[k]?

namespace Chg
variable {S T : Nat → Prop} {w w' w'' : World}
theorem refl (S : Nat → Prop) (w : World) : Chg S w w := ⟨rfl, rfl, rfl, Nat.le_refl _, fun _ _ _ => rfl⟩
theorem trans (h : Chg S w w') (k : Chg S w' w'') : Chg S w w'' :=
  ⟨k.os.trans h.os, k.tape.trans h.tape, k.output.trans h.output, Nat.le_trans h.size k.size, fun i hi hn => (k.block i (Nat.lt_of_lt_of_le hi h.size) hn).trans (h.block i hi hn)⟩
theorem mono (h : Chg S w w') (hs : ∀ k, k < w.heap.size → S k → T k) : Chg T w w' := ⟨h.os, h.tape, h.output, h.size, fun k hk hn => h.block k hk fun hS => hn (hs k hk hS)⟩
theorem drew (h : Chg S w w') : Chg S w w'.drew := ⟨h.os, h.tape, h.output, h.size, h.block⟩
theorem drewN (h : Chg S w w') (n : Nat) : Chg S w (w'.drewN n) := ⟨h.os, h.tape, h.output, h.size, h.block⟩
theorem alloc (h : Chg S w w') (o : Obj) : Chg S w (w'.alloc o) :=
  h.trans ⟨rfl, rfl, rfl, by simp, fun k hk _ => Below.heap_alloc _ _ _ hk⟩
theorem setCell (h : Chg S w w') {p : Addr} (hp : S p.block ∨ w.heap.size ≤ p.block) (u : Value) : Chg S w (w'.setCell p u) :=
  ⟨h.os, h.tape, h.output, by simpa [World.setCell] using h.size, fun k hk hn => (Below.heap_setCell _ _ _ _ (fun e => Or.elim hp (fun hp => hn (by rw [e]; exact hp)) (fun hp => by omega))).trans (h.block k hk hn)⟩
theorem below {B : Nat} (h : Chg S w w') (hB : B ≤ w.heap.size) (hs : ∀ k, S k → B ≤ k) : Below B w w' :=
  ⟨h.os, h.tape, h.output, h.size, fun k hk => h.block k (by omega) fun hS => by have := hs k hS; omega⟩
theorem of_below {B : Nat} (h : Below B w w') : Chg (B ≤ ·) w w' := ⟨h.os, h.tape, h.output, h.size, fun k _ hn => h.block k (by omega)⟩
theorem of_grown {row : Option Nat} (h : w.grownBy w' row) : Chg (fun k => row = some k) w w' := ⟨h.os, h.tape, h.output, h.size, fun k hk hn => h.block k hk fun e => hn e.symm⟩
theorem call (h : Chg S w w') (hb : Below w'.heap.size w' w'') : Chg S w w'' := ⟨hb.os.trans h.os, hb.tape.trans h.tape, hb.output.trans h.output, Nat.le_trans h.size hb.size, fun k hk hn => (hb.block k (Nat.lt_of_lt_of_le hk h.size)).trans (h.block k hk hn)⟩
end Chg
theorem bel {w w' : World} (h : Chg (fun _ => False) w w') : Below w.heap.size w w' := h.below (Nat.le_refl _) fun _ h => h.elim
theorem chg_of {w w' : World} (h : Below w.heap.size w w') : Chg (fun _ => False) w w' := ⟨h.os, h.tape, h.output, h.size, fun k hk _ => h.block k hk⟩

/-- A kind of data: its cells, how it is read, how it is owned (fp: the blocks it lies in). -/
structure Kd (α : Type) where
  sz : Nat
  K : World → α → List Value → Prop
  O : World → α → List Value → List Nat → Prop
  len : ∀ {w x cs}, K w x cs → cs.length = sz
  one : ∀ {w x cs}, K w x cs → ∀ u ∈ cs, u.oneCell' = true
  keep : ∀ {w w' x cs}, K w x cs → (∀ b, b < w.heap.size → w'.heap[b]? = w.heap[b]?) → K w' x cs
  read : ∀ {w x cs fp}, O w x cs fp → K w x cs
  okeep : ∀ {w w' x cs fp}, O w x cs fp → (∀ b ∈ fp, w'.heap[b]? = w.heap[b]?) → O w' x cs fp
  lt : ∀ {w x cs fp}, O w x cs fp → ∀ b ∈ fp, b < w.heap.size
  nodup : ∀ {w x cs fp}, O w x cs fp → fp.Nodup

/-- Element by element. -/
def C {α : Type} (d : Kd α) (w : World) (A : Option Addr) (xs : List α) : Prop :=
  ∀ (i : Nat) x, xs[i]? = some x → ∃ a cs, A = some a ∧ d.K w x cs ∧ ∀ (j : Nat) u, cs[j]? = some u → w.cell? (a.add (i * d.sz + j)) = some u

theorem add_block (a : Addr) (n : Nat) : (a.add n).block = a.block := by unfold Addr.add; split <;> rfl
theorem add_plain (b o n : Nat) : (⟨b, o, none⟩ : Addr).add n = ⟨b, o + n, none⟩ := by unfold Addr.add; split <;> simp_all
theorem add_field (a : Addr) (n j : Nat) (h : 0 < j) : a.add (n + j) = ⟨(a.add n).block, (a.add n).off + j, none⟩ := by
  unfold Addr.add
  by_cases hn : n = 0 <;> simp [hn, Nat.add_assoc, show n + j ≠ 0 by omega, show j ≠ 0 by omega]

theorem C.keep {α : Type} {d : Kd α} {w w' : World} {A : Option Addr} {xs : List α} (h : C d w A xs) (hw : ∀ b, b < w.heap.size → w'.heap[b]? = w.heap[b]?) : C d w' A xs := by
  intro i x hx
  obtain ⟨a, cs, hA, hK, hc⟩ := h i x hx
  refine ⟨a, cs, hA, d.keep hK hw, fun j u hu => ?_⟩
  have h1 := hc j u hu
  rw [← h1]
  exact World.cell?_of_block (hw _ (World.block_lt_of_cell? w _ h1))
theorem C.below {α : Type} {d : Kd α} {w w' : World} {A : Option Addr} {xs : List α} (h : C d w A xs) (hb : Below w.heap.size w w') : C d w' A xs := h.keep hb.block
theorem C.nil {α : Type} (d : Kd α) (w : World) (A : Option Addr) : C d w A [] := fun i x hx => by simp at hx
theorem C.get {α : Type} {d : Kd α} {w : World} {A : Option Addr} {xs : List α} (h : C d w A xs) {i : Nat} (hi : i < xs.length) :
    ∃ a cs, A = some a ∧ d.K w xs[i] cs ∧ ∀ (j : Nat) u, cs[j]? = some u → w.cell? (a.add (i * d.sz + j)) = some u := h i _ (List.getElem?_eq_getElem hi)

inductive All3 {α β γ : Type} (R : α → β → γ → Prop) : List α → List β → List γ → Prop
  | nil : All3 R [] [] []
  | cons {a b c az bs cs} : R a b c → All3 R az bs cs → All3 R (a :: az) (b :: bs) (c :: cs)

namespace All3
variable {α β γ : Type} {R R' : α → β → γ → Prop} {az az' : List α} {bs bs' : List β} {cs cs' : List γ}
theorem imp (h : All3 R az bs cs) (k : ∀ a b c, c ∈ cs → R a b c → R' a b c) : All3 R' az bs cs := by
  induction h with
  | nil => exact .nil
  | cons h _ ih => exact .cons (k _ _ _ (by simp) h) (ih fun a b c hc => k a b c (by simp [hc]))
theorem len2 (h : All3 R az bs cs) : bs.length = az.length := by induction h <;> simp_all
theorem len3 (h : All3 R az bs cs) : cs.length = az.length := by induction h <;> simp_all
theorem append (h : All3 R az bs cs) (k : All3 R az' bs' cs') : All3 R (az ++ az') (bs ++ bs') (cs ++ cs') := by
  induction h with
  | nil => exact k
  | cons h _ ih => exact .cons h ih
theorem get (h : All3 R az bs cs) {i : Nat} {a : α} (hi : az[i]? = some a) : ∃ b c, bs[i]? = some b ∧ cs[i]? = some c ∧ R a b c := by
  induction h generalizing i with
  | nil => simp at hi
  | cons h _ ih =>
    cases i with
    | zero => simp at hi; subst hi; exact ⟨_, _, rfl, rfl, h⟩
    | succ i => simp at hi; obtain ⟨b, c, hb, hc, hR⟩ := ih hi; exact ⟨b, c, by simpa using hb, by simpa using hc, hR⟩
theorem set (h : All3 R az bs cs) (i : Nat) {a : α} {b : β} {c : γ} (hR : R a b c) : All3 R (az.set i a) (bs.set i b) (cs.set i c) := by
  induction h generalizing i with
  | nil => exact .nil
  | cons h k ih =>
    cases i with
    | zero => exact .cons hR k
    | succ i => exact .cons h (ih i)
theorem replicate {a : α} {b : β} {c : γ} (n : Nat) (hR : R a b c) : All3 R (List.replicate n a) (List.replicate n b) (List.replicate n c) := by
  induction n with
  | zero => exact .nil
  | succ n ih => exact .cons hR ih
end All3

theorem flatten_get {css : List (List Value)} {s : Nat} (hs : ∀ c ∈ css, c.length = s) {i j : Nat} {c : List Value} {u : Value} (hc : css[i]? = some c) (hu : c[j]? = some u) : css.flatten[i * s + j]? = some u := by
  induction css generalizing i with
  | nil => simp at hc
  | cons d ds ih =>
    have hd := hs d (by simp)
    rw [List.flatten_cons]
    cases i with
    | zero =>
      simp at hc; subst hc
      have hj : j < d.length := (List.getElem?_eq_some_iff.1 hu).1
      rw [List.getElem?_append_left (by omega)]
      simpa using hu
    | succ i =>
      rw [List.getElem?_append_right (by rw [Nat.succ_mul]; omega)]
      simp at hc
      have := ih (fun c hc' => hs c (by simp [hc'])) hc
      rw [← this]
      congr 1
      rw [Nat.succ_mul]; omega
theorem flatten_len {css : List (List Value)} {s : Nat} (hs : ∀ c ∈ css, c.length = s) : css.flatten.length = css.length * s := by
  induction css with
  | nil => simp
  | cons d ds ih => simp [hs d (by simp), ih fun c hc => hs c (by simp [hc]), Nat.succ_mul, Nat.add_comm]

/-- What a row of owned elements says. -/
def Row {α : Type} (e : TypeId) (d : Kd α) (w : World) (v : Value) (xs : List α) (fp : List Nat) : Prop :=
  ∃ css fps, w.ownsRow 0 e d.sz v xs.length css.flatten ∧ All3 (d.O w) xs css fps ∧ fp = v.ownBlock.toList ++ fps.flatten ∧ fp.Nodup

theorem All3.lens {α : Type} {d : Kd α} {w : World} {xs : List α} {css : List (List Value)} {fps : List (List Nat)} (h : All3 (d.O w) xs css fps) : ∀ c ∈ css, c.length = d.sz := by
  induction h with
  | nil => simp
  | cons h _ ih => intro c hc; exact Or.elim (List.mem_cons.1 hc) (fun e => e ▸ d.len (d.read h)) (fun hc => ih c hc)
theorem All3.ones {α : Type} {d : Kd α} {w : World} {xs : List α} {css : List (List Value)} {fps : List (List Nat)} (h : All3 (d.O w) xs css fps) : ∀ u ∈ css.flatten, u.oneCell' = true := by
  induction h with
  | nil => simp
  | cons h _ ih => intro u hu; rw [List.flatten_cons, List.mem_append] at hu; exact Or.elim hu (fun hu => d.one (d.read h) u hu) (fun hu => ih u hu)

theorem All3.fps {α : Type} {d : Kd α} {w : World} {xs : List α} {css : List (List Value)} {fps : List (List Nat)} (h : All3 (d.O w) xs css fps) {b : Nat} (hb : b ∈ fps.flatten) : b < w.heap.size := by
  induction h with
  | nil => simp at hb
  | cons h _ ih =>
    rw [List.flatten_cons] at hb
    exact Or.elim (List.mem_append.1 hb) (fun hb => d.lt h b hb) (fun hb => ih hb)
theorem ownBlock_lt {w : World} {b : Nat} {e : TypeId} {s n : Nat} {v : Value} {xs : List Value} (h : w.ownsRow b e s v n xs) {k : Nat} (hk : v.ownBlock = some k) : k < w.heap.size := (h.lt k hk).2
theorem ownsRow_keep {w w' : World} {b : Nat} {e : TypeId} {s n : Nat} {v : Value} {xs : List Value} (h : w.ownsRow b e s v n xs) (hk : ∀ k, v.ownBlock = some k → w'.heap[k]? = w.heap[k]?) : w'.ownsRow b e s v n xs := by
  obtain ⟨h1, h2 | ⟨g, cap, cur, rfl, hb, hg, h3⟩⟩ := h
  · exact ⟨h1, .inl h2⟩
  · exact ⟨h1, .inr ⟨g, cap, cur, rfl, hb, (hk g rfl).trans hg, h3⟩⟩
theorem ownsRow_form {w : World} {b : Nat} {e : TypeId} {s n : Nat} {v : Value} {xs : List Value} (h : w.ownsRow b e s v n xs) : ∃ A c, v = .slice A n c ∧ n ≤ c ∧ c ≤ maxLen := by
  obtain ⟨_, ⟨rfl, rfl⟩ | ⟨g, cap, cur, rfl, _, _, hn, hm, _⟩⟩ := h
  · exact ⟨none, 0, rfl, Nat.le_refl _, by simp [maxLen]⟩
  · exact ⟨_, cap, rfl, hn, hm⟩

namespace Row
variable {α : Type} {e : TypeId} {d : Kd α} {w w' : World} {v : Value} {xs : List α} {fp : List Nat}
theorem lt (h : Row e d w v xs fp) : ∀ b ∈ fp, b < w.heap.size := by
  obtain ⟨css, fps, ho, ha, rfl, _⟩ := h
  intro b hb
  rcases List.mem_append.1 hb with hb | hb
  · cases hv : v.ownBlock with
    | none => simp [hv] at hb
    | some g => simp [hv] at hb; subst hb; exact ownBlock_lt ho hv
  · exact ha.fps hb
theorem keep (h : Row e d w v xs fp) (hw : ∀ b ∈ fp, w'.heap[b]? = w.heap[b]?) : Row e d w' v xs fp := by
  obtain ⟨css, fps, ho, ha, rfl, hn⟩ := h
  refine ⟨css, fps, ownsRow_keep ho fun k hk => hw k (by simp [hk]), ha.imp fun a b c hc hO => d.okeep hO fun k hk => hw k ?_, rfl, hn⟩
  exact List.mem_append_right _ (List.mem_flatten.2 ⟨c, hc, hk⟩)
theorem form (h : Row e d w v xs fp) : ∃ A c, v = .slice A xs.length c ∧ xs.length ≤ c := by
  obtain ⟨css, fps, ho, _⟩ := h
  obtain ⟨A, c, hv, hl, _⟩ := ownsRow_form ho
  exact ⟨A, c, hv, hl⟩
theorem reads {A : Option Addr} {c : Nat} (h : Row e d w (.slice A xs.length c) xs fp) : C d w A xs := by
  obtain ⟨css, fps, ho, ha, _, _⟩ := h
  intro i x hx
  obtain ⟨cs, f, hcs, _, hO⟩ := ha.get hx
  have hi : i < xs.length := (List.getElem?_eq_some_iff.1 hx).1
  rcases ho.2 with ⟨_, h0⟩ | ⟨g, cap, cur, hv, _⟩
  · omega
  · injection hv with hA _ _
    subst hA
    exact ⟨_, cs, rfl, d.read hO, fun j u hu => ho.cells (g := g) rfl _ _ (flatten_get ha.lens hcs hu)⟩
theorem nil (e : TypeId) (d : Kd α) (w : World) : Row e d w (.slice none 0 0) ([] : List α) [] := ⟨[], [], by simpa using World.ownsRow_nil w 0 e d.sz, .nil, rfl, List.nodup_nil⟩
end Row

/-! ### The kinds -/
def kInt (k : IntKind) : Kd Int where
  sz := 1
  K := fun _ x cs => cs = [.int k x]
  O := fun _ x cs fp => cs = [.int k x] ∧ fp = []
  len := by rintro _ _ _ rfl; rfl
  one := by rintro _ _ _ rfl; simp [Value.oneCell']
  keep := fun h _ => h
  read := fun h => h.1
  okeep := fun h _ => h
  lt := by rintro _ _ _ _ ⟨_, rfl⟩; simp
  nodup := by rintro _ _ _ _ ⟨_, rfl⟩; simp
def kBool : Kd Bool where
  sz := 1
  K := fun _ x cs => cs = [.bool x]
  O := fun _ x cs fp => cs = [.bool x] ∧ fp = []
  len := by rintro _ _ _ rfl; rfl
  one := by rintro _ _ _ rfl; simp [Value.oneCell']
  keep := fun h _ => h
  read := fun h => h.1
  okeep := fun h _ => h
  lt := by rintro _ _ _ _ ⟨_, rfl⟩; simp
  nodup := by rintro _ _ _ _ ⟨_, rfl⟩; simp
def kStr : Kd ByteArray where
  sz := 1
  K := fun _ x cs => cs = [.string x]
  O := fun _ x cs fp => cs = [.string x] ∧ fp = []
  len := by rintro _ _ _ rfl; rfl
  one := by rintro _ _ _ rfl; simp [Value.oneCell']
  keep := fun h _ => h
  read := fun h => h.1
  okeep := fun h _ => h
  lt := by rintro _ _ _ _ ⟨_, rfl⟩; simp
  nodup := by rintro _ _ _ _ ⟨_, rfl⟩; simp
def kSlice {α : Type} (e : TypeId) (d : Kd α) : Kd (List α) where
  sz := 1
  K := fun w xs cs => ∃ A c, cs = [.slice A xs.length c] ∧ xs.length ≤ c ∧ C d w A xs
  O := fun w xs cs fp => ∃ v, cs = [v] ∧ Row e d w v xs fp
  len := by rintro _ _ _ ⟨_, _, rfl, _⟩; rfl
  one := by rintro _ _ _ ⟨_, _, rfl, _⟩; simp [Value.oneCell']
  keep := by rintro _ _ _ _ ⟨A, c, rfl, hl, hC⟩ hw; exact ⟨A, c, rfl, hl, hC.keep hw⟩
  read := by
    rintro _ _ _ _ ⟨v, rfl, h⟩
    obtain ⟨A, c, rfl, hl⟩ := h.form
    exact ⟨A, c, rfl, hl, h.reads⟩
  okeep := by rintro _ _ _ _ _ ⟨v, rfl, h⟩ hw; exact ⟨v, rfl, h.keep hw⟩
  lt := by rintro _ _ _ _ ⟨v, rfl, h⟩; exact h.lt
  nodup := by rintro _ _ _ _ ⟨v, rfl, _, _, _, _, _, hn⟩; exact hn
def kProd {α β : Type} (d1 : Kd α) (d2 : Kd β) : Kd (α × β) where
  sz := d1.sz + d2.sz
  K := fun w x cs => ∃ c1 c2, cs = c1 ++ c2 ∧ d1.K w x.1 c1 ∧ d2.K w x.2 c2
  O := fun w x cs fp => ∃ c1 c2 f1 f2, cs = c1 ++ c2 ∧ fp = f1 ++ f2 ∧ fp.Nodup ∧ d1.O w x.1 c1 f1 ∧ d2.O w x.2 c2 f2
  len := by rintro _ _ _ ⟨_, _, rfl, h1, h2⟩; simp [d1.len h1, d2.len h2]
  one := by rintro _ _ _ ⟨_, _, rfl, h1, h2⟩ u hu; exact Or.elim (List.mem_append.1 hu) (fun hu => d1.one h1 u hu) (fun hu => d2.one h2 u hu)
  keep := by rintro _ _ _ _ ⟨_, _, rfl, h1, h2⟩ hw; exact ⟨_, _, rfl, d1.keep h1 hw, d2.keep h2 hw⟩
  read := by rintro _ _ _ _ ⟨_, _, _, _, rfl, rfl, _, h1, h2⟩; exact ⟨_, _, rfl, d1.read h1, d2.read h2⟩
  okeep := by
    rintro _ _ _ _ _ ⟨_, _, _, _, rfl, rfl, hn, h1, h2⟩ hw
    exact ⟨_, _, _, _, rfl, rfl, hn, d1.okeep h1 fun b hb => hw b (by simp [hb]), d2.okeep h2 fun b hb => hw b (by simp [hb])⟩
  lt := by rintro _ _ _ _ ⟨_, _, _, _, rfl, rfl, _, h1, h2⟩ b hb; exact Or.elim (List.mem_append.1 hb) (fun hb => d1.lt h1 b hb) (fun hb => d2.lt h2 b hb)
  nodup := by rintro _ _ _ _ ⟨_, _, _, _, _, rfl, hn, _⟩; exact hn
def kIso {α β : Type} (f : α → β) (d : Kd β) : Kd α where
  sz := d.sz
  K := fun w x cs => d.K w (f x) cs
  O := fun w x cs fp => d.O w (f x) cs fp
  len := d.len
  one := d.one
  keep := d.keep
  read := d.read
  okeep := d.okeep
  lt := d.lt
  nodup := d.nodup
/-- Flat kinds. -/
def kFlat {α : Type} (n : Nat) (cells : α → List Value) (hl : ∀ x, (cells x).length = n) (h1 : ∀ x, ∀ u ∈ cells x, u.oneCell' = true) : Kd α where
  sz := n
  K := fun _ x cs => cs = cells x
  O := fun _ x cs fp => cs = cells x ∧ fp = []
  len := by rintro _ _ _ rfl; exact hl _
  one := by rintro _ _ _ rfl; exact h1 _
  keep := fun h _ => h
  read := fun h => h.1
  okeep := fun h _ => h
  lt := by rintro _ _ _ _ ⟨_, rfl⟩; simp
  nodup := by rintro _ _ _ _ ⟨_, rfl⟩; simp

/-! ### Worlds that extend W -/
structure Ext (W : World) where
  w : World
  hb : Below W.heap.size W w
def Ext.self (W : World) : Ext W := ⟨W, Below.refl _ _⟩
instance (W : World) : Nonempty (Ext W) := ⟨Ext.self W⟩
theorem Ext.more {W : World} (u : Ext W) {w' : World} (h : Below u.w.heap.size u.w w') : ∃ u' : Ext W, w' = u'.w := ⟨⟨w', u.hb.trans (h.mono u.hb.size)⟩, rfl⟩
theorem Ext.cell {W : World} {p : Addr} {v : Value} (h : W.cell? p = some v) : ∀ u : Ext W, u.w.cell? p = some v := fun u => (u.hb.cell (World.block_lt_of_cell? W _ h)).trans h
theorem C.ext {α : Type} {d : Kd α} {W : World} {A : Option Addr} {xs : List α} (h : C d W A xs) (u : Ext W) : C d u.w A xs := h.below u.hb
theorem wp_region_ext {P : Program} {id : Nat} {Q : Exit → Act → World → Prop} {a : Act} {w W : World} {l : List Oper} (hm : P.follows .mixedOrders = true) (hB : Region.lexB .any l.toArray = true)
    (hw : ∃ u : Ext W, w = u.w) (h : wpQuiet P l.toArray (fun w' => ∃ u : Ext W, w' = u.w) (fun a' => ∀ w', (∃ u : Ext W, w' = u.w) → Q .normal a' w') l a) : (Code.region id l.toArray true).wp P Q a w :=
  wp_region_quiet (C := fun w' => ∃ u : Ext W, w' = u.w) hm hB (by obtain ⟨u, rfl⟩ := hw; exact ⟨⟨u.w.drew, u.hb.drew⟩, rfl⟩) (by simpa using h)
theorem ext_of {P : Program} {f : FuncId} {args : Array Value} {W : World} {u : Ext W} {v : Value} (h : Calls P f args u.w fun e w' => e = .returned v ∧ Below u.w.heap.size u.w w') : Calls P f args u.w fun e w' => e = .returned v ∧ ∃ u' : Ext W, w' = u'.w :=
  h.mono fun _ _ ⟨he, hb⟩ => ⟨he, u.more hb⟩
theorem C.at {α : Type} {d : Kd α} {w : World} {A : Option Addr} {xs : List α} (h : C d w A xs) {i : Nat} {x : α} (hx : xs[i]? = some x) :
    ∃ a cs, A = some a ∧ d.K w x cs ∧ ∀ (j : Nat) u, cs[j]? = some u → w.cell? (a.add (i * d.sz + j)) = some u := h i x hx
section
variable {w : World} {a : Addr} {n : Nat} {c0 c1 c2 c3 c4 c5 : Value}
theorem hc1 (hc : ∀ (j : Nat) u, [c0][j]? = some u → w.cell? (a.add (n + j)) = some u) : w.cell? (a.add n) = some c0 := hc 0 _ rfl
theorem hc1E (hc : ∀ (j : Nat) u, [c0][j]? = some u → w.cell? (a.add (n + j)) = some u) (u : Ext w) : u.w.cell? (a.add n) = some c0 := hc1 fun j v hv => (u.hb.cell (World.block_lt_of_cell? w _ (hc j v hv))).trans (hc j v hv)
theorem hc2 (hc : ∀ (j : Nat) u, [c0, c1][j]? = some u → w.cell? (a.add (n + j)) = some u) : w.cell? (a.add n) = some c0 ∧ w.cell? ⟨(a.add n).block, (a.add n).off + 1, none⟩ = some c1 := ⟨hc 0 _ rfl, by rw [← add_field _ _ 1 (by omega)]; exact hc 1 _ rfl⟩
theorem hc2E (hc : ∀ (j : Nat) u, [c0, c1][j]? = some u → w.cell? (a.add (n + j)) = some u) (u : Ext w) : u.w.cell? (a.add n) = some c0 ∧ u.w.cell? ⟨(a.add n).block, (a.add n).off + 1, none⟩ = some c1 := hc2 fun j v hv => (u.hb.cell (World.block_lt_of_cell? w _ (hc j v hv))).trans (hc j v hv)
theorem hc3 (hc : ∀ (j : Nat) u, [c0, c1, c2][j]? = some u → w.cell? (a.add (n + j)) = some u) : w.cell? (a.add n) = some c0 ∧ w.cell? ⟨(a.add n).block, (a.add n).off + 1, none⟩ = some c1 ∧ w.cell? ⟨(a.add n).block, (a.add n).off + 2, none⟩ = some c2 := ⟨hc 0 _ rfl, by rw [← add_field _ _ 1 (by omega)]; exact hc 1 _ rfl, by rw [← add_field _ _ 2 (by omega)]; exact hc 2 _ rfl⟩
theorem hc3E (hc : ∀ (j : Nat) u, [c0, c1, c2][j]? = some u → w.cell? (a.add (n + j)) = some u) (u : Ext w) : u.w.cell? (a.add n) = some c0 ∧ u.w.cell? ⟨(a.add n).block, (a.add n).off + 1, none⟩ = some c1 ∧ u.w.cell? ⟨(a.add n).block, (a.add n).off + 2, none⟩ = some c2 := hc3 fun j v hv => (u.hb.cell (World.block_lt_of_cell? w _ (hc j v hv))).trans (hc j v hv)
theorem hc4 (hc : ∀ (j : Nat) u, [c0, c1, c2, c3][j]? = some u → w.cell? (a.add (n + j)) = some u) : w.cell? (a.add n) = some c0 ∧ w.cell? ⟨(a.add n).block, (a.add n).off + 1, none⟩ = some c1 ∧ w.cell? ⟨(a.add n).block, (a.add n).off + 2, none⟩ = some c2 ∧ w.cell? ⟨(a.add n).block, (a.add n).off + 3, none⟩ = some c3 := ⟨hc 0 _ rfl, by rw [← add_field _ _ 1 (by omega)]; exact hc 1 _ rfl, by rw [← add_field _ _ 2 (by omega)]; exact hc 2 _ rfl, by rw [← add_field _ _ 3 (by omega)]; exact hc 3 _ rfl⟩
theorem hc4E (hc : ∀ (j : Nat) u, [c0, c1, c2, c3][j]? = some u → w.cell? (a.add (n + j)) = some u) (u : Ext w) : u.w.cell? (a.add n) = some c0 ∧ u.w.cell? ⟨(a.add n).block, (a.add n).off + 1, none⟩ = some c1 ∧ u.w.cell? ⟨(a.add n).block, (a.add n).off + 2, none⟩ = some c2 ∧ u.w.cell? ⟨(a.add n).block, (a.add n).off + 3, none⟩ = some c3 := hc4 fun j v hv => (u.hb.cell (World.block_lt_of_cell? w _ (hc j v hv))).trans (hc j v hv)
theorem hc5 (hc : ∀ (j : Nat) u, [c0, c1, c2, c3, c4][j]? = some u → w.cell? (a.add (n + j)) = some u) : w.cell? (a.add n) = some c0 ∧ w.cell? ⟨(a.add n).block, (a.add n).off + 1, none⟩ = some c1 ∧ w.cell? ⟨(a.add n).block, (a.add n).off + 2, none⟩ = some c2 ∧ w.cell? ⟨(a.add n).block, (a.add n).off + 3, none⟩ = some c3 ∧ w.cell? ⟨(a.add n).block, (a.add n).off + 4, none⟩ = some c4 := ⟨hc 0 _ rfl, by rw [← add_field _ _ 1 (by omega)]; exact hc 1 _ rfl, by rw [← add_field _ _ 2 (by omega)]; exact hc 2 _ rfl, by rw [← add_field _ _ 3 (by omega)]; exact hc 3 _ rfl, by rw [← add_field _ _ 4 (by omega)]; exact hc 4 _ rfl⟩
theorem hc5E (hc : ∀ (j : Nat) u, [c0, c1, c2, c3, c4][j]? = some u → w.cell? (a.add (n + j)) = some u) (u : Ext w) : u.w.cell? (a.add n) = some c0 ∧ u.w.cell? ⟨(a.add n).block, (a.add n).off + 1, none⟩ = some c1 ∧ u.w.cell? ⟨(a.add n).block, (a.add n).off + 2, none⟩ = some c2 ∧ u.w.cell? ⟨(a.add n).block, (a.add n).off + 3, none⟩ = some c3 ∧ u.w.cell? ⟨(a.add n).block, (a.add n).off + 4, none⟩ = some c4 := hc5 fun j v hv => (u.hb.cell (World.block_lt_of_cell? w _ (hc j v hv))).trans (hc j v hv)
theorem hc6 (hc : ∀ (j : Nat) u, [c0, c1, c2, c3, c4, c5][j]? = some u → w.cell? (a.add (n + j)) = some u) : w.cell? (a.add n) = some c0 ∧ w.cell? ⟨(a.add n).block, (a.add n).off + 1, none⟩ = some c1 ∧ w.cell? ⟨(a.add n).block, (a.add n).off + 2, none⟩ = some c2 ∧ w.cell? ⟨(a.add n).block, (a.add n).off + 3, none⟩ = some c3 ∧ w.cell? ⟨(a.add n).block, (a.add n).off + 4, none⟩ = some c4 ∧ w.cell? ⟨(a.add n).block, (a.add n).off + 5, none⟩ = some c5 := ⟨hc 0 _ rfl, by rw [← add_field _ _ 1 (by omega)]; exact hc 1 _ rfl, by rw [← add_field _ _ 2 (by omega)]; exact hc 2 _ rfl, by rw [← add_field _ _ 3 (by omega)]; exact hc 3 _ rfl, by rw [← add_field _ _ 4 (by omega)]; exact hc 4 _ rfl, by rw [← add_field _ _ 5 (by omega)]; exact hc 5 _ rfl⟩
theorem hc6E (hc : ∀ (j : Nat) u, [c0, c1, c2, c3, c4, c5][j]? = some u → w.cell? (a.add (n + j)) = some u) (u : Ext w) : u.w.cell? (a.add n) = some c0 ∧ u.w.cell? ⟨(a.add n).block, (a.add n).off + 1, none⟩ = some c1 ∧ u.w.cell? ⟨(a.add n).block, (a.add n).off + 2, none⟩ = some c2 ∧ u.w.cell? ⟨(a.add n).block, (a.add n).off + 3, none⟩ = some c3 ∧ u.w.cell? ⟨(a.add n).block, (a.add n).off + 4, none⟩ = some c4 ∧ u.w.cell? ⟨(a.add n).block, (a.add n).off + 5, none⟩ = some c5 := hc6 fun j v hv => (u.hb.cell (World.block_lt_of_cell? w _ (hc j v hv))).trans (hc j v hv)
end
theorem ext_same {P : Program} {f : FuncId} {args : Array Value} {W : World} {u : Ext W} {v : Value} (h : Calls P f args u.w fun e w' => e = .returned v ∧ u.w = w') : Calls P f args u.w fun e w' => e = .returned v ∧ ∃ u' : Ext W, w' = u'.w :=
  h.mono fun _ _ ⟨he, hb⟩ => ⟨he, u, hb.symm⟩
theorem box_cell (w : World) (cs : Array Value) (T : TypeId) (u : Ext (w.alloc (.cells cs T))) (j : Nat) : u.w.cell? ⟨w.heap.size, j, none⟩ = cs[j]? := by
  rw [u.hb.cell (p := ⟨w.heap.size, j, none⟩) (by simp)]
  exact cell_of_row _ w.heap.size j cs T (0, 0) (heap_alloc_new w _)
theorem box_frozen (w : World) (cs : Array Value) (T : TypeId) (u : Ext (w.alloc (.cells cs T))) (j : Nat) : u.w.frozen? ⟨w.heap.size, j, none⟩ = false := by
  rw [u.hb.frozen (p := ⟨w.heap.size, j, none⟩) (by simp)]
  unfold World.frozen?
  rw [heap_alloc_new w (.cells cs T)]
  simp
def AtCells (w : World) (b : Nat) : Nat → List Value → Prop
  | _, [] => True
  | o, v :: r => w.cell? ⟨b, o, none⟩ = some v ∧ AtCells w b (o + 1) r
theorem atCells_of {w : World} {b : Nat} : ∀ (l : List Value) (o : Nat), (∀ (j : Nat) v, l[j]? = some v → w.cell? ⟨b, o + j, none⟩ = some v) → AtCells w b o l
  | [], _, _ => trivial
  | v :: r, o, h => ⟨h 0 v rfl, atCells_of r (o + 1) fun j u hu => by have := h (j + 1) u (by simpa using hu); rwa [show o + 1 + j = o + (j + 1) by omega]⟩
theorem box_at {w : World} {cs : Array Value} {T : TypeId} (u : Ext (w.alloc (.cells cs T))) : AtCells u.w w.heap.size 0 cs.toList :=
  atCells_of _ _ fun j v hv => by rw [Nat.zero_add, box_cell]; simpa using hv
theorem ext_box {w : World} {o : Obj} (u : Ext (w.alloc o)) : Below w.heap.size w u.w := ((Below.refl _ _).alloc (Nat.le_refl _) o).trans (u.hb.mono (by simp))
theorem Ext.drew {W : World} (u : Ext W) : ∃ u' : Ext W, u.w.drew = u'.w := ⟨⟨u.w.drew, u.hb.drew⟩, rfl⟩
theorem bcell {W w1 : World} (hb : Below W.heap.size W w1) : (∀ b o, b < W.heap.size → w1.cell? ⟨b, o, none⟩ = W.cell? ⟨b, o, none⟩) ∧ (∀ b o, b < W.heap.size → w1.frozen? ⟨b, o, none⟩ = W.frozen? ⟨b, o, none⟩) :=
  ⟨fun b o h => hb.cell (p := ⟨b, o, none⟩) h, fun b o h => hb.frozen (p := ⟨b, o, none⟩) h⟩
theorem Below.then_ {w W w1 : World} (h : Below w.heap.size w W) (hb : Below W.heap.size W w1) : Below w.heap.size w w1 := h.trans (hb.mono h.size)
theorem take_snoc {α : Type} {xs : List α} {k : Nat} {x : α} (h : xs[k]? = some x) : xs.take (k + 1) = xs.take k ++ [x] := by rw [List.take_add_one, h]; rfl
theorem get_of_lt {α : Type} {xs : List α} {k : Nat} (h : k < xs.length) : ∃ x, xs[k]? = some x := ⟨_, List.getElem?_eq_getElem h⟩
theorem ret_bool {a b : Bool} (h : a = b) : Ending.returned (.bool a) = .returned (.bool b) := by rw [h]
theorem ret_int {k : IntKind} {a b : Int} (h : a = b) : Ending.returned (.int k a) = .returned (.int k b) := by rw [h]
end Go.Proofs.YtnnfjjgohhicjaaDoor
namespace Go.Proofs.YtnnfjjgohhicjaaDoor
structure Instr where
  op : Int
  dst : Int
  a : Int
  b : Int
  imm : Int
deriving DecidableEq
structure Term where
  kind : Int
  a : Int
  to : Int
  els : Int
deriving DecidableEq
structure Phi where
  dst : Int
  args : List Int
deriving DecidableEq
structure Block where
  phis : List Phi
  instrs : List Instr
  term : Term
deriving DecidableEq
structure Func where
  values : Int
  blocks : List Block
deriving DecidableEq
structure MBlock where
  instrs : List Instr
  term : Term
deriving DecidableEq
structure Mach where
  regs : Int
  blocks : List MBlock
deriving DecidableEq

def usedD (op : Int) : Bool := decide (1 ≤ op ∧ op ≤ 8 ∨ op = 11 ∨ op = 13)
def usedA (op : Int) : Bool := decide (3 ≤ op ∧ op ≤ 12)
def usedB (op : Int) : Bool := decide (3 ≤ op ∧ op ≤ 7 ∨ op = 9)
def usedI (op : Int) : Bool := decide (1 ≤ op ∧ op ≤ 2)
def Fld (u : Bool) (x n : Int) : Prop := (u = true ∧ 0 ≤ x ∧ x < n) ∨ (u = false ∧ x = 0)
instance (u : Bool) (x n : Int) : Decidable (Fld u x n) := by unfold Fld; infer_instance
def ImmOK (op imm : Int) : Prop := (op = 1 ∧ -1000000000 ≤ imm ∧ imm ≤ 1000000000) ∨ (op = 2 ∧ 0 ≤ imm ∧ imm < 8) ∨ (op ≠ 1 ∧ op ≠ 2 ∧ imm = 0)
def GoodInstr (x : Instr) (n most : Int) : Prop := 1 ≤ x.op ∧ x.op ≤ most ∧ Fld (usedD x.op) x.dst n ∧ Fld (usedA x.op) x.a n ∧ Fld (usedB x.op) x.b n ∧ ImmOK x.op x.imm
instance (x : Instr) (n most : Int) : Decidable (GoodInstr x n most) := by unfold GoodInstr Fld ImmOK; infer_instance
def goodInstr (x : Instr) (n most : Int) : Bool := decide (GoodInstr x n most)
def GoodTerm (t : Term) (n low blocks : Int) : Prop :=
  (t.kind = 1 ∧ t.a = 0 ∧ t.els = 0 ∧ low ≤ t.to ∧ t.to < blocks) ∨ (t.kind = 2 ∧ 0 ≤ t.a ∧ t.a < n ∧ low ≤ t.to ∧ t.to < blocks ∧ low ≤ t.els ∧ t.els < blocks) ∨ (t.kind = 3 ∧ t.to = 0 ∧ t.els = 0 ∧ 0 ≤ t.a ∧ t.a < n)
instance (t : Term) (n low blocks : Int) : Decidable (GoodTerm t n low blocks) := by unfold GoodTerm; infer_instance
def goodTerm (t : Term) (n low blocks : Int) : Bool := decide (GoodTerm t n low blocks)
theorem goodTerm_iff (t : Term) (n low blocks : Int) : goodTerm t n low blocks = true ↔ GoodTerm t n low blocks := by simp [goodTerm]
theorem goodInstr_iff (x : Instr) (n most : Int) : goodInstr x n most = true ↔ GoodInstr x n most := by simp [goodInstr]
theorem flags (op : Int) (h : 1 ≤ op) (h2 : op ≤ 13) : (usedD op = true ∧ usedA op = false ∧ usedB op = false ∧ (op ≤ 2 ∨ op = 13)) ∨ (usedD op = true ∧ usedA op = true ∧ usedB op = true ∧ 3 ≤ op ∧ op ≤ 7) ∨
    (usedD op = true ∧ usedA op = true ∧ usedB op = false ∧ 8 ≤ op) ∨ (usedD op = false ∧ usedA op = true ∧ usedB op = true ∧ 8 ≤ op) ∨ (usedD op = false ∧ usedA op = true ∧ usedB op = false ∧ 8 ≤ op) := by
  simp only [usedD, usedA, usedB, decide_eq_true_eq, decide_eq_false_iff_not]
  omega
/-- What is left of a budget. -/
def szN (n : Nat) (left : Int) : Int := if left - n < 0 then -1 else left - n
def szL {α : Type} (f : α → Int → Int) : List α → Int → Int
  | [], l => l
  | x :: xs, l => if f x l < 0 then -1 else szL f xs (f x l)
def szMB (b : MBlock) (left : Int) : Int := szN b.instrs.length left
def szS {α : Type} (f : α → Int → Int) (xs : List α) (l : Int) : Int := if szN xs.length l < 0 then -1 else szL f xs (szN xs.length l)
def szMach (m : Mach) (left : Int) : Int := szS szMB m.blocks left
theorem szN_le (n : Nat) (l : Int) (h : 0 ≤ l) : szN n l ≤ l ∧ -1 ≤ szN n l := by unfold szN; split <;> omega
theorem szMB_le (b : MBlock) (l : Int) (h : 0 ≤ l) : szMB b l ≤ l ∧ -1 ≤ szMB b l := szN_le _ _ h
theorem szL_le {α : Type} {f : α → Int → Int} (hf : ∀ x l, 0 ≤ l → f x l ≤ l ∧ -1 ≤ f x l) : ∀ (xs : List α) (l : Int), 0 ≤ l → szL f xs l ≤ l ∧ -1 ≤ szL f xs l
  | [], l, h => by simp [szL]; omega
  | x :: xs, l, h => by
    have h1 := hf x l h
    unfold szL
    split
    · omega
    · have h2 := szL_le hf xs (f x l) (by omega)
      omega
theorem szS_le {α : Type} {f : α → Int → Int} (hf : ∀ x l, 0 ≤ l → f x l ≤ l ∧ -1 ≤ f x l) (xs : List α) (l : Int) (h : 0 ≤ l) : szS f xs l ≤ l ∧ -1 ≤ szS f xs l := by
  have h1 := szN_le xs.length l h
  unfold szS
  split
  · omega
  · have h2 := szL_le hf xs (szN xs.length l) (by omega)
    omega
theorem szL_drop {α : Type} {f : α → Int → Int} {xs : List α} {k : Nat} {x : α} {l : Int} (h : xs[k]? = some x) : szL f (xs.drop k) l = if f x l < 0 then -1 else szL f (xs.drop (k + 1)) (f x l) := by
  have hk : k < xs.length := (List.getElem?_eq_some_iff.1 h).1
  rw [List.drop_eq_getElem_cons hk, (List.getElem?_eq_some_iff.1 h).2]; rfl
def machSize (m : Mach) : Nat := m.blocks.length + (m.blocks.map fun b => b.instrs.length).sum
def validMach (m : Mach) : Bool :=
  decide (1 ≤ m.regs ∧ m.regs ≤ 64) && decide (1 ≤ m.blocks.length ∧ m.blocks.length ≤ 3000) && decide (machSize m ≤ 20000) &&
  m.blocks.all fun b => (b.instrs.all fun x => goodInstr x m.regs 13) && goodTerm b.term m.regs 0 m.blocks.length
end Go.Proofs.YtnnfjjgohhicjaaDoor
namespace Go.Proofs.YtnnfjjgohhicjaaDoor
open Go.RowKit
set_option linter.unusedSimpArgs false
set_option linter.unusedVariables false

def Instr.v (x : Instr) : Value := .agg #[.int .i64 x.op, .int .i64 x.dst, .int .i64 x.a, .int .i64 x.b, .int .i64 x.imm]
def Term.v (x : Term) : Value := .agg #[.int .i64 x.kind, .int .i64 x.a, .int .i64 x.to, .int .i64 x.els]
def kInstr : Kd Instr := kFlat 5 (fun x => [.int .i64 x.op, .int .i64 x.dst, .int .i64 x.a, .int .i64 x.b, .int .i64 x.imm]) (fun _ => rfl) (by intro x u hu; simp at hu; rcases hu with rfl | rfl | rfl | rfl | rfl <;> rfl)
def kTerm : Kd Term := kFlat 4 (fun x => [.int .i64 x.kind, .int .i64 x.a, .int .i64 x.to, .int .i64 x.els]) (fun _ => rfl) (by intro x u hu; simp at hu; rcases hu with rfl | rfl | rfl | rfl <;> rfl)
def kMB (e : TypeId) : Kd MBlock := kIso (fun b => (b.instrs, b.term)) (kProd (kSlice e kInstr) kTerm)

theorem at_instr {w : World} {A : Option Addr} {xs : List Instr} {k : Nat} {x : Instr} (h : C kInstr w A xs) (hx : xs[k]? = some x) : ∃ a, A = some a ∧
    w.cell? (a.add (k * 5)) = some (.int .i64 x.op) ∧ w.cell? ⟨(a.add (k * 5)).block, (a.add (k * 5)).off + 1, none⟩ = some (.int .i64 x.dst) ∧ w.cell? ⟨(a.add (k * 5)).block, (a.add (k * 5)).off + 2, none⟩ = some (.int .i64 x.a) ∧
    w.cell? ⟨(a.add (k * 5)).block, (a.add (k * 5)).off + 3, none⟩ = some (.int .i64 x.b) ∧ w.cell? ⟨(a.add (k * 5)).block, (a.add (k * 5)).off + 4, none⟩ = some (.int .i64 x.imm) := by
  obtain ⟨a, cs, hA, rfl, hc⟩ := h k x hx
  exact ⟨a, hA, hc 0 _ rfl, by rw [← add_field _ _ 1 (by omega)]; exact hc 1 _ rfl, by rw [← add_field _ _ 2 (by omega)]; exact hc 2 _ rfl, by rw [← add_field _ _ 3 (by omega)]; exact hc 3 _ rfl, by rw [← add_field _ _ 4 (by omega)]; exact hc 4 _ rfl⟩
end Go.Proofs.YtnnfjjgohhicjaaDoor
namespace Go.Proofs.YtnnfjjgohhicjaaDoor
open Go.RowKit
set_option linter.unusedSimpArgs false
set_option linter.unusedVariables false
set_option maxRecDepth 100000

def UsesOK (op : Int) (s : ByteArray) : Prop := s.size ≤ 3 ∧ (s.data.toList.contains 100 = usedD op) ∧ (s.data.toList.contains 97 = usedA op) ∧ (s.data.toList.contains 98 = usedB op) ∧ (s.data.toList.contains 105 = usedI op)
def UsesPost (op : Int) (w : World) (e : Ending) (w' : World) : Prop := ∃ s : ByteArray, e = .returned (.string s) ∧ w = w' ∧ UsesOK op s
theorem uses_c (op : Int) (w : World) : Calls Tryd.prog 87 #[.int .i64 op] w (UsesPost op w) := by
  go_enter Tryd.func87, Tryd.ntmps87
  go_wp2
  all_goals go_ret
  all_goals go_light
  all_goals refine ⟨_, rfl, rfl, by decide, ?_, ?_, ?_, ?_⟩
  all_goals simp only [beq_iff_eq, beq_eq_false_iff_ne, ne_eq] at *
  all_goals first
    | (have h : usedD op = true := (by simp [usedD]; omega); rw [h]; rfl)
    | (have h : usedD op = false := (by simp [usedD]; omega); rw [h]; rfl)
    | (have h : usedA op = true := (by simp [usedA]; omega); rw [h]; rfl)
    | (have h : usedA op = false := (by simp [usedA]; omega); rw [h]; rfl)
    | (have h : usedB op = true := (by simp [usedB]; omega); rw [h]; rfl)
    | (have h : usedB op = false := (by simp [usedB]; omega); rw [h]; rfl)
    | (have h : usedI op = true := (by simp [usedI]; omega); rw [h]; rfl)
    | (have h : usedI op = false := (by simp [usedI]; omega); rw [h]; rfl)
def hasB (s : ByteArray) (f : UInt8) : Bool := s.data.toList.contains f
def UsedPost (op : Int) (f : UInt8) (w : World) (e : Ending) (w' : World) : Prop := ∃ s : ByteArray, e = .returned (.bool (hasB s f)) ∧ w = w' ∧ UsesOK op s
theorem byte_at {s : ByteArray} {k : Nat} (h : k < s.size) : s.data.toList[k]? = some s[k] := by
  rw [List.getElem?_eq_getElem (by simpa using h)]; rfl
set_option maxHeartbeats 1000000 in
theorem used_any (op : Int) (f : UInt8) (w : World) : Calls Tryd.prog 75 #[.int .i64 op, .int .u8 f.toNat] w (UsedPost op f w) := by
  go_enter Tryd.func75, Tryd.ntmps75
  go_wp2_with (go_at_call 87; refine (uses_c _ _).mono ?_; rintro e w1 ⟨s, rfl, rfl, H⟩)
  have hs := H.1
  go_loop [6] (fun i => ∃ k : Nat, k ≤ s.size ∧ i = .int .i64 k ∧ f ∉ s.data.toList.take k) (fun i => s.size - (intOf i).toNat)
  case atStart => exact ⟨0, by omega, rfl, by simp⟩
  case round =>
    obtain ⟨k, hk, rfl, ht⟩ := hrel
    have HT := Lib.hid ht
    clear ht
    by_cases hlt : k < s.size
    · have HG := Lib.hid (byte_at hlt)
      by_cases he : s[k] = f
      · have hb : ((s[k].toNat : Int) == (f.toNat : Int)) = true := by simp [he]
        have HE := Lib.hid he
        clear he
        go_wp2
        go_ret
        refine ⟨s, ret_bool ?_, rfl, H⟩
        have := List.mem_of_getElem? HG.out
        rw [HE.out] at this
        simpa [hasB] using this
      · have hb : ((s[k].toNat : Int) == (f.toNat : Int)) = false := by simp; exact fun h => he (UInt8.toNat_inj.1 (by omega))
        have HE := Lib.hid he
        clear he
        go_wp2
        go_round
        case rel =>
          go_light
          refine ⟨k + 1, by omega, by go_num, ?_⟩
          rw [take_snoc HG.out]
          intro hm
          rcases List.mem_append.1 hm with hm | hm
          · exact HT.out hm
          · exact HE.out ((by simpa using hm : f = s[k]).symm)
        case measure => simp [intOf]; omega
    · go_wp2
      go_ret
      refine ⟨s, ret_bool ?_, rfl, H⟩
      have := HT.out
      rw [List.take_of_length_le (by simp; have : s.data.size = s.size := rfl; omega)] at this
      simpa [hasB] using this
theorem usedD_c (op : Int) (w : World) : Calls Tryd.prog 75 #[.int .i64 op, .int .u8 100] w fun e w' => e = .returned (.bool (usedD op)) ∧ w = w' :=
  (used_any op 100 w).mono fun e w' ⟨s, he, hw, h⟩ => ⟨by rw [he, hasB, h.2.1], hw⟩
theorem usedA_c (op : Int) (w : World) : Calls Tryd.prog 75 #[.int .i64 op, .int .u8 97] w fun e w' => e = .returned (.bool (usedA op)) ∧ w = w' :=
  (used_any op 97 w).mono fun e w' ⟨s, he, hw, h⟩ => ⟨by rw [he, hasB, h.2.2.1], hw⟩
theorem usedB_c (op : Int) (w : World) : Calls Tryd.prog 75 #[.int .i64 op, .int .u8 98] w fun e w' => e = .returned (.bool (usedB op)) ∧ w = w' :=
  (used_any op 98 w).mono fun e w' ⟨s, he, hw, h⟩ => ⟨by rw [he, hasB, h.2.2.2.1], hw⟩
theorem within_c (x lo hi : Int) (w : World) : Calls Tryd.prog 43 #[.int .i64 x, .int .i64 lo, .int .i64 hi] w fun e w' => e = .returned (.bool (decide (lo ≤ x ∧ x ≤ hi))) ∧ w = w' := by
  go_enter Tryd.func43, Tryd.ntmps43
  go_wp2
  all_goals go_ret
  all_goals go_light
  all_goals exact ⟨ret_bool (by simp; omega), rfl⟩
end Go.Proofs.YtnnfjjgohhicjaaDoor
namespace Go.Proofs.YtnnfjjgohhicjaaDoor
open Go.RowKit
set_option linter.unusedSimpArgs false
set_option linter.unusedVariables false
set_option maxRecDepth 100000

/-- The table impl.shapes (variable 0), as it lies in memory. -/
def shapeV (op : Nat) : List Value := [.bool (usedD op), .bool (usedA op), .bool (usedB op), .bool (usedI op)]
def Shapes (w : World) : Prop := ∀ op : Nat, op < 14 → ∀ (j : Nat) (v : Value), (shapeV op)[j]? = some v → w.cell? ⟨0, op * 4 + j, none⟩ = some v
theorem Shapes.keep {w w' : World} (h : Shapes w) (hk : w'.heap[0]? = w.heap[0]?) : Shapes w' := fun op ho j v hv => (World.cell?_of_block (w := w) (a := ⟨0, op * 4 + j, none⟩) hk).trans (h op ho j v hv)
theorem Shapes.pos {w : World} (h : Shapes w) : 0 < w.heap.size := by
  have := World.block_lt_of_cell? w _ (h 0 (by omega) 0 _ rfl)
  exact this
theorem Shapes.below {B : Nat} {w w' : World} (h : Shapes w) (hb : Below B w w') (hB : 0 < B) : Shapes w' := h.keep (hb.block 0 hB)
theorem Shapes.ext {W : World} (h : Shapes W) (u : Ext W) : Shapes u.w := h.below u.hb h.pos

theorem fieldOK_c (u : Bool) (x n : Int) (w : World) (h0 : 0 ≤ n) (h1 : n ≤ 1000000) : Calls Tryd.prog 78 #[.bool u, .int .i64 x, .int .i64 n] w fun e w' => e = .returned (.bool (decide (Fld u x n))) ∧ w = w' := by
  cases u
  all_goals go_enter Tryd.func78, Tryd.ntmps78
  all_goals go_wp2_with (go_at_call 43; (with_reducible refine (within_c _ _ _ _).mono ?_); rintro e w1 ⟨rfl, rfl⟩)
  all_goals go_ret
  all_goals go_light
  all_goals exact ⟨ret_bool (by rw [Bool.eq_iff_iff]; simp [Fld]; try omega), rfl⟩
theorem reads_c (t : Term) (w : World) : Calls Tryd.prog 79 #[t.v] w fun e w' => e = .returned (.bool (decide (t.kind ≠ 1))) ∧ Below w.heap.size w w' := by
  obtain ⟨k, a, to, els⟩ := t
  simp only [Term.v]
  go_enter Tryd.func79, Tryd.ntmps79
  go_wp2
  go_ret
  exact ⟨ret_bool (by rw [Bool.eq_iff_iff]; simp), by repeat (first | exact Below.refl _ _ | apply Below.drew | refine Below.alloc ?_ (by simp) _)⟩

set_option maxHeartbeats 4000000 in
theorem termOK_c (t : Term) (n low blocks : Int) (w : World) (h0 : 0 ≤ n) (h1 : n ≤ 1000000) (h2 : 0 ≤ blocks) (h3 : blocks ≤ 140737488351232) : Calls Tryd.prog 44 #[t.v, .int .i64 n, .int .i64 low, .int .i64 blocks] w fun e w' => e = .returned (.bool (goodTerm t n low blocks)) ∧ Below w.heap.size w w' := by
  obtain ⟨k, a, to, els⟩ := t
  have hbox := fun u j => box_cell w #[.int .i64 k, .int .i64 a, .int .i64 to, .int .i64 els] 67 u j
  by_cases hk : 1 ≤ k ∧ k ≤ 3
  · have hd : decide (1 ≤ k ∧ k ≤ 3) = true := by simpa using hk
    cases hbf : decide (Fld (!decide (k = 1)) a n)
    all_goals
      have HF := Lib.hid hbf
      simp only [Term.v]
      go_enter Tryd.func44, Tryd.ntmps44
      go_wp2
      refine wp_region_ext (by kernel_rfl) (by kernel_rfl) ⟨Ext.self _, rfl⟩ ?_
      repeat quiet_step ((first | (go_at_call 43; exact ext_same (within_c _ _ _ _)) | (go_at_call 79; exact ext_of (reads_c ⟨k, a, to, els⟩ _)) | (go_at_call 78; exact ext_same (fieldOK_c _ _ _ _ h0 h1))))
      refine wpQuiet_nil ?_
      rintro _ ⟨u, rfl⟩
      obtain ⟨q0, q1, q2, q3, -⟩ := box_at u
      clear hd hbf hbox
      go_wp2_with (first | (go_at_call 43; (with_reducible refine (within_c _ _ _ _).mono ?_); rintro e w1 ⟨rfl, rfl⟩))
      all_goals go_ret
      all_goals go_light
      all_goals
        refine ⟨ret_bool ?_, ext_box _⟩
        have hf := HF.out
        clear HF q0 q1 q2 q3
        rw [Bool.eq_iff_iff, goodTerm_iff]
        simp only [GoodTerm, Fld, decide_eq_true_eq, Bool.and_eq_true, Bool.or_eq_true, Bool.and_eq_false_iff, Bool.or_eq_false_iff, beq_iff_eq, beq_eq_false_iff_ne, bne_iff_ne, bne_eq_false_iff_eq, ne_eq, Bool.false_eq_true, Bool.true_eq_false, Bool.not_eq_true, Bool.not_eq_true', Bool.not_eq_eq_eq_not, Bool.not_true, Bool.not_false, Bool.not_eq_false, decide_eq_false_iff_not, reduceCtorEq, true_and, and_true, false_and, or_false, false_or, and_false, true_or, or_true, false_iff, true_iff, not_false_eq_true, not_true_eq_false, Decidable.not_not] at *
        omega
  · have hd : decide (1 ≤ k ∧ k ≤ 3) = false := by simpa using hk
    have HK := Lib.hid (show ¬ GoodTerm ⟨k, a, to, els⟩ n low blocks by simp only [GoodTerm]; omega)
    clear hk
    simp only [Term.v]
    go_enter Tryd.func44, Tryd.ntmps44
    go_wp2
    refine wp_region_ext (by kernel_rfl) (by kernel_rfl) ⟨Ext.self _, rfl⟩ ?_
    repeat quiet_step ((first | (go_at_call 43; exact ext_same (within_c _ _ _ _))))
    refine wpQuiet_nil ?_
    rintro _ ⟨u, rfl⟩
    go_wp2
    go_ret
    exact ⟨ret_bool (by simp [goodTerm, HK.out]), ext_box _⟩
end Go.Proofs.YtnnfjjgohhicjaaDoor
namespace Go.Proofs.YtnnfjjgohhicjaaDoor
open Go.RowKit
set_option linter.unusedSimpArgs false
set_option linter.unusedVariables false
set_option maxRecDepth 100000

set_option maxHeartbeats 4000000 in
theorem instrOK_c (x : Instr) (last n : Int) (w : World) (hS : Shapes w) (h0 : 0 ≤ n) (h1 : n ≤ 1000000) (hl : last ≤ 13) : Calls Tryd.prog 45 #[x.v, .int .i64 last, .int .i64 n] w fun e w' => e = .returned (.bool (goodInstr x n last)) ∧ Below w.heap.size w w' := by
  obtain ⟨op, dst, a, b, imm⟩ := x
  by_cases hk : 1 ≤ op ∧ op ≤ last
  · have hd : decide (1 ≤ op ∧ op ≤ last) = true := by simpa using hk
    obtain ⟨k, rfl⟩ : ∃ k : Nat, op = k := ⟨op.toNat, by omega⟩
    have hk14 : k < 14 := by omega
    have s0 : w.cell? ⟨0, k * 4, none⟩ = some (.bool (usedD k)) := hS k hk14 0 _ rfl
    have s1 : w.cell? ⟨0, k * 4 + 1, none⟩ = some (.bool (usedA k)) := hS k hk14 1 _ rfl
    have s2 : w.cell? ⟨0, k * 4 + 2, none⟩ = some (.bool (usedB k)) := hS k hk14 2 _ rfl
    have s3 : w.cell? ⟨0, k * 4 + 3, none⟩ = some (.bool (usedI k)) := hS k hk14 3 _ rfl
    have hp := hS.pos
    simp only [Instr.v]
    go_enter Tryd.func45, Tryd.ntmps45
    go_wp2_with (first | (go_at_call 43; (with_reducible refine (within_c _ _ _ _).mono ?_); rintro e w1 ⟨rfl, rfl⟩) | (go_at_call 78; (with_reducible refine (fieldOK_c _ _ _ _ h0 h1).mono ?_); rintro e w1 ⟨rfl, rfl⟩))
    all_goals go_ret
    all_goals go_light
    all_goals
      refine ⟨ret_bool ?_, ?_⟩
      · clear s0 s1 s2 s3
        rw [Bool.eq_iff_iff, goodInstr_iff]
        simp only [GoodInstr, ImmOK, decide_eq_true_eq, Bool.and_eq_true, Bool.or_eq_true, Bool.and_eq_false_iff, Bool.or_eq_false_iff, beq_iff_eq, beq_eq_false_iff_ne, bne_iff_ne, bne_eq_false_iff_eq, ne_eq, Bool.false_eq_true, Bool.true_eq_false, Bool.not_eq_true, Bool.not_eq_true', Bool.not_eq_eq_eq_not, Bool.not_true, Bool.not_false, Bool.not_eq_false, decide_eq_false_iff_not, reduceCtorEq, true_and, and_true, false_and, or_false, false_or, and_false, true_or, or_true, false_iff, true_iff, not_false_eq_true, not_true_eq_false, Decidable.not_not] at *
        try simp only [eq_true (‹Fld (usedD (k : Int)) dst n›)]
        try simp only [eq_true (‹Fld (usedA (k : Int)) a n›)]
        try simp only [eq_true (‹Fld (usedB (k : Int)) b n›)]
        try simp only [eq_false (‹¬ Fld (usedD (k : Int)) dst n›)]
        try simp only [eq_false (‹¬ Fld (usedA (k : Int)) a n›)]
        try simp only [eq_false (‹¬ Fld (usedB (k : Int)) b n›)]
        try simp only [decide_eq_true_eq, Bool.and_eq_true, Bool.or_eq_true, Bool.and_eq_false_iff, Bool.or_eq_false_iff, beq_iff_eq, beq_eq_false_iff_ne, bne_iff_ne, bne_eq_false_iff_eq, ne_eq, Bool.false_eq_true, Bool.true_eq_false, Bool.not_eq_true, Bool.not_eq_true', Bool.not_eq_eq_eq_not, Bool.not_true, Bool.not_false, Bool.not_eq_false, decide_eq_false_iff_not, reduceCtorEq, true_and, and_true, false_and, or_false, false_or, and_false, true_or, or_true, false_iff, true_iff, not_false_eq_true, not_true_eq_false, Decidable.not_not]
        try omega
      · repeat (first | exact Below.refl _ _ | apply Below.drew | refine Below.setCell ?_ (by simp) _ | refine Below.alloc ?_ (by simp) _)
  · have hd : decide (1 ≤ op ∧ op ≤ last) = false := by simpa using hk
    have HK := Lib.hid (show ¬ GoodInstr ⟨op, dst, a, b, imm⟩ n last from fun h => hk ⟨h.1, h.2.1⟩)
    clear hk
    simp only [Instr.v]
    go_enter Tryd.func45, Tryd.ntmps45
    go_wp2_with (go_at_call 43; (with_reducible refine (within_c _ _ _ _).mono ?_); rintro e w1 ⟨rfl, rfl⟩)
    go_ret
    exact ⟨ret_bool (by simp [goodInstr, HK.out]), by repeat (first | (with_reducible first | exact Below.refl _ _ | assumption | exact ext_box _) | (with_reducible apply Below.drew) | ((with_reducible refine Below.setCell ?_ ?hs _); (case hs => first | (simp; done) | (simp; omega) | omega)) | ((with_reducible refine Below.alloc ?_ ?hs _); (case hs => first | (simp; done) | (simp; omega) | omega)))⟩
end Go.Proofs.YtnnfjjgohhicjaaDoor
namespace Go.Proofs.YtnnfjjgohhicjaaDoor
open Go.RowKit
set_option linter.unusedSimpArgs false
set_option linter.unusedVariables false
set_option maxRecDepth 100000

theorem szInstrS_c (A : Option Addr) (c n : Nat) (l : Int) (w : World) (hn : n ≤ 9223372036854775807) (h0 : 0 ≤ l) (h1 : l ≤ 1048576) :
    Calls Tryd.prog 102 #[.slice A n c, .int .i64 l] w fun e w' => e = .returned (.int .i64 (szN n l)) ∧ w = w' := by
  go_enter Tryd.func102, Tryd.ntmps102
  go_wp2
  all_goals go_ret
  all_goals go_light
  all_goals exact ⟨ret_int (by unfold szN; split <;> omega), rfl⟩
theorem szMBlock_c (A : Option Addr) (c : Nat) (b : MBlock) (l : Int) (w : World) (hn : b.instrs.length ≤ 9223372036854775807) (h0 : 0 ≤ l) (h1 : l ≤ 1048576) :
    Calls Tryd.prog 74 #[.agg #[.slice A b.instrs.length c, .int .i64 b.term.kind, .int .i64 b.term.a, .int .i64 b.term.to, .int .i64 b.term.els], .int .i64 l] w fun e w' => e = .returned (.int .i64 (szMB b l)) ∧ Below w.heap.size w w' := by
  have hb := szN_le b.instrs.length l h0
  go_enter Tryd.func74, Tryd.ntmps74
  go_wp2_with (go_at_call 102; refine (szInstrS_c _ _ _ _ _ hn h0 h1).mono ?_; rintro e w1 ⟨rfl, rfl⟩)
  all_goals go_ret
  all_goals go_light
  all_goals exact ⟨ret_int (by unfold szMB; omega), by repeat (first | (with_reducible first | exact Below.refl _ _ | assumption | exact ext_box _) | (with_reducible apply Below.drew) | ((with_reducible refine Below.setCell ?_ ?hs _); (case hs => first | (simp; done) | (simp; omega) | omega)) | ((with_reducible refine Below.alloc ?_ ?hs _); (case hs => first | (simp; done) | (simp; omega) | omega)))⟩
set_option maxHeartbeats 1000000 in
theorem szMBlockS_c (A : Option Addr) (c : Nat) (bs : List MBlock) (l : Int) (w : World) (hx : C (kMB 0) w A bs) (hn : bs.length ≤ 9223372036854775807) (hm : ∀ (i : Nat) b, bs[i]? = some b → b.instrs.length ≤ 9223372036854775807) (h0 : 0 ≤ l) (h1 : l ≤ 1048576) :
    Calls Tryd.prog 38 #[.slice A bs.length c, .int .i64 l] w fun e w' => e = .returned (.int .i64 (szS szMB bs l)) ∧ Below w.heap.size w w' := by
  by_cases hs : l - bs.length < 0
  · have HZ := Lib.hid (show szS szMB bs l = -1 by simp [szS, szN, hs])
    go_enter Tryd.func38, Tryd.ntmps38
    go_wp2
    go_ret
    exact ⟨ret_int HZ.out.symm, Below.refl _ _⟩
  · have HZ := Lib.hid (show szS szMB bs l = szL szMB bs (l - bs.length) by simp [szS, szN, hs])
    go_enter Tryd.func38, Tryd.ntmps38
    go_wp2
    go_loopw [1, 5] (fun t i wr => ∃ (k : Nat) (q : Int), k ≤ bs.length ∧ i = .int .i64 k ∧ t = .int .i64 q ∧ 0 ≤ q ∧ q ≤ 1048576 ∧ szL szMB (bs.drop k) q = szS szMB bs l ∧ ∃ u : Ext w, wr = u.w) (fun _ i _ => bs.length - (intOf i).toNat)
    case atStart => exact ⟨0, l - bs.length, by omega, rfl, rfl, by omega, by omega, HZ.out.symm, Ext.self w, rfl⟩
    case round =>
      obtain ⟨k, q, hk, rfl, rfl, q0, q1, hq, u, rfl⟩ := hrel
      have HQ := Lib.hid hq
      clear hq
      by_cases hlt : k < bs.length
      · obtain ⟨b, eb⟩ := get_of_lt hlt
        obtain ⟨a, _, rfl, ⟨_, _, rfl, ⟨A', c', rfl, l', r'⟩, rfl⟩, hc⟩ := (hx.ext u).at eb
        obtain ⟨p0, p1, p2, p3, p4⟩ := hc5 (n := k * 5) hc
        clear hc
        have mb := hm _ _ eb
        have hle := szMB_le b q q0
        have HD := Lib.hid (szL_drop (f := szMB) (l := q) eb)
        clear eb
        go_wp2_with (go_at_call 74; refine (szMBlock_c _ _ b _ _ mb q0 q1).mono ?_; rintro e w1 ⟨rfl, hb1⟩)
        · go_ret
          exact ⟨ret_int (by rw [← HQ.out, HD.out, if_pos ‹_›]), Below.then_ u.hb hb1⟩
        · obtain ⟨u1, rfl⟩ := u.more hb1
          go_wp2
          go_roundw
          case rel => exact ⟨k + 1, szMB b q, by omega, by go_num, rfl, by omega, by omega, by rw [← HQ.out, HD.out, if_neg (by omega)], u1, rfl⟩
          case measure => simp [intOf]; omega
      · go_wp2
        go_ret
        exact ⟨ret_int (by rw [← HQ.out, List.drop_of_length_le (by omega)]; rfl), u.hb⟩
theorem szMach_c (A : Option Addr) (c : Nat) (m : Mach) (l : Int) (w : World) (hx : C (kMB 0) w A m.blocks) (hn : m.blocks.length ≤ 9223372036854775807) (hm : ∀ (i : Nat) b, m.blocks[i]? = some b → b.instrs.length ≤ 9223372036854775807) (h0 : 0 ≤ l) (h1 : l ≤ 1048576) :
    Calls Tryd.prog 9 #[.agg #[.int .i64 m.regs, .slice A m.blocks.length c], .int .i64 l] w fun e w' => e = .returned (.int .i64 (szMach m l)) ∧ Below w.heap.size w w' := by
  have hz := szS_le szMB_le m.blocks l h0
  go_enter Tryd.func9, Tryd.ntmps9
  go_wp2_with (go_at_call 38; refine (szMBlockS_c _ _ _ _ _ (hx.below (by repeat (first | (with_reducible first | exact Below.refl _ _ | assumption | exact ext_box _) | (with_reducible apply Below.drew) | ((with_reducible refine Below.setCell ?_ ?hs _); (case hs => first | (simp; done) | (simp; omega) | omega)) | ((with_reducible refine Below.alloc ?_ ?hs _); (case hs => first | (simp; done) | (simp; omega) | omega))))) hn hm h0 h1).mono ?_; rintro e w1 ⟨rfl, hb1⟩; have HB1 : Below w.heap.size w w1 := Below.then_ (by repeat (first | (with_reducible first | exact Below.refl _ _ | assumption | exact ext_box _) | (with_reducible apply Below.drew) | ((with_reducible refine Below.setCell ?_ ?hs _); (case hs => first | (simp; done) | (simp; omega) | omega)) | ((with_reducible refine Below.alloc ?_ ?hs _); (case hs => first | (simp; done) | (simp; omega) | omega)))) hb1)
  all_goals go_ret
  all_goals go_light
  all_goals exact ⟨ret_int (by unfold szMach; omega), by assumption⟩
end Go.Proofs.YtnnfjjgohhicjaaDoor
namespace Go.Proofs.YtnnfjjgohhicjaaDoor
open Go.RowKit
set_option linter.unusedSimpArgs false
set_option linter.unusedVariables false
set_option maxRecDepth 100000

def kPhi (e : TypeId) : Kd Phi := kIso (fun p => (p.dst, p.args)) (kProd (kInt .i64) (kSlice e (kInt .i64)))
def kBlock (e f g : TypeId) : Kd Block := kIso (fun b => (b.phis, (b.instrs, b.term))) (kProd (kSlice f (kPhi e)) (kProd (kSlice g kInstr) kTerm))
def okPhi (L : Nat) (p : Phi) : Prop := p.args.length ≤ L
def okBlk (L : Nat) (b : Block) : Prop := b.phis.length ≤ L ∧ (∀ (i : Nat) p, b.phis[i]? = some p → okPhi L p) ∧ b.instrs.length ≤ L
def szPhi (p : Phi) (left : Int) : Int := szN p.args.length left
def szBlk (b : Block) (left : Int) : Int := if szS szPhi b.phis left < 0 then -1 else szN b.instrs.length (szS szPhi b.phis left)
def szFunc (f : Func) (left : Int) : Int := szS szBlk f.blocks left
theorem szPhi_le (b : Phi) (l : Int) (h : 0 ≤ l) : szPhi b l ≤ l ∧ -1 ≤ szPhi b l := szN_le _ _ h
theorem szBlk_le (b : Block) (l : Int) (h : 0 ≤ l) : szBlk b l ≤ l ∧ -1 ≤ szBlk b l := by
  have h1 := szS_le szPhi_le b.phis l h
  unfold szBlk
  split
  · omega
  · have h2 := szN_le b.instrs.length (szS szPhi b.phis l) (by omega)
    omega
theorem szInt64S_c (A : Option Addr) (c n : Nat) (l : Int) (w : World) (hn : n ≤ 9223372036854775807) (h0 : 0 ≤ l) (h1 : l ≤ 1048576) :
    Calls Tryd.prog 124 #[.slice A n c, .int .i64 l] w fun e w' => e = .returned (.int .i64 (szN n l)) ∧ w = w' := by
  go_enter Tryd.func124, Tryd.ntmps124
  go_wp2
  all_goals go_ret
  all_goals go_light
  all_goals exact ⟨ret_int (by unfold szN; split <;> omega), rfl⟩
theorem szPhi_c (A : Option Addr) (c : Nat) (b : Phi) (l : Int) (w : World) (hn : okPhi 9223372036854775807 b) (h0 : 0 ≤ l) (h1 : l ≤ 1048576) :
    Calls Tryd.prog 116 #[.agg #[.int .i64 b.dst, .slice A b.args.length c], .int .i64 l] w fun e w' => e = .returned (.int .i64 (szPhi b l)) ∧ Below w.heap.size w w' := by
  have hb := szN_le b.args.length l h0
  go_enter Tryd.func116, Tryd.ntmps116
  go_wp2_with (go_at_call 124; refine (szInt64S_c _ _ _ _ _ hn h0 h1).mono ?_; rintro e w1 ⟨rfl, rfl⟩)
  all_goals go_ret
  all_goals go_light
  all_goals exact ⟨ret_int (by unfold szPhi; omega), by repeat (first | (with_reducible first | exact Below.refl _ _ | assumption | exact ext_box _) | (with_reducible apply Below.drew) | ((with_reducible refine Below.setCell ?_ ?hs _); (case hs => first | (simp; done) | (simp; omega) | omega)) | ((with_reducible refine Below.alloc ?_ ?hs _); (case hs => first | (simp; done) | (simp; omega) | omega)))⟩
set_option maxHeartbeats 1000000 in
theorem szPhiS_c (A : Option Addr) (c : Nat) (bs : List Phi) (l : Int) (w : World) (hx : C (kPhi 0) w A bs) (hn : bs.length ≤ 9223372036854775807) (hm : ∀ (i : Nat) b, bs[i]? = some b → okPhi 9223372036854775807 b) (h0 : 0 ≤ l) (h1 : l ≤ 1048576) :
    Calls Tryd.prog 107 #[.slice A bs.length c, .int .i64 l] w fun e w' => e = .returned (.int .i64 (szS szPhi bs l)) ∧ Below w.heap.size w w' := by
  by_cases hs : l - bs.length < 0
  · have HZ := Lib.hid (show szS szPhi bs l = -1 by simp [szS, szN, hs])
    go_enter Tryd.func107, Tryd.ntmps107
    go_wp2
    go_ret
    exact ⟨ret_int HZ.out.symm, Below.refl _ _⟩
  · have HZ := Lib.hid (show szS szPhi bs l = szL szPhi bs (l - bs.length) by simp [szS, szN, hs])
    go_enter Tryd.func107, Tryd.ntmps107
    go_wp2
    go_loopw [1, 5] (fun t i wr => ∃ (k : Nat) (q : Int), k ≤ bs.length ∧ i = .int .i64 k ∧ t = .int .i64 q ∧ 0 ≤ q ∧ q ≤ 1048576 ∧ szL szPhi (bs.drop k) q = szS szPhi bs l ∧ ∃ u : Ext w, wr = u.w) (fun _ i _ => bs.length - (intOf i).toNat)
    case atStart => exact ⟨0, l - bs.length, by omega, rfl, rfl, by omega, by omega, HZ.out.symm, Ext.self w, rfl⟩
    case round =>
      obtain ⟨k, q, hk, rfl, rfl, q0, q1, hq, u, rfl⟩ := hrel
      have HQ := Lib.hid hq
      clear hq
      by_cases hlt : k < bs.length
      · obtain ⟨b, eb⟩ := get_of_lt hlt
        obtain ⟨a, _, rfl, ⟨_, _, rfl, rfl, ⟨A', c', rfl, l', r'⟩⟩, hc⟩ := (hx.ext u).at eb
        obtain ⟨p0, p1⟩ := hc2 (n := k * 2) hc
        clear hc
        have mb := hm _ _ eb
        have hle := szPhi_le b q q0
        have HD := Lib.hid (szL_drop (f := szPhi) (l := q) eb)
        clear eb
        go_wp2_with (go_at_call 116; refine (szPhi_c _ _ b _ _ mb q0 q1).mono ?_; rintro e w1 ⟨rfl, hb1⟩)
        · go_ret
          exact ⟨ret_int (by rw [← HQ.out, HD.out, if_pos ‹_›]), Below.then_ u.hb hb1⟩
        · obtain ⟨u1, rfl⟩ := u.more hb1
          go_wp2
          go_roundw
          case rel => exact ⟨k + 1, szPhi b q, by omega, by go_num, rfl, by omega, by omega, by rw [← HQ.out, HD.out, if_neg (by omega)], u1, rfl⟩
          case measure => simp [intOf]; omega
      · go_wp2
        go_ret
        exact ⟨ret_int (by rw [← HQ.out, List.drop_of_length_le (by omega)]; rfl), u.hb⟩
set_option maxHeartbeats 1000000 in
theorem szBlock_c (A A1 : Option Addr) (c c1 : Nat) (b : Block) (l : Int) (w : World) (hx : C (kPhi 0) w A b.phis) (hn : okBlk 9223372036854775807 b) (h0 : 0 ≤ l) (h1 : l ≤ 1048576) :
    Calls Tryd.prog 81 #[.agg #[.slice A b.phis.length c, .slice A1 b.instrs.length c1, .int .i64 b.term.kind, .int .i64 b.term.a, .int .i64 b.term.to, .int .i64 b.term.els], .int .i64 l] w fun e w' => e = .returned (.int .i64 (szBlk b l)) ∧ Below w.heap.size w w' := by
  have hb := szS_le szPhi_le b.phis l h0
  obtain ⟨n1, n2, n3⟩ := hn
  have N2 := Lib.hid n2
  have HD : Hid (szBlk b l = if szS szPhi b.phis l < 0 then -1 else szN b.instrs.length (szS szPhi b.phis l)) := Lib.hid rfl
  clear n2
  by_cases hs : szS szPhi b.phis l < 0
  · go_enter Tryd.func81, Tryd.ntmps81
    go_wp2_with (go_at_call 107; refine (szPhiS_c _ _ b.phis _ _ (hx.below (by repeat (first | (with_reducible first | exact Below.refl _ _ | assumption | exact ext_box _) | (with_reducible apply Below.drew) | ((with_reducible refine Below.setCell ?_ ?hs _); (case hs => first | (simp; done) | (simp; omega) | omega)) | ((with_reducible refine Below.alloc ?_ ?hs _); (case hs => first | (simp; done) | (simp; omega) | omega))))) n1 N2.out h0 h1).mono ?_; rintro e w1 ⟨rfl, hb1⟩; have HB1 := Below.then_ (w := w) (by repeat (first | (with_reducible first | exact Below.refl _ _ | assumption | exact ext_box _) | (with_reducible apply Below.drew) | ((with_reducible refine Below.setCell ?_ ?hs _); (case hs => first | (simp; done) | (simp; omega) | omega)) | ((with_reducible refine Below.alloc ?_ ?hs _); (case hs => first | (simp; done) | (simp; omega) | omega)))) hb1; obtain ⟨hc1, hf1⟩ := bcell hb1; have zw1 : w.heap.size < w1.heap.size := (by have := hb1.size; (try simp at this); omega))
    go_ret
    exact ⟨ret_int (by rw [HD.out, if_pos hs]), HB1⟩
  · have hb2 := szN_le b.instrs.length (szS szPhi b.phis l) (by omega)
    rw [if_neg hs] at HD
    go_enter Tryd.func81, Tryd.ntmps81
    go_wp2_with (first | (go_at_call 107; refine (szPhiS_c _ _ b.phis _ _ (hx.below (by repeat (first | (with_reducible first | exact Below.refl _ _ | assumption | exact ext_box _) | (with_reducible apply Below.drew) | ((with_reducible refine Below.setCell ?_ ?hs _); (case hs => first | (simp; done) | (simp; omega) | omega)) | ((with_reducible refine Below.alloc ?_ ?hs _); (case hs => first | (simp; done) | (simp; omega) | omega))))) n1 N2.out h0 h1).mono ?_; rintro e w1 ⟨rfl, hb1⟩; have HB1 := Below.then_ (w := w) (by repeat (first | (with_reducible first | exact Below.refl _ _ | assumption | exact ext_box _) | (with_reducible apply Below.drew) | ((with_reducible refine Below.setCell ?_ ?hs _); (case hs => first | (simp; done) | (simp; omega) | omega)) | ((with_reducible refine Below.alloc ?_ ?hs _); (case hs => first | (simp; done) | (simp; omega) | omega)))) hb1; obtain ⟨hc1, hf1⟩ := bcell hb1; have zw1 : w.heap.size < w1.heap.size := (by have := hb1.size; (try simp at this); omega)) | (go_at_call 102; refine (szInstrS_c _ _ _ _ _ n3 (by omega) (by omega)).mono ?_; rintro e w1 ⟨rfl, rfl⟩))
    all_goals go_ret
    all_goals exact ⟨ret_int (by rw [HD.out]; (try omega)), HB1⟩
set_option maxHeartbeats 1000000 in
theorem szBlockS_c (A : Option Addr) (c : Nat) (bs : List Block) (l : Int) (w : World) (hx : C (kBlock 0 0 0) w A bs) (hn : bs.length ≤ 9223372036854775807) (hm : ∀ (i : Nat) b, bs[i]? = some b → okBlk 9223372036854775807 b) (h0 : 0 ≤ l) (h1 : l ≤ 1048576) :
    Calls Tryd.prog 47 #[.slice A bs.length c, .int .i64 l] w fun e w' => e = .returned (.int .i64 (szS szBlk bs l)) ∧ Below w.heap.size w w' := by
  by_cases hs : l - bs.length < 0
  · have HZ := Lib.hid (show szS szBlk bs l = -1 by simp [szS, szN, hs])
    go_enter Tryd.func47, Tryd.ntmps47
    go_wp2
    go_ret
    exact ⟨ret_int HZ.out.symm, Below.refl _ _⟩
  · have HZ := Lib.hid (show szS szBlk bs l = szL szBlk bs (l - bs.length) by simp [szS, szN, hs])
    go_enter Tryd.func47, Tryd.ntmps47
    go_wp2
    go_loopw [1, 5] (fun t i wr => ∃ (k : Nat) (q : Int), k ≤ bs.length ∧ i = .int .i64 k ∧ t = .int .i64 q ∧ 0 ≤ q ∧ q ≤ 1048576 ∧ szL szBlk (bs.drop k) q = szS szBlk bs l ∧ ∃ u : Ext w, wr = u.w) (fun _ i _ => bs.length - (intOf i).toNat)
    case atStart => exact ⟨0, l - bs.length, by omega, rfl, rfl, by omega, by omega, HZ.out.symm, Ext.self w, rfl⟩
    case round =>
      obtain ⟨k, q, hk, rfl, rfl, q0, q1, hq, u, rfl⟩ := hrel
      have HQ := Lib.hid hq
      clear hq
      by_cases hlt : k < bs.length
      · obtain ⟨b, eb⟩ := get_of_lt hlt
        obtain ⟨a, _, rfl, ⟨_, _, rfl, ⟨A1', c1', rfl, l1', r1'⟩, _, _, rfl, ⟨A2', c2', rfl, l2', r2'⟩, rfl⟩, hc⟩ := (hx.ext u).at eb
        obtain ⟨p0, p1, p2, p3, p4, p5⟩ := hc6 (n := k * 6) hc
        clear hc
        have mb := hm _ _ eb
        have hle := szBlk_le b q q0
        have HD := Lib.hid (szL_drop (f := szBlk) (l := q) eb)
        clear eb
        go_wp2_with (go_at_call 81; refine (szBlock_c _ _ _ _ b _ _ r1' mb q0 q1).mono ?_; rintro e w1 ⟨rfl, hb1⟩)
        · go_ret
          exact ⟨ret_int (by rw [← HQ.out, HD.out, if_pos ‹_›]), Below.then_ u.hb hb1⟩
        · obtain ⟨u1, rfl⟩ := u.more hb1
          go_wp2
          go_roundw
          case rel => exact ⟨k + 1, szBlk b q, by omega, by go_num, rfl, by omega, by omega, by rw [← HQ.out, HD.out, if_neg (by omega)], u1, rfl⟩
          case measure => simp [intOf]; omega
      · go_wp2
        go_ret
        exact ⟨ret_int (by rw [← HQ.out, List.drop_of_length_le (by omega)]; rfl), u.hb⟩
theorem szFunc_c (A : Option Addr) (c : Nat) (m : Func) (l : Int) (w : World) (hx : C (kBlock 0 0 0) w A m.blocks) (hn : m.blocks.length ≤ 9223372036854775807) (hm : ∀ (i : Nat) b, m.blocks[i]? = some b → okBlk 9223372036854775807 b) (h0 : 0 ≤ l) (h1 : l ≤ 1048576) :
    Calls Tryd.prog 14 #[.agg #[.int .i64 m.values, .slice A m.blocks.length c], .int .i64 l] w fun e w' => e = .returned (.int .i64 (szFunc m l)) ∧ Below w.heap.size w w' := by
  have hb := szS_le szBlk_le m.blocks l h0
  have HD : Hid (szFunc m l = szS szBlk m.blocks l) := Lib.hid rfl
  go_enter Tryd.func14, Tryd.ntmps14
  go_wp2_with (go_at_call 47; refine (szBlockS_c _ _ m.blocks _ _ (hx.below (by repeat (first | (with_reducible first | exact Below.refl _ _ | assumption | exact ext_box _) | (with_reducible apply Below.drew) | ((with_reducible refine Below.setCell ?_ ?hs _); (case hs => first | (simp; done) | (simp; omega) | omega)) | ((with_reducible refine Below.alloc ?_ ?hs _); (case hs => first | (simp; done) | (simp; omega) | omega))))) hn hm h0 h1).mono ?_; rintro e w1 ⟨rfl, hb1⟩; have HB1 := Below.then_ (w := w) (by repeat (first | (with_reducible first | exact Below.refl _ _ | assumption | exact ext_box _) | (with_reducible apply Below.drew) | ((with_reducible refine Below.setCell ?_ ?hs _); (case hs => first | (simp; done) | (simp; omega) | omega)) | ((with_reducible refine Below.alloc ?_ ?hs _); (case hs => first | (simp; done) | (simp; omega) | omega)))) hb1)
  all_goals go_ret
  all_goals exact ⟨ret_int (by rw [HD.out]; (try omega)), HB1⟩
end Go.Proofs.YtnnfjjgohhicjaaDoor
