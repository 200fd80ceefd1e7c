/- A small library over the guide's: kinds of data, how they are read in memory (K), how they are owned with the blocks they lie in (O). No program is named here. -/
import Derived.WalkKit
import Derived.Below
import Derived.Laws.OwnMore
import Derived.Laws.MakeOwn
import Derived.Maps.AppendAt
import Derived.Deep.AppendLies
import Derived.Deep.QuietTactic
import Derived.BigQuiet
import Derived.Deep.Light
import Derived.Lib.Hide
import Derived.Laws.Rows
namespace Go.Proofs.YtnbkgaofdkkdnaaDoor
open Go.RowKit
set_option linter.unusedSimpArgs false
set_option linter.unusedVariables false

/-- From w to w' only blocks of S (and new ones) have turned. -/
structure Chg (S : Nat → Prop) (w w' : World) : Prop where
  os : w'.os = w.os
  tape : w'.tape = w.tape
  output : w'.output = w.output
  size : w.heap.size ≤ w'.heap.size
  block : ∀ k, k < w.heap.size → ¬ S k → w'.heap[k]? = w.heap[k]?

namespace Chg
variable {S T : Nat → Prop} {w w' w'' : World}
theorem refl (S : Nat → Prop) (w : World) : Chg S w w := ⟨rfl, rfl, rfl, Nat.le_refl _, fun _ _ _ => rfl⟩
theorem trans (h : Chg S w w') (k : Chg S w' w'') : Chg S w w'' :=
  ⟨k.os.trans h.os, k.tape.trans h.tape, k.output.trans h.output, Nat.le_trans h.size k.size, fun i hi hn => (k.block i (Nat.lt_of_lt_of_le hi h.size) hn).trans (h.block i hi hn)⟩
theorem mono (h : Chg S w w') (hs : ∀ k, k < w.heap.size → S k → T k) : Chg T w w' := ⟨h.os, h.tape, h.output, h.size, fun k hk hn => h.block k hk fun hS => hn (hs k hk hS)⟩
theorem drew (h : Chg S w w') : Chg S w w'.drew := ⟨h.os, h.tape, h.output, h.size, h.block⟩
theorem drewN (h : Chg S w w') (n : Nat) : Chg S w (w'.drewN n) := ⟨h.os, h.tape, h.output, h.size, h.block⟩
theorem alloc (h : Chg S w w') (o : Obj) : Chg S w (w'.alloc o) :=
  h.trans ⟨rfl, rfl, rfl, by simp, fun k hk _ => Below.heap_alloc _ _ _ hk⟩
theorem setCell (h : Chg S w w') {p : Addr} (hp : S p.block ∨ w.heap.size ≤ p.block) (u : Value) : Chg S w (w'.setCell p u) :=
  ⟨h.os, h.tape, h.output, by simpa [World.setCell] using h.size, fun k hk hn => (Below.heap_setCell _ _ _ _ (fun e => Or.elim hp (fun hp => hn (by rw [e]; exact hp)) (fun hp => by omega))).trans (h.block k hk hn)⟩
theorem below {B : Nat} (h : Chg S w w') (hB : B ≤ w.heap.size) (hs : ∀ k, S k → B ≤ k) : Below B w w' :=
  ⟨h.os, h.tape, h.output, h.size, fun k hk => h.block k (by omega) fun hS => by have := hs k hS; omega⟩
theorem of_below {B : Nat} (h : Below B w w') : Chg (B ≤ ·) w w' := ⟨h.os, h.tape, h.output, h.size, fun k _ hn => h.block k (by omega)⟩
theorem of_grown {row : Option Nat} (h : w.grownBy w' row) : Chg (fun k => row = some k) w w' := ⟨h.os, h.tape, h.output, h.size, fun k hk hn => h.block k hk fun e => hn e.symm⟩
theorem call (h : Chg S w w') (hb : Below w'.heap.size w' w'') : Chg S w w'' := ⟨hb.os.trans h.os, hb.tape.trans h.tape, hb.output.trans h.output, Nat.le_trans h.size hb.size, fun k hk hn => (hb.block k (Nat.lt_of_lt_of_le hk h.size)).trans (h.block k hk hn)⟩
end Chg
theorem bel {w w' : World} (h : Chg (fun _ => False) w w') : Below w.heap.size w w' := h.below (Nat.le_refl _) fun _ h => h.elim
theorem chg_of {w w' : World} (h : Below w.heap.size w w') : Chg (fun _ => False) w w' := ⟨h.os, h.tape, h.output, h.size, fun k hk _ => h.block k hk⟩

/-- A kind of data: its cells, how it is read, how it is owned (fp: the blocks it lies in). -/
structure Kd (α : Type) where
  sz : Nat
  K : World → α → List Value → Prop
  O : World → α → List Value → List Nat → Prop
  len : ∀ {w x cs}, K w x cs → cs.length = sz
  one : ∀ {w x cs}, K w x cs → ∀ u ∈ cs, u.oneCell' = true
  keep : ∀ {w w' x cs}, K w x cs → (∀ b, b < w.heap.size → w'.heap[b]? = w.heap[b]?) → K w' x cs
  read : ∀ {w x cs fp}, O w x cs fp → K w x cs
  okeep : ∀ {w w' x cs fp}, O w x cs fp → (∀ b ∈ fp, w'.heap[b]? = w.heap[b]?) → O w' x cs fp
  lt : ∀ {w x cs fp}, O w x cs fp → ∀ b ∈ fp, b < w.heap.size
  nodup : ∀ {w x cs fp}, O w x cs fp → fp.Nodup

/-- Element by element. -/
def C {α : Type} (d : Kd α) (w : World) (A : Option Addr) (xs : List α) : Prop :=
  ∀ (i : Nat) x, xs[i]? = some x → ∃ a cs, A = some a ∧ d.K w x cs ∧ ∀ (j : Nat) u, cs[j]? = some u → w.cell? (a.add (i * d.sz + j)) = some u

theorem add_block (a : Addr) (n : Nat) : (a.add n).block = a.block := by unfold Addr.add; split <;> rfl
theorem add_plain (b o n : Nat) : (⟨b, o, none⟩ : Addr).add n = ⟨b, o + n, none⟩ := by unfold Addr.add; split <;> simp_all
theorem add_field (a : Addr) (n j : Nat) (h : 0 < j) : a.add (n + j) = ⟨(a.add n).block, (a.add n).off + j, none⟩ := by
  unfold Addr.add
  by_cases hn : n = 0 <;> simp [hn, Nat.add_assoc, show n + j ≠ 0 by omega, show j ≠ 0 by omega]

theorem C.keep {α : Type} {d : Kd α} {w w' : World} {A : Option Addr} {xs : List α} (h : C d w A xs) (hw : ∀ b, b < w.heap.size → w'.heap[b]? = w.heap[b]?) : C d w' A xs := by
  intro i x hx
  obtain ⟨a, cs, hA, hK, hc⟩ := h i x hx
  refine ⟨a, cs, hA, d.keep hK hw, fun j u hu => ?_⟩
  have h1 := hc j u hu
  rw [← h1]
  exact World.cell?_of_block (hw _ (World.block_lt_of_cell? w _ h1))
theorem C.below {α : Type} {d : Kd α} {w w' : World} {A : Option Addr} {xs : List α} (h : C d w A xs) (hb : Below w.heap.size w w') : C d w' A xs := h.keep hb.block
theorem C.nil {α : Type} (d : Kd α) (w : World) (A : Option Addr) : C d w A [] := fun i x hx => by simp at hx
theorem C.get {α : Type} {d : Kd α} {w : World} {A : Option Addr} {xs : List α} (h : C d w A xs) {i : Nat} (hi : i < xs.length) :
    ∃ a cs, A = some a ∧ d.K w xs[i] cs ∧ ∀ (j : Nat) u, cs[j]? = some u → w.cell? (a.add (i * d.sz + j)) = some u := h i _ (List.getElem?_eq_getElem hi)

inductive All3 {α β γ : Type} (R : α → β → γ → Prop) : List α → List β → List γ → Prop
  | nil : All3 R [] [] []
  | cons {a b c az bs cs} : R a b c → All3 R az bs cs → All3 R (a :: az) (b :: bs) (c :: cs)

namespace All3
variable {α β γ : Type} {R R' : α → β → γ → Prop} {az az' : List α} {bs bs' : List β} {cs cs' : List γ}
theorem imp (h : All3 R az bs cs) (k : ∀ a b c, c ∈ cs → R a b c → R' a b c) : All3 R' az bs cs := by
  induction h with
  | nil => exact .nil
  | cons h _ ih => exact .cons (k _ _ _ (by simp) h) (ih fun a b c hc => k a b c (by simp [hc]))
theorem len2 (h : All3 R az bs cs) : bs.length = az.length := by induction h <;> simp_all
theorem len3 (h : All3 R az bs cs) : cs.length = az.length := by induction h <;> simp_all
theorem append (h : All3 R az bs cs) (k : All3 R az' bs' cs') : All3 R (az ++ az') (bs ++ bs') (cs ++ cs') := by
  induction h with
  | nil => exact k
  | cons h _ ih => exact .cons h ih
theorem get (h : All3 R az bs cs) {i : Nat} {a : α} (hi : az[i]? = some a) : ∃ b c, bs[i]? = some b ∧ cs[i]? = some c ∧ R a b c := by
  induction h generalizing i with
  | nil => simp at hi
  | cons h _ ih =>
    cases i with
    | zero => simp at hi; subst hi; exact ⟨_, _, rfl, rfl, h⟩
    | succ i => simp at hi; obtain ⟨b, c, hb, hc, hR⟩ := ih hi; exact ⟨b, c, by simpa using hb, by simpa using hc, hR⟩
theorem set (h : All3 R az bs cs) (i : Nat) {a : α} {b : β} {c : γ} (hR : R a b c) : All3 R (az.set i a) (bs.set i b) (cs.set i c) := by
  induction h generalizing i with
  | nil => exact .nil
  | cons h k ih =>
    cases i with
    | zero => exact .cons hR k
    | succ i => exact .cons h (ih i)
theorem replicate {a : α} {b : β} {c : γ} (n : Nat) (hR : R a b c) : All3 R (List.replicate n a) (List.replicate n b) (List.replicate n c) := by
  induction n with
  | zero => exact .nil
  | succ n ih => exact .cons hR ih
end All3

theorem flatten_get {css : List (List Value)} {s : Nat} (hs : ∀ c ∈ css, c.length = s) {i j : Nat} {c : List Value} {u : Value} (hc : css[i]? = some c) (hu : c[j]? = some u) : css.flatten[i * s + j]? = some u := by
  induction css generalizing i with
  | nil => simp at hc
  | cons d ds ih =>
    have hd := hs d (by simp)
    rw [List.flatten_cons]
    cases i with
    | zero =>
      simp at hc; subst hc
      have hj : j < d.length := (List.getElem?_eq_some_iff.1 hu).1
      rw [List.getElem?_append_left (by omega)]
      simpa using hu
    | succ i =>
      rw [List.getElem?_append_right (by rw [Nat.succ_mul]; omega)]
      simp at hc
      have := ih (fun c hc' => hs c (by simp [hc'])) hc
      rw [← this]
      congr 1
      rw [Nat.succ_mul]; omega
theorem flatten_len {css : List (List Value)} {s : Nat} (hs : ∀ c ∈ css, c.length = s) : css.flatten.length = css.length * s := by
  induction css with
  | nil => simp
  | cons d ds ih => simp [hs d (by simp), ih fun c hc => hs c (by simp [hc]), Nat.succ_mul, Nat.add_comm]

/-- What a row of owned elements says. -/
def Row {α : Type} (e : TypeId) (d : Kd α) (w : World) (v : Value) (xs : List α) (fp : List Nat) : Prop :=
  ∃ css fps, w.ownsRow 0 e d.sz v xs.length css.flatten ∧ All3 (d.O w) xs css fps ∧ fp = v.ownBlock.toList ++ fps.flatten ∧ fp.Nodup

theorem All3.lens {α : Type} {d : Kd α} {w : World} {xs : List α} {css : List (List Value)} {fps : List (List Nat)} (h : All3 (d.O w) xs css fps) : ∀ c ∈ css, c.length = d.sz := by
  induction h with
  | nil => simp
  | cons h _ ih => intro c hc; exact Or.elim (List.mem_cons.1 hc) (fun e => e ▸ d.len (d.read h)) (fun hc => ih c hc)
theorem All3.ones {α : Type} {d : Kd α} {w : World} {xs : List α} {css : List (List Value)} {fps : List (List Nat)} (h : All3 (d.O w) xs css fps) : ∀ u ∈ css.flatten, u.oneCell' = true := by
  induction h with
  | nil => simp
  | cons h _ ih => intro u hu; rw [List.flatten_cons, List.mem_append] at hu; exact Or.elim hu (fun hu => d.one (d.read h) u hu) (fun hu => ih u hu)

theorem All3.fps {α : Type} {d : Kd α} {w : World} {xs : List α} {css : List (List Value)} {fps : List (List Nat)} (h : All3 (d.O w) xs css fps) {b : Nat} (hb : b ∈ fps.flatten) : b < w.heap.size := by
  induction h with
  | nil => simp at hb
  | cons h _ ih =>
    rw [List.flatten_cons] at hb
    exact Or.elim (List.mem_append.1 hb) (fun hb => d.lt h b hb) (fun hb => ih hb)
theorem ownBlock_lt {w : World} {b : Nat} {e : TypeId} {s n : Nat} {v : Value} {xs : List Value} (h : w.ownsRow b e s v n xs) {k : Nat} (hk : v.ownBlock = some k) : k < w.heap.size := (h.lt k hk).2
theorem ownsRow_keep {w w' : World} {b : Nat} {e : TypeId} {s n : Nat} {v : Value} {xs : List Value} (h : w.ownsRow b e s v n xs) (hk : ∀ k, v.ownBlock = some k → w'.heap[k]? = w.heap[k]?) : w'.ownsRow b e s v n xs := by
  obtain ⟨h1, h2 | ⟨g, cap, cur, rfl, hb, hg, h3⟩⟩ := h
  · exact ⟨h1, .inl h2⟩
  · exact ⟨h1, .inr ⟨g, cap, cur, rfl, hb, (hk g rfl).trans hg, h3⟩⟩
theorem ownsRow_form {w : World} {b : Nat} {e : TypeId} {s n : Nat} {v : Value} {xs : List Value} (h : w.ownsRow b e s v n xs) : ∃ A c, v = .slice A n c ∧ n ≤ c ∧ c ≤ maxLen := by
  obtain ⟨_, ⟨rfl, rfl⟩ | ⟨g, cap, cur, rfl, _, _, hn, hm, _⟩⟩ := h
  · exact ⟨none, 0, rfl, Nat.le_refl _, by simp [maxLen]⟩
  · exact ⟨_, cap, rfl, hn, hm⟩

namespace Row
variable {α : Type} {e : TypeId} {d : Kd α} {w w' : World} {v : Value} {xs : List α} {fp : List Nat}
theorem lt (h : Row e d w v xs fp) : ∀ b ∈ fp, b < w.heap.size := by
  obtain ⟨css, fps, ho, ha, rfl, _⟩ := h
  intro b hb
  rcases List.mem_append.1 hb with hb | hb
  · cases hv : v.ownBlock with
    | none => simp [hv] at hb
    | some g => simp [hv] at hb; subst hb; exact ownBlock_lt ho hv
  · exact ha.fps hb
theorem keep (h : Row e d w v xs fp) (hw : ∀ b ∈ fp, w'.heap[b]? = w.heap[b]?) : Row e d w' v xs fp := by
  obtain ⟨css, fps, ho, ha, rfl, hn⟩ := h
  refine ⟨css, fps, ownsRow_keep ho fun k hk => hw k (by simp [hk]), ha.imp fun a b c hc hO => d.okeep hO fun k hk => hw k ?_, rfl, hn⟩
  exact List.mem_append_right _ (List.mem_flatten.2 ⟨c, hc, hk⟩)
theorem form (h : Row e d w v xs fp) : ∃ A c, v = .slice A xs.length c ∧ xs.length ≤ c := by
  obtain ⟨css, fps, ho, _⟩ := h
  obtain ⟨A, c, hv, hl, _⟩ := ownsRow_form ho
  exact ⟨A, c, hv, hl⟩
theorem reads {A : Option Addr} {c : Nat} (h : Row e d w (.slice A xs.length c) xs fp) : C d w A xs := by
  obtain ⟨css, fps, ho, ha, _, _⟩ := h
  intro i x hx
  obtain ⟨cs, f, hcs, _, hO⟩ := ha.get hx
  have hi : i < xs.length := (List.getElem?_eq_some_iff.1 hx).1
  rcases ho.2 with ⟨_, h0⟩ | ⟨g, cap, cur, hv, _⟩
  · omega
  · injection hv with hA _ _
    subst hA
    exact ⟨_, cs, rfl, d.read hO, fun j u hu => ho.cells (g := g) rfl _ _ (flatten_get ha.lens hcs hu)⟩
theorem nil (e : TypeId) (d : Kd α) (w : World) : Row e d w (.slice none 0 0) ([] : List α) [] := ⟨[], [], by simpa using World.ownsRow_nil w 0 e d.sz, .nil, rfl, List.nodup_nil⟩
end Row

/-! ### The kinds -/
def kInt (k : IntKind) : Kd Int where
  sz := 1
  K := fun _ x cs => cs = [.int k x]
  O := fun _ x cs fp => cs = [.int k x] ∧ fp = []
  len := by rintro _ _ _ rfl; rfl
  one := by rintro _ _ _ rfl; simp [Value.oneCell']
  keep := fun h _ => h
  read := fun h => h.1
  okeep := fun h _ => h
  lt := by rintro _ _ _ _ ⟨_, rfl⟩; simp
  nodup := by rintro _ _ _ _ ⟨_, rfl⟩; simp
def kBool : Kd Bool where
  sz := 1
  K := fun _ x cs => cs = [.bool x]
  O := fun _ x cs fp => cs = [.bool x] ∧ fp = []
  len := by rintro _ _ _ rfl; rfl
  one := by rintro _ _ _ rfl; simp [Value.oneCell']
  keep := fun h _ => h
  read := fun h => h.1
  okeep := fun h _ => h
  lt := by rintro _ _ _ _ ⟨_, rfl⟩; simp
  nodup := by rintro _ _ _ _ ⟨_, rfl⟩; simp
def kStr : Kd ByteArray where
  sz := 1
  K := fun _ x cs => cs = [.string x]
  O := fun _ x cs fp => cs = [.string x] ∧ fp = []
  len := by rintro _ _ _ rfl; rfl
  one := by rintro _ _ _ rfl; simp [Value.oneCell']
  keep := fun h _ => h
  read := fun h => h.1
  okeep := fun h _ => h
  lt := by rintro _ _ _ _ ⟨_, rfl⟩; simp
  nodup := by rintro _ _ _ _ ⟨_, rfl⟩; simp
def kSlice {α : Type} (e : TypeId) (d : Kd α) : Kd (List α) where
  sz := 1
  K := fun w xs cs => ∃ A c, cs = [.slice A xs.length c] ∧ xs.length ≤ c ∧ C d w A xs
  O := fun w xs cs fp => ∃ v, cs = [v] ∧ Row e d w v xs fp
  len := by rintro _ _ _ ⟨_, _, rfl, _⟩; rfl
  one := by rintro _ _ _ ⟨_, _, rfl, _⟩; simp [Value.oneCell']
  keep := by rintro _ _ _ _ ⟨A, c, rfl, hl, hC⟩ hw; exact ⟨A, c, rfl, hl, hC.keep hw⟩
  read := by
    rintro _ _ _ _ ⟨v, rfl, h⟩
    obtain ⟨A, c, rfl, hl⟩ := h.form
    exact ⟨A, c, rfl, hl, h.reads⟩
  okeep := by rintro _ _ _ _ _ ⟨v, rfl, h⟩ hw; exact ⟨v, rfl, h.keep hw⟩
  lt := by rintro _ _ _ _ ⟨v, rfl, h⟩; exact h.lt
  nodup := by rintro _ _ _ _ ⟨v, rfl, _, _, _, _, _, hn⟩; exact hn
def kProd {α β : Type} (d1 : Kd α) (d2 : Kd β) : Kd (α × β) where
  sz := d1.sz + d2.sz
  K := fun w x cs => ∃ c1 c2, cs = c1 ++ c2 ∧ d1.K w x.1 c1 ∧ d2.K w x.2 c2
  O := fun w x cs fp => ∃ c1 c2 f1 f2, cs = c1 ++ c2 ∧ fp = f1 ++ f2 ∧ fp.Nodup ∧ d1.O w x.1 c1 f1 ∧ d2.O w x.2 c2 f2
  len := by rintro _ _ _ ⟨_, _, rfl, h1, h2⟩; simp [d1.len h1, d2.len h2]
  one := by rintro _ _ _ ⟨_, _, rfl, h1, h2⟩ u hu; exact Or.elim (List.mem_append.1 hu) (fun hu => d1.one h1 u hu) (fun hu => d2.one h2 u hu)
  keep := by rintro _ _ _ _ ⟨_, _, rfl, h1, h2⟩ hw; exact ⟨_, _, rfl, d1.keep h1 hw, d2.keep h2 hw⟩
  read := by rintro _ _ _ _ ⟨_, _, _, _, rfl, rfl, _, h1, h2⟩; exact ⟨_, _, rfl, d1.read h1, d2.read h2⟩
  okeep := by
    rintro _ _ _ _ _ ⟨_, _, _, _, rfl, rfl, hn, h1, h2⟩ hw
    exact ⟨_, _, _, _, rfl, rfl, hn, d1.okeep h1 fun b hb => hw b (by simp [hb]), d2.okeep h2 fun b hb => hw b (by simp [hb])⟩
  lt := by rintro _ _ _ _ ⟨_, _, _, _, rfl, rfl, _, h1, h2⟩ b hb; exact Or.elim (List.mem_append.1 hb) (fun hb => d1.lt h1 b hb) (fun hb => d2.lt h2 b hb)
  nodup := by rintro _ _ _ _ ⟨_, _, _, _, _, rfl, hn, _⟩; exact hn
def kIso {α β : Type} (f : α → β) (d : Kd β) : Kd α where
  sz := d.sz
  K := fun w x cs => d.K w (f x) cs
  O := fun w x cs fp => d.O w (f x) cs fp
  len := d.len
  one := d.one
  keep := d.keep
  read := d.read
  okeep := d.okeep
  lt := d.lt
  nodup := d.nodup
/-- Flat kinds. -/
def kFlat {α : Type} (n : Nat) (cells : α → List Value) (hl : ∀ x, (cells x).length = n) (h1 : ∀ x, ∀ u ∈ cells x, u.oneCell' = true) : Kd α where
  sz := n
  K := fun _ x cs => cs = cells x
  O := fun _ x cs fp => cs = cells x ∧ fp = []
  len := by rintro _ _ _ rfl; exact hl _
  one := by rintro _ _ _ rfl; exact h1 _
  keep := fun h _ => h
  read := fun h => h.1
  okeep := fun h _ => h
  lt := by rintro _ _ _ _ ⟨_, rfl⟩; simp
  nodup := by rintro _ _ _ _ ⟨_, rfl⟩; simp

/-! ### Worlds that extend W -/
structure Ext (W : World) where
  w : World
  hb : Below W.heap.size W w
def Ext.self (W : World) : Ext W := ⟨W, Below.refl _ _⟩
instance (W : World) : Nonempty (Ext W) := ⟨Ext.self W⟩
theorem Ext.more {W : World} (u : Ext W) {w' : World} (h : Below u.w.heap.size u.w w') : ∃ u' : Ext W, w' = u'.w := ⟨⟨w', u.hb.trans (h.mono u.hb.size)⟩, rfl⟩
theorem Ext.cell {W : World} {p : Addr} {v : Value} (h : W.cell? p = some v) : ∀ u : Ext W, u.w.cell? p = some v := fun u => (u.hb.cell (World.block_lt_of_cell? W _ h)).trans h
theorem C.ext {α : Type} {d : Kd α} {W : World} {A : Option Addr} {xs : List α} (h : C d W A xs) (u : Ext W) : C d u.w A xs := h.below u.hb
theorem wp_region_ext {P : Program} {id : Nat} {Q : Exit → Act → World → Prop} {a : Act} {w W : World} {l : List Oper} (hm : P.follows .mixedOrders = true) (hB : Region.lexB .any l.toArray = true)
    (hw : ∃ u : Ext W, w = u.w) (h : wpQuiet P l.toArray (fun w' => ∃ u : Ext W, w' = u.w) (fun a' => ∀ w', (∃ u : Ext W, w' = u.w) → Q .normal a' w') l a) : (Code.region id l.toArray true).wp P Q a w :=
  wp_region_quiet (C := fun w' => ∃ u : Ext W, w' = u.w) hm hB (by obtain ⟨u, rfl⟩ := hw; exact ⟨⟨u.w.drew, u.hb.drew⟩, rfl⟩) (by simpa using h)
theorem ext_of {P : Program} {f : FuncId} {args : Array Value} {W : World} {u : Ext W} {v : Value} (h : Calls P f args u.w fun e w' => e = .returned v ∧ Below u.w.heap.size u.w w') : Calls P f args u.w fun e w' => e = .returned v ∧ ∃ u' : Ext W, w' = u'.w :=
  h.mono fun _ _ ⟨he, hb⟩ => ⟨he, u.more hb⟩
theorem C.at {α : Type} {d : Kd α} {w : World} {A : Option Addr} {xs : List α} (h : C d w A xs) {i : Nat} {x : α} (hx : xs[i]? = some x) :
    ∃ a cs, A = some a ∧ d.K w x cs ∧ ∀ (j : Nat) u, cs[j]? = some u → w.cell? (a.add (i * d.sz + j)) = some u := h i x hx
section
variable {w : World} {a : Addr} {n : Nat} {c0 c1 c2 c3 c4 c5 : Value}
theorem hc1 (hc : ∀ (j : Nat) u, [c0][j]? = some u → w.cell? (a.add (n + j)) = some u) : w.cell? (a.add n) = some c0 := hc 0 _ rfl
theorem hc1E (hc : ∀ (j : Nat) u, [c0][j]? = some u → w.cell? (a.add (n + j)) = some u) (u : Ext w) : u.w.cell? (a.add n) = some c0 := hc1 fun j v hv => (u.hb.cell (World.block_lt_of_cell? w _ (hc j v hv))).trans (hc j v hv)
theorem hc2 (hc : ∀ (j : Nat) u, [c0, c1][j]? = some u → w.cell? (a.add (n + j)) = some u) : w.cell? (a.add n) = some c0 ∧ w.cell? ⟨(a.add n).block, (a.add n).off + 1, none⟩ = some c1 := ⟨hc 0 _ rfl, by rw [← add_field _ _ 1 (by omega)]; exact hc 1 _ rfl⟩
theorem hc2E (hc : ∀ (j : Nat) u, [c0, c1][j]? = some u → w.cell? (a.add (n + j)) = some u) (u : Ext w) : u.w.cell? (a.add n) = some c0 ∧ u.w.cell? ⟨(a.add n).block, (a.add n).off + 1, none⟩ = some c1 := hc2 fun j v hv => (u.hb.cell (World.block_lt_of_cell? w _ (hc j v hv))).trans (hc j v hv)
theorem hc3 (hc : ∀ (j : Nat) u, [c0, c1, c2][j]? = some u → w.cell? (a.add (n + j)) = some u) : w.cell? (a.add n) = some c0 ∧ w.cell? ⟨(a.add n).block, (a.add n).off + 1, none⟩ = some c1 ∧ w.cell? ⟨(a.add n).block, (a.add n).off + 2, none⟩ = some c2 := ⟨hc 0 _ rfl, by rw [← add_field _ _ 1 (by omega)]; exact hc 1 _ rfl, by rw [← add_field _ _ 2 (by omega)]; exact hc 2 _ rfl⟩
theorem hc3E (hc : ∀ (j : Nat) u, [c0, c1, c2][j]? = some u → w.cell? (a.add (n + j)) = some u) (u : Ext w) : u.w.cell? (a.add n) = some c0 ∧ u.w.cell? ⟨(a.add n).block, (a.add n).off + 1, none⟩ = some c1 ∧ u.w.cell? ⟨(a.add n).block, (a.add n).off + 2, none⟩ = some c2 := hc3 fun j v hv => (u.hb.cell (World.block_lt_of_cell? w _ (hc j v hv))).trans (hc j v hv)
theorem hc4 (hc : ∀ (j : Nat) u, [c0, c1, c2, c3][j]? = some u → w.cell? (a.add (n + j)) = some u) : w.cell? (a.add n) = some c0 ∧ w.cell? ⟨(a.add n).block, (a.add n).off + 1, none⟩ = some c1 ∧ w.cell? ⟨(a.add n).block, (a.add n).off + 2, none⟩ = some c2 ∧ w.cell? ⟨(a.add n).block, (a.add n).off + 3, none⟩ = some c3 := ⟨hc 0 _ rfl, by rw [← add_field _ _ 1 (by omega)]; exact hc 1 _ rfl, by rw [← add_field _ _ 2 (by omega)]; exact hc 2 _ rfl, by rw [← add_field _ _ 3 (by omega)]; exact hc 3 _ rfl⟩
theorem hc4E (hc : ∀ (j : Nat) u, [c0, c1, c2, c3][j]? = some u → w.cell? (a.add (n + j)) = some u) (u : Ext w) : u.w.cell? (a.add n) = some c0 ∧ u.w.cell? ⟨(a.add n).block, (a.add n).off + 1, none⟩ = some c1 ∧ u.w.cell? ⟨(a.add n).block, (a.add n).off + 2, none⟩ = some c2 ∧ u.w.cell? ⟨(a.add n).block, (a.add n).off + 3, none⟩ = some c3 := hc4 fun j v hv => (u.hb.cell (World.block_lt_of_cell? w _ (hc j v hv))).trans (hc j v hv)
theorem hc5 (hc : ∀ (j : Nat) u, [c0, c1, c2, c3, c4][j]? = some u → w.cell? (a.add (n + j)) = some u) : w.cell? (a.add n) = some c0 ∧ w.cell? ⟨(a.add n).block, (a.add n).off + 1, none⟩ = some c1 ∧ w.cell? ⟨(a.add n).block, (a.add n).off + 2, none⟩ = some c2 ∧ w.cell? ⟨(a.add n).block, (a.add n).off + 3, none⟩ = some c3 ∧ w.cell? ⟨(a.add n).block, (a.add n).off + 4, none⟩ = some c4 := ⟨hc 0 _ rfl, by rw [← add_field _ _ 1 (by omega)]; exact hc 1 _ rfl, by rw [← add_field _ _ 2 (by omega)]; exact hc 2 _ rfl, by rw [← add_field _ _ 3 (by omega)]; exact hc 3 _ rfl, by rw [← add_field _ _ 4 (by omega)]; exact hc 4 _ rfl⟩
theorem hc5E (hc : ∀ (j : Nat) u, [c0, c1, c2, c3, c4][j]? = some u → w.cell? (a.add (n + j)) = some u) (u : Ext w) : u.w.cell? (a.add n) = some c0 ∧ u.w.cell? ⟨(a.add n).block, (a.add n).off + 1, none⟩ = some c1 ∧ u.w.cell? ⟨(a.add n).block, (a.add n).off + 2, none⟩ = some c2 ∧ u.w.cell? ⟨(a.add n).block, (a.add n).off + 3, none⟩ = some c3 ∧ u.w.cell? ⟨(a.add n).block, (a.add n).off + 4, none⟩ = some c4 := hc5 fun j v hv => (u.hb.cell (World.block_lt_of_cell? w _ (hc j v hv))).trans (hc j v hv)
theorem hc6 (hc : ∀ (j : Nat) u, [c0, c1, c2, c3, c4, c5][j]? = some u → w.cell? (a.add (n + j)) = some u) : w.cell? (a.add n) = some c0 ∧ w.cell? ⟨(a.add n).block, (a.add n).off + 1, none⟩ = some c1 ∧ w.cell? ⟨(a.add n).block, (a.add n).off + 2, none⟩ = some c2 ∧ w.cell? ⟨(a.add n).block, (a.add n).off + 3, none⟩ = some c3 ∧ w.cell? ⟨(a.add n).block, (a.add n).off + 4, none⟩ = some c4 ∧ w.cell? ⟨(a.add n).block, (a.add n).off + 5, none⟩ = some c5 := ⟨hc 0 _ rfl, by rw [← add_field _ _ 1 (by omega)]; exact hc 1 _ rfl, by rw [← add_field _ _ 2 (by omega)]; exact hc 2 _ rfl, by rw [← add_field _ _ 3 (by omega)]; exact hc 3 _ rfl, by rw [← add_field _ _ 4 (by omega)]; exact hc 4 _ rfl, by rw [← add_field _ _ 5 (by omega)]; exact hc 5 _ rfl⟩
theorem hc6E (hc : ∀ (j : Nat) u, [c0, c1, c2, c3, c4, c5][j]? = some u → w.cell? (a.add (n + j)) = some u) (u : Ext w) : u.w.cell? (a.add n) = some c0 ∧ u.w.cell? ⟨(a.add n).block, (a.add n).off + 1, none⟩ = some c1 ∧ u.w.cell? ⟨(a.add n).block, (a.add n).off + 2, none⟩ = some c2 ∧ u.w.cell? ⟨(a.add n).block, (a.add n).off + 3, none⟩ = some c3 ∧ u.w.cell? ⟨(a.add n).block, (a.add n).off + 4, none⟩ = some c4 ∧ u.w.cell? ⟨(a.add n).block, (a.add n).off + 5, none⟩ = some c5 := hc6 fun j v hv => (u.hb.cell (World.block_lt_of_cell? w _ (hc j v hv))).trans (hc j v hv)
end
theorem ext_same {P : Program} {f : FuncId} {args : Array Value} {W : World} {u : Ext W} {v : Value} (h : Calls P f args u.w fun e w' => e = .returned v ∧ u.w = w') : Calls P f args u.w fun e w' => e = .returned v ∧ ∃ u' : Ext W, w' = u'.w :=
  h.mono fun _ _ ⟨he, hb⟩ => ⟨he, u, hb.symm⟩
theorem box_cell (w : World) (cs : Array Value) (T : TypeId) (u : Ext (w.alloc (.cells cs T))) (j : Nat) : u.w.cell? ⟨w.heap.size, j, none⟩ = cs[j]? := by
  rw [u.hb.cell (p := ⟨w.heap.size, j, none⟩) (by simp)]
  exact cell_of_row _ w.heap.size j cs T (0, 0) (heap_alloc_new w _)
theorem box_frozen (w : World) (cs : Array Value) (T : TypeId) (u : Ext (w.alloc (.cells cs T))) (j : Nat) : u.w.frozen? ⟨w.heap.size, j, none⟩ = false := by
  rw [u.hb.frozen (p := ⟨w.heap.size, j, none⟩) (by simp)]
  unfold World.frozen?
  rw [heap_alloc_new w (.cells cs T)]
  simp
def AtCells (w : World) (b : Nat) : Nat → List Value → Prop
  | _, [] => True
  | o, v :: r => w.cell? ⟨b, o, none⟩ = some v ∧ AtCells w b (o + 1) r
theorem atCells_of {w : World} {b : Nat} : ∀ (l : List Value) (o : Nat), (∀ (j : Nat) v, l[j]? = some v → w.cell? ⟨b, o + j, none⟩ = some v) → AtCells w b o l
  | [], _, _ => trivial
  | v :: r, o, h => ⟨h 0 v rfl, atCells_of r (o + 1) fun j u hu => by have := h (j + 1) u (by simpa using hu); rwa [show o + 1 + j = o + (j + 1) by omega]⟩
theorem box_at {w : World} {cs : Array Value} {T : TypeId} (u : Ext (w.alloc (.cells cs T))) : AtCells u.w w.heap.size 0 cs.toList :=
  atCells_of _ _ fun j v hv => by rw [Nat.zero_add, box_cell]; simpa using hv
theorem ext_box {w : World} {o : Obj} (u : Ext (w.alloc o)) : Below w.heap.size w u.w := ((Below.refl _ _).alloc (Nat.le_refl _) o).trans (u.hb.mono (by simp))
theorem Ext.drew {W : World} (u : Ext W) : ∃ u' : Ext W, u.w.drew = u'.w := ⟨⟨u.w.drew, u.hb.drew⟩, rfl⟩
theorem bcell {W w1 : World} (hb : Below W.heap.size W w1) : (∀ b o, b < W.heap.size → w1.cell? ⟨b, o, none⟩ = W.cell? ⟨b, o, none⟩) ∧ (∀ b o, b < W.heap.size → w1.frozen? ⟨b, o, none⟩ = W.frozen? ⟨b, o, none⟩) :=
  ⟨fun b o h => hb.cell (p := ⟨b, o, none⟩) h, fun b o h => hb.frozen (p := ⟨b, o, none⟩) h⟩
theorem Below.then_ {w W w1 : World} (h : Below w.heap.size w W) (hb : Below W.heap.size W w1) : Below w.heap.size w w1 := h.trans (hb.mono h.size)
theorem take_snoc {α : Type} {xs : List α} {k : Nat} {x : α} (h : xs[k]? = some x) : xs.take (k + 1) = xs.take k ++ [x] := by rw [List.take_add_one, h]; rfl
theorem get_of_lt {α : Type} {xs : List α} {k : Nat} (h : k < xs.length) : ∃ x, xs[k]? = some x := ⟨_, List.getElem?_eq_getElem h⟩
theorem ret_bool {a b : Bool} (h : a = b) : Ending.returned (.bool a) = .returned (.bool b) := by rw [h]
theorem ret_int {k : IntKind} {a b : Int} (h : a = b) : Ending.returned (.int k a) = .returned (.int k b) := by rw [h]
end Go.Proofs.YtnbkgaofdkkdnaaDoor
