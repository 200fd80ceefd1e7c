/- Contracts over a run's state: impl's (*world).nodeOf and do. -/
import Derived.Test.YtnnfjjgohhicjaaDoorRb
import Derived.Deep.RegionLaw
namespace Go.Proofs.YtnnfjjgohhicjaaDoor
open Go.RowKit
set_option linter.unusedSimpArgs false
set_option linter.unusedVariables false
set_option maxRecDepth 100000

inductive Node where
  | cst (d n : Int)
  | ari (op d a b : Int)
  | hp (ld : Bool) (d a b : Int)
  | out (a : Int)
  | cpy (op d a : Int)
def Node.v : Node → Value
  | .cst d n => .iface 178 (.agg #[.int .i64 d, .int .i64 n])
  | .ari op d a b => .iface 180 (.agg #[.int .i64 op, .int .i64 d, .int .i64 a, .int .i64 b])
  | .hp l d a b => .iface 182 (.agg #[.bool l, .int .i64 d, .int .i64 a, .int .i64 b])
  | .out a => .iface 186 (.agg #[.int .i64 a])
  | .cpy op d a => .iface 188 (.agg #[.int .i64 op, .int .i64 d, .int .i64 a])
def nodeP (args : List Int) (x : Instr) : Node :=
  if x.op = 1 then .cst x.dst x.imm else if x.op = 2 then .cst x.dst (getI args x.imm) else if x.op = 8 then .hp true x.dst x.a 0 else if x.op = 9 then .hp false 0 x.a x.b
  else if x.op = 10 then .out x.a else if x.op = 11 ∨ x.op = 12 ∨ x.op = 13 then .cpy x.op x.dst x.a else .ari x.op x.dst x.a x.b
def doP : Node → Wd → Option Wd
  | .cst d n, s => some { s with cells := setI s.cells d n }
  | .ari op d a b, s => if op = 6 ∧ getI s.cells b = 0 then none else some { s with cells := setI s.cells d (arithP op (getI s.cells a) (getI s.cells b)) }
  | .hp true d a _, s => some { s with cells := setI s.cells d (getI s.heap (getI s.cells a % 32)) }
  | .hp false _ a b, s => some { s with heap := setI s.heap (getI s.cells a % 32) (getI s.cells b) }
  | .out a, s => some { s with trace := s.trace ++ [getI s.cells a] }
  | .cpy op d a, s => if op = 11 then some { s with cells := setI s.cells d (getI s.cells a) } else if op = 12 then some { s with scratch := getI s.cells a } else some { s with cells := setI s.cells d s.scratch }
theorem doP_exec (x : Instr) (s : Wd) (h1 : 1 ≤ x.op) (h2 : x.op ≤ 13) : doP (nodeP s.args x) s = exec x s := by
  unfold nodeP exec
  rcases (by omega : x.op = 1 ∨ x.op = 2 ∨ x.op = 8 ∨ x.op = 9 ∨ x.op = 10 ∨ x.op = 11 ∨ x.op = 12 ∨ x.op = 13 ∨ (x.op ≠ 1 ∧ x.op ≠ 2 ∧ x.op ≠ 8 ∧ x.op ≠ 9 ∧ x.op ≠ 10 ∧ x.op ≠ 11 ∧ x.op ≠ 12 ∧ x.op ≠ 13)) with h | h | h | h | h | h | h | h | h
  · simp [h, doP]
  · simp [h, doP]
  · simp [h, doP]
  · simp [h, doP]
  · simp [h, doP]
  · simp [h, doP]
  · simp [h, doP]
  · simp [h, doP]
  · obtain ⟨g1, g2, g3, g4, g5, g6, g7, g8⟩ := h
    simp [g1, g2, g3, g4, g5, g6, g7, g8, doP]
set_option maxHeartbeats 2000000 in
theorem nodeOf_c (B : Nat) (A : Option Addr) (ca : Nat) (s : Wd) (x : Instr) (w : World) (hc : w.cell? ⟨B, 0, none⟩ = some (.slice A s.args.length ca)) (hB : B < w.heap.size) (hA : C kI64 w A s.args) (hl : s.args.length ≤ 8) (h1 : 1 ≤ x.op) (h2 : x.op ≤ 13) (hi : x.op = 2 → 0 ≤ x.imm ∧ x.imm < 8) :
    Calls Tryd.prog 100 #[.pointer (some ⟨B, 0, none⟩), x.v] w fun e w' => e = .returned (nodeP s.args x).v ∧ Below w.heap.size w w' := by
  obtain ⟨op, dst, a, b, imm⟩ := x
  dsimp only at *
  have hg : ∀ v, nodeP s.args ⟨op, dst, a, b, imm⟩ = v → nodeP s.args ⟨op, dst, a, b, imm⟩ = v := fun _ h => h
  simp only [Instr.v]
  rcases (by omega : op = 1 ∨ op = 2 ∨ op = 8 ∨ op = 9 ∨ op = 10 ∨ op = 11 ∨ op = 12 ∨ op = 13 ∨ op = 3 ∨ op = 4 ∨ op = 5 ∨ op = 6 ∨ op = 7) with rfl | rfl | rfl | rfl | rfl | rfl | rfl | rfl | rfl | rfl | rfl | rfl | rfl
  case inr.inl =>
    obtain ⟨i1, i2⟩ := hi rfl
    clear hg hi
    obtain ⟨k, rfl⟩ : ∃ k : Nat, imm = k := ⟨imm.toNat, by omega⟩
    by_cases hlt : k < s.args.length
    · obtain ⟨y, ey⟩ := get_of_lt hlt
      obtain ⟨a', _, rfl, rfl, hcc⟩ := hA.at ey
      have p0 := hc1 (n := k * 1) hcc
      rw [Nat.mul_one] at p0
      have HY := Lib.hid (show y = getI s.args (k : Int) by have := getI_get (l := s.args) (i := k) (by simpa using hlt); simp at this; rw [this] at ey; exact (Option.some.inj ey).symm)
      have p1 : (w.alloc (.cells #[.int .i64 2, .int .i64 dst, .int .i64 a, .int .i64 b, .int .i64 k] 72)).cell? (a'.add k) = some (.int .i64 y) := (((Below.refl _ w).alloc (Nat.le_refl _) _).cell (World.block_lt_of_cell? w _ p0)).trans p0
      clear hcc ey
      go_enter Tryd.func100, Tryd.ntmps100
      go_wp2
      go_quiet (fail)
      go_wp2
      go_quiet (fail)
      go_wp2
      go_ret
      exact ⟨by rw [HY.out]; simp [nodeP, Node.v], below_drewN ((Below.refl _ w).alloc (Nat.le_refl _) _) _⟩
    · have HY := Lib.hid (show getI s.args (k : Int) = 0 by unfold getI; rw [List.getD_eq_getElem?_getD, List.getElem?_eq_none (by simp; omega)]; rfl)
      go_enter Tryd.func100, Tryd.ntmps100
      go_wp2
      go_quiet (fail)
      go_wp2
      go_ret
      exact ⟨by simp [nodeP, Node.v, HY.out], below_drewN ((Below.refl _ w).alloc (Nat.le_refl _) _) _⟩
  all_goals
    clear hg hi
    go_enter Tryd.func100, Tryd.ntmps100
    go_wp2
    go_ret
    exact ⟨by simp [nodeP, Node.v], (by repeat (first | (with_reducible first | exact Below.refl _ _ | assumption | exact ext_box _) | (with_reducible apply Below.drew) | ((with_reducible refine Below.setCell ?_ ?hs _); (case hs => first | (simp; done) | (simp; omega) | omega)) | ((with_reducible refine Below.alloc ?_ ?hs _); (case hs => first | (simp; done) | (simp; omega) | omega))))⟩

/-- The state in memory: block B (W0: the world before it was made; X: blocks that no row of the state lies in, B among them). -/
def St (W0 : World) (X : List Nat) (B : Nat) (T : TypeId) (ex : List Value) (A : Option Addr) (ca D cD G cG : Nat) (s : Wd) (w : World) : Prop :=
  ∃ At ct, Bk B T (wl (.slice A s.args.length ca) (.slice (some ⟨G, 0, none⟩) 32 cG) (.slice At s.trace.length ct) (.slice (some ⟨D, 0, none⟩) s.cells.length cD) s ex) w ∧ Rws W0.heap.size X D cD G cG (.slice At s.trace.length ct) s w ∧ W0.heap.size ≤ B ∧ Below W0.heap.size W0 w ∧ B ∈ X ∧ ∀ x ∈ X, x < w.heap.size
/-- What a step may turn: B, and what is no block of X. -/
def Tn (X : List Nat) (B : Nat) (k : Nat) : Prop := k = B ∨ k ∉ X
def DoPost (W0 : World) (X : List Nat) (B : Nat) (T : TypeId) (ex : List Value) (A : Option Addr) (ca D cD G cG : Nat) (s : Wd) (w : World) (r : Option Wd) (e : Ending) (w' : World) : Prop :=
  Chg (Tn X B) w w' ∧ match r with
  | none => e = .returned (.bool false) ∧ St W0 X B T ex A ca D cD G cG s w'
  | some s' => e = .returned (.bool true) ∧ St W0 X B T ex A ca D cD G cG s' w'
namespace St
variable {W0 : World} {X : List Nat} {B : Nat} {T : TypeId} {ex : List Value} {A : Option Addr} {ca D cD G cG : Nat} {s : Wd} {w w' : World}
theorem below (h : St W0 X B T ex A ca D cD G cG s w) (hb : Below w.heap.size w w') : St W0 X B T ex A ca D cD G cG s w' := by
  obtain ⟨At, ct, h1, h2, h3, h4, h5, h6⟩ := h
  exact ⟨At, ct, h1.below hb, h2.below hb, h3, h4.trans (hb.mono h4.size), h5, fun x hx => Nat.lt_of_lt_of_le (h6 x hx) hb.size⟩
theorem more (h : St W0 X B T ex A ca D cD G cG s w) (hb : Below w.heap.size w w') (Y : List Nat) (hY : ∀ y ∈ Y, w.heap.size ≤ y ∧ y < w'.heap.size) : St W0 (Y ++ X) B T ex A ca D cD G cG s w' := by
  obtain ⟨At, ct, h1, ⟨r1, r2, r3, r4, r5, r6, r7, r8, ft, r9, r10⟩, h3, h4, h5, h6⟩ := h
  have l1 := r1.lt D (by simp)
  have l2 := r2.lt G (by simp)
  have app : ∀ b, b < w.heap.size → b ∉ X → b ∉ Y ++ X := fun b hb1 hb2 hm => by
    rcases List.mem_append.1 hm with e | e
    · have := (hY b e).1; omega
    · exact hb2 e
  have hr : Rws W0.heap.size (Y ++ X) D cD G cG (.slice At s.trace.length ct) s w := ⟨r1, r2, r3, r4, r5, r6, app D l1 r7, app G l2 r8, ft, r9, fun b hb => ⟨(r10 b hb).1, (r10 b hb).2.1, (r10 b hb).2.2.1, app b (r9.lt b hb) (r10 b hb).2.2.2⟩⟩
  exact ⟨At, ct, h1.below hb, hr.below hb, h3, h4.trans (hb.mono h4.size), List.mem_append_right _ h5, fun x hx => by rcases List.mem_append.1 hx with e | e; exact (hY x e).2; exact Nat.lt_of_lt_of_le (h6 x e) hb.size⟩
theorem less (h : St W0 X B T ex A ca D cD G cG s w) {X' : List Nat} (hX : ∀ x ∈ X', x ∈ X) (hB : B ∈ X') : St W0 X' B T ex A ca D cD G cG s w := by
  obtain ⟨At, ct, h1, ⟨r1, r2, r3, r4, r5, r6, r7, r8, ft, r9, r10⟩, h3, h4, h5, h6⟩ := h
  exact ⟨At, ct, h1, ⟨r1, r2, r3, r4, r5, r6, fun hm => r7 (hX _ hm), fun hm => r8 (hX _ hm), ft, r9, fun b hb => ⟨(r10 b hb).1, (r10 b hb).2.1, (r10 b hb).2.2.1, fun hm => (r10 b hb).2.2.2 (hX _ hm)⟩⟩, h3, h4, hB, fun x hx => h6 x (hX x hx)⟩
theorem setReg (h : St W0 X B T ex A ca D cD G cG s w) {r : Int} (hr : r.toNat < s.cells.length) (v : Int) :
    St W0 X B T ex A ca D cD G cG { s with cells := setI s.cells r v } (w.setCell ⟨D, r.toNat, none⟩ (.int .i64 v)) ∧ Chg (Tn X B) w (w.setCell ⟨D, r.toNat, none⟩ (.int .i64 v)) := by
  obtain ⟨At, ct, h1, h2, h3, h4, h5, h6⟩ := h
  obtain ⟨k1, k2⟩ := h2.setReg hr v
  have hD := h2.2.2.2.2.1
  have hX : ¬ B = D := fun e => h2.2.2.2.2.2.2.1 (e ▸ h5)
  exact ⟨⟨At, ct, by simp only [setI_len]; exact h1.chg k2 hX, k1, h3, h4.trans (k2.below h4.size fun k hk => by subst hk; exact hD), h5, fun x hx => Nat.lt_of_lt_of_le (h6 x hx) k2.size⟩, k2.mono fun k _ e => .inr (e ▸ h2.2.2.2.2.2.2.1)⟩
theorem setHp (h : St W0 X B T ex A ca D cD G cG s w) {r : Int} (hr : r.toNat < 32) (v : Int) :
    St W0 X B T ex A ca D cD G cG { s with heap := setI s.heap r v } (w.setCell ⟨G, r.toNat, none⟩ (.int .i64 v)) ∧ Chg (Tn X B) w (w.setCell ⟨G, r.toNat, none⟩ (.int .i64 v)) := by
  obtain ⟨At, ct, h1, h2, h3, h4, h5, h6⟩ := h
  obtain ⟨k1, k2⟩ := h2.setHp hr v
  have hG := h2.2.2.2.2.2.1
  have hX : ¬ B = G := fun e => h2.2.2.2.2.2.2.2.1 (e ▸ h5)
  exact ⟨⟨At, ct, h1.chg k2 hX, k1, h3, h4.trans (k2.below h4.size fun k hk => by subst hk; exact hG), h5, fun x hx => Nat.lt_of_lt_of_le (h6 x hx) k2.size⟩, k2.mono fun k _ e => .inr (e ▸ h2.2.2.2.2.2.2.2.1)⟩
theorem setScr (h : St W0 X B T ex A ca D cD G cG s w) (v : Int) :
    St W0 X B T ex A ca D cD G cG { s with scratch := v } (w.setCell ⟨B, 6, none⟩ (.int .i64 v)) ∧ Chg (Tn X B) w (w.setCell ⟨B, 6, none⟩ (.int .i64 v)) := by
  obtain ⟨At, ct, h1, h2, h3, h4, h5, h6⟩ := h
  obtain ⟨k1, k2⟩ := h1.set 6 (.int .i64 v)
  exact ⟨⟨At, ct, k1, h2.chg (k2.mono fun k _ e => e ▸ h5), h3, h4.trans (k2.below h4.size fun k hk => by subst hk; exact h3), h5, fun x hx => Nat.lt_of_lt_of_le (h6 x hx) k2.size⟩, k2.mono fun k _ e => .inl e⟩
theorem step (h : St W0 X B T ex A ca D cD G cG s w)
    (hk : ∀ At ct, Bk B T (wl (.slice A s.args.length ca) (.slice (some ⟨G, 0, none⟩) 32 cG) (.slice At s.trace.length ct) (.slice (some ⟨D, 0, none⟩) s.cells.length cD) s ex) w → Bk B T (wl (.slice A s.args.length ca) (.slice (some ⟨G, 0, none⟩) 32 cG) (.slice At s.trace.length ct) (.slice (some ⟨D, 0, none⟩) s.cells.length cD) (Go.Proofs.YtnnfjjgohhicjaaDoor.step s) ex) w') (hc : Chg (fun k => k = B) w w') : St W0 X B T ex A ca D cD G cG (Go.Proofs.YtnnfjjgohhicjaaDoor.step s) w' := by
  obtain ⟨At, ct, h1, h2, h3, h4, h5, h6⟩ := h
  exact ⟨At, ct, hk _ _ h1, (h2.chg (hc.mono fun k _ e => e ▸ h5)), h3, h4.trans (hc.below h4.size fun k hk => by subst hk; exact h3), h5, fun x hx => Nat.lt_of_lt_of_le (h6 x hx) hc.size⟩
end St
theorem asY (X : TypeId) (hX : X = 178 ∨ X = 180 ∨ X = 182 ∨ X = 186 ∨ X = 188) (v : Value) (w : World) :
    (Go.Instr.typeAssert (.iface X v) 166 X true).run Tryd.prog w = .ok (.tuple #[v, .bool true]) w := by
  rcases hX with rfl | rfl | rfl | rfl | rfl <;> kernel_rfl
theorem as1 (X : TypeId) (hX : X = 180 ∨ X = 182 ∨ X = 186 ∨ X = 188) (v : Value) (w : World) :
    (Go.Instr.typeAssert (.iface X v) 166 178 true).run Tryd.prog w = .ok (.tuple #[.agg #[.int .i64 0, .int .i64 0], .bool false]) w := by
  rcases hX with rfl | rfl | rfl | rfl <;> kernel_rfl
theorem as2 (X : TypeId) (hX : X = 182 ∨ X = 186 ∨ X = 188) (v : Value) (w : World) :
    (Go.Instr.typeAssert (.iface X v) 166 180 true).run Tryd.prog w = .ok (.tuple #[.agg #[.int .i64 0, .int .i64 0, .int .i64 0, .int .i64 0], .bool false]) w := by
  rcases hX with rfl | rfl | rfl <;> kernel_rfl
theorem as3 (X : TypeId) (hX : X = 186 ∨ X = 188) (v : Value) (w : World) :
    (Go.Instr.typeAssert (.iface X v) 166 182 true).run Tryd.prog w = .ok (.tuple #[.agg #[.bool false, .int .i64 0, .int .i64 0, .int .i64 0], .bool false]) w := by
  rcases hX with rfl | rfl <;> kernel_rfl
theorem as4 (v : Value) (w : World) : (Go.Instr.typeAssert (.iface 188 v) 166 186 true).run Tryd.prog w = .ok (.tuple #[.agg #[.int .i64 0], .bool false]) w := by kernel_rfl
end Go.Proofs.YtnnfjjgohhicjaaDoor
