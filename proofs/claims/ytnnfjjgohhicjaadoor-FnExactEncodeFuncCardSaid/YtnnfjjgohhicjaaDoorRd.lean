/- Contract: impl's (*world).do, one kind of node after another. -/
import Derived.Test.YtnnfjjgohhicjaaDoorRc
namespace Go.Proofs.YtnnfjjgohhicjaaDoor
open Go.RowKit
set_option linter.unusedSimpArgs false
set_option linter.unusedVariables false
set_option maxRecDepth 100000

section
variable {W0 : World} {X : List Nat} {B : Nat} {T : TypeId} {ex : List Value} {A : Option Addr} {ca D cD G cG : Nat} {s s' : Wd} {e : Ending} {w w1 w' : World}
/-- .. behind blocks of its own and draws. -/
theorem DoPost.some (h : e = .returned (.bool true)) (hs : St W0 X B T ex A ca D cD G cG s' w1 ∧ Chg (Tn X B) w w1) (hb : Below w1.heap.size w1 w') : DoPost W0 X B T ex A ca D cD G cG s w (.some s') e w' := ⟨hs.2.call hb, h, hs.1.below hb⟩
theorem DoPost.none (h : e = .returned (.bool false)) (hs : St W0 X B T ex A ca D cD G cG s w) (hb : Below w.heap.size w w') : DoPost W0 X B T ex A ca D cD G cG s w .none e w' := ⟨(Chg.refl _ _).call hb, h, hs.below hb⟩
theorem DoPost.some' (h : e = .returned (.bool true)) (hb : Below w.heap.size w w1) (hs : St W0 X B T ex A ca D cD G cG s' w' ∧ Chg (Tn X B) w1 w') : DoPost W0 X B T ex A ca D cD G cG s w (.some s') e w' := ⟨((Chg.refl _ _).call hb).trans hs.2, h, hs.1⟩
end
theorem still_of {P : Program} {f : FuncId} {args : Array Value} {w : World} {v : Value} (h : Calls P f args w fun e w' => e = .returned v ∧ w = w') : Calls P f args w fun e w' => e = .returned v ∧ w' = w := h.mono fun _ _ h => ⟨h.1, h.2.symm⟩
section
variable (W0 : World) (X : List Nat) (B : Nat) (T : TypeId) (ex : List Value) (A : Option Addr) (ca D cD G cG : Nat) (s : Wd) (w : World)
theorem do_cst (d n : Int) (h : St W0 X B T ex A ca D cD G cG s w) (hd : 0 ≤ d ∧ d < s.cells.length) :
    Calls Tryd.prog 99 #[.pointer (some ⟨B, 0, none⟩), (Node.cst d n).v] w (DoPost W0 X B T ex A ca D cD G cG s w (doP (.cst d n) s)) := by
  obtain ⟨At, ct, h1, h2, h3, h4, h5, h6⟩ := id h
  obtain ⟨r, rfl⟩ : ∃ r : Nat, d = r := ⟨d.toNat, by omega⟩
  obtain ⟨d1, d2⟩ := hd
  have c5 := h1.cell 5 (v := .slice (some ⟨D, 0, none⟩) s.cells.length cD) rfl
  have zB := h1.lt
  obtain ⟨q1, q2⟩ := h2.reg (r := r) (by omega)
  have zD := h2.lt.1
  rw [Int.toNat_natCast] at q1 q2
  have t1 := asY 178 (.inl rfl)
  simp only [Node.v]
  clear h1 h2 h4 h5 h6
  go_enter Tryd.func99, Tryd.ntmps99
  go_wp2
  refine wp_region_still_tail 8 (by kernel_rfl) (by kernel_rfl) ?_; simp only [List.take_succ_cons, List.take_zero, List.drop_succ_cons, List.drop_zero]; change wpStill _ _ (World.drew _) _ _ _
  repeat still_step
  refine wpStill_nil ?_
  change wpList _ _ _ _ _ (World.drew _)
  go_wp2
  go_ret
  exact DoPost.some rfl (h.setReg (r := r) (by omega) n) (((Below.refl _ _).alloc (Nat.le_refl _) _).drew)
theorem do_put (d a : Int) (h : St W0 X B T ex A ca D cD G cG s w) (ha : 0 ≤ a ∧ a < s.cells.length) :
    Calls Tryd.prog 99 #[.pointer (some ⟨B, 0, none⟩), (Node.cpy 12 d a).v] w (DoPost W0 X B T ex A ca D cD G cG s w (doP (.cpy 12 d a) s)) := by
  obtain ⟨At, ct, h1, h2, h3, h4, h5, h6⟩ := id h
  obtain ⟨r, rfl⟩ : ∃ r : Nat, a = r := ⟨a.toNat, by omega⟩
  obtain ⟨d1, d2⟩ := ha
  have c5 := h1.cell 5 (v := .slice (some ⟨D, 0, none⟩) s.cells.length cD) rfl
  have c6 := h1.cell 6 (v := .int .i64 s.scratch) rfl
  have f6 := h1.frozen 6
  have zB := h1.lt
  obtain ⟨q1, q2⟩ := h2.reg (r := r) (by omega)
  have zD := h2.lt.1
  rw [Int.toNat_natCast] at q1 q2
  have t0 := asY 188 (by simp)
  have t1 := as1 188 (by simp)
  have t2 := as2 188 (by simp)
  have t3 := as3 188 (by simp)
  have t4 := as4
  simp only [Node.v]
  clear h1 h2 h4 h5 h6
  go_enter Tryd.func99, Tryd.ntmps99
  go_wp2
  refine wp_region_still_tail 9 (by kernel_rfl) (by kernel_rfl) ?_; simp only [List.take_succ_cons, List.take_zero, List.drop_succ_cons, List.drop_zero]; change wpStill _ _ (World.drew _) _ _ _
  repeat still_step
  refine wpStill_nil ?_
  change wpList _ _ _ _ _ (World.drew _)
  go_wp2
  go_ret
  exact DoPost.some rfl (h.setScr (getI s.cells r)) (((Below.refl _ _).alloc (Nat.le_refl _) _).drew)
theorem do_get (d a : Int) (h : St W0 X B T ex A ca D cD G cG s w) (hd : 0 ≤ d ∧ d < s.cells.length) :
    Calls Tryd.prog 99 #[.pointer (some ⟨B, 0, none⟩), (Node.cpy 13 d a).v] w (DoPost W0 X B T ex A ca D cD G cG s w (doP (.cpy 13 d a) s)) := by
  obtain ⟨At, ct, h1, h2, h3, h4, h5, h6⟩ := id h
  obtain ⟨r, rfl⟩ : ∃ r : Nat, d = r := ⟨d.toNat, by omega⟩
  obtain ⟨d1, d2⟩ := hd
  have c5 := h1.cell 5 (v := .slice (some ⟨D, 0, none⟩) s.cells.length cD) rfl
  have c6 := h1.cell 6 (v := .int .i64 s.scratch) rfl
  have zB := h1.lt
  obtain ⟨q1, q2⟩ := h2.reg (r := r) (by omega)
  have zD := h2.lt.1
  rw [Int.toNat_natCast] at q1 q2
  have t0 := asY 188 (by simp)
  have t1 := as1 188 (by simp)
  have t2 := as2 188 (by simp)
  have t3 := as3 188 (by simp)
  have t4 := as4
  simp only [Node.v]
  clear h1 h2 h4 h5 h6
  go_enter Tryd.func99, Tryd.ntmps99
  go_wp2
  refine wp_region_still_tail 10 (by kernel_rfl) (by kernel_rfl) ?_; simp only [List.take_succ_cons, List.take_zero, List.drop_succ_cons, List.drop_zero]; change wpStill _ _ (World.drew _) _ _ _
  repeat still_step
  refine wpStill_nil ?_
  change wpList _ _ _ _ _ (World.drew _)
  go_wp2
  go_ret
  exact DoPost.some rfl (h.setReg (r := r) (by omega) s.scratch) (((Below.refl _ _).alloc (Nat.le_refl _) _).drew)
theorem do_mov (d a : Int) (h : St W0 X B T ex A ca D cD G cG s w) (hd : 0 ≤ d ∧ d < s.cells.length) (ha : 0 ≤ a ∧ a < s.cells.length) :
    Calls Tryd.prog 99 #[.pointer (some ⟨B, 0, none⟩), (Node.cpy 11 d a).v] w (DoPost W0 X B T ex A ca D cD G cG s w (doP (.cpy 11 d a) s)) := by
  obtain ⟨At, ct, h1, h2, h3, h4, h5, h6⟩ := id h
  obtain ⟨r, rfl⟩ : ∃ r : Nat, d = r := ⟨d.toNat, by omega⟩
  obtain ⟨k, rfl⟩ : ∃ k : Nat, a = k := ⟨a.toNat, by omega⟩
  obtain ⟨d1, d2⟩ := hd
  obtain ⟨a1, a2⟩ := ha
  have c5 := h1.cell 5 (v := .slice (some ⟨D, 0, none⟩) s.cells.length cD) rfl
  have zB := h1.lt
  obtain ⟨q1, q2⟩ := h2.reg (r := r) (by omega)
  obtain ⟨p1, -⟩ := h2.reg (r := k) (by omega)
  have zD := h2.lt.1
  rw [Int.toNat_natCast] at q1 q2 p1
  have t0 := asY 188 (by simp)
  have t1 := as1 188 (by simp)
  have t2 := as2 188 (by simp)
  have t3 := as3 188 (by simp)
  have t4 := as4
  simp only [Node.v]
  clear h1 h2 h4 h5 h6
  go_enter Tryd.func99, Tryd.ntmps99
  go_wp2
  refine wp_region_still_tail 14 (by kernel_rfl) (by kernel_rfl) ?_; simp only [List.take_succ_cons, List.take_zero, List.drop_succ_cons, List.drop_zero]; change wpStill _ _ (World.drew _) _ _ _
  repeat still_step
  refine wpStill_nil ?_
  change wpList _ _ _ _ _ (World.drew _)
  go_wp2
  go_ret
  exact DoPost.some rfl (h.setReg (r := r) (by omega) (getI s.cells k)) (((Below.refl _ _).alloc (Nat.le_refl _) _).drew)
set_option maxHeartbeats 2000000 in
theorem do_ld (d a b : Int) (h : St W0 X B T ex A ca D cD G cG s w) (hd : 0 ≤ d ∧ d < s.cells.length) (ha : 0 ≤ a ∧ a < s.cells.length) :
    Calls Tryd.prog 99 #[.pointer (some ⟨B, 0, none⟩), (Node.hp true d a b).v] w (DoPost W0 X B T ex A ca D cD G cG s w (doP (.hp true d a b) s)) := by
  obtain ⟨At, ct, h1, h2, h3, h4, h5, h6⟩ := id h
  obtain ⟨r, rfl⟩ : ∃ r : Nat, d = r := ⟨d.toNat, by omega⟩
  obtain ⟨k, rfl⟩ : ∃ k : Nat, a = k := ⟨a.toNat, by omega⟩
  obtain ⟨d1, d2⟩ := hd
  obtain ⟨a1, a2⟩ := ha
  have c1 := h1.cell 1 (v := .slice (some ⟨G, 0, none⟩) 32 cG) rfl
  have c5 := h1.cell 5 (v := .slice (some ⟨D, 0, none⟩) s.cells.length cD) rfl
  have zB := h1.lt
  obtain ⟨q1, q2⟩ := h2.reg (r := r) (by omega)
  obtain ⟨p1, -⟩ := h2.reg (r := k) (by omega)
  have hm := mod32 (getI s.cells k)
  obtain ⟨g1, -⟩ := h2.hp (r := getI s.cells k % 32) (by omega)
  obtain ⟨zD, zG⟩ := h2.lt
  rw [Int.toNat_natCast] at q1 q2 p1
  have t0 := asY 182 (by simp)
  have t1 := as1 182 (by simp)
  have t2 := as2 182 (by simp)
  simp only [Node.v]
  clear h1 h2 h4 h5 h6 hm
  have HAT := fun W h => still_of (at_c B G cG (getI s.cells k) W h)
  go_enter Tryd.func99, Tryd.ntmps99
  go_wp2
  refine wp_region_still_tail 18 (by kernel_rfl) (by kernel_rfl) ?_; simp only [List.take_succ_cons, List.take_zero, List.drop_succ_cons, List.drop_zero]; change wpStill _ _ (World.drew _) _ _ _
  repeat (first | still_step | still_call (HAT _ ((((Below.refl _ w).alloc (Nat.le_refl _) _).cell (p := ⟨B, 1, none⟩) zB).trans c1)))
  refine wpStill_nil ?_
  change wpList _ _ _ _ _ (World.drew _)
  go_wp2
  go_ret
  exact DoPost.some rfl (h.setReg (r := r) (by omega) _) (((Below.refl _ _).alloc (Nat.le_refl _) _).drew)
set_option maxHeartbeats 2000000 in
theorem do_st (d a b : Int) (h : St W0 X B T ex A ca D cD G cG s w) (ha : 0 ≤ a ∧ a < s.cells.length) (hb : 0 ≤ b ∧ b < s.cells.length) :
    Calls Tryd.prog 99 #[.pointer (some ⟨B, 0, none⟩), (Node.hp false d a b).v] w (DoPost W0 X B T ex A ca D cD G cG s w (doP (.hp false d a b) s)) := by
  obtain ⟨At, ct, h1, h2, h3, h4, h5, h6⟩ := id h
  obtain ⟨k, rfl⟩ : ∃ k : Nat, a = k := ⟨a.toNat, by omega⟩
  obtain ⟨l, rfl⟩ : ∃ l : Nat, b = l := ⟨b.toNat, by omega⟩
  obtain ⟨a1, a2⟩ := ha
  obtain ⟨b1, b2⟩ := hb
  have c1 := h1.cell 1 (v := .slice (some ⟨G, 0, none⟩) 32 cG) rfl
  have c5 := h1.cell 5 (v := .slice (some ⟨D, 0, none⟩) s.cells.length cD) rfl
  have zB := h1.lt
  obtain ⟨p1, -⟩ := h2.reg (r := k) (by omega)
  obtain ⟨p2, -⟩ := h2.reg (r := l) (by omega)
  have hm := mod32 (getI s.cells k)
  obtain ⟨g1, g2⟩ := h2.hp (r := getI s.cells k % 32) (by omega)
  obtain ⟨zD, zG⟩ := h2.lt
  rw [Int.toNat_natCast] at p1 p2
  have t0 := asY 182 (by simp)
  have t1 := as1 182 (by simp)
  have t2 := as2 182 (by simp)
  have HS := Lib.hid (h.setHp (r := getI s.cells k % 32) (by omega) (getI s.cells l))
  simp only [Node.v]
  clear h1 h2 h4 h5 h6 hm
  have HAT := fun W h => still_of (at_c B G cG (getI s.cells k) W h)
  go_enter Tryd.func99, Tryd.ntmps99
  go_wp2
  refine wp_region_still_tail 18 (by kernel_rfl) (by kernel_rfl) ?_; simp only [List.take_succ_cons, List.take_zero, List.drop_succ_cons, List.drop_zero]; change wpStill _ _ (World.drew _) _ _ _
  repeat (first | still_step | still_call (HAT _ ((((Below.refl _ w).alloc (Nat.le_refl _) _).cell (p := ⟨B, 1, none⟩) zB).trans c1)))
  refine wpStill_nil ?_
  change wpList _ _ _ _ _ (World.drew _)
  go_wp2
  go_ret
  exact DoPost.some rfl HS.out (((Below.refl _ _).alloc (Nat.le_refl _) _).drew)
set_option maxHeartbeats 2000000 in
theorem do_ari (op d a b : Int) (h : St W0 X B T ex A ca D cD G cG s w) (hop : 3 ≤ op ∧ op ≤ 7) (hd : 0 ≤ d ∧ d < s.cells.length) (ha : 0 ≤ a ∧ a < s.cells.length) (hb : 0 ≤ b ∧ b < s.cells.length) :
    Calls Tryd.prog 99 #[.pointer (some ⟨B, 0, none⟩), (Node.ari op d a b).v] w (DoPost W0 X B T ex A ca D cD G cG s w (doP (.ari op d a b) s)) := by
  obtain ⟨At, ct, h1, h2, h3, h4, h5, h6⟩ := id h
  obtain ⟨r, rfl⟩ : ∃ r : Nat, d = r := ⟨d.toNat, by omega⟩
  obtain ⟨k, rfl⟩ : ∃ k : Nat, a = k := ⟨a.toNat, by omega⟩
  obtain ⟨l, rfl⟩ : ∃ l : Nat, b = l := ⟨b.toNat, by omega⟩
  obtain ⟨d1, d2⟩ := hd
  obtain ⟨a1, a2⟩ := ha
  obtain ⟨b1, b2⟩ := hb
  have c5 := h1.cell 5 (v := .slice (some ⟨D, 0, none⟩) s.cells.length cD) rfl
  have zB := h1.lt
  obtain ⟨q1, q2⟩ := h2.reg (r := r) (by omega)
  obtain ⟨p1, -⟩ := h2.reg (r := k) (by omega)
  obtain ⟨p2, -⟩ := h2.reg (r := l) (by omega)
  have zD := h2.lt.1
  rw [Int.toNat_natCast] at q1 q2 p1 p2
  have t0 := asY 180 (by simp)
  have t1 := as1 180 (by simp)
  simp only [Node.v]
  clear h1 h2 h4 h5 h6
  by_cases h6 : op = 6 ∧ getI s.cells l = 0
  · have HE := Lib.hid (show doP (.ari op r k l) s = none by simp [doP, h6])
    obtain ⟨e1, e2⟩ := h6
    have e3 : (op == 6) = true := by simp [e1]
    have e4 : (getI s.cells l == 0) = true := by simp [e2]
    clear e1 e2 hop
    go_enter Tryd.func99, Tryd.ntmps99
    go_wp2
    go_quiet (fail)
    go_wp2
    go_ret
    rw [HE.out]
    exact DoPost.none rfl h (below_drewN ((Below.refl _ _).alloc (Nat.le_refl _) _) _)
  · have HE := Lib.hid (show doP (.ari op r k l) s = some { s with cells := setI s.cells r (arithP op (getI s.cells k) (getI s.cells l)) } by simp only [doP, h6, if_false])
    have HAR := fun W => still_of (arithI_c op (getI s.cells k) (getI s.cells l) W hop.1 hop.2 (fun e1 e2 => h6 ⟨e1, e2⟩))
    by_cases h7 : op = 6
    · have e4 : (getI s.cells l == 0) = false := by simp; exact fun e => h6 ⟨h7, e⟩
      have e3 : (op == 6) = true := by simp [h7]
      clear h6 h7 hop
      go_enter Tryd.func99, Tryd.ntmps99
      go_wp2
      go_quiet (fail)
      go_wp2
      refine wp_region_still_tail 25 (by kernel_rfl) (by kernel_rfl) ?_; simp only [List.take_succ_cons, List.take_zero, List.drop_succ_cons, List.drop_zero]; change wpStill _ _ (World.drew _) _ _ _
      repeat (first | still_step | still_call (HAR _))
      refine wpStill_nil ?_
      change wpList _ _ _ _ _ (World.drew _)
      go_wp2
      go_ret
      rw [HE.out]
      exact DoPost.some' rfl (below_drewN ((Below.refl _ _).alloc (Nat.le_refl _) _) _) ((h.below (below_drewN ((Below.refl _ _).alloc (Nat.le_refl _) _) _)).setReg (r := r) (by omega) _)
    · have e3 : (op == 6) = false := by simp [h7]
      clear h6 h7 hop
      go_enter Tryd.func99, Tryd.ntmps99
      go_wp2
      go_quiet (fail)
      go_wp2
      refine wp_region_still_tail 25 (by kernel_rfl) (by kernel_rfl) ?_; simp only [List.take_succ_cons, List.take_zero, List.drop_succ_cons, List.drop_zero]; change wpStill _ _ (World.drew _) _ _ _
      repeat (first | still_step | still_call (HAR _))
      refine wpStill_nil ?_
      change wpList _ _ _ _ _ (World.drew _)
      go_wp2
      go_ret
      rw [HE.out]
      exact DoPost.some' rfl (below_drewN ((Below.refl _ _).alloc (Nat.le_refl _) _) _) ((h.below (below_drewN ((Below.refl _ _).alloc (Nat.le_refl _) _) _)).setReg (r := r) (by omega) _)
end
end Go.Proofs.YtnnfjjgohhicjaaDoor
