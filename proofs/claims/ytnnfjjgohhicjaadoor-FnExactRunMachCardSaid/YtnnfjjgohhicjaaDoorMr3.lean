/- Contracts: spec.l1GoodInstr -/
import Derived.Test.YtnnfjjgohhicjaaDoorMr1
import Derived.Test.YtnnfjjgohhicjaaDoorMr2
namespace Go.Proofs.YtnnfjjgohhicjaaDoor
def lens (bs : List MBlock) : Nat := (bs.map fun b => b.instrs.length).sum
theorem lens_snoc {bs : List MBlock} {k : Nat} {b : MBlock} (h : bs[k]? = some b) : lens (bs.take (k + 1)) = lens (bs.take k) + b.instrs.length := by
  unfold lens; rw [List.take_add_one, h]; simp
theorem lens_le (bs : List MBlock) (k : Nat) : lens (bs.take k) ≤ lens bs := by
  have h := List.take_append_drop k bs
  have : lens bs = lens (bs.take k) + lens (bs.drop k) := by
    unfold lens
    rw [← List.sum_append, ← List.map_append, h]
  omega
theorem machSize_eq (m : Mach) : machSize m = m.blocks.length + lens m.blocks := rfl
theorem vm_regs {m : Mach} (h : ¬ (1 ≤ m.regs ∧ m.regs ≤ 64)) : validMach m = false := by simp only [validMach, h, decide_false, Bool.false_and]
theorem vm_n {m : Mach} (h : ¬ (1 ≤ m.blocks.length ∧ m.blocks.length ≤ 3000)) : validMach m = false := by simp only [validMach, h, decide_false, Bool.false_and, Bool.and_false]
theorem vm_size {m : Mach} (h : 20000 < machSize m) : validMach m = false := by simp [validMach, show ¬ machSize m ≤ 20000 by omega]
theorem vm_block {m : Mach} {k : Nat} {b : MBlock} (hb : m.blocks[k]? = some b) (h : ((b.instrs.all fun x => goodInstr x m.regs 13) && goodTerm b.term m.regs 0 m.blocks.length) = false) : validMach m = false := by
  have : m.blocks.all (fun b => (b.instrs.all fun x => goodInstr x m.regs 13) && goodTerm b.term m.regs 0 m.blocks.length) = false := List.all_eq_false.2 ⟨b, List.mem_of_getElem? hb, by simp [h]⟩
  rw [validMach, this, Bool.and_false]
theorem vm_term {m : Mach} {k : Nat} {b : MBlock} (hb : m.blocks[k]? = some b) (h : goodTerm b.term m.regs 0 m.blocks.length = false) : validMach m = false := vm_block hb (by rw [h, Bool.and_false])
theorem vm_instr {m : Mach} {k j : Nat} {b : MBlock} {x : Instr} (hb : m.blocks[k]? = some b) (hx : b.instrs[j]? = some x) (h : goodInstr x m.regs 13 = false) : validMach m = false :=
  vm_block hb (by rw [List.all_eq_false.2 ⟨x, List.mem_of_getElem? hx, by simp [h]⟩, Bool.false_and])
theorem vm_true {m : Mach} (h1 : 1 ≤ m.regs ∧ m.regs ≤ 64) (h2 : 1 ≤ m.blocks.length ∧ m.blocks.length ≤ 3000) (h3 : machSize m ≤ 20000) (h4 : m.blocks.all (fun b => b.instrs.all fun x => goodInstr x m.regs 13) = true)
    (h5 : m.blocks.all (fun b => goodTerm b.term m.regs 0 m.blocks.length) = true) : validMach m = true := by
  simp only [validMach, Bool.and_eq_true, decide_eq_true_eq]
  refine ⟨⟨⟨h1, h2⟩, h3⟩, ?_⟩
  rw [List.all_eq_true] at *
  intro b hb
  rw [Bool.and_eq_true]
  exact ⟨h4 b hb, h5 b hb⟩
theorem all_snoc {α : Type} {p : α → Bool} {xs : List α} {k : Nat} {x : α} (h : xs[k]? = some x) (h1 : (xs.take k).all p = true) (h2 : p x = true) : (xs.take (k + 1)).all p = true := by
  rw [List.take_add_one, h]; simp_all
def targets (t : Term) : List Int := if t.kind = 1 then [t.to] else if t.kind = 2 then [t.to, t.els] else []
theorem targets_len (t : Term) : (targets t).length ≤ 2 := by unfold targets; split <;> (try split) <;> simp
end Go.Proofs.YtnnfjjgohhicjaaDoor
namespace Go.Proofs.YtnnfjjgohhicjaaDoor
open Go.RowKit
set_option linter.unusedSimpArgs false
set_option linter.unusedVariables false
set_option maxRecDepth 100000

theorem box_ints {W : World} {T : TypeId} {k : IntKind} {b : Nat} (xs : List Int) (hb : b = W.heap.size) : C (kInt k) (W.alloc (.cells (xs.map (Value.int k)).toArray T)) (some ⟨b, 0, none⟩) xs := by
  subst hb
  intro i x hx
  refine ⟨_, [.int k x], rfl, rfl, ?_⟩
  intro j u hu
  cases j with
  | zero =>
    simp only [List.getElem?_cons_zero, Option.some.injEq] at hu
    subst hu
    rw [add_plain, show i * (kInt k).sz + 0 = i by simp [kInt], Nat.zero_add]
    have h := box_cell W (xs.map (Value.int k)).toArray T (Ext.self _) i
    simp only [Ext.self] at h
    rw [h]
    simp [hx]
  | succ n => simp at hu
def RetC {α : Type} (d : Kd α) (w : World) (xs : List α) (e : Ending) (w' : World) : Prop := ∃ A c, e = .returned (.slice A xs.length c) ∧ C d w' A xs ∧ Below w.heap.size w w'
theorem targets_c (t : Term) (w : World) : Calls Tryd.prog 76 #[t.v] w (RetC (kInt .i64) w (targets t)) := by
  obtain ⟨k, a, to, els⟩ := t
  by_cases h1 : k = 1
  · subst h1
    simp only [Term.v]
    go_enter Tryd.func76, Tryd.ntmps76
    go_wp2
    go_ret
    rw [show targets ⟨1, a, to, els⟩ = [to] from rfl]
    exact ⟨_, _, rfl, box_ints (W := w.alloc (.cells #[.int .i64 1, .int .i64 a, .int .i64 to, .int .i64 els] 67)) [to] (by simp), by repeat (first | (with_reducible first | exact Below.refl _ _ | assumption | exact ext_box _) | (with_reducible apply Below.drew) | ((with_reducible refine Below.setCell ?_ ?hs _); (case hs => first | (simp; done) | (simp; omega) | omega)) | ((with_reducible refine Below.alloc ?_ ?hs _); (case hs => first | (simp; done) | (simp; omega) | omega)))⟩
  · by_cases h2 : k = 2
    · subst h2
      simp only [Term.v]
      go_enter Tryd.func76, Tryd.ntmps76
      go_wp2
      go_ret
      rw [show targets ⟨2, a, to, els⟩ = [to, els] from rfl]
      exact ⟨_, _, rfl, box_ints (W := w.alloc (.cells #[.int .i64 2, .int .i64 a, .int .i64 to, .int .i64 els] 67)) [to, els] (by simp), by repeat (first | (with_reducible first | exact Below.refl _ _ | assumption | exact ext_box _) | (with_reducible apply Below.drew) | ((with_reducible refine Below.setCell ?_ ?hs _); (case hs => first | (simp; done) | (simp; omega) | omega)) | ((with_reducible refine Below.alloc ?_ ?hs _); (case hs => first | (simp; done) | (simp; omega) | omega)))⟩
    · simp only [Term.v]
      go_enter Tryd.func76, Tryd.ntmps76
      go_wp2
      go_ret
      exact ⟨_, _, by simp only [targets, h1, h2, if_false]; rfl, by simp only [targets, h1, h2, if_false]; exact C.nil _ _ _, by repeat (first | (with_reducible first | exact Below.refl _ _ | assumption | exact ext_box _) | (with_reducible apply Below.drew) | ((with_reducible refine Below.setCell ?_ ?hs _); (case hs => first | (simp; done) | (simp; omega) | omega)) | ((with_reducible refine Below.alloc ?_ ?hs _); (case hs => first | (simp; done) | (simp; omega) | omega)))⟩
def TgtOK (t : Term) (low blocks : Int) : Prop := ∀ (i : Nat) x, (targets t)[i]? = some x → low ≤ x ∧ x < blocks
def HeadOK (t : Term) (n : Int) : Prop := (t.kind = 1 ∧ t.a = 0 ∧ t.els = 0) ∨ (t.kind = 2 ∧ 0 ≤ t.a ∧ t.a < n) ∨ (t.kind = 3 ∧ t.to = 0 ∧ t.els = 0 ∧ 0 ≤ t.a ∧ t.a < n)
theorem goodTerm_of {t : Term} {n low blocks : Int} (h : HeadOK t n) (k : TgtOK t low blocks) : goodTerm t n low blocks = true := by
  rw [goodTerm_iff]
  rcases h with ⟨h1, h⟩ | ⟨h1, h⟩ | ⟨h1, h⟩
  · have := k 0 t.to (by simp [targets, h1])
    exact .inl ⟨h1, h.1, h.2, this⟩
  · have e0 := k 0 t.to (by simp [targets, h1])
    have e1 := k 1 t.els (by simp [targets, h1])
    exact .inr (.inl ⟨h1, h.1, h.2, e0.1, e0.2, e1⟩)
  · exact .inr (.inr ⟨h1, h⟩)
theorem goodTerm_not {t : Term} {n low blocks : Int} {i : Nat} {x : Int} (h : (targets t)[i]? = some x) (k : x < low ∨ x ≥ blocks) : goodTerm t n low blocks = false := by
  rw [Bool.eq_false_iff, ne_eq, goodTerm_iff]
  have hm := List.mem_of_getElem? h
  rintro (⟨h1, h⟩ | ⟨h1, h⟩ | ⟨h1, h⟩) <;> simp [targets, h1] at hm <;> omega
theorem goodTerm_head {t : Term} {n low blocks : Int} (h : ¬ HeadOK t n) : goodTerm t n low blocks = false := by
  rw [Bool.eq_false_iff, ne_eq, goodTerm_iff]
  intro g
  apply h
  rcases g with ⟨h1, h⟩ | ⟨h1, h⟩ | ⟨h1, h⟩
  · exact .inl ⟨h1, h.1, h.2.1⟩
  · exact .inr (.inl ⟨h1, h.1, h.2.1⟩)
  · exact .inr (.inr ⟨h1, h⟩)
set_option maxHeartbeats 4000000 in
theorem goodTermS_c (t : Term) (n low blocks : Int) (w : World) : Calls Tryd.prog 41 #[t.v, .int .i64 n, .int .i64 low, .int .i64 blocks] w fun e w' => e = .returned (.bool (goodTerm t n low blocks)) ∧ Below w.heap.size w w' := by
  have HL := Lib.hid (targets_len t)
  have HT := Lib.hid (targets_c t)
  by_cases hh : HeadOK t n
  · have HR := Lib.hid (fun k : (∀ (i : Nat) x, (targets t)[i]? = some x → low ≤ x ∧ x < blocks) => goodTerm_of (low := low) (blocks := blocks) hh k)
    have HN := Lib.hid (fun i x => goodTerm_not (t := t) (n := n) (low := low) (blocks := blocks) (i := i) (x := x))
    obtain ⟨k, a, to, els⟩ := t
    simp only [Term.v] at HT
    simp only [Term.v]
    generalize hts : targets ⟨k, a, to, els⟩ = ts at *
    generalize hgt : goodTerm ⟨k, a, to, els⟩ n low blocks = g at *
    rcases hh with ⟨h1, h2, h3⟩ | ⟨h1, h2, h3⟩ | ⟨h1, h2, h3, h4, h5⟩
    all_goals simp only at h1 h2 h3
    · subst h1 h2 h3
      clear hts hgt
      go_enter Tryd.func41, Tryd.ntmps41
      go_wp2_with (go_at_call 76; refine (HT.out _).mono ?_; rintro e w1 ⟨A, c, rfl, r1, hb1⟩; have HB1 := Below.then_ (w := w) (by repeat (first | (with_reducible first | exact Below.refl _ _ | assumption | exact ext_box _) | (with_reducible apply Below.drew) | ((with_reducible refine Below.setCell ?_ ?hs _); (case hs => first | (simp; done) | (simp; omega) | omega)) | ((with_reducible refine Below.alloc ?_ ?hs _); (case hs => first | (simp; done) | (simp; omega) | omega)))) hb1)
      have hl2 := HL.out
      go_loop [10] (fun i => ∃ k : Nat, k ≤ ts.length ∧ i = .int .i64 k ∧ ∀ (j : Nat) x, j < k → ts[j]? = some x → low ≤ x ∧ x < blocks) (fun i => ts.length - (intOf i).toNat)
      case atStart => exact ⟨0, by omega, rfl, by omega⟩
      case round =>
        obtain ⟨k, hk, rfl, hall⟩ := hrel
        have HA := Lib.hid hall
        clear hall
        by_cases hlt : k < ts.length
        · obtain ⟨x, ex⟩ := get_of_lt hlt
          obtain ⟨a1, _, rfl, rfl, hc⟩ := r1.at ex
          have p0 := hc1 (n := k * 1) hc
          rw [Nat.mul_one] at p0
          clear hc
          have HE := Lib.hid ex
          clear ex
          by_cases hx1 : x < low
          · have HV := Lib.hid (HN.out _ _ HE.out (.inl hx1))
            go_wp2
            go_ret
            exact ⟨ret_bool HV.out.symm, HB1⟩
          · by_cases hx2 : x ≥ blocks
            · have HV := Lib.hid (HN.out _ _ HE.out (.inr hx2))
              go_wp2
              go_ret
              exact ⟨ret_bool HV.out.symm, HB1⟩
            · go_wp2
              go_round
              case rel =>
                refine ⟨k + 1, by omega, by go_num, ?_⟩
                intro j y hj hy
                rcases Nat.lt_or_eq_of_le (Nat.le_of_lt_succ hj) with h | rfl
                · exact HA.out _ _ h hy
                · have := HE.out
                  rw [hy] at this
                  obtain rfl := Option.some.inj this
                  omega
              case measure => simp [intOf]; omega
        · have HV := Lib.hid (HR.out fun i x hx => HA.out i x (by have := (List.getElem?_eq_some_iff.1 hx).1; omega) hx)
          go_wp2
          go_ret
          exact ⟨ret_bool HV.out.symm, HB1⟩
    · subst h1
      clear hts hgt
      go_enter Tryd.func41, Tryd.ntmps41
      go_wp2_with (go_at_call 76; refine (HT.out _).mono ?_; rintro e w1 ⟨A, c, rfl, r1, hb1⟩; have HB1 := Below.then_ (w := w) (by repeat (first | (with_reducible first | exact Below.refl _ _ | assumption | exact ext_box _) | (with_reducible apply Below.drew) | ((with_reducible refine Below.setCell ?_ ?hs _); (case hs => first | (simp; done) | (simp; omega) | omega)) | ((with_reducible refine Below.alloc ?_ ?hs _); (case hs => first | (simp; done) | (simp; omega) | omega)))) hb1)
      have hl2 := HL.out
      go_loop [10] (fun i => ∃ k : Nat, k ≤ ts.length ∧ i = .int .i64 k ∧ ∀ (j : Nat) x, j < k → ts[j]? = some x → low ≤ x ∧ x < blocks) (fun i => ts.length - (intOf i).toNat)
      case atStart => exact ⟨0, by omega, rfl, by omega⟩
      case round =>
        obtain ⟨k, hk, rfl, hall⟩ := hrel
        have HA := Lib.hid hall
        clear hall
        by_cases hlt : k < ts.length
        · obtain ⟨x, ex⟩ := get_of_lt hlt
          obtain ⟨a1, _, rfl, rfl, hc⟩ := r1.at ex
          have p0 := hc1 (n := k * 1) hc
          rw [Nat.mul_one] at p0
          clear hc
          have HE := Lib.hid ex
          clear ex
          by_cases hx1 : x < low
          · have HV := Lib.hid (HN.out _ _ HE.out (.inl hx1))
            go_wp2
            go_ret
            exact ⟨ret_bool HV.out.symm, HB1⟩
          · by_cases hx2 : x ≥ blocks
            · have HV := Lib.hid (HN.out _ _ HE.out (.inr hx2))
              go_wp2
              go_ret
              exact ⟨ret_bool HV.out.symm, HB1⟩
            · go_wp2
              go_round
              case rel =>
                refine ⟨k + 1, by omega, by go_num, ?_⟩
                intro j y hj hy
                rcases Nat.lt_or_eq_of_le (Nat.le_of_lt_succ hj) with h | rfl
                · exact HA.out _ _ h hy
                · have := HE.out
                  rw [hy] at this
                  obtain rfl := Option.some.inj this
                  omega
              case measure => simp [intOf]; omega
        · have HV := Lib.hid (HR.out fun i x hx => HA.out i x (by have := (List.getElem?_eq_some_iff.1 hx).1; omega) hx)
          go_wp2
          go_ret
          exact ⟨ret_bool HV.out.symm, HB1⟩
    · subst h1 h2 h3
      clear hts hgt
      simp only at h4 h5
      go_enter Tryd.func41, Tryd.ntmps41
      go_wp2_with (go_at_call 76; refine (HT.out _).mono ?_; rintro e w1 ⟨A, c, rfl, r1, hb1⟩; have HB1 := Below.then_ (w := w) (by repeat (first | (with_reducible first | exact Below.refl _ _ | assumption | exact ext_box _) | (with_reducible apply Below.drew) | ((with_reducible refine Below.setCell ?_ ?hs _); (case hs => first | (simp; done) | (simp; omega) | omega)) | ((with_reducible refine Below.alloc ?_ ?hs _); (case hs => first | (simp; done) | (simp; omega) | omega)))) hb1)
      have hl2 := HL.out
      go_loop [10] (fun i => ∃ k : Nat, k ≤ ts.length ∧ i = .int .i64 k ∧ ∀ (j : Nat) x, j < k → ts[j]? = some x → low ≤ x ∧ x < blocks) (fun i => ts.length - (intOf i).toNat)
      case atStart => exact ⟨0, by omega, rfl, by omega⟩
      case round =>
        obtain ⟨k, hk, rfl, hall⟩ := hrel
        have HA := Lib.hid hall
        clear hall
        by_cases hlt : k < ts.length
        · obtain ⟨x, ex⟩ := get_of_lt hlt
          obtain ⟨a1, _, rfl, rfl, hc⟩ := r1.at ex
          have p0 := hc1 (n := k * 1) hc
          rw [Nat.mul_one] at p0
          clear hc
          have HE := Lib.hid ex
          clear ex
          by_cases hx1 : x < low
          · have HV := Lib.hid (HN.out _ _ HE.out (.inl hx1))
            go_wp2
            go_ret
            exact ⟨ret_bool HV.out.symm, HB1⟩
          · by_cases hx2 : x ≥ blocks
            · have HV := Lib.hid (HN.out _ _ HE.out (.inr hx2))
              go_wp2
              go_ret
              exact ⟨ret_bool HV.out.symm, HB1⟩
            · go_wp2
              go_round
              case rel =>
                refine ⟨k + 1, by omega, by go_num, ?_⟩
                intro j y hj hy
                rcases Nat.lt_or_eq_of_le (Nat.le_of_lt_succ hj) with h | rfl
                · exact HA.out _ _ h hy
                · have := HE.out
                  rw [hy] at this
                  obtain rfl := Option.some.inj this
                  omega
              case measure => simp [intOf]; omega
        · have HV := Lib.hid (HR.out fun i x hx => HA.out i x (by have := (List.getElem?_eq_some_iff.1 hx).1; omega) hx)
          go_wp2
          go_ret
          exact ⟨ret_bool HV.out.symm, HB1⟩
  · have HV := Lib.hid (goodTerm_head (low := low) (blocks := blocks) hh)
    obtain ⟨k, a, to, els⟩ := t
    rw [HV.out]
    clear HT HL HV
    simp only [HeadOK] at hh
    simp only [Term.v]
    by_cases h1 : k = 1
    · subst h1
      replace hh : a ≠ 0 ∨ els ≠ 0 := by omega
      by_cases h2 : a = 0
      · subst h2
        replace hh : els ≠ 0 := by omega
        go_enter Tryd.func41, Tryd.ntmps41
        go_wp2
        go_ret
        exact ⟨rfl, by repeat (first | (with_reducible first | exact Below.refl _ _ | assumption | exact ext_box _) | (with_reducible apply Below.drew) | ((with_reducible refine Below.setCell ?_ ?hs _); (case hs => first | (simp; done) | (simp; omega) | omega)) | ((with_reducible refine Below.alloc ?_ ?hs _); (case hs => first | (simp; done) | (simp; omega) | omega)))⟩
      · go_enter Tryd.func41, Tryd.ntmps41
        go_wp2
        go_ret
        exact ⟨rfl, by repeat (first | (with_reducible first | exact Below.refl _ _ | assumption | exact ext_box _) | (with_reducible apply Below.drew) | ((with_reducible refine Below.setCell ?_ ?hs _); (case hs => first | (simp; done) | (simp; omega) | omega)) | ((with_reducible refine Below.alloc ?_ ?hs _); (case hs => first | (simp; done) | (simp; omega) | omega)))⟩
    · by_cases h3 : k = 3
      · subst h3
        by_cases h2 : to = 0
        · subst h2
          by_cases h4 : els = 0
          · subst h4
            by_cases h5 : a < 0
            · go_enter Tryd.func41, Tryd.ntmps41
              go_wp2
              go_ret
              exact ⟨rfl, by repeat (first | (with_reducible first | exact Below.refl _ _ | assumption | exact ext_box _) | (with_reducible apply Below.drew) | ((with_reducible refine Below.setCell ?_ ?hs _); (case hs => first | (simp; done) | (simp; omega) | omega)) | ((with_reducible refine Below.alloc ?_ ?hs _); (case hs => first | (simp; done) | (simp; omega) | omega)))⟩
            · have h6 : n ≤ a := by omega
              go_enter Tryd.func41, Tryd.ntmps41
              go_wp2
              go_ret
              exact ⟨rfl, by repeat (first | (with_reducible first | exact Below.refl _ _ | assumption | exact ext_box _) | (with_reducible apply Below.drew) | ((with_reducible refine Below.setCell ?_ ?hs _); (case hs => first | (simp; done) | (simp; omega) | omega)) | ((with_reducible refine Below.alloc ?_ ?hs _); (case hs => first | (simp; done) | (simp; omega) | omega)))⟩
          · go_enter Tryd.func41, Tryd.ntmps41
            go_wp2
            go_ret
            exact ⟨rfl, by repeat (first | (with_reducible first | exact Below.refl _ _ | assumption | exact ext_box _) | (with_reducible apply Below.drew) | ((with_reducible refine Below.setCell ?_ ?hs _); (case hs => first | (simp; done) | (simp; omega) | omega)) | ((with_reducible refine Below.alloc ?_ ?hs _); (case hs => first | (simp; done) | (simp; omega) | omega)))⟩
        · go_enter Tryd.func41, Tryd.ntmps41
          go_wp2
          go_ret
          exact ⟨rfl, by repeat (first | (with_reducible first | exact Below.refl _ _ | assumption | exact ext_box _) | (with_reducible apply Below.drew) | ((with_reducible refine Below.setCell ?_ ?hs _); (case hs => first | (simp; done) | (simp; omega) | omega)) | ((with_reducible refine Below.alloc ?_ ?hs _); (case hs => first | (simp; done) | (simp; omega) | omega)))⟩
      · by_cases h2 : k = 2
        · subst h2
          by_cases h5 : a < 0
          · go_enter Tryd.func41, Tryd.ntmps41
            go_wp2
            go_ret
            exact ⟨rfl, by repeat (first | (with_reducible first | exact Below.refl _ _ | assumption | exact ext_box _) | (with_reducible apply Below.drew) | ((with_reducible refine Below.setCell ?_ ?hs _); (case hs => first | (simp; done) | (simp; omega) | omega)) | ((with_reducible refine Below.alloc ?_ ?hs _); (case hs => first | (simp; done) | (simp; omega) | omega)))⟩
          · have h6 : n ≤ a := by omega
            go_enter Tryd.func41, Tryd.ntmps41
            go_wp2
            go_ret
            exact ⟨rfl, by repeat (first | (with_reducible first | exact Below.refl _ _ | assumption | exact ext_box _) | (with_reducible apply Below.drew) | ((with_reducible refine Below.setCell ?_ ?hs _); (case hs => first | (simp; done) | (simp; omega) | omega)) | ((with_reducible refine Below.alloc ?_ ?hs _); (case hs => first | (simp; done) | (simp; omega) | omega)))⟩
        · by_cases h5 : k < 1
          · go_enter Tryd.func41, Tryd.ntmps41
            go_wp2
            go_ret
            exact ⟨rfl, by repeat (first | (with_reducible first | exact Below.refl _ _ | assumption | exact ext_box _) | (with_reducible apply Below.drew) | ((with_reducible refine Below.setCell ?_ ?hs _); (case hs => first | (simp; done) | (simp; omega) | omega)) | ((with_reducible refine Below.alloc ?_ ?hs _); (case hs => first | (simp; done) | (simp; omega) | omega)))⟩
          · have h6 : 3 < k := by omega
            go_enter Tryd.func41, Tryd.ntmps41
            go_wp2
            go_ret
            exact ⟨rfl, by repeat (first | (with_reducible first | exact Below.refl _ _ | assumption | exact ext_box _) | (with_reducible apply Below.drew) | ((with_reducible refine Below.setCell ?_ ?hs _); (case hs => first | (simp; done) | (simp; omega) | omega)) | ((with_reducible refine Below.alloc ?_ ?hs _); (case hs => first | (simp; done) | (simp; omega) | omega)))⟩
end Go.Proofs.YtnnfjjgohhicjaaDoor
namespace Go.Proofs.YtnnfjjgohhicjaaDoor
open Go.RowKit
set_option linter.unusedSimpArgs false
set_option linter.unusedVariables false
set_option maxRecDepth 100000

/-- As RetC, and the row is fresh. -/
def RetCF {α : Type} (d : Kd α) (w : World) (xs : List α) (e : Ending) (w' : World) : Prop := ∃ A c, e = .returned (.slice A xs.length c) ∧ C d w' A xs ∧ (∀ a, A = some a → w.heap.size ≤ a.block ∧ a.block < w'.heap.size) ∧ Below w.heap.size w w'
theorem targetsI_c (t : Term) (w : World) : Calls Tryd.prog 83 #[t.v] w (RetCF (kInt .i64) w (targets t)) := by
  obtain ⟨k, a, to, els⟩ := t
  by_cases h1 : k = 1
  · subst h1
    simp only [Term.v]
    go_enter Tryd.func83, Tryd.ntmps83
    go_wp2
    go_ret
    rw [show targets ⟨1, a, to, els⟩ = [to] from rfl]
    exact ⟨_, _, rfl, box_ints (W := w.alloc (.cells #[.int .i64 1, .int .i64 a, .int .i64 to, .int .i64 els] 67)) [to] (by simp), (by intro a h; cases h; simp), by repeat (first | (with_reducible first | exact Below.refl _ _ | assumption | exact ext_box _) | (with_reducible apply Below.drew) | ((with_reducible refine Below.setCell ?_ ?hs _); (case hs => first | (simp; done) | (simp; omega) | omega)) | ((with_reducible refine Below.alloc ?_ ?hs _); (case hs => first | (simp; done) | (simp; omega) | omega)))⟩
  · by_cases h2 : k = 2
    · subst h2
      simp only [Term.v]
      go_enter Tryd.func83, Tryd.ntmps83
      go_wp2
      go_ret
      rw [show targets ⟨2, a, to, els⟩ = [to, els] from rfl]
      exact ⟨_, _, rfl, box_ints (W := w.alloc (.cells #[.int .i64 2, .int .i64 a, .int .i64 to, .int .i64 els] 67)) [to, els] (by simp), (by intro a h; cases h; simp), by repeat (first | (with_reducible first | exact Below.refl _ _ | assumption | exact ext_box _) | (with_reducible apply Below.drew) | ((with_reducible refine Below.setCell ?_ ?hs _); (case hs => first | (simp; done) | (simp; omega) | omega)) | ((with_reducible refine Below.alloc ?_ ?hs _); (case hs => first | (simp; done) | (simp; omega) | omega)))⟩
    · simp only [Term.v]
      go_enter Tryd.func83, Tryd.ntmps83
      go_wp2
      go_ret
      exact ⟨none, _, by simp only [targets, h1, h2, if_false]; rfl, by simp only [targets, h1, h2, if_false]; exact C.nil _ _ _, (by intro a h; cases h), by repeat (first | (with_reducible first | exact Below.refl _ _ | assumption | exact ext_box _) | (with_reducible apply Below.drew) | ((with_reducible refine Below.setCell ?_ ?hs _); (case hs => first | (simp; done) | (simp; omega) | omega)) | ((with_reducible refine Below.alloc ?_ ?hs _); (case hs => first | (simp; done) | (simp; omega) | omega)))⟩
end Go.Proofs.YtnnfjjgohhicjaaDoor
namespace Go.Proofs.YtnnfjjgohhicjaaDoor
def isPred (t : Term) (b : Int) : Bool := (decide (t.kind = 1) && decide (t.to = b)) || (decide (t.kind = 2) && (decide (t.to = b) || decide (t.els = b)))
def predsN (b : Int) : List Block → Nat → List Int
  | [], _ => []
  | x :: xs, i => (if isPred x.term b then [(i : Int)] else []) ++ predsN b xs (i + 1)
theorem predsN_append (b : Int) : ∀ (xs ys : List Block) (i : Nat), predsN b (xs ++ ys) i = predsN b xs i ++ predsN b ys (i + xs.length)
  | [], ys, i => by simp [predsN]
  | x :: xs, ys, i => by rw [List.cons_append, predsN, predsN, predsN_append b xs ys (i + 1), List.append_assoc, List.length_cons, show i + 1 + xs.length = i + (xs.length + 1) by omega]
def preds (bs : List Block) (b : Int) : List Int := predsN b bs 0
theorem preds_snoc {bs : List Block} {k : Nat} {x : Block} (b : Int) (h : bs[k]? = some x) : preds (bs.take (k + 1)) b = preds (bs.take k) b ++ if isPred x.term b then [(k : Int)] else [] := by
  have hk : k < bs.length := (List.getElem?_eq_some_iff.1 h).1
  rw [List.take_add_one, h, preds, preds, predsN_append]
  simp [predsN, List.length_take_of_le (Nat.le_of_lt hk)]
theorem predsN_len (b : Int) : ∀ (xs : List Block) (i : Nat), (predsN b xs i).length ≤ xs.length
  | [], _ => by simp [predsN]
  | x :: xs, i => by
    have := predsN_len b xs (i + 1)
    simp only [predsN, List.length_append, List.length_cons]
    split <;> simp <;> omega
theorem preds_len (bs : List Block) (b : Int) : (preds bs b).length ≤ bs.length := predsN_len b bs 0
def dstsI (xs : List Instr) : List Int := (xs.filter fun x => usedD x.op).map (·.dst)
theorem dstsI_snoc {xs : List Instr} {k : Nat} {x : Instr} (h : xs[k]? = some x) : dstsI (xs.take (k + 1)) = dstsI (xs.take k) ++ if usedD x.op then [x.dst] else [] := by
  rw [List.take_add_one, h]
  cases hd : usedD x.op <;> simp [dstsI, List.filter_append, hd]
theorem dstsI_len (xs : List Instr) : (dstsI xs).length ≤ xs.length := by
  unfold dstsI
  rw [List.length_map]
  exact List.length_filter_le _ _
def defsB (x : Block) : List Int := x.phis.map (·.dst) ++ dstsI x.instrs
def defs (bs : List Block) : List Int := bs.flatMap defsB
theorem defs_snoc {bs : List Block} {k : Nat} {x : Block} (h : bs[k]? = some x) : defs (bs.take (k + 1)) = defs (bs.take k) ++ defsB x := by
  rw [List.take_add_one, h]
  simp [defs]
def sizePhis (ps : List Phi) : Nat := (ps.map fun p => 1 + p.args.length).sum
def sizeB (x : Block) : Nat := 1 + x.instrs.length + sizePhis x.phis
def sizeF (bs : List Block) : Nat := (bs.map sizeB).sum
theorem sizePhis_snoc {ps : List Phi} {k : Nat} {p : Phi} (h : ps[k]? = some p) : sizePhis (ps.take (k + 1)) = sizePhis (ps.take k) + (1 + p.args.length) := by
  unfold sizePhis; rw [List.take_add_one, h]; simp
theorem sizeF_snoc {bs : List Block} {k : Nat} {x : Block} (h : bs[k]? = some x) : sizeF (bs.take (k + 1)) = sizeF (bs.take k) + sizeB x := by
  unfold sizeF; rw [List.take_add_one, h]; simp
theorem sum_take_le {α : Type} (f : α → Nat) (xs : List α) (k : Nat) : ((xs.take k).map f).sum ≤ (xs.map f).sum := by
  have h := List.take_append_drop k xs
  have : (xs.map f).sum = ((xs.take k).map f).sum + ((xs.drop k).map f).sum := by rw [← List.sum_append, ← List.map_append, h]
  omega
theorem sum_bound {α : Type} {f : α → Nat} {L : Nat} : ∀ {xs : List α}, (∀ (i : Nat) x, xs[i]? = some x → f x ≤ L) → (xs.map f).sum ≤ xs.length * L
  | [], _ => by simp
  | x :: xs, h => by
    have h0 := h 0 x rfl
    have h1 := sum_bound (xs := xs) fun i y hy => h (i + 1) y (by simpa using hy)
    rw [List.map_cons, List.sum_cons, List.length_cons, Nat.succ_mul]
    omega
end Go.Proofs.YtnnfjjgohhicjaaDoor
namespace Go.Proofs.YtnnfjjgohhicjaaDoor
open Go.RowKit
set_option linter.unusedSimpArgs false
set_option linter.unusedVariables false
set_option maxRecDepth 100000

theorem has_c (A : Option Addr) (c : Nat) (xs : List Int) (x : Int) (w : World) (hx : C (kInt .i64) w A xs) (hm : xs.length ≤ 140737488351232) :
    Calls Tryd.prog 51 #[.slice A xs.length c, .int .i64 x] w fun e w' => e = .returned (.bool (decide (x ∈ xs))) ∧ w = w' := by
  go_enter Tryd.func51, Tryd.ntmps51
  go_wp2
  go_loop [5] (fun i => ∃ k : Nat, k ≤ xs.length ∧ i = .int .i64 k ∧ x ∉ xs.take k) (fun i => xs.length - (intOf i).toNat)
  case atStart => exact ⟨0, by omega, rfl, by simp⟩
  case round =>
    obtain ⟨k, hk, rfl, ht⟩ := hrel
    have HT := Lib.hid ht
    clear ht
    by_cases hlt : k < xs.length
    · obtain ⟨y, ey⟩ := get_of_lt hlt
      obtain ⟨a, _, rfl, rfl, hc⟩ := hx.at ey
      have p0 := hc1 (n := k * 1) hc
      rw [Nat.mul_one] at p0
      clear hc
      have EY := Lib.hid ey
      clear ey
      by_cases he : y = x
      · have hb : (y == x) = true := by simp [he]
        have HE := Lib.hid he
        clear he
        go_wp2
        go_ret
        have := List.mem_of_getElem? EY.out
        rw [HE.out] at this
        exact ⟨ret_bool (by simp [this]), rfl⟩
      · have hb : (y == x) = false := by simp [he]
        have HE := Lib.hid he
        clear he
        go_wp2
        go_round
        case rel => exact ⟨k + 1, by omega, by go_num, by rw [take_snoc EY.out, List.mem_append]; rintro (h | h); exact HT.out h; simp at h; exact HE.out h.symm⟩
        case measure => simp [intOf]; omega
    · have hn : x ∉ xs := by have := HT.out; rwa [List.take_of_length_le (by omega)] at this
      have HN := Lib.hid hn
      clear hn
      go_wp2
      go_ret
      exact ⟨ret_bool (by simp [HN.out]), rfl⟩
theorem box_news {W : World} {T : TypeId} {l : List Value} {b : Nat} (hb : b = W.heap.size) : ∀ (j : Nat) u, l[j]? = some u → (W.alloc (.cells l.toArray T)).cell? ((⟨b, 0, none⟩ : Addr).add j) = some u := by
  subst hb
  intro j u hu
  rw [add_plain, Nat.zero_add]
  have h := box_cell W l.toArray T (Ext.self _) j
  simp only [Ext.self] at h
  rw [h]
  simpa using hu
theorem Row.empty0 {α : Type} {e : TypeId} {d : Kd α} {W : World} {b : Nat} (hb : b = W.heap.size) : Row e d (W.alloc (.cells #[] e)) (.slice (some ⟨b, 0, none⟩) 0 0) ([] : List α) [b] := by
  subst hb
  exact Row.empty (heap_alloc_new W _)
theorem Ext.app {W0 W w3 : World} {fp : List Nat} (u : Ext W0) (h1 : Below u.w.heap.size u.w W) (h2 : Chg (fun k => k ∈ fp) W w3) (hf : ∀ q ∈ fp, W0.heap.size ≤ q) : ∃ u3 : Ext W0, w3 = u3.w :=
  ⟨⟨w3, u.hb.trans ((h1.mono u.hb.size).trans (h2.below (Nat.le_trans u.hb.size h1.size) hf))⟩, rfl⟩
theorem isPred_box {k a to els b : Int} {r : Bool} (h : isPred ⟨k, a, to, els⟩ b = r) : (if r then (k = 1 ∧ to = b ∨ k = 2 ∧ (to = b ∨ els = b)) else ¬ (k = 1 ∧ to = b ∨ k = 2 ∧ (to = b ∨ els = b))) := by
  subst h
  by_cases h : (k = 1 ∧ to = b ∨ k = 2 ∧ (to = b ∨ els = b))
  · rw [if_pos (by simpa [isPred] using h)]; exact h
  · rw [if_neg (by simpa [isPred] using h)]; exact h
set_option maxHeartbeats 4000000 in
theorem preds_c (A : Option Addr) (c : Nat) (m : Func) (b : Int) (w : World) (hx : C (kBlock 0 0 0) w A m.blocks) (hm : m.blocks.length ≤ 1048576) :
    Calls Tryd.prog 49 #[.agg #[.int .i64 m.values, .slice A m.blocks.length c], .int .i64 b] w (RetRow 2 (kInt .i64) w (preds m.blocks b)) := by
  obtain ⟨i0, hi, hz0, hz1, hz2⟩ := info_parts info_i64
  have HLE := Lib.hid (fun k => preds_len (m.blocks.take k) b)
  go_enter Tryd.func49, Tryd.ntmps49
  go_wp2
  go_loopw [5, 6] (fun v i wr => ∃ (k : Nat) (fp : List Nat) (u : Ext (w.alloc (.cells #[.int .i64 m.values, .slice A m.blocks.length c] 40))), k ≤ m.blocks.length ∧ i = .int .i64 k ∧ Row 2 (kInt .i64) wr v (preds (m.blocks.take k) b) fp ∧ (∀ q ∈ fp, w.heap.size < q) ∧ wr = u.w) (fun _ i _ => m.blocks.length - (intOf i).toNat)
  case atStart => exact ⟨0, [w.heap.size + 1], ⟨(w.alloc (.cells #[.int .i64 m.values, .slice A m.blocks.length c] 40)).alloc (.cells #[] 2), by repeat (first | (with_reducible first | exact Below.refl _ _ | assumption | exact ext_box _) | (with_reducible apply Below.drew) | ((with_reducible refine Below.setCell ?_ ?hs _); (case hs => first | (simp; done) | (simp; omega) | omega)) | ((with_reducible refine Below.alloc ?_ ?hs _); (case hs => first | (simp; done) | (simp; omega) | omega)))⟩, by omega, rfl, Row.empty0 (by simp), by simp, rfl⟩
  case round =>
    obtain ⟨k, fp, u, hk, rfl, hr, hfp, rfl⟩ := hrel
    have HR := Lib.hid hr
    have HF := Lib.hid hfp
    obtain ⟨A0, c0, hv, hl0⟩ := hr.form
    clear hr hfp
    subst hv
    obtain ⟨b0, b1, -⟩ := box_at u
    have hzu : w.heap.size < u.w.heap.size := by have := u.hb.size; simp at this; omega
    have hxu := (hx.below (ext_box u))
    by_cases hlt : k < m.blocks.length
    · obtain ⟨x, ex⟩ := get_of_lt hlt
      obtain ⟨a, _, rfl, ⟨_, _, rfl, ⟨A1', c1', rfl, l1', r1'⟩, _, _, rfl, ⟨A2', c2', rfl, l2', r2'⟩, rfl⟩, hc⟩ := hxu.at ex
      obtain ⟨p0, p1, p2, p3, p4, p5⟩ := hc6 (n := k * 6) hc
      clear hc
      have HP := Lib.hid (preds_snoc b ex)
      have hlen : (preds (m.blocks.take k) b).length ≤ k := by have := HLE.out k; rw [List.length_take_of_le hk] at this; exact this
      clear ex
      obtain ⟨ps, is, kd, ta, to, els⟩ := x
      dsimp only at *
      by_cases h1 : kd = 1
      · subst h1
        by_cases h2 : to = b
        · subst h2
          have HPF : isPred ⟨1, ta, to, els⟩ to = true := by simp [isPred, *]
          have HP2 := Lib.hid (show preds (m.blocks.take (k + 1)) to = preds (m.blocks.take k) to ++ [(k : Int)] by rw [HP.out, HPF]; simp)
          clear HPF
          go_wp2_with (at_builtin; refine wpList_append_row (kInt .i64) rfl _ _ 49 rfl 2 i0 _ 8 Tryd.underlying49 hi hz0 hz1 hz2 rfl (by decide) _ _ fp rfl (HR.out.chg (S := fun _ => False) (by (repeat (first | (with_reducible first | exact Chg.refl _ _ | assumption) | (with_reducible refine Chg.drew ?_) | ((with_reducible refine Chg.setCell ?_ ?hs _); (case hs => first | (simp; done) | (simp; omega) | omega)) | (with_reducible refine Chg.alloc ?_ _)))) (by simp)) _ _ [.int .i64 k] (k : Int) [] rfl ⟨rfl, rfl⟩ (by simp) (box_news (by simp)) (by simp [maxLen]; omega) (by omega) ?_; intro g cap w3 fp3 hr3 hf3 hC3)
          have HR3 := Lib.hid hr3
          have HF3 := Lib.hid hf3
          clear hr3 hf3
          obtain ⟨u3, rfl⟩ := u.app (by repeat (first | (with_reducible first | exact Below.refl _ _ | assumption | exact ext_box _) | (with_reducible apply Below.drew) | ((with_reducible refine Below.setCell ?_ ?hs _); (case hs => first | (simp; done) | (simp; omega) | omega)) | ((with_reducible refine Below.alloc ?_ ?hs _); (case hs => first | (simp; done) | (simp; omega) | omega)))) hC3 (fun q hq => by have := HF.out q hq; simp; omega)
          go_roundw
          case rel => exact ⟨k + 1, fp3, u3, by omega, by go_num, by rw [HP2.out]; simpa using HR3.out, fun q hq => by rcases HF3.out q hq with h | h | h; exact HF.out q h; simp at h; simp at h; omega, rfl⟩
          case measure => simp [intOf]; omega
        · have HPF : isPred ⟨1, ta, to, els⟩ b = false := by simp [isPred, *]
          have HP2 := Lib.hid (show preds (m.blocks.take (k + 1)) b = preds (m.blocks.take k) b by rw [HP.out, HPF]; simp)
          clear HPF
          have g2 : (to == b) = false := by simp [h2]
          go_wp2
          go_roundw
          case rel => exact ⟨k + 1, fp, ⟨u.w.alloc (.cells #[.int .i64 1, .int .i64 ta, .int .i64 to, .int .i64 els] 67), u.hb.trans (Below.mono (by repeat (first | (with_reducible first | exact Below.refl _ _ | assumption | exact ext_box _) | (with_reducible apply Below.drew) | ((with_reducible refine Below.setCell ?_ ?hs _); (case hs => first | (simp; done) | (simp; omega) | omega)) | ((with_reducible refine Below.alloc ?_ ?hs _); (case hs => first | (simp; done) | (simp; omega) | omega)))) u.hb.size)⟩, by omega, by go_num, by rw [HP2.out]; exact HR.out.chg (S := fun _ => False) (by (repeat (first | (with_reducible first | exact Chg.refl _ _ | assumption) | (with_reducible refine Chg.drew ?_) | ((with_reducible refine Chg.setCell ?_ ?hs _); (case hs => first | (simp; done) | (simp; omega) | omega)) | (with_reducible refine Chg.alloc ?_ _)))) (by simp), HF.out, rfl⟩
          case measure => simp [intOf]; omega
      · by_cases h3 : kd = 2
        · subst h3
          by_cases h2 : to = b
          · subst h2
            have HPF : isPred ⟨2, ta, to, els⟩ to = true := by simp [isPred, *]
            have HP2 := Lib.hid (show preds (m.blocks.take (k + 1)) to = preds (m.blocks.take k) to ++ [(k : Int)] by rw [HP.out, HPF]; simp)
            clear HPF
            go_wp2_with (at_builtin; refine wpList_append_row (kInt .i64) rfl _ _ 49 rfl 2 i0 _ 8 Tryd.underlying49 hi hz0 hz1 hz2 rfl (by decide) _ _ fp rfl (HR.out.chg (S := fun _ => False) (by (repeat (first | (with_reducible first | exact Chg.refl _ _ | assumption) | (with_reducible refine Chg.drew ?_) | ((with_reducible refine Chg.setCell ?_ ?hs _); (case hs => first | (simp; done) | (simp; omega) | omega)) | (with_reducible refine Chg.alloc ?_ _)))) (by simp)) _ _ [.int .i64 k] (k : Int) [] rfl ⟨rfl, rfl⟩ (by simp) (box_news (by simp)) (by simp [maxLen]; omega) (by omega) ?_; intro g cap w3 fp3 hr3 hf3 hC3)
            have HR3 := Lib.hid hr3
            have HF3 := Lib.hid hf3
            clear hr3 hf3
            obtain ⟨u3, rfl⟩ := u.app (by repeat (first | (with_reducible first | exact Below.refl _ _ | assumption | exact ext_box _) | (with_reducible apply Below.drew) | ((with_reducible refine Below.setCell ?_ ?hs _); (case hs => first | (simp; done) | (simp; omega) | omega)) | ((with_reducible refine Below.alloc ?_ ?hs _); (case hs => first | (simp; done) | (simp; omega) | omega)))) hC3 (fun q hq => by have := HF.out q hq; simp; omega)
            go_roundw
            case rel => exact ⟨k + 1, fp3, u3, by omega, by go_num, by rw [HP2.out]; simpa using HR3.out, fun q hq => by rcases HF3.out q hq with h | h | h; exact HF.out q h; simp at h; simp at h; omega, rfl⟩
            case measure => simp [intOf]; omega
          · by_cases h4 : els = b
            · subst h4
              have HPF : isPred ⟨2, ta, to, els⟩ els = true := by simp [isPred, *]
              have HP2 := Lib.hid (show preds (m.blocks.take (k + 1)) els = preds (m.blocks.take k) els ++ [(k : Int)] by rw [HP.out, HPF]; simp)
              clear HPF
              have g2 : (to == els) = false := by simp [h2]
              go_wp2_with (at_builtin; refine wpList_append_row (kInt .i64) rfl _ _ 49 rfl 2 i0 _ 8 Tryd.underlying49 hi hz0 hz1 hz2 rfl (by decide) _ _ fp rfl (HR.out.chg (S := fun _ => False) (by (repeat (first | (with_reducible first | exact Chg.refl _ _ | assumption) | (with_reducible refine Chg.drew ?_) | ((with_reducible refine Chg.setCell ?_ ?hs _); (case hs => first | (simp; done) | (simp; omega) | omega)) | (with_reducible refine Chg.alloc ?_ _)))) (by simp)) _ _ [.int .i64 k] (k : Int) [] rfl ⟨rfl, rfl⟩ (by simp) (box_news (by simp)) (by simp [maxLen]; omega) (by omega) ?_; intro g cap w3 fp3 hr3 hf3 hC3)
              have HR3 := Lib.hid hr3
              have HF3 := Lib.hid hf3
              clear hr3 hf3
              obtain ⟨u3, rfl⟩ := u.app (by repeat (first | (with_reducible first | exact Below.refl _ _ | assumption | exact ext_box _) | (with_reducible apply Below.drew) | ((with_reducible refine Below.setCell ?_ ?hs _); (case hs => first | (simp; done) | (simp; omega) | omega)) | ((with_reducible refine Below.alloc ?_ ?hs _); (case hs => first | (simp; done) | (simp; omega) | omega)))) hC3 (fun q hq => by have := HF.out q hq; simp; omega)
              go_roundw
              case rel => exact ⟨k + 1, fp3, u3, by omega, by go_num, by rw [HP2.out]; simpa using HR3.out, fun q hq => by rcases HF3.out q hq with h | h | h; exact HF.out q h; simp at h; simp at h; omega, rfl⟩
              case measure => simp [intOf]; omega
            · have HPF : isPred ⟨2, ta, to, els⟩ b = false := by simp [isPred, *]
              have HP2 := Lib.hid (show preds (m.blocks.take (k + 1)) b = preds (m.blocks.take k) b by rw [HP.out, HPF]; simp)
              clear HPF
              have g2 : (to == b) = false := by simp [h2]
              have g4 : (els == b) = false := by simp [h4]
              go_wp2
              go_roundw
              case rel => exact ⟨k + 1, fp, ⟨u.w.alloc (.cells #[.int .i64 2, .int .i64 ta, .int .i64 to, .int .i64 els] 67), u.hb.trans (Below.mono (by repeat (first | (with_reducible first | exact Below.refl _ _ | assumption | exact ext_box _) | (with_reducible apply Below.drew) | ((with_reducible refine Below.setCell ?_ ?hs _); (case hs => first | (simp; done) | (simp; omega) | omega)) | ((with_reducible refine Below.alloc ?_ ?hs _); (case hs => first | (simp; done) | (simp; omega) | omega)))) u.hb.size)⟩, by omega, by go_num, by rw [HP2.out]; exact HR.out.chg (S := fun _ => False) (by (repeat (first | (with_reducible first | exact Chg.refl _ _ | assumption) | (with_reducible refine Chg.drew ?_) | ((with_reducible refine Chg.setCell ?_ ?hs _); (case hs => first | (simp; done) | (simp; omega) | omega)) | (with_reducible refine Chg.alloc ?_ _)))) (by simp), HF.out, rfl⟩
              case measure => simp [intOf]; omega
        · have HPF : isPred ⟨kd, ta, to, els⟩ b = false := by simp [isPred, *]
          have HP2 := Lib.hid (show preds (m.blocks.take (k + 1)) b = preds (m.blocks.take k) b by rw [HP.out, HPF]; simp)
          clear HPF
          have g1 : (kd == 1) = false := by simp [h1]
          have g3 : (kd == 2) = false := by simp [h3]
          go_wp2
          go_roundw
          case rel => exact ⟨k + 1, fp, ⟨u.w.alloc (.cells #[.int .i64 kd, .int .i64 ta, .int .i64 to, .int .i64 els] 67), u.hb.trans (Below.mono (by repeat (first | (with_reducible first | exact Below.refl _ _ | assumption | exact ext_box _) | (with_reducible apply Below.drew) | ((with_reducible refine Below.setCell ?_ ?hs _); (case hs => first | (simp; done) | (simp; omega) | omega)) | ((with_reducible refine Below.alloc ?_ ?hs _); (case hs => first | (simp; done) | (simp; omega) | omega)))) u.hb.size)⟩, by omega, by go_num, by rw [HP2.out]; exact HR.out.chg (S := fun _ => False) (by (repeat (first | (with_reducible first | exact Chg.refl _ _ | assumption) | (with_reducible refine Chg.drew ?_) | ((with_reducible refine Chg.setCell ?_ ?hs _); (case hs => first | (simp; done) | (simp; omega) | omega)) | (with_reducible refine Chg.alloc ?_ _)))) (by simp), HF.out, rfl⟩
          case measure => simp [intOf]; omega
    · have hkn : k = m.blocks.length := by omega
      go_wp2
      go_ret
      refine ⟨_, fp, rfl, ?_, fun q hq => Nat.le_of_lt (HF.out q hq), ext_box u⟩
      have := HR.out
      show Row _ _ u.w (.slice A0 (preds (m.blocks.take k) b).length c0) _ _
      rw [List.take_of_length_le (show m.blocks.length ≤ k by omega)] at this ⊢
      exact this
theorem sizePhis_le {ps : List Phi} {L : Nat} (h1 : ps.length ≤ L) (h2 : ∀ (i : Nat) p, ps[i]? = some p → okPhi L p) (k : Nat) : sizePhis (ps.take k) ≤ L * (L + 1) := by
  have h3 := sum_take_le (fun p : Phi => 1 + p.args.length) ps k
  have h4 := sum_bound (f := fun p : Phi => 1 + p.args.length) (L := L + 1) (xs := ps) fun i p hp => by have := h2 i p hp; unfold okPhi at this; omega
  have h5 := Nat.mul_le_mul_right (L + 1) h1
  unfold sizePhis
  omega
theorem sizeB_le {x : Block} {L : Nat} (h : okBlk L x) : sizeB x ≤ 1 + L + L * (L + 1) := by
  obtain ⟨h1, h2, h3⟩ := h
  have := sizePhis_le h1 h2 x.phis.length
  rw [List.take_length] at this
  unfold sizeB
  omega
set_option maxHeartbeats 2000000 in
theorem l1Size_c (A : Option Addr) (c : Nat) (m : Func) (w : World) (hx : C (kBlock 0 0 0) w A m.blocks) (hm : m.blocks.length ≤ 1048576) (hs : ∀ (i : Nat) b, m.blocks[i]? = some b → okBlk 1048576 b) :
    Calls Tryd.prog 48 #[.agg #[.int .i64 m.values, .slice A m.blocks.length c]] w fun e w' => e = .returned (.int .i64 (sizeF m.blocks)) ∧ Below w.heap.size w w' := by
  have hxu := hx.below (w' := w.alloc (.cells #[.int .i64 m.values, .slice A m.blocks.length c] 40)) (by repeat (first | (with_reducible first | exact Below.refl _ _ | assumption | exact ext_box _) | (with_reducible apply Below.drew) | ((with_reducible refine Below.setCell ?_ ?hs _); (case hs => first | (simp; done) | (simp; omega) | omega)) | ((with_reducible refine Below.alloc ?_ ?hs _); (case hs => first | (simp; done) | (simp; omega) | omega))))
  have HT := Lib.hid (fun k => sum_take_le sizeB m.blocks k)
  have HS := Lib.hid (sum_bound (f := sizeB) (xs := m.blocks) fun i b hb => sizeB_le (hs i b hb))
  have HB := Lib.hid hs
  clear hs
  go_enter Tryd.func48, Tryd.ntmps48
  go_wp2
  go_loop [3, 4] (fun t i => ∃ k : Nat, k ≤ m.blocks.length ∧ i = .int .i64 k ∧ t = .int .i64 (sizeF (m.blocks.take k) : Nat)) (fun _ i => m.blocks.length - (intOf i).toNat)
  case atStart => exact ⟨0, by omega, rfl, by simp [sizeF]⟩
  case round =>
    obtain ⟨k, hk, rfl, rfl⟩ := hrel
    by_cases hlt : k < m.blocks.length
    · obtain ⟨x, ex⟩ := get_of_lt hlt
      obtain ⟨a, _, rfl, ⟨_, _, rfl, ⟨A1', c1', rfl, l1', r1'⟩, _, _, rfl, ⟨A2', c2', rfl, l2', r2'⟩, rfl⟩, hc⟩ := hxu.at ex
      obtain ⟨p0, p1, p2, p3, p4, p5⟩ := hc6 (n := k * 6) hc
      clear hc
      have HO := Lib.hid (HB.out _ _ ex)
      have hb3 : x.instrs.length ≤ 1048576 := HO.out.2.2
      have hb1 : x.phis.length ≤ 1048576 := HO.out.1
      have HZ := Lib.hid (sizeF_snoc ex)
      have hbd : sizeF (m.blocks.take k) ≤ 1152923703634165760 := by have h1 := HT.out k; have h2 := HS.out; unfold sizeF; omega
      have HEX := Lib.hid ex
      clear ex
      go_wp2
      go_loop [3, 5] (fun t i => ∃ j : Nat, j ≤ x.phis.length ∧ i = .int .i64 j ∧ t = .int .i64 ((sizeF (m.blocks.take k) : Int) + (1 + (x.instrs.length : Int)) + (sizePhis (x.phis.take j) : Int))) (fun _ i => x.phis.length - (intOf i).toNat)
      case atStart => exact ⟨0, by omega, rfl, by simp [sizePhis]⟩
      case round =>
        obtain ⟨j, hj, rfl, rfl⟩ := hrel
        by_cases hlj : j < x.phis.length
        · obtain ⟨p, ep⟩ := get_of_lt hlj
          obtain ⟨a2, _, rfl, ⟨_, _, rfl, rfl, ⟨A3', c3', rfl, l3', r3'⟩⟩, hc⟩ := r1'.at ep
          obtain ⟨q0, q1⟩ := hc2 (n := j * 2) hc
          clear hc
          have hpl : p.args.length ≤ 1048576 := HO.out.2.1 _ _ ep
          have hps := sizePhis_le HO.out.1 HO.out.2.1 j
          have HZP := Lib.hid (sizePhis_snoc ep)
          clear ep
          go_wp2
          go_round
          case rel => exact ⟨j + 1, by omega, by go_num, by rw [HZP.out]; go_num⟩
          case measure => simp [intOf]; omega
        · have hjn : j = x.phis.length := by omega
          have HZ2 := Lib.hid (show (sizeF (m.blocks.take (k + 1)) : Int) = (sizeF (m.blocks.take k) : Int) + (1 + (x.instrs.length : Int)) + (sizePhis (x.phis.take j) : Int) by rw [HZ.out, hjn, List.take_length]; unfold sizeB; omega)
          clear hjn
          go_wp2
          go_round
          case rel => exact ⟨k + 1, by omega, by go_num, by rw [HZ2.out]⟩
          case measure => simp [intOf]; omega
    · have hkn : k = m.blocks.length := by omega
      go_wp2
      go_ret
      exact ⟨ret_int (by subst hkn; simp), by repeat (first | (with_reducible first | exact Below.refl _ _ | assumption | exact ext_box _) | (with_reducible apply Below.drew) | ((with_reducible refine Below.setCell ?_ ?hs _); (case hs => first | (simp; done) | (simp; omega) | omega)) | ((with_reducible refine Below.alloc ?_ ?hs _); (case hs => first | (simp; done) | (simp; omega) | omega)))⟩
end Go.Proofs.YtnnfjjgohhicjaaDoor
namespace Go.Proofs.YtnnfjjgohhicjaaDoor
def rep (ts : List Int) (t : Nat) (b : Int) : List Int := (ts.filter fun q => decide (q = (t : Int))).map fun _ => b
theorem rep_snoc {ts : List Int} {j : Nat} {q : Int} (h : ts[j]? = some q) (t : Nat) (b : Int) : rep (ts.take (j + 1)) t b = rep (ts.take j) t b ++ if q = (t : Int) then [b] else [] := by
  rw [List.take_add_one, h]
  by_cases hq : q = (t : Int) <;> simp [rep, List.filter_append, hq]
def predM (t : Nat) : List Block → Nat → List Int
  | [], _ => []
  | x :: xs, i => rep (targets x.term) t (i : Int) ++ predM t xs (i + 1)
theorem predM_append (t : Nat) : ∀ (xs ys : List Block) (i : Nat), predM t (xs ++ ys) i = predM t xs i ++ predM t ys (i + xs.length)
  | [], ys, i => by simp [predM]
  | x :: xs, ys, i => by rw [List.cons_append, predM, predM, predM_append t xs ys (i + 1), List.append_assoc, List.length_cons, show i + 1 + xs.length = i + (xs.length + 1) by omega]
theorem predM_snoc {bs : List Block} {k : Nat} {x : Block} (t : Nat) (h : bs[k]? = some x) : predM t (bs.take (k + 1)) 0 = predM t (bs.take k) 0 ++ rep (targets x.term) t (k : Int) := by
  have hk : k < bs.length := (List.getElem?_eq_some_iff.1 h).1
  rw [List.take_add_one, h, predM_append]
  simp [predM, List.length_take_of_le (Nat.le_of_lt hk)]
theorem rep_len (ts : List Int) (t : Nat) (b : Int) : (rep ts t b).length ≤ ts.length := by
  unfold rep
  rw [List.length_map]
  exact List.length_filter_le _ _
theorem predM_len (t : Nat) : ∀ (xs : List Block) (i : Nat), (predM t xs i).length ≤ 2 * xs.length
  | [], _ => by simp [predM]
  | x :: xs, i => by
    have h1 := predM_len t xs (i + 1)
    have h2 := rep_len (targets x.term) t (i : Int)
    have h3 := targets_len x.term
    rw [predM, List.length_append, List.length_cons]
    omega
/-- The table of predecessors, over n blocks. -/
def tab {α : Type} (n : Nat) (F : Nat → α) : List α := (List.range n).map F
theorem tab_len {α : Type} (n : Nat) (F : Nat → α) : (tab n F).length = n := by simp [tab]
theorem tab_get {α : Type} {n : Nat} (F : Nat → α) {t : Nat} (h : t < n) : (tab n F)[t]? = some (F t) := by simp [tab, h]
theorem tab_set {α : Type} {n : Nat} {F F' : Nat → α} {t : Nat} (h : t < n) (h1 : ∀ s, s ≠ t → F' s = F s) : (tab n F).set t (F' t) = tab n F' := by
  apply List.ext_getElem?
  intro i
  rw [List.getElem?_set]
  by_cases hi : i < n
  · rw [tab_get F' hi]
    by_cases he : t = i
    · subst he; simp [tab_len, h]
    · rw [if_neg he, tab_get F hi, h1 i (fun e => he e.symm)]
  · rw [List.getElem?_eq_none (by rw [tab_len]; omega)]
    rw [if_neg (by omega), List.getElem?_eq_none (by rw [tab_len]; omega)]
theorem tab_const {α : Type} (n : Nat) (z : α) : tab n (fun _ => z) = List.replicate n z := by
  unfold tab
  rw [List.map_const']
  simp
theorem tab_nil (n : Nat) : tab n (fun _ => ([] : List Int)) = List.replicate n [] := tab_const n []
end Go.Proofs.YtnnfjjgohhicjaaDoor
namespace Go.Proofs.YtnnfjjgohhicjaaDoor
open Go.RowKit
set_option linter.unusedSimpArgs false
set_option linter.unusedVariables false
set_option maxRecDepth 100000

theorem Chg.cell {S : Nat → Prop} {w w' : World} (h : Chg S w w') {p : Addr} (hp : p.block < w.heap.size) (hS : ¬ S p.block) : w'.cell? p = w.cell? p := World.cell?_of_block (h.block p.block hp hS)
theorem frozen_of_block {w w' : World} {b : Nat} (h : w'.heap[b]? = w.heap[b]?) (o : Nat) : w'.frozen? ⟨b, o, none⟩ = w.frozen? ⟨b, o, none⟩ := by unfold World.frozen?; simp only [h]
theorem C_int_keep {q : IntKind} {w w' : World} {A : Option Addr} {xs : List Int} (h : C (kInt q) w A xs) (hk : ∀ a, A = some a → w'.heap[a.block]? = w.heap[a.block]?) : C (kInt q) w' A xs := by
  intro i x hx
  obtain ⟨a, cs, hA, rfl, hc⟩ := h i x hx
  exact ⟨a, _, hA, rfl, fun j u hu => (World.cell?_of_block (by rw [add_block]; exact hk a hA)).trans (hc j u hu)⟩
theorem info_i64s : (Tryd.prog.info? 49).map (fun i => (i.zero, i.size, i.bytes)) = some (some (.slice none 0 0), 1, 24) := by kernel_rfl
abbrev kI64 : Kd Int := kInt .i64
abbrev kI64s : Kd (List Int) := kSlice 2 (kInt .i64)
set_option maxHeartbeats 4000000 in
theorem predecessors_c (A : Option Addr) (c : Nat) (m : Func) (w : World) (hx : C (kBlock 0 0 0) w A m.blocks) (hm : m.blocks.length ≤ 1048576) (ht : ∀ (i : Nat) b, m.blocks[i]? = some b → ∀ q ∈ targets b.term, 0 ≤ q ∧ q < m.blocks.length) :
    Calls Tryd.prog 53 #[.agg #[.int .i64 m.values, .slice A m.blocks.length c]] w (RetRow 49 kI64s w (tab m.blocks.length fun t => predM t m.blocks 0)) := by
  obtain ⟨i0, hi, hz0, hz1, hz2⟩ := info_parts info_i64s
  obtain ⟨j0, hj', hy0, hy1, hy2⟩ := info_parts info_i64
  have HTG := Lib.hid ht
  clear ht
  go_enter Tryd.func53, Tryd.ntmps53
  go_wp2_with (at_make; refine wpList_make_full _ rfl _ _ 89 rfl 0 49 i0 _ 1 Tryd.underlying89 hi hz0 hz1 _ _ _ _ m.blocks.length rfl rfl rfl rfl (by rw [hz2]; omega) (by simp [maxLen]; omega) (Nat.zero_le _) ?_; intro w1 ho hg; have hB1 := (Below.refl _ (w.alloc (.cells #[.int .i64 m.values, .slice A m.blocks.length c] 40))).grown hg (Nat.le_refl _) (by simp); obtain ⟨hc1, hf1⟩ := bcell hB1; have zw1 : w.heap.size < w1.heap.size := (by have := hB1.size; (try simp at this); omega))
  have hR := Lib.hid (Row.made (d := kI64s) (z := []) (zc := [.slice none 0 0]) ho (by decide) ⟨_, rfl, Row.nil _ _ _⟩)
  clear ho hc1 hf1
  go_loopw [15] (fun i wr => ∃ (k : Nat) (fp : List Nat) (u : Ext (w.alloc (.cells #[.int .i64 m.values, .slice A m.blocks.length c] 40))), k ≤ m.blocks.length ∧ i = .int .i64 k ∧ Row 49 kI64s wr (.slice (some ⟨w.heap.size + 1, 0, none⟩) m.blocks.length m.blocks.length) (tab m.blocks.length fun t => predM t (m.blocks.take k) 0) fp ∧ (∀ q ∈ fp, w.heap.size < q) ∧ wr = u.w) (fun i _ => m.blocks.length - (intOf i).toNat)
  case atStart =>
    refine ⟨0, [w.heap.size + 1], ⟨w1, hB1⟩, by omega, rfl, ?_, ?_, rfl⟩
    · have := hR.out
      simp only [World.size_alloc] at this
      rw [show (tab m.blocks.length fun t => predM t (m.blocks.take 0) 0) = List.replicate m.blocks.length [] by simp [predM, tab_nil]]
      exact this
    · simp
  case round =>
    obtain ⟨k, fp, u, hk, rfl, hr, hfp, rfl⟩ := hrel
    have HR := Lib.hid hr
    have HF := Lib.hid hfp
    clear hr hfp hR
    obtain ⟨b0, b1, -⟩ := box_at u
    have hzu : w.heap.size < u.w.heap.size := by have := u.hb.size; simp at this; omega
    have hxu := (hx.below (ext_box u))
    by_cases hlt : k < m.blocks.length
    · obtain ⟨x, ex⟩ := get_of_lt hlt
      have HEX := Lib.hid (fun t => predM_snoc t ex)
      have HTX := Lib.hid (HTG.out _ _ ex)
      have hts := targets_len x.term
      have HTC := Lib.hid (targetsI_c x.term)
      obtain ⟨a, _, rfl, ⟨_, _, rfl, ⟨A1', c1', rfl, l1', r1'⟩, _, _, rfl, ⟨A2', c2', rfl, l2', r2'⟩, rfl⟩, hc⟩ := hxu.at ex
      obtain ⟨p0, p1, p2, p3, p4, p5⟩ := hc6 (n := k * 6) hc
      clear hc ex
      generalize targets x.term = ts at *
      go_wp2_with (go_at_call 83; refine (HTC.out _).mono ?_; rintro e w2 ⟨A3, c3, rfl, r3, hf3, hb2⟩; have HB2 : Below u.w.heap.size u.w w2 := Below.then_ (by repeat (first | (with_reducible first | exact Below.refl _ _ | assumption | exact ext_box _) | (with_reducible apply Below.drew) | ((with_reducible refine Below.setCell ?_ ?hs _); (case hs => first | (simp; done) | (simp; omega) | omega)) | ((with_reducible refine Below.alloc ?_ ?hs _); (case hs => first | (simp; done) | (simp; omega) | omega)))) hb2)
      obtain ⟨u2, rfl⟩ := u.more HB2
      have HR2 := Lib.hid (HR.out.chg (chg_of HB2) (by simp))
      have HFR := Lib.hid (fun a (ha : A3 = some a) => show a.block ∉ fp from fun hm => by have h1 := (hf3 a ha).1; have h2 := HR.out.lt _ hm; simp at h1; omega)
      clear hf3 hb2 HB2 b0 b1 hzu hxu HR HTC p0 p1 p2 p3 p4 p5
      go_loopw [24] (fun i wr => ∃ (j : Nat) (fp : List Nat) (u : Ext (w.alloc (.cells #[.int .i64 m.values, .slice (some a) m.blocks.length c] 40))), j ≤ ts.length ∧ i = .int .i64 j ∧ Row 49 kI64s wr (.slice (some ⟨w.heap.size + 1, 0, none⟩) m.blocks.length m.blocks.length) (tab m.blocks.length fun t => predM t (m.blocks.take k) 0 ++ rep (ts.take j) t (k : Int)) fp ∧ (∀ q ∈ fp, w.heap.size < q) ∧ C kI64 wr A3 ts ∧ (∀ a, A3 = some a → a.block ∉ fp) ∧ wr = u.w) (fun i _ => ts.length - (intOf i).toNat)
      case atStart => exact ⟨0, fp, u2, by omega, rfl, by simpa [rep] using HR2.out, HF.out, r3, HFR.out, rfl⟩
      case round =>
        clear HR2 HFR HF r3
        obtain ⟨j, fp, u, hj, rfl, hr, hfp, hC, hfr, rfl⟩ := hrel
        have HR := Lib.hid hr
        have HF := Lib.hid hfp
        have HFR := Lib.hid hfr
        have HCC := Lib.hid hC
        clear hr hfp hfr
        by_cases hlj : j < ts.length
        · obtain ⟨q, eq⟩ := get_of_lt hlj
          obtain ⟨hq0, hq1⟩ := HTX.out q (List.mem_of_getElem? eq)
          obtain ⟨t, rfl⟩ : ∃ t : Nat, q = t := ⟨q.toNat, by omega⟩
          have ht : t < m.blocks.length := by omega
          obtain ⟨a3, _, rfl, rfl, hc⟩ := hC.at eq
          have p0 := hc1 (n := j * 1) hc
          rw [Nat.mul_one] at p0
          clear hc hC
          have HRS := Lib.hid (fun s => rep_snoc eq s (k : Int))
          clear eq
          obtain ⟨_, f0, ⟨v0, rfl, r0⟩, hcs, hsub, hgn, hset⟩ := HR.out.focus (tab_len _ _) (tab_get _ ht)
          have q0 := ha1 (n := t * 1) hcs
          have z0 := (HR.out.cellsAt (tab_len _ _) (tab_get _ ht))
          obtain ⟨_, _, _, hfz⟩ := z0
          have qf := hfz (t * 1)
          rw [Nat.mul_one] at q0 qf
          clear hcs hfz
          have hgu : w.heap.size + 1 < u.w.heap.size := HR.out.lt _ (by obtain ⟨_, _, _, _, rfl, _⟩ := HR.out; simp [Value.ownBlock])
          have HS := Lib.hid hset
          have HSB := Lib.hid hsub
          have HGN := Lib.hid hgn
          obtain ⟨ys, hys⟩ : ∃ ys, ys = predM t (m.blocks.take k) 0 ++ rep (ts.take j) t (k : Int) := ⟨_, rfl⟩
          replace r0 : Row 2 kI64 u.w v0 ys f0 := by rw [hys]; exact r0
          have HR0 := Lib.hid r0
          have hpl := predM_len t (m.blocks.take k) 0
          have hrl := rep_len (ts.take j) t (k : Int)
          rw [List.length_take_of_le hk] at hpl
          rw [List.length_take_of_le hj] at hrl
          have hyl : ys.length ≤ 2097154 := by rw [hys, List.length_append]; omega
          have HYS := Lib.hid hys
          obtain ⟨A4, c4, rfl, hl4⟩ := r0.form
          clear hpl hrl hys
          clear hset hsub hgn r0
          go_wp2_with (at_builtin; refine wpList_append_row kI64 rfl _ _ 49 rfl 2 j0 _ 8 Tryd.underlying49 hj' hy0 hy1 hy2 rfl (by decide) _ ys f0 rfl (HR0.out.chg (S := fun _ => False) (by (repeat (first | (with_reducible first | exact Chg.refl _ _ | assumption) | (with_reducible refine Chg.drew ?_) | ((with_reducible refine Chg.setCell ?_ ?hs _); (case hs => first | (simp; done) | (simp; omega) | omega)) | (with_reducible refine Chg.alloc ?_ _)))) (by simp)) _ _ [.int .i64 k] (k : Int) [] rfl ⟨rfl, rfl⟩ (by simp) (box_news (by simp)) (by simp only [maxLen]; omega) (by omega) ?_; intro g cap w3 fp3 hr3 hf3 hC3; have HC0 : Chg (fun k => k ∈ f0) u.w w3 := Chg.trans (by (repeat (first | (with_reducible first | exact Chg.refl _ _ | assumption) | (with_reducible refine Chg.drew ?_) | ((with_reducible refine Chg.setCell ?_ ?hs _); (case hs => first | (simp; done) | (simp; omega) | omega)) | (with_reducible refine Chg.alloc ?_ _)))) hC3; have q3 := (HC0.cell (p := ⟨w.heap.size + 1, t, none⟩) hgu HGN.out).trans q0; have qf3 := (frozen_of_block (HC0.block (w.heap.size + 1) hgu HGN.out) t).trans qf)
          obtain ⟨fp', hr', hf', hC'⟩ := HS.out w3 (ys ++ [(k : Int)]) _ fp3 HC0.size (fun b hb hn => HC0.block b (HR.out.lt b hb) hn) ⟨_, rfl, hr3⟩ (fun b hb => by rcases hf3 b hb with h | h | h; exact .inl h; simp at h; exact .inr fun hm => by have := HR.out.lt b hm; simp at h; omega)
          rw [show t * kI64s.sz = t from Nat.mul_one t, setCells1] at hr' hC'
          have htab : (tab m.blocks.length fun s => predM s (m.blocks.take k) 0 ++ rep (ts.take j) s (k : Int)).set t (ys ++ [(k : Int)]) = tab m.blocks.length fun s => predM s (m.blocks.take k) 0 ++ rep (ts.take (j + 1)) s (k : Int) := by
            rw [HYS.out, List.append_assoc, show rep (ts.take j) t (k : Int) ++ [(k : Int)] = rep (ts.take (j + 1)) t (k : Int) by rw [HRS.out t]; simp]
            exact tab_set (F' := fun s => predM s (m.blocks.take k) 0 ++ rep (ts.take (j + 1)) s (k : Int)) ht (fun s hs => by rw [HRS.out s, if_neg (by omega), List.append_nil])
          rw [htab] at hr'
          clear htab
          have ha3 : a3.block < u.w.heap.size := by have := World.block_lt_of_cell? u.w _ p0; rwa [add_block] at this
          have hn3 := HFR.out a3 rfl
          have hgf : w.heap.size + 1 ∈ fp := by obtain ⟨_, _, _, _, rfl, _⟩ := HR.out; simp [Value.ownBlock]
          have HC3 := Lib.hid (C_int_keep HCC.out (w' := w3.setCell ⟨w.heap.size + 1, t, none⟩ (.slice (some ⟨g, 0, none⟩) (ys.length + 1) cap)) fun b hb => by
            obtain rfl := Option.some.inj hb
            exact (hC'.block a3.block (Nat.lt_of_lt_of_le ha3 HC0.size) fun e => hn3 (e ▸ hgf)).trans (HC0.block a3.block ha3 fun h => hn3 (HSB.out _ h)))
          have hB3 : Below (w.alloc (.cells #[.int .i64 m.values, .slice (some a) m.blocks.length c] 40)).heap.size (w.alloc (.cells #[.int .i64 m.values, .slice (some a) m.blocks.length c] 40)) (w3.setCell ⟨w.heap.size + 1, t, none⟩ (.slice (some ⟨g, 0, none⟩) (ys.length + 1) cap)) := u.hb.trans ((HC0.below u.hb.size fun b hb => by have := HF.out b (HSB.out b hb); simp; omega).trans (hC'.below (Nat.le_trans u.hb.size HC0.size) fun b hb => by subst hb; simp))
          have HFP : Hid (∀ b ∈ fp', b ∈ fp ∨ b = u.w.heap.size + 1) := Lib.hid fun b hb => by
            rcases hf' b hb with h | h
            · exact .inl h
            · rcases hf3 b h with h | h | h
              · exact .inl (HSB.out b h)
              · simp at h
              · simp at h; exact .inr h
          have HR' := Lib.hid hr'
          clear hr' hf' hC' hf3 hC3 hr3
          go_roundw
          case rel => exact ⟨j + 1, fp', ⟨_, hB3⟩, by omega, by go_num, HR'.out, fun b hb => by rcases HFP.out b hb with h | h; exact HF.out b h; omega, HC3.out, fun b hb hm => by (obtain rfl := Option.some.inj hb); rcases HFP.out _ hm with h | h; exact hn3 h; omega, rfl⟩
          case measure => simp [intOf]; omega
        · have hjn : j = ts.length := by omega
          subst hjn
          have HRX := Lib.hid (show (tab m.blocks.length fun t => predM t (m.blocks.take k) 0 ++ rep (ts.take ts.length) t (k : Int)) = tab m.blocks.length fun t => predM t (m.blocks.take (k + 1)) 0 by congr 1; funext s; rw [HEX.out s, List.take_length])
          go_wp2
          go_roundw
          case rel => exact ⟨k + 1, fp, u, by omega, by go_num, by rw [← HRX.out]; exact HR.out, HF.out, rfl⟩
          case measure => simp [intOf]; omega
    · have hkn : k = m.blocks.length := by omega
      go_wp2
      go_ret
      refine ⟨_, fp, rfl, ?_, fun q hq => Nat.le_of_lt (HF.out q hq), ext_box u⟩
      have := HR.out
      rwa [List.take_of_length_le (show m.blocks.length ≤ k by omega)] at this
end Go.Proofs.YtnnfjjgohhicjaaDoor
namespace Go.Proofs.YtnnfjjgohhicjaaDoor
open Go.RowKit
set_option linter.unusedSimpArgs false
set_option linter.unusedVariables false
set_option maxRecDepth 100000

set_option maxHeartbeats 4000000 in
theorem goodInstr_c (x : Instr) (n most : Int) (w : World) (hm : most ≤ 13) : Calls Tryd.prog 40 #[x.v, .int .i64 n, .int .i64 most] w fun e w' => e = .returned (.bool (goodInstr x n most)) ∧ Below w.heap.size w w' := by
  obtain ⟨op, dst, a, b, imm⟩ := x
  by_cases h0 : 1 ≤ op ∧ op ≤ most
  · obtain ⟨h1, h2⟩ := h0
    have cd := fun W => usedD_c op W
    have ca := fun W => usedA_c op W
    have cb := fun W => usedB_c op W
    rcases flags op h1 (by omega) with ⟨hd, ha, hb, h3⟩ | ⟨hd, ha, hb, h3, h4⟩ | ⟨hd, ha, hb, h3⟩ | ⟨hd, ha, hb, h3⟩ | ⟨hd, ha, hb, h3⟩
    all_goals
      have HD := Lib.hid hd
      have HA := Lib.hid ha
      have HB := Lib.hid hb
      rw [hd] at cd
      rw [ha] at ca
      rw [hb] at cb
      clear hd ha hb
      simp only [Instr.v]
      go_enter Tryd.func40, Tryd.ntmps40
      go_wp2_with (first | (go_at_call 75; (with_reducible refine (cd _).mono ?_); rintro e w1 ⟨rfl, rfl⟩) | (go_at_call 75; (with_reducible refine (ca _).mono ?_); rintro e w1 ⟨rfl, rfl⟩) | (go_at_call 75; (with_reducible refine (cb _).mono ?_); rintro e w1 ⟨rfl, rfl⟩))
      all_goals go_ret
      all_goals go_light
      all_goals refine ⟨ret_bool ?_, by repeat (first | exact Below.refl _ _ | apply Below.drew | refine Below.alloc ?_ (by simp) _)⟩
      all_goals
        rw [Bool.eq_iff_iff, goodInstr, decide_eq_true_eq]
        simp only [GoodInstr, Fld, ImmOK, HD.out, HA.out, HB.out]
        clear HD HA HB cd ca cb
        simp only [decide_eq_true_eq, beq_iff_eq, beq_eq_false_iff_ne, bne_iff_ne, bne_eq_false_iff_eq, ne_eq, Bool.false_eq_true, reduceCtorEq, true_and, and_true, false_and, or_false, false_or, Bool.true_eq_false, false_iff, true_iff] at *
        omega
  · have HG : Hid (goodInstr ⟨op, dst, a, b, imm⟩ n most = false) := Lib.hid (by rw [Bool.eq_false_iff, ne_eq, goodInstr_iff]; intro h; simp only [GoodInstr] at h; exact h0 ⟨h.1, h.2.1⟩)
    simp only [Instr.v]
    by_cases h1 : op < 1
    all_goals
      go_enter Tryd.func40, Tryd.ntmps40
      go_wp2
      all_goals first | (go_ret; exact ⟨ret_bool HG.out.symm, by repeat (first | exact Below.refl _ _ | apply Below.drew | refine Below.alloc ?_ (by simp) _)⟩) | (exfalso; omega)
end Go.Proofs.YtnnfjjgohhicjaaDoor
