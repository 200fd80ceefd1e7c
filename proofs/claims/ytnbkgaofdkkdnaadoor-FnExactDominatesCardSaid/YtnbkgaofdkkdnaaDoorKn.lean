/- Contracts: spec.l1Targets, spec.l1GoodTerm. -/
import Derived.Test.YtnbkgaofdkkdnaaDoorKv
import Derived.Test.YtnbkgaofdkkdnaaDoorPm
namespace Go.Proofs.YtnbkgaofdkkdnaaDoor
open Go.RowKit
set_option linter.unusedSimpArgs false
set_option linter.unusedVariables false
set_option maxRecDepth 100000

theorem box_ints {W : World} {T : TypeId} {k : IntKind} {b : Nat} (xs : List Int) (hb : b = W.heap.size) : C (kInt k) (W.alloc (.cells (xs.map (Value.int k)).toArray T)) (some ⟨b, 0, none⟩) xs := by
  subst hb
  intro i x hx
  refine ⟨_, [.int k x], rfl, rfl, ?_⟩
  intro j u hu
  cases j with
  | zero =>
    simp only [List.getElem?_cons_zero, Option.some.injEq] at hu
    subst hu
    rw [add_plain, show i * (kInt k).sz + 0 = i by simp [kInt], Nat.zero_add]
    have h := box_cell W (xs.map (Value.int k)).toArray T (Ext.self _) i
    simp only [Ext.self] at h
    rw [h]
    simp [hx]
  | succ n => simp at hu
def RetC {α : Type} (d : Kd α) (w : World) (xs : List α) (e : Ending) (w' : World) : Prop := ∃ A c, e = .returned (.slice A xs.length c) ∧ C d w' A xs ∧ Below w.heap.size w w'
theorem targets_c (t : Term) (w : World) : Calls Tryd.prog 61 #[t.v] w (RetC (kInt .i64) w (targets t)) := by
  obtain ⟨k, a, to, els⟩ := t
  by_cases h1 : k = 1
  · subst h1
    simp only [Term.v]
    go_enter Tryd.func61, Tryd.ntmps61
    go_wp2
    go_ret
    rw [show targets ⟨1, a, to, els⟩ = [to] from rfl]
    exact ⟨_, _, rfl, box_ints (W := w.alloc (.cells #[.int .i64 1, .int .i64 a, .int .i64 to, .int .i64 els] 102)) [to] (by simp), by repeat (first | (with_reducible first | exact Below.refl _ _ | assumption | exact ext_box _) | (with_reducible apply Below.drew) | ((with_reducible refine Below.setCell ?_ ?hs _); (case hs => first | (simp; done) | (simp; omega) | omega)) | ((with_reducible refine Below.alloc ?_ ?hs _); (case hs => first | (simp; done) | (simp; omega) | omega)))⟩
  · by_cases h2 : k = 2
    · subst h2
      simp only [Term.v]
      go_enter Tryd.func61, Tryd.ntmps61
      go_wp2
      go_ret
      rw [show targets ⟨2, a, to, els⟩ = [to, els] from rfl]
      exact ⟨_, _, rfl, box_ints (W := w.alloc (.cells #[.int .i64 2, .int .i64 a, .int .i64 to, .int .i64 els] 102)) [to, els] (by simp), by repeat (first | (with_reducible first | exact Below.refl _ _ | assumption | exact ext_box _) | (with_reducible apply Below.drew) | ((with_reducible refine Below.setCell ?_ ?hs _); (case hs => first | (simp; done) | (simp; omega) | omega)) | ((with_reducible refine Below.alloc ?_ ?hs _); (case hs => first | (simp; done) | (simp; omega) | omega)))⟩
    · simp only [Term.v]
      go_enter Tryd.func61, Tryd.ntmps61
      go_wp2
      go_ret
      exact ⟨_, _, by simp only [targets, h1, h2, if_false]; rfl, by simp only [targets, h1, h2, if_false]; exact C.nil _ _ _, by repeat (first | (with_reducible first | exact Below.refl _ _ | assumption | exact ext_box _) | (with_reducible apply Below.drew) | ((with_reducible refine Below.setCell ?_ ?hs _); (case hs => first | (simp; done) | (simp; omega) | omega)) | ((with_reducible refine Below.alloc ?_ ?hs _); (case hs => first | (simp; done) | (simp; omega) | omega)))⟩
def TgtOK (t : Term) (low blocks : Int) : Prop := ∀ (i : Nat) x, (targets t)[i]? = some x → low ≤ x ∧ x < blocks
def HeadOK (t : Term) (n : Int) : Prop := (t.kind = 1 ∧ t.a = 0 ∧ t.els = 0) ∨ (t.kind = 2 ∧ 0 ≤ t.a ∧ t.a < n) ∨ (t.kind = 3 ∧ t.to = 0 ∧ t.els = 0 ∧ 0 ≤ t.a ∧ t.a < n)
theorem goodTerm_of {t : Term} {n low blocks : Int} (h : HeadOK t n) (k : TgtOK t low blocks) : goodTerm t n low blocks = true := by
  rw [goodTerm_iff]
  rcases h with ⟨h1, h⟩ | ⟨h1, h⟩ | ⟨h1, h⟩
  · have := k 0 t.to (by simp [targets, h1])
    exact .inl ⟨h1, h.1, h.2, this⟩
  · have e0 := k 0 t.to (by simp [targets, h1])
    have e1 := k 1 t.els (by simp [targets, h1])
    exact .inr (.inl ⟨h1, h.1, h.2, e0.1, e0.2, e1⟩)
  · exact .inr (.inr ⟨h1, h⟩)
theorem goodTerm_not {t : Term} {n low blocks : Int} {i : Nat} {x : Int} (h : (targets t)[i]? = some x) (k : x < low ∨ x ≥ blocks) : goodTerm t n low blocks = false := by
  rw [Bool.eq_false_iff, ne_eq, goodTerm_iff]
  have hm := List.mem_of_getElem? h
  rintro (⟨h1, h⟩ | ⟨h1, h⟩ | ⟨h1, h⟩) <;> simp [targets, h1] at hm <;> omega
theorem goodTerm_head {t : Term} {n low blocks : Int} (h : ¬ HeadOK t n) : goodTerm t n low blocks = false := by
  rw [Bool.eq_false_iff, ne_eq, goodTerm_iff]
  intro g
  apply h
  rcases g with ⟨h1, h⟩ | ⟨h1, h⟩ | ⟨h1, h⟩
  · exact .inl ⟨h1, h.1, h.2.1⟩
  · exact .inr (.inl ⟨h1, h.1, h.2.1⟩)
  · exact .inr (.inr ⟨h1, h⟩)
set_option maxHeartbeats 4000000 in
theorem goodTermS_c (t : Term) (n low blocks : Int) (w : World) : Calls Tryd.prog 59 #[t.v, .int .i64 n, .int .i64 low, .int .i64 blocks] w fun e w' => e = .returned (.bool (goodTerm t n low blocks)) ∧ Below w.heap.size w w' := by
  have HL := Lib.hid (targets_len t)
  have HT := Lib.hid (targets_c t)
  by_cases hh : HeadOK t n
  · have HR := Lib.hid (fun k : (∀ (i : Nat) x, (targets t)[i]? = some x → low ≤ x ∧ x < blocks) => goodTerm_of (low := low) (blocks := blocks) hh k)
    have HN := Lib.hid (fun i x => goodTerm_not (t := t) (n := n) (low := low) (blocks := blocks) (i := i) (x := x))
    obtain ⟨k, a, to, els⟩ := t
    simp only [Term.v] at HT
    simp only [Term.v]
    generalize hts : targets ⟨k, a, to, els⟩ = ts at *
    generalize hgt : goodTerm ⟨k, a, to, els⟩ n low blocks = g at *
    rcases hh with ⟨h1, h2, h3⟩ | ⟨h1, h2, h3⟩ | ⟨h1, h2, h3, h4, h5⟩
    all_goals simp only at h1 h2 h3
    · subst h1 h2 h3
      clear hts hgt
      go_enter Tryd.func59, Tryd.ntmps59
      go_wp2_with (go_at_call 61; refine (HT.out _).mono ?_; rintro e w1 ⟨A, c, rfl, r1, hb1⟩; have HB1 := Below.then_ (w := w) (by repeat (first | (with_reducible first | exact Below.refl _ _ | assumption | exact ext_box _) | (with_reducible apply Below.drew) | ((with_reducible refine Below.setCell ?_ ?hs _); (case hs => first | (simp; done) | (simp; omega) | omega)) | ((with_reducible refine Below.alloc ?_ ?hs _); (case hs => first | (simp; done) | (simp; omega) | omega)))) hb1)
      have hl2 := HL.out
      go_loop [10] (fun i => ∃ k : Nat, k ≤ ts.length ∧ i = .int .i64 k ∧ ∀ (j : Nat) x, j < k → ts[j]? = some x → low ≤ x ∧ x < blocks) (fun i => ts.length - (intOf i).toNat)
      case atStart => exact ⟨0, by omega, rfl, by omega⟩
      case round =>
        obtain ⟨k, hk, rfl, hall⟩ := hrel
        have HA := Lib.hid hall
        clear hall
        by_cases hlt : k < ts.length
        · obtain ⟨x, ex⟩ := get_of_lt hlt
          obtain ⟨a1, _, rfl, rfl, hc⟩ := r1.at ex
          have p0 := hc1 (n := k * 1) hc
          rw [Nat.mul_one] at p0
          clear hc
          have HE := Lib.hid ex
          clear ex
          by_cases hx1 : x < low
          · have HV := Lib.hid (HN.out _ _ HE.out (.inl hx1))
            go_wp2
            go_ret
            exact ⟨ret_bool HV.out.symm, HB1⟩
          · by_cases hx2 : x ≥ blocks
            · have HV := Lib.hid (HN.out _ _ HE.out (.inr hx2))
              go_wp2
              go_ret
              exact ⟨ret_bool HV.out.symm, HB1⟩
            · go_wp2
              go_round
              case rel =>
                refine ⟨k + 1, by omega, by go_num, ?_⟩
                intro j y hj hy
                rcases Nat.lt_or_eq_of_le (Nat.le_of_lt_succ hj) with h | rfl
                · exact HA.out _ _ h hy
                · have := HE.out
                  rw [hy] at this
                  obtain rfl := Option.some.inj this
                  omega
              case measure => simp [intOf]; omega
        · have HV := Lib.hid (HR.out fun i x hx => HA.out i x (by have := (List.getElem?_eq_some_iff.1 hx).1; omega) hx)
          go_wp2
          go_ret
          exact ⟨ret_bool HV.out.symm, HB1⟩
    · subst h1
      clear hts hgt
      go_enter Tryd.func59, Tryd.ntmps59
      go_wp2_with (go_at_call 61; refine (HT.out _).mono ?_; rintro e w1 ⟨A, c, rfl, r1, hb1⟩; have HB1 := Below.then_ (w := w) (by repeat (first | (with_reducible first | exact Below.refl _ _ | assumption | exact ext_box _) | (with_reducible apply Below.drew) | ((with_reducible refine Below.setCell ?_ ?hs _); (case hs => first | (simp; done) | (simp; omega) | omega)) | ((with_reducible refine Below.alloc ?_ ?hs _); (case hs => first | (simp; done) | (simp; omega) | omega)))) hb1)
      have hl2 := HL.out
      go_loop [10] (fun i => ∃ k : Nat, k ≤ ts.length ∧ i = .int .i64 k ∧ ∀ (j : Nat) x, j < k → ts[j]? = some x → low ≤ x ∧ x < blocks) (fun i => ts.length - (intOf i).toNat)
      case atStart => exact ⟨0, by omega, rfl, by omega⟩
      case round =>
        obtain ⟨k, hk, rfl, hall⟩ := hrel
        have HA := Lib.hid hall
        clear hall
        by_cases hlt : k < ts.length
        · obtain ⟨x, ex⟩ := get_of_lt hlt
          obtain ⟨a1, _, rfl, rfl, hc⟩ := r1.at ex
          have p0 := hc1 (n := k * 1) hc
          rw [Nat.mul_one] at p0
          clear hc
          have HE := Lib.hid ex
          clear ex
          by_cases hx1 : x < low
          · have HV := Lib.hid (HN.out _ _ HE.out (.inl hx1))
            go_wp2
            go_ret
            exact ⟨ret_bool HV.out.symm, HB1⟩
          · by_cases hx2 : x ≥ blocks
            · have HV := Lib.hid (HN.out _ _ HE.out (.inr hx2))
              go_wp2
              go_ret
              exact ⟨ret_bool HV.out.symm, HB1⟩
            · go_wp2
              go_round
              case rel =>
                refine ⟨k + 1, by omega, by go_num, ?_⟩
                intro j y hj hy
                rcases Nat.lt_or_eq_of_le (Nat.le_of_lt_succ hj) with h | rfl
                · exact HA.out _ _ h hy
                · have := HE.out
                  rw [hy] at this
                  obtain rfl := Option.some.inj this
                  omega
              case measure => simp [intOf]; omega
        · have HV := Lib.hid (HR.out fun i x hx => HA.out i x (by have := (List.getElem?_eq_some_iff.1 hx).1; omega) hx)
          go_wp2
          go_ret
          exact ⟨ret_bool HV.out.symm, HB1⟩
    · subst h1 h2 h3
      clear hts hgt
      simp only at h4 h5
      go_enter Tryd.func59, Tryd.ntmps59
      go_wp2_with (go_at_call 61; refine (HT.out _).mono ?_; rintro e w1 ⟨A, c, rfl, r1, hb1⟩; have HB1 := Below.then_ (w := w) (by repeat (first | (with_reducible first | exact Below.refl _ _ | assumption | exact ext_box _) | (with_reducible apply Below.drew) | ((with_reducible refine Below.setCell ?_ ?hs _); (case hs => first | (simp; done) | (simp; omega) | omega)) | ((with_reducible refine Below.alloc ?_ ?hs _); (case hs => first | (simp; done) | (simp; omega) | omega)))) hb1)
      have hl2 := HL.out
      go_loop [10] (fun i => ∃ k : Nat, k ≤ ts.length ∧ i = .int .i64 k ∧ ∀ (j : Nat) x, j < k → ts[j]? = some x → low ≤ x ∧ x < blocks) (fun i => ts.length - (intOf i).toNat)
      case atStart => exact ⟨0, by omega, rfl, by omega⟩
      case round =>
        obtain ⟨k, hk, rfl, hall⟩ := hrel
        have HA := Lib.hid hall
        clear hall
        by_cases hlt : k < ts.length
        · obtain ⟨x, ex⟩ := get_of_lt hlt
          obtain ⟨a1, _, rfl, rfl, hc⟩ := r1.at ex
          have p0 := hc1 (n := k * 1) hc
          rw [Nat.mul_one] at p0
          clear hc
          have HE := Lib.hid ex
          clear ex
          by_cases hx1 : x < low
          · have HV := Lib.hid (HN.out _ _ HE.out (.inl hx1))
            go_wp2
            go_ret
            exact ⟨ret_bool HV.out.symm, HB1⟩
          · by_cases hx2 : x ≥ blocks
            · have HV := Lib.hid (HN.out _ _ HE.out (.inr hx2))
              go_wp2
              go_ret
              exact ⟨ret_bool HV.out.symm, HB1⟩
            · go_wp2
              go_round
              case rel =>
                refine ⟨k + 1, by omega, by go_num, ?_⟩
                intro j y hj hy
                rcases Nat.lt_or_eq_of_le (Nat.le_of_lt_succ hj) with h | rfl
                · exact HA.out _ _ h hy
                · have := HE.out
                  rw [hy] at this
                  obtain rfl := Option.some.inj this
                  omega
              case measure => simp [intOf]; omega
        · have HV := Lib.hid (HR.out fun i x hx => HA.out i x (by have := (List.getElem?_eq_some_iff.1 hx).1; omega) hx)
          go_wp2
          go_ret
          exact ⟨ret_bool HV.out.symm, HB1⟩
  · have HV := Lib.hid (goodTerm_head (low := low) (blocks := blocks) hh)
    obtain ⟨k, a, to, els⟩ := t
    rw [HV.out]
    clear HT HL HV
    simp only [HeadOK] at hh
    simp only [Term.v]
    by_cases h1 : k = 1
    · subst h1
      replace hh : a ≠ 0 ∨ els ≠ 0 := by omega
      by_cases h2 : a = 0
      · subst h2
        replace hh : els ≠ 0 := by omega
        go_enter Tryd.func59, Tryd.ntmps59
        go_wp2
        go_ret
        exact ⟨rfl, by repeat (first | (with_reducible first | exact Below.refl _ _ | assumption | exact ext_box _) | (with_reducible apply Below.drew) | ((with_reducible refine Below.setCell ?_ ?hs _); (case hs => first | (simp; done) | (simp; omega) | omega)) | ((with_reducible refine Below.alloc ?_ ?hs _); (case hs => first | (simp; done) | (simp; omega) | omega)))⟩
      · go_enter Tryd.func59, Tryd.ntmps59
        go_wp2
        go_ret
        exact ⟨rfl, by repeat (first | (with_reducible first | exact Below.refl _ _ | assumption | exact ext_box _) | (with_reducible apply Below.drew) | ((with_reducible refine Below.setCell ?_ ?hs _); (case hs => first | (simp; done) | (simp; omega) | omega)) | ((with_reducible refine Below.alloc ?_ ?hs _); (case hs => first | (simp; done) | (simp; omega) | omega)))⟩
    · by_cases h3 : k = 3
      · subst h3
        by_cases h2 : to = 0
        · subst h2
          by_cases h4 : els = 0
          · subst h4
            by_cases h5 : a < 0
            · go_enter Tryd.func59, Tryd.ntmps59
              go_wp2
              go_ret
              exact ⟨rfl, by repeat (first | (with_reducible first | exact Below.refl _ _ | assumption | exact ext_box _) | (with_reducible apply Below.drew) | ((with_reducible refine Below.setCell ?_ ?hs _); (case hs => first | (simp; done) | (simp; omega) | omega)) | ((with_reducible refine Below.alloc ?_ ?hs _); (case hs => first | (simp; done) | (simp; omega) | omega)))⟩
            · have h6 : n ≤ a := by omega
              go_enter Tryd.func59, Tryd.ntmps59
              go_wp2
              go_ret
              exact ⟨rfl, by repeat (first | (with_reducible first | exact Below.refl _ _ | assumption | exact ext_box _) | (with_reducible apply Below.drew) | ((with_reducible refine Below.setCell ?_ ?hs _); (case hs => first | (simp; done) | (simp; omega) | omega)) | ((with_reducible refine Below.alloc ?_ ?hs _); (case hs => first | (simp; done) | (simp; omega) | omega)))⟩
          · go_enter Tryd.func59, Tryd.ntmps59
            go_wp2
            go_ret
            exact ⟨rfl, by repeat (first | (with_reducible first | exact Below.refl _ _ | assumption | exact ext_box _) | (with_reducible apply Below.drew) | ((with_reducible refine Below.setCell ?_ ?hs _); (case hs => first | (simp; done) | (simp; omega) | omega)) | ((with_reducible refine Below.alloc ?_ ?hs _); (case hs => first | (simp; done) | (simp; omega) | omega)))⟩
        · go_enter Tryd.func59, Tryd.ntmps59
          go_wp2
          go_ret
          exact ⟨rfl, by repeat (first | (with_reducible first | exact Below.refl _ _ | assumption | exact ext_box _) | (with_reducible apply Below.drew) | ((with_reducible refine Below.setCell ?_ ?hs _); (case hs => first | (simp; done) | (simp; omega) | omega)) | ((with_reducible refine Below.alloc ?_ ?hs _); (case hs => first | (simp; done) | (simp; omega) | omega)))⟩
      · by_cases h2 : k = 2
        · subst h2
          by_cases h5 : a < 0
          · go_enter Tryd.func59, Tryd.ntmps59
            go_wp2
            go_ret
            exact ⟨rfl, by repeat (first | (with_reducible first | exact Below.refl _ _ | assumption | exact ext_box _) | (with_reducible apply Below.drew) | ((with_reducible refine Below.setCell ?_ ?hs _); (case hs => first | (simp; done) | (simp; omega) | omega)) | ((with_reducible refine Below.alloc ?_ ?hs _); (case hs => first | (simp; done) | (simp; omega) | omega)))⟩
          · have h6 : n ≤ a := by omega
            go_enter Tryd.func59, Tryd.ntmps59
            go_wp2
            go_ret
            exact ⟨rfl, by repeat (first | (with_reducible first | exact Below.refl _ _ | assumption | exact ext_box _) | (with_reducible apply Below.drew) | ((with_reducible refine Below.setCell ?_ ?hs _); (case hs => first | (simp; done) | (simp; omega) | omega)) | ((with_reducible refine Below.alloc ?_ ?hs _); (case hs => first | (simp; done) | (simp; omega) | omega)))⟩
        · by_cases h5 : k < 1
          · go_enter Tryd.func59, Tryd.ntmps59
            go_wp2
            go_ret
            exact ⟨rfl, by repeat (first | (with_reducible first | exact Below.refl _ _ | assumption | exact ext_box _) | (with_reducible apply Below.drew) | ((with_reducible refine Below.setCell ?_ ?hs _); (case hs => first | (simp; done) | (simp; omega) | omega)) | ((with_reducible refine Below.alloc ?_ ?hs _); (case hs => first | (simp; done) | (simp; omega) | omega)))⟩
          · have h6 : 3 < k := by omega
            go_enter Tryd.func59, Tryd.ntmps59
            go_wp2
            go_ret
            exact ⟨rfl, by repeat (first | (with_reducible first | exact Below.refl _ _ | assumption | exact ext_box _) | (with_reducible apply Below.drew) | ((with_reducible refine Below.setCell ?_ ?hs _); (case hs => first | (simp; done) | (simp; omega) | omega)) | ((with_reducible refine Below.alloc ?_ ?hs _); (case hs => first | (simp; done) | (simp; omega) | omega)))⟩
end Go.Proofs.YtnbkgaofdkkdnaaDoor
