/- Contracts: impl.arith, spec.l1Arith, spec.l1Cell, spec.l1ArgOf, impl.runnable, spec.l1BadRun. -/
import Derived.Test.YtnnfjjgohhicjaaDoorKi
import Derived.Test.YtnnfjjgohhicjaaDoorRw
namespace Go.Proofs.YtnnfjjgohhicjaaDoor
open Go.RowKit
set_option linter.unusedSimpArgs false
set_option linter.unusedVariables false
set_option maxRecDepth 100000

theorem arithI_c (op a b : Int) (w : World) (h1 : 3 ≤ op) (h2 : op ≤ 7) (h : op = 6 → b ≠ 0) : Calls Tryd.prog 112 #[.int .i64 op, .int .i64 a, .int .i64 b] w fun e w' => e = .returned (.int .i64 (arithP op a b)) ∧ w = w' := by
  rcases (by omega : op = 3 ∨ op = 4 ∨ op = 5 ∨ op = 6 ∨ op = 7) with rfl | rfl | rfl | rfl | rfl
  · go_enter Tryd.func112, Tryd.ntmps112
    go_wp2
    go_ret
    exact ⟨rfl, rfl⟩
  · go_enter Tryd.func112, Tryd.ntmps112
    go_wp2
    go_ret
    exact ⟨rfl, rfl⟩
  · go_enter Tryd.func112, Tryd.ntmps112
    go_wp2
    go_ret
    exact ⟨rfl, rfl⟩
  · have hb := h rfl
    clear h h1 h2
    go_enter Tryd.func112, Tryd.ntmps112
    go_wp2
    go_ret
    exact ⟨rfl, rfl⟩
  · by_cases hl : a < b
    · go_enter Tryd.func112, Tryd.ntmps112
      go_wp2
      go_ret
      exact ⟨ret_int (by simp [arithP, hl]), rfl⟩
    · go_enter Tryd.func112, Tryd.ntmps112
      go_wp2
      go_ret
      exact ⟨ret_int (by simp [arithP, hl]), rfl⟩
theorem arithS_c (op a b : Int) (w : World) (h1 : 3 ≤ op) (h2 : op ≤ 7) (h : op = 6 → b ≠ 0) : Calls Tryd.prog 95 #[.int .i64 op, .int .i64 a, .int .i64 b] w fun e w' => e = .returned (.int .i64 (arithP op a b)) ∧ w = w' := by
  rcases (by omega : op = 3 ∨ op = 4 ∨ op = 5 ∨ op = 6 ∨ op = 7) with rfl | rfl | rfl | rfl | rfl
  · go_enter Tryd.func95, Tryd.ntmps95
    go_wp2
    go_ret
    exact ⟨rfl, rfl⟩
  · go_enter Tryd.func95, Tryd.ntmps95
    go_wp2
    go_ret
    exact ⟨rfl, rfl⟩
  · go_enter Tryd.func95, Tryd.ntmps95
    go_wp2
    go_ret
    exact ⟨rfl, rfl⟩
  · have hb := h rfl
    clear h h1 h2
    by_cases h1 : b = -1
    · have HB := Lib.hid h1
      have h1' : (b == -1) = true := by simp [h1]
      clear h1
      go_enter Tryd.func95, Tryd.ntmps95
      go_wp2
      go_ret
      exact ⟨ret_int (by rw [HB.out]; simp [arithP]), rfl⟩
    · have h1' : (b == -1) = false := by simp [h1]
      go_enter Tryd.func95, Tryd.ntmps95
      go_wp2
      go_ret
      exact ⟨rfl, rfl⟩
  · by_cases hl : a < b
    · go_enter Tryd.func95, Tryd.ntmps95
      go_wp2
      go_ret
      exact ⟨ret_int (by simp [arithP, hl]), rfl⟩
    · go_enter Tryd.func95, Tryd.ntmps95
      go_wp2
      go_ret
      exact ⟨ret_int (by simp [arithP, hl]), rfl⟩
theorem cellS_c (a : Int) (w : World) : Calls Tryd.prog 94 #[.int .i64 a] w fun e w' => e = .returned (.int .i64 (a % 32)) ∧ w = w' := by
  have h1 := Int.tmod_eq_emod (a := a) (b := 32)
  have h2 : -32 < a.tmod 32 ∧ a.tmod 32 < 32 := by split at h1 <;> omega
  have h3 := mod32 a
  by_cases h0 : a.tmod 32 < 0
  · have HE := Lib.hid (show a.tmod 32 + 32 = a % 32 by split at h1 <;> omega)
    clear h1
    obtain ⟨h4, h5⟩ := h2
    go_enter Tryd.func94, Tryd.ntmps94
    go_wp2
    go_ret
    exact ⟨ret_int HE.out, rfl⟩
  · have HE := Lib.hid (show a.tmod 32 = a % 32 by split at h1 <;> omega)
    clear h1
    obtain ⟨h4, h5⟩ := h2
    go_enter Tryd.func94, Tryd.ntmps94
    go_wp2
    go_ret
    exact ⟨ret_int HE.out, rfl⟩
theorem argOf_c (A : Option Addr) (c : Nat) (xs : List Int) (i : Int) (w : World) (hx : C kI64 w A xs) (h0 : 0 ≤ i) (h8 : i < 8) (hn : xs.length ≤ 1048576) : Calls Tryd.prog 93 #[.slice A xs.length c, .int .i64 i] w fun e w' => e = .returned (.int .i64 (getI xs i)) ∧ w = w' := by
  obtain ⟨k, rfl⟩ : ∃ k : Nat, i = k := ⟨i.toNat, by omega⟩
  by_cases hlt : k < xs.length
  · obtain ⟨y, ey⟩ := get_of_lt hlt
    obtain ⟨a, _, rfl, rfl, hc⟩ := hx.at ey
    have p0 := hc1 (n := k * 1) hc
    rw [Nat.mul_one] at p0
    have HY := Lib.hid (show y = getI xs (k : Int) by have := getI_get (l := xs) (i := k) (by simpa using hlt); simp at this; rw [this] at ey; exact (Option.some.inj ey).symm)
    clear hc ey
    go_enter Tryd.func93, Tryd.ntmps93
    go_wp2
    go_ret
    exact ⟨ret_int HY.out, rfl⟩
  · have HY := Lib.hid (show getI xs (k : Int) = 0 by unfold getI; rw [List.getD_eq_getElem?_getD, List.getElem?_eq_none (by simp; omega)]; rfl)
    go_enter Tryd.func93, Tryd.ntmps93
    go_wp2
    go_ret
    exact ⟨ret_int HY.out.symm, rfl⟩
def runOK (a h : Nat) (f : Int) : Bool := decide (a ≤ 8) && decide (h ≤ 32) && decide (0 ≤ f ∧ f ≤ 60000)
theorem runOK_iff {a h : Nat} {f : Int} : runOK a h f = true ↔ a ≤ 8 ∧ h ≤ 32 ∧ 0 ≤ f ∧ f ≤ 60000 := by simp [runOK, and_assoc]
theorem runOK_not {a h : Nat} {f : Int} : runOK a h f = false ↔ ¬ (a ≤ 8 ∧ h ≤ 32 ∧ 0 ≤ f ∧ f ≤ 60000) := by rw [← runOK_iff]; simp
theorem badRun_c (A H : Option Addr) (a h ca ch : Nat) (f : Int) (w : World) (ha : a ≤ 1048576) (hh : h ≤ 1048576) : Calls Tryd.prog 63 #[.slice A a ca, .slice H h ch, .int .i64 f] w fun e w' => e = .returned (.bool (!runOK a h f)) ∧ w = w' := by
  by_cases h1 : a ≤ 8
  · by_cases h2 : h ≤ 32
    · by_cases h3 : 0 ≤ f
      · by_cases h4 : f ≤ 60000
        · have HR := Lib.hid (runOK_iff.2 ⟨h1, h2, h3, h4⟩)
          go_enter Tryd.func63, Tryd.ntmps63
          go_wp2
          go_ret
          exact ⟨ret_bool (by rw [HR.out]; first | rfl | (simp; omega)), rfl⟩
        · have HR := Lib.hid (runOK_not.2 (fun (hh : a ≤ 8 ∧ h ≤ 32 ∧ 0 ≤ f ∧ f ≤ 60000) => h4 hh.2.2.2))
          go_enter Tryd.func63, Tryd.ntmps63
          go_wp2
          go_ret
          exact ⟨ret_bool (by rw [HR.out]; rfl), rfl⟩
      · have HR := Lib.hid (runOK_not.2 (fun (hh : a ≤ 8 ∧ h ≤ 32 ∧ 0 ≤ f ∧ f ≤ 60000) => h3 hh.2.2.1))
        go_enter Tryd.func63, Tryd.ntmps63
        go_wp2
        go_ret
        exact ⟨ret_bool (by rw [HR.out]; rfl), rfl⟩
    · have HR := Lib.hid (runOK_not.2 (fun (hh : a ≤ 8 ∧ h ≤ 32 ∧ 0 ≤ f ∧ f ≤ 60000) => h2 hh.2.1))
      go_enter Tryd.func63, Tryd.ntmps63
      go_wp2
      go_ret
      exact ⟨ret_bool (by rw [HR.out]; rfl), rfl⟩
  · have HR := Lib.hid (runOK_not.2 (fun (hh : a ≤ 8 ∧ h ≤ 32 ∧ 0 ≤ f ∧ f ≤ 60000) => h1 hh.1))
    go_enter Tryd.func63, Tryd.ntmps63
    go_wp2
    go_ret
    exact ⟨ret_bool (by rw [HR.out]; rfl), rfl⟩
theorem runnable_c (A H : Option Addr) (a h ca ch : Nat) (f : Int) (w : World) (ha : a ≤ 1048576) (hh : h ≤ 1048576) : Calls Tryd.prog 66 #[.slice A a ca, .slice H h ch, .int .i64 f] w fun e w' => e = .returned (.bool (runOK a h f)) ∧ w = w' := by
  by_cases h1 : a ≤ 8
  · by_cases h2 : h ≤ 32
    · have HR := Lib.hid (show runOK a h f = decide (0 ≤ f ∧ f ≤ 60000) by simp [runOK, h1, h2])
      go_enter Tryd.func66, Tryd.ntmps66
      go_wp2_with (go_at_call 43; (with_reducible refine (within_c _ _ _ _).mono ?_); rintro e w1 ⟨rfl, rfl⟩)
      go_ret
      exact ⟨ret_bool (by rw [HR.out]; simp), rfl⟩
    · have HR := Lib.hid (runOK_not.2 (fun (hh : a ≤ 8 ∧ h ≤ 32 ∧ 0 ≤ f ∧ f ≤ 60000) => h2 hh.2.1))
      go_enter Tryd.func66, Tryd.ntmps66
      go_wp2
      go_ret
      exact ⟨ret_bool (by rw [HR.out]), rfl⟩
  · have HR := Lib.hid (runOK_not.2 (fun (hh : a ≤ 8 ∧ h ≤ 32 ∧ 0 ≤ f ∧ f ≤ 60000) => h1 hh.1))
    go_enter Tryd.func66, Tryd.ntmps66
    go_wp2
    go_ret
    exact ⟨ret_bool (by rw [HR.out]), rfl⟩
end Go.Proofs.YtnnfjjgohhicjaaDoor
