/- Contracts: validity of instructions and ends. -/
import Derived.Test.YtnbkgaofdkkdnaaDoorKt
namespace Go.Proofs.YtnbkgaofdkkdnaaDoor
open Go.RowKit
set_option linter.unusedSimpArgs false
set_option linter.unusedVariables false
set_option maxRecDepth 100000

def UsesOK (op : Int) (s : ByteArray) : Prop := s.size ≤ 3 ∧ (s.data.toList.contains 100 = usedD op) ∧ (s.data.toList.contains 97 = usedA op) ∧ (s.data.toList.contains 98 = usedB op) ∧ (s.data.toList.contains 105 = usedI op)
def UsesPost (op : Int) (w : World) (e : Ending) (w' : World) : Prop := ∃ s : ByteArray, e = .returned (.string s) ∧ w = w' ∧ UsesOK op s
theorem uses_c (op : Int) (w : World) : Calls Tryd.prog 103 #[.int .i64 op] w (UsesPost op w) := by
  go_enter Tryd.func103, Tryd.ntmps103
  go_wp2
  all_goals go_ret
  all_goals go_light
  all_goals refine ⟨_, rfl, rfl, by decide, ?_, ?_, ?_, ?_⟩
  all_goals simp only [beq_iff_eq, beq_eq_false_iff_ne, ne_eq] at *
  all_goals first
    | (have h : usedD op = true := (by simp [usedD]; omega); rw [h]; rfl)
    | (have h : usedD op = false := (by simp [usedD]; omega); rw [h]; rfl)
    | (have h : usedA op = true := (by simp [usedA]; omega); rw [h]; rfl)
    | (have h : usedA op = false := (by simp [usedA]; omega); rw [h]; rfl)
    | (have h : usedB op = true := (by simp [usedB]; omega); rw [h]; rfl)
    | (have h : usedB op = false := (by simp [usedB]; omega); rw [h]; rfl)
    | (have h : usedI op = true := (by simp [usedI]; omega); rw [h]; rfl)
    | (have h : usedI op = false := (by simp [usedI]; omega); rw [h]; rfl)
def hasB (s : ByteArray) (f : UInt8) : Bool := s.data.toList.contains f
def UsedPost (op : Int) (f : UInt8) (w : World) (e : Ending) (w' : World) : Prop := ∃ s : ByteArray, e = .returned (.bool (hasB s f)) ∧ w = w' ∧ UsesOK op s
theorem byte_at {s : ByteArray} {k : Nat} (h : k < s.size) : s.data.toList[k]? = some s[k] := by
  rw [List.getElem?_eq_getElem (by simpa using h)]; rfl
set_option maxHeartbeats 1000000 in
theorem used_any (op : Int) (f : UInt8) (w : World) : Calls Tryd.prog 82 #[.int .i64 op, .int .u8 f.toNat] w (UsedPost op f w) := by
  go_enter Tryd.func82, Tryd.ntmps82
  go_wp2_with (go_at_call 103; refine (uses_c _ _).mono ?_; rintro e w1 ⟨s, rfl, rfl, H⟩)
  have hs := H.1
  go_loop [6] (fun i => ∃ k : Nat, k ≤ s.size ∧ i = .int .i64 k ∧ f ∉ s.data.toList.take k) (fun i => s.size - (intOf i).toNat)
  case atStart => exact ⟨0, by omega, rfl, by simp⟩
  case round =>
    obtain ⟨k, hk, rfl, ht⟩ := hrel
    have HT := Lib.hid ht
    clear ht
    by_cases hlt : k < s.size
    · have HG := Lib.hid (byte_at hlt)
      by_cases he : s[k] = f
      · have hb : ((s[k].toNat : Int) == (f.toNat : Int)) = true := by simp [he]
        have HE := Lib.hid he
        clear he
        go_wp2
        go_ret
        refine ⟨s, ret_bool ?_, rfl, H⟩
        have := List.mem_of_getElem? HG.out
        rw [HE.out] at this
        simpa [hasB] using this
      · have hb : ((s[k].toNat : Int) == (f.toNat : Int)) = false := by simp; exact fun h => he (UInt8.toNat_inj.1 (by omega))
        have HE := Lib.hid he
        clear he
        go_wp2
        go_round
        case rel =>
          go_light
          refine ⟨k + 1, by omega, by go_num, ?_⟩
          rw [take_snoc HG.out]
          intro hm
          rcases List.mem_append.1 hm with hm | hm
          · exact HT.out hm
          · exact HE.out ((by simpa using hm : f = s[k]).symm)
        case measure => simp [intOf]; omega
    · go_wp2
      go_ret
      refine ⟨s, ret_bool ?_, rfl, H⟩
      have := HT.out
      rw [List.take_of_length_le (by simp; have : s.data.size = s.size := rfl; omega)] at this
      simpa [hasB] using this
theorem usedD_c (op : Int) (w : World) : Calls Tryd.prog 82 #[.int .i64 op, .int .u8 100] w fun e w' => e = .returned (.bool (usedD op)) ∧ w = w' :=
  (used_any op 100 w).mono fun e w' ⟨s, he, hw, h⟩ => ⟨by rw [he, hasB, h.2.1], hw⟩
theorem usedA_c (op : Int) (w : World) : Calls Tryd.prog 82 #[.int .i64 op, .int .u8 97] w fun e w' => e = .returned (.bool (usedA op)) ∧ w = w' :=
  (used_any op 97 w).mono fun e w' ⟨s, he, hw, h⟩ => ⟨by rw [he, hasB, h.2.2.1], hw⟩
theorem usedB_c (op : Int) (w : World) : Calls Tryd.prog 82 #[.int .i64 op, .int .u8 98] w fun e w' => e = .returned (.bool (usedB op)) ∧ w = w' :=
  (used_any op 98 w).mono fun e w' ⟨s, he, hw, h⟩ => ⟨by rw [he, hasB, h.2.2.2.1], hw⟩
theorem within_c (x lo hi : Int) (w : World) : Calls Tryd.prog 31 #[.int .i64 x, .int .i64 lo, .int .i64 hi] w fun e w' => e = .returned (.bool (decide (lo ≤ x ∧ x ≤ hi))) ∧ w = w' := by
  go_enter Tryd.func31, Tryd.ntmps31
  go_wp2
  all_goals go_ret
  all_goals go_light
  all_goals exact ⟨ret_bool (by simp; omega), rfl⟩
end Go.Proofs.YtnbkgaofdkkdnaaDoor
