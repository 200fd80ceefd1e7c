/- Contracts: sizes (laws.sz..). -/
import Derived.Test.YtnnfjjgohhicjaaDoorKt
namespace Go.Proofs.YtnnfjjgohhicjaaDoor
open Go.RowKit
set_option linter.unusedSimpArgs false
set_option linter.unusedVariables false
set_option maxRecDepth 100000

theorem szInstrS_c (A : Option Addr) (c n : Nat) (l : Int) (w : World) (hn : n ≤ 9223372036854775807) (h0 : 0 ≤ l) (h1 : l ≤ 1048576) :
    Calls Tryd.prog 102 #[.slice A n c, .int .i64 l] w fun e w' => e = .returned (.int .i64 (szN n l)) ∧ w = w' := by
  go_enter Tryd.func102, Tryd.ntmps102
  go_wp2
  all_goals go_ret
  all_goals go_light
  all_goals exact ⟨ret_int (by unfold szN; split <;> omega), rfl⟩
theorem szMBlock_c (A : Option Addr) (c : Nat) (b : MBlock) (l : Int) (w : World) (hn : b.instrs.length ≤ 9223372036854775807) (h0 : 0 ≤ l) (h1 : l ≤ 1048576) :
    Calls Tryd.prog 74 #[.agg #[.slice A b.instrs.length c, .int .i64 b.term.kind, .int .i64 b.term.a, .int .i64 b.term.to, .int .i64 b.term.els], .int .i64 l] w fun e w' => e = .returned (.int .i64 (szMB b l)) ∧ Below w.heap.size w w' := by
  have hb := szN_le b.instrs.length l h0
  go_enter Tryd.func74, Tryd.ntmps74
  go_wp2_with (go_at_call 102; refine (szInstrS_c _ _ _ _ _ hn h0 h1).mono ?_; rintro e w1 ⟨rfl, rfl⟩)
  all_goals go_ret
  all_goals go_light
  all_goals exact ⟨ret_int (by unfold szMB; omega), by repeat (first | (with_reducible first | exact Below.refl _ _ | assumption | exact ext_box _) | (with_reducible apply Below.drew) | ((with_reducible refine Below.setCell ?_ ?hs _); (case hs => first | (simp; done) | (simp; omega) | omega)) | ((with_reducible refine Below.alloc ?_ ?hs _); (case hs => first | (simp; done) | (simp; omega) | omega)))⟩
set_option maxHeartbeats 1000000 in
theorem szMBlockS_c (A : Option Addr) (c : Nat) (bs : List MBlock) (l : Int) (w : World) (hx : C (kMB 0) w A bs) (hn : bs.length ≤ 9223372036854775807) (hm : ∀ (i : Nat) b, bs[i]? = some b → b.instrs.length ≤ 9223372036854775807) (h0 : 0 ≤ l) (h1 : l ≤ 1048576) :
    Calls Tryd.prog 38 #[.slice A bs.length c, .int .i64 l] w fun e w' => e = .returned (.int .i64 (szS szMB bs l)) ∧ Below w.heap.size w w' := by
  by_cases hs : l - bs.length < 0
  · have HZ := Lib.hid (show szS szMB bs l = -1 by simp [szS, szN, hs])
    go_enter Tryd.func38, Tryd.ntmps38
    go_wp2
    go_ret
    exact ⟨ret_int HZ.out.symm, Below.refl _ _⟩
  · have HZ := Lib.hid (show szS szMB bs l = szL szMB bs (l - bs.length) by simp [szS, szN, hs])
    go_enter Tryd.func38, Tryd.ntmps38
    go_wp2
    go_loopw [1, 5] (fun t i wr => ∃ (k : Nat) (q : Int), k ≤ bs.length ∧ i = .int .i64 k ∧ t = .int .i64 q ∧ 0 ≤ q ∧ q ≤ 1048576 ∧ szL szMB (bs.drop k) q = szS szMB bs l ∧ ∃ u : Ext w, wr = u.w) (fun _ i _ => bs.length - (intOf i).toNat)
    case atStart => exact ⟨0, l - bs.length, by omega, rfl, rfl, by omega, by omega, HZ.out.symm, Ext.self w, rfl⟩
    case round =>
      obtain ⟨k, q, hk, rfl, rfl, q0, q1, hq, u, rfl⟩ := hrel
      have HQ := Lib.hid hq
      clear hq
      by_cases hlt : k < bs.length
      · obtain ⟨b, eb⟩ := get_of_lt hlt
        obtain ⟨a, _, rfl, ⟨_, _, rfl, ⟨A', c', rfl, l', r'⟩, rfl⟩, hc⟩ := (hx.ext u).at eb
        obtain ⟨p0, p1, p2, p3, p4⟩ := hc5 (n := k * 5) hc
        clear hc
        have mb := hm _ _ eb
        have hle := szMB_le b q q0
        have HD := Lib.hid (szL_drop (f := szMB) (l := q) eb)
        clear eb
        go_wp2_with (go_at_call 74; refine (szMBlock_c _ _ b _ _ mb q0 q1).mono ?_; rintro e w1 ⟨rfl, hb1⟩)
        · go_ret
          exact ⟨ret_int (by rw [← HQ.out, HD.out, if_pos ‹_›]), Below.then_ u.hb hb1⟩
        · obtain ⟨u1, rfl⟩ := u.more hb1
          go_wp2
          go_roundw
          case rel => exact ⟨k + 1, szMB b q, by omega, by go_num, rfl, by omega, by omega, by rw [← HQ.out, HD.out, if_neg (by omega)], u1, rfl⟩
          case measure => simp [intOf]; omega
      · go_wp2
        go_ret
        exact ⟨ret_int (by rw [← HQ.out, List.drop_of_length_le (by omega)]; rfl), u.hb⟩
theorem szMach_c (A : Option Addr) (c : Nat) (m : Mach) (l : Int) (w : World) (hx : C (kMB 0) w A m.blocks) (hn : m.blocks.length ≤ 9223372036854775807) (hm : ∀ (i : Nat) b, m.blocks[i]? = some b → b.instrs.length ≤ 9223372036854775807) (h0 : 0 ≤ l) (h1 : l ≤ 1048576) :
    Calls Tryd.prog 9 #[.agg #[.int .i64 m.regs, .slice A m.blocks.length c], .int .i64 l] w fun e w' => e = .returned (.int .i64 (szMach m l)) ∧ Below w.heap.size w w' := by
  have hz := szS_le szMB_le m.blocks l h0
  go_enter Tryd.func9, Tryd.ntmps9
  go_wp2_with (go_at_call 38; refine (szMBlockS_c _ _ _ _ _ (hx.below (by repeat (first | (with_reducible first | exact Below.refl _ _ | assumption | exact ext_box _) | (with_reducible apply Below.drew) | ((with_reducible refine Below.setCell ?_ ?hs _); (case hs => first | (simp; done) | (simp; omega) | omega)) | ((with_reducible refine Below.alloc ?_ ?hs _); (case hs => first | (simp; done) | (simp; omega) | omega))))) hn hm h0 h1).mono ?_; rintro e w1 ⟨rfl, hb1⟩; have HB1 : Below w.heap.size w w1 := Below.then_ (by repeat (first | (with_reducible first | exact Below.refl _ _ | assumption | exact ext_box _) | (with_reducible apply Below.drew) | ((with_reducible refine Below.setCell ?_ ?hs _); (case hs => first | (simp; done) | (simp; omega) | omega)) | ((with_reducible refine Below.alloc ?_ ?hs _); (case hs => first | (simp; done) | (simp; omega) | omega)))) hb1)
  all_goals go_ret
  all_goals go_light
  all_goals exact ⟨ret_int (by unfold szMach; omega), by assumption⟩
end Go.Proofs.YtnnfjjgohhicjaaDoor
