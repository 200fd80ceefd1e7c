/- Kinds of Phi and Block; contracts: sizes of a function's text (laws.sz..). -/
import Derived.Test.YtnbkgaofdkkdnaaDoorKs
namespace Go.Proofs.YtnbkgaofdkkdnaaDoor
open Go.RowKit
set_option linter.unusedSimpArgs false
set_option linter.unusedVariables false
set_option maxRecDepth 100000

def kPhi (e : TypeId) : Kd Phi := kIso (fun p => (p.dst, p.args)) (kProd (kInt .i64) (kSlice e (kInt .i64)))
def kBlock (e f g : TypeId) : Kd Block := kIso (fun b => (b.phis, (b.instrs, b.term))) (kProd (kSlice f (kPhi e)) (kProd (kSlice g kInstr) kTerm))
def okPhi (L : Nat) (p : Phi) : Prop := p.args.length ≤ L
def okBlk (L : Nat) (b : Block) : Prop := b.phis.length ≤ L ∧ (∀ (i : Nat) p, b.phis[i]? = some p → okPhi L p) ∧ b.instrs.length ≤ L
def szPhi (p : Phi) (left : Int) : Int := szN p.args.length left
def szBlk (b : Block) (left : Int) : Int := if szS szPhi b.phis left < 0 then -1 else szN b.instrs.length (szS szPhi b.phis left)
def szFunc (f : Func) (left : Int) : Int := szS szBlk f.blocks left
theorem szPhi_le (b : Phi) (l : Int) (h : 0 ≤ l) : szPhi b l ≤ l ∧ -1 ≤ szPhi b l := szN_le _ _ h
theorem szBlk_le (b : Block) (l : Int) (h : 0 ≤ l) : szBlk b l ≤ l ∧ -1 ≤ szBlk b l := by
  have h1 := szS_le szPhi_le b.phis l h
  unfold szBlk
  split
  · omega
  · have h2 := szN_le b.instrs.length (szS szPhi b.phis l) (by omega)
    omega
theorem szInt64S_c (A : Option Addr) (c n : Nat) (l : Int) (w : World) (hn : n ≤ 9223372036854775807) (h0 : 0 ≤ l) (h1 : l ≤ 1048576) :
    Calls Tryd.prog 111 #[.slice A n c, .int .i64 l] w fun e w' => e = .returned (.int .i64 (szN n l)) ∧ w = w' := by
  go_enter Tryd.func111, Tryd.ntmps111
  go_wp2
  all_goals go_ret
  all_goals go_light
  all_goals exact ⟨ret_int (by unfold szN; split <;> omega), rfl⟩
theorem szPhi_c (A : Option Addr) (c : Nat) (b : Phi) (l : Int) (w : World) (hn : okPhi 9223372036854775807 b) (h0 : 0 ≤ l) (h1 : l ≤ 1048576) :
    Calls Tryd.prog 106 #[.agg #[.int .i64 b.dst, .slice A b.args.length c], .int .i64 l] w fun e w' => e = .returned (.int .i64 (szPhi b l)) ∧ Below w.heap.size w w' := by
  have hb := szN_le b.args.length l h0
  go_enter Tryd.func106, Tryd.ntmps106
  go_wp2_with (go_at_call 111; refine (szInt64S_c _ _ _ _ _ hn h0 h1).mono ?_; rintro e w1 ⟨rfl, rfl⟩)
  all_goals go_ret
  all_goals go_light
  all_goals exact ⟨ret_int (by unfold szPhi; omega), by repeat (first | (with_reducible first | exact Below.refl _ _ | assumption | exact ext_box _) | (with_reducible apply Below.drew) | ((with_reducible refine Below.setCell ?_ ?hs _); (case hs => first | (simp; done) | (simp; omega) | omega)) | ((with_reducible refine Below.alloc ?_ ?hs _); (case hs => first | (simp; done) | (simp; omega) | omega)))⟩
set_option maxHeartbeats 1000000 in
theorem szPhiS_c (A : Option Addr) (c : Nat) (bs : List Phi) (l : Int) (w : World) (hx : C (kPhi 0) w A bs) (hn : bs.length ≤ 9223372036854775807) (hm : ∀ (i : Nat) b, bs[i]? = some b → okPhi 9223372036854775807 b) (h0 : 0 ≤ l) (h1 : l ≤ 1048576) :
    Calls Tryd.prog 91 #[.slice A bs.length c, .int .i64 l] w fun e w' => e = .returned (.int .i64 (szS szPhi bs l)) ∧ Below w.heap.size w w' := by
  by_cases hs : l - bs.length < 0
  · have HZ := Lib.hid (show szS szPhi bs l = -1 by simp [szS, szN, hs])
    go_enter Tryd.func91, Tryd.ntmps91
    go_wp2
    go_ret
    exact ⟨ret_int HZ.out.symm, Below.refl _ _⟩
  · have HZ := Lib.hid (show szS szPhi bs l = szL szPhi bs (l - bs.length) by simp [szS, szN, hs])
    go_enter Tryd.func91, Tryd.ntmps91
    go_wp2
    go_loopw [1, 5] (fun t i wr => ∃ (k : Nat) (q : Int), k ≤ bs.length ∧ i = .int .i64 k ∧ t = .int .i64 q ∧ 0 ≤ q ∧ q ≤ 1048576 ∧ szL szPhi (bs.drop k) q = szS szPhi bs l ∧ ∃ u : Ext w, wr = u.w) (fun _ i _ => bs.length - (intOf i).toNat)
    case atStart => exact ⟨0, l - bs.length, by omega, rfl, rfl, by omega, by omega, HZ.out.symm, Ext.self w, rfl⟩
    case round =>
      obtain ⟨k, q, hk, rfl, rfl, q0, q1, hq, u, rfl⟩ := hrel
      have HQ := Lib.hid hq
      clear hq
      by_cases hlt : k < bs.length
      · obtain ⟨b, eb⟩ := get_of_lt hlt
        obtain ⟨a, _, rfl, ⟨_, _, rfl, rfl, ⟨A', c', rfl, l', r'⟩⟩, hc⟩ := (hx.ext u).at eb
        obtain ⟨p0, p1⟩ := hc2 (n := k * 2) hc
        clear hc
        have mb := hm _ _ eb
        have hle := szPhi_le b q q0
        have HD := Lib.hid (szL_drop (f := szPhi) (l := q) eb)
        clear eb
        go_wp2_with (go_at_call 106; refine (szPhi_c _ _ b _ _ mb q0 q1).mono ?_; rintro e w1 ⟨rfl, hb1⟩)
        · go_ret
          exact ⟨ret_int (by rw [← HQ.out, HD.out, if_pos ‹_›]), Below.then_ u.hb hb1⟩
        · obtain ⟨u1, rfl⟩ := u.more hb1
          go_wp2
          go_roundw
          case rel => exact ⟨k + 1, szPhi b q, by omega, by go_num, rfl, by omega, by omega, by rw [← HQ.out, HD.out, if_neg (by omega)], u1, rfl⟩
          case measure => simp [intOf]; omega
      · go_wp2
        go_ret
        exact ⟨ret_int (by rw [← HQ.out, List.drop_of_length_le (by omega)]; rfl), u.hb⟩
set_option maxHeartbeats 1000000 in
theorem szBlock_c (A A1 : Option Addr) (c c1 : Nat) (b : Block) (l : Int) (w : World) (hx : C (kPhi 0) w A b.phis) (hn : okBlk 9223372036854775807 b) (h0 : 0 ≤ l) (h1 : l ≤ 1048576) :
    Calls Tryd.prog 56 #[.agg #[.slice A b.phis.length c, .slice A1 b.instrs.length c1, .int .i64 b.term.kind, .int .i64 b.term.a, .int .i64 b.term.to, .int .i64 b.term.els], .int .i64 l] w fun e w' => e = .returned (.int .i64 (szBlk b l)) ∧ Below w.heap.size w w' := by
  have hb := szS_le szPhi_le b.phis l h0
  obtain ⟨n1, n2, n3⟩ := hn
  have N2 := Lib.hid n2
  have HD : Hid (szBlk b l = if szS szPhi b.phis l < 0 then -1 else szN b.instrs.length (szS szPhi b.phis l)) := Lib.hid rfl
  clear n2
  by_cases hs : szS szPhi b.phis l < 0
  · go_enter Tryd.func56, Tryd.ntmps56
    go_wp2_with (go_at_call 91; refine (szPhiS_c _ _ b.phis _ _ (hx.below (by repeat (first | (with_reducible first | exact Below.refl _ _ | assumption | exact ext_box _) | (with_reducible apply Below.drew) | ((with_reducible refine Below.setCell ?_ ?hs _); (case hs => first | (simp; done) | (simp; omega) | omega)) | ((with_reducible refine Below.alloc ?_ ?hs _); (case hs => first | (simp; done) | (simp; omega) | omega))))) n1 N2.out h0 h1).mono ?_; rintro e w1 ⟨rfl, hb1⟩; have HB1 := Below.then_ (w := w) (by repeat (first | (with_reducible first | exact Below.refl _ _ | assumption | exact ext_box _) | (with_reducible apply Below.drew) | ((with_reducible refine Below.setCell ?_ ?hs _); (case hs => first | (simp; done) | (simp; omega) | omega)) | ((with_reducible refine Below.alloc ?_ ?hs _); (case hs => first | (simp; done) | (simp; omega) | omega)))) hb1; obtain ⟨hc1, hf1⟩ := bcell hb1; have zw1 : w.heap.size < w1.heap.size := (by have := hb1.size; (try simp at this); omega))
    go_ret
    exact ⟨ret_int (by rw [HD.out, if_pos hs]), HB1⟩
  · have hb2 := szN_le b.instrs.length (szS szPhi b.phis l) (by omega)
    rw [if_neg hs] at HD
    go_enter Tryd.func56, Tryd.ntmps56
    go_wp2_with (first | (go_at_call 91; refine (szPhiS_c _ _ b.phis _ _ (hx.below (by repeat (first | (with_reducible first | exact Below.refl _ _ | assumption | exact ext_box _) | (with_reducible apply Below.drew) | ((with_reducible refine Below.setCell ?_ ?hs _); (case hs => first | (simp; done) | (simp; omega) | omega)) | ((with_reducible refine Below.alloc ?_ ?hs _); (case hs => first | (simp; done) | (simp; omega) | omega))))) n1 N2.out h0 h1).mono ?_; rintro e w1 ⟨rfl, hb1⟩; have HB1 := Below.then_ (w := w) (by repeat (first | (with_reducible first | exact Below.refl _ _ | assumption | exact ext_box _) | (with_reducible apply Below.drew) | ((with_reducible refine Below.setCell ?_ ?hs _); (case hs => first | (simp; done) | (simp; omega) | omega)) | ((with_reducible refine Below.alloc ?_ ?hs _); (case hs => first | (simp; done) | (simp; omega) | omega)))) hb1; obtain ⟨hc1, hf1⟩ := bcell hb1; have zw1 : w.heap.size < w1.heap.size := (by have := hb1.size; (try simp at this); omega)) | (go_at_call 92; refine (szInstrS_c _ _ _ _ _ n3 (by omega) (by omega)).mono ?_; rintro e w1 ⟨rfl, rfl⟩))
    all_goals go_ret
    all_goals exact ⟨ret_int (by rw [HD.out]; (try omega)), HB1⟩
set_option maxHeartbeats 1000000 in
theorem szBlockS_c (A : Option Addr) (c : Nat) (bs : List Block) (l : Int) (w : World) (hx : C (kBlock 0 0 0) w A bs) (hn : bs.length ≤ 9223372036854775807) (hm : ∀ (i : Nat) b, bs[i]? = some b → okBlk 9223372036854775807 b) (h0 : 0 ≤ l) (h1 : l ≤ 1048576) :
    Calls Tryd.prog 25 #[.slice A bs.length c, .int .i64 l] w fun e w' => e = .returned (.int .i64 (szS szBlk bs l)) ∧ Below w.heap.size w w' := by
  by_cases hs : l - bs.length < 0
  · have HZ := Lib.hid (show szS szBlk bs l = -1 by simp [szS, szN, hs])
    go_enter Tryd.func25, Tryd.ntmps25
    go_wp2
    go_ret
    exact ⟨ret_int HZ.out.symm, Below.refl _ _⟩
  · have HZ := Lib.hid (show szS szBlk bs l = szL szBlk bs (l - bs.length) by simp [szS, szN, hs])
    go_enter Tryd.func25, Tryd.ntmps25
    go_wp2
    go_loopw [1, 5] (fun t i wr => ∃ (k : Nat) (q : Int), k ≤ bs.length ∧ i = .int .i64 k ∧ t = .int .i64 q ∧ 0 ≤ q ∧ q ≤ 1048576 ∧ szL szBlk (bs.drop k) q = szS szBlk bs l ∧ ∃ u : Ext w, wr = u.w) (fun _ i _ => bs.length - (intOf i).toNat)
    case atStart => exact ⟨0, l - bs.length, by omega, rfl, rfl, by omega, by omega, HZ.out.symm, Ext.self w, rfl⟩
    case round =>
      obtain ⟨k, q, hk, rfl, rfl, q0, q1, hq, u, rfl⟩ := hrel
      have HQ := Lib.hid hq
      clear hq
      by_cases hlt : k < bs.length
      · obtain ⟨b, eb⟩ := get_of_lt hlt
        obtain ⟨a, _, rfl, ⟨_, _, rfl, ⟨A1', c1', rfl, l1', r1'⟩, _, _, rfl, ⟨A2', c2', rfl, l2', r2'⟩, rfl⟩, hc⟩ := (hx.ext u).at eb
        obtain ⟨p0, p1, p2, p3, p4, p5⟩ := hc6 (n := k * 6) hc
        clear hc
        have mb := hm _ _ eb
        have hle := szBlk_le b q q0
        have HD := Lib.hid (szL_drop (f := szBlk) (l := q) eb)
        clear eb
        go_wp2_with (go_at_call 56; refine (szBlock_c _ _ _ _ b _ _ r1' mb q0 q1).mono ?_; rintro e w1 ⟨rfl, hb1⟩)
        · go_ret
          exact ⟨ret_int (by rw [← HQ.out, HD.out, if_pos ‹_›]), Below.then_ u.hb hb1⟩
        · obtain ⟨u1, rfl⟩ := u.more hb1
          go_wp2
          go_roundw
          case rel => exact ⟨k + 1, szBlk b q, by omega, by go_num, rfl, by omega, by omega, by rw [← HQ.out, HD.out, if_neg (by omega)], u1, rfl⟩
          case measure => simp [intOf]; omega
      · go_wp2
        go_ret
        exact ⟨ret_int (by rw [← HQ.out, List.drop_of_length_le (by omega)]; rfl), u.hb⟩
theorem szFunc_c (A : Option Addr) (c : Nat) (m : Func) (l : Int) (w : World) (hx : C (kBlock 0 0 0) w A m.blocks) (hn : m.blocks.length ≤ 9223372036854775807) (hm : ∀ (i : Nat) b, m.blocks[i]? = some b → okBlk 9223372036854775807 b) (h0 : 0 ≤ l) (h1 : l ≤ 1048576) :
    Calls Tryd.prog 7 #[.agg #[.int .i64 m.values, .slice A m.blocks.length c], .int .i64 l] w fun e w' => e = .returned (.int .i64 (szFunc m l)) ∧ Below w.heap.size w w' := by
  have hb := szS_le szBlk_le m.blocks l h0
  have HD : Hid (szFunc m l = szS szBlk m.blocks l) := Lib.hid rfl
  go_enter Tryd.func7, Tryd.ntmps7
  go_wp2_with (go_at_call 25; refine (szBlockS_c _ _ m.blocks _ _ (hx.below (by repeat (first | (with_reducible first | exact Below.refl _ _ | assumption | exact ext_box _) | (with_reducible apply Below.drew) | ((with_reducible refine Below.setCell ?_ ?hs _); (case hs => first | (simp; done) | (simp; omega) | omega)) | ((with_reducible refine Below.alloc ?_ ?hs _); (case hs => first | (simp; done) | (simp; omega) | omega))))) hn hm h0 h1).mono ?_; rintro e w1 ⟨rfl, hb1⟩; have HB1 := Below.then_ (w := w) (by repeat (first | (with_reducible first | exact Below.refl _ _ | assumption | exact ext_box _) | (with_reducible apply Below.drew) | ((with_reducible refine Below.setCell ?_ ?hs _); (case hs => first | (simp; done) | (simp; omega) | omega)) | ((with_reducible refine Below.alloc ?_ ?hs _); (case hs => first | (simp; done) | (simp; omega) | omega)))) hb1)
  all_goals go_ret
  all_goals exact ⟨ret_int (by rw [HD.out]; (try omega)), HB1⟩
end Go.Proofs.YtnbkgaofdkkdnaaDoor
