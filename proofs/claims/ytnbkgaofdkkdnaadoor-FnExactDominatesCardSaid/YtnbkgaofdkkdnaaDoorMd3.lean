/- Contract: spec.Dominates. -/
import Derived.Test.YtnbkgaofdkkdnaaDoorHn
import Derived.Test.YtnbkgaofdkkdnaaDoorMd2
import Derived.Test.YtnbkgaofdkkdnaaDoorHf
import Derived.Test.YtnbkgaofdkkdnaaDoorHd
import Derived.StillTailTactics
import Derived.Deep.DeepCutAuto
import Derived.Deep.RegionHeld3
import Derived.Test.YtnbkgaofdkkdnaaDoorMd1
namespace Go.Proofs.YtnbkgaofdkkdnaaDoor
open Go.RowKit
set_option linter.unusedSimpArgs false
set_option linter.unusedVariables false
set_option maxRecDepth 100000
open Dom

theorem validF_okt {m : Func} (h : validF m = true) : OkT m.blocks ∧ 0 < m.blocks.length ∧ m.blocks.length ≤ 1000 := by
  obtain ⟨-, h2, -, h4, -⟩ := validF_iff.1 h
  refine ⟨fun i b hb q hq => ?_, by omega, h2.2⟩
  have h5 := h4 i b hb
  rw [blkOK, Bool.and_eq_true, Bool.and_eq_true] at h5
  have h6 := (goodTerm_iff _ _ _ _).1 h5.2.1
  unfold GoodTerm at h6
  unfold targets at hq
  split at hq
  · simp at hq; subst hq; omega
  · split at hq
    · simp at hq; omega
    · simp at hq
def domP (m : Func) (a b : Int) : Prop := validF m = true ∧ (0 ≤ a ∧ a < m.blocks.length) ∧ (0 ≤ b ∧ b < m.blocks.length) ∧ RA (succB m.blocks) none a.toNat ∧ RA (succB m.blocks) none b.toNat ∧ ¬ RA (succB m.blocks) (some a.toNat) b.toNat
open Classical in
noncomputable def domF (m : Func) (a b : Int) : Bool := decide (domP m a b)
theorem domF_true {m : Func} {a b : Int} (h : domP m a b) : domF m a b = true := by unfold domF; simp [h]
theorem domF_false {m : Func} {a b : Int} (h : ¬ domP m a b) : domF m a b = false := by unfold domF; simp [h]
def RetD (P : Prop) (w : World) (e : Ending) (w' : World) : Prop := (∃ r : Bool, e = .returned (.bool r) ∧ (r = true ↔ P)) ∧ Below w.heap.size w w'
set_option maxHeartbeats 2000000 in
theorem dominates_c (a : FlowA) (bs : List Block) (par : Nat → Option Nat) (post dep : Nat → Nat) (L : List Bool) (I Q D : List Int) (vo : Value) (fo : List Nat) (W0 w : World) (hR : FlowR a bs par post dep L I Q D vo fo W0 w) (x y : Nat) (hx : RA (succB bs) none x) (hy : RA (succB bs) none y) (hn : bs.length ≤ 1048576) :
    Calls Tryd.prog 33 #[.pointer (some ⟨a.g, 0, none⟩), .int .i64 x, .int .i64 y] w (RetD (Anc par y x) w) := by
  have HF := Lib.hid (fun u : Ext w => hR.flow.below u.hb)
  have HP := Lib.hid hR.says
  have HLT : Hid (∀ z, RA (succB bs) none z → z < bs.length) := Lib.hid fun z hz => by have := mk_lt ((hR.says.mks z).2 hz); rw [hR.says.llen] at this; exact this
  have ex := hR.says.dD x hx
  have HEX := Lib.hid ex
  have hxn := HLT.out x hx
  have hyn := HLT.out y hy
  clear hR ex
  go_enter Tryd.func33, Tryd.ntmps33
  go_wp2
  go_loopw [2] (fun vb wr => ∃ (z : Nat) (u : Ext w), vb = .int .i64 z ∧ z < bs.length ∧ RA (succB bs) none z ∧ (Anc par z x ↔ Anc par y x) ∧ wr = u.w) (fun vb _ => dep (intOf vb).toNat)
  case atStart => exact ⟨y, Ext.self w, rfl, hyn, hy, Iff.rfl, rfl⟩
  case round =>
    obtain ⟨z, u, rfl, hzn, hz, hiff, rfl⟩ := hrel
    have HI := Lib.hid hiff
    have KG := fun v : Ext u.w => ((HF.out u).below v.hb).cells.2.2.2.2.2
    have KX := fun v : Ext u.w => (((HF.out u).below v.hb).getD HEX.out).1
    have KZ := fun v : Ext u.w => (((HF.out u).below v.hb).getD (HP.out.dD z hz)).1
    clear hiff
    by_cases hl : dep x < dep z
    · obtain ⟨p, hp0, hp1, hp2, hp3, hp4, hp5⟩ := HP.out.step hz hl
      have KI := fun v : Ext u.w => (((HF.out u).below v.hb).getI hp2).1
      have KJ := fun v : Ext u.w => ((HF.out u).below v.hb).cells.2.1
      have hpn := HLT.out p hp3
      have HP3 := Lib.hid hp3
      have HP5 := Lib.hid hp5
      clear hp1 hp2 hp3 hp5
      go_wp2
      refine wp_region_ext (W := u.w) (by kernel_rfl) (by kernel_rfl) ⟨Ext.self u.w, rfl⟩ ?_
      (repeat (rw [wpQuiet_cons]; go_simp)); rw [wpQuiet_nil']
      intro u2
      have ki := KI u2
      have kj := KJ u2
      go_wp2
      go_roundw
      case rel => exact ⟨p, ⟨u2.w, u.hb.trans (u2.hb.mono u.hb.size)⟩, rfl, hpn, HP3.out, HP5.out.symm.trans HI.out, rfl⟩
      case measure => simp [intOf]; omega
    · have HS := Lib.hid ((HP.out.hdep.stop (a := x) (b := z) (by omega)).symm.trans HI.out)
      go_wp2
      refine wp_region_ext (W := u.w) (by kernel_rfl) (by kernel_rfl) ⟨Ext.self u.w, rfl⟩ ?_
      (repeat (rw [wpQuiet_cons]; go_simp)); rw [wpQuiet_nil']
      intro u2
      go_wp2
      go_ret
      refine ⟨⟨_, rfl, ?_⟩, u.hb.trans (u2.hb.mono u.hb.size)⟩
      rw [← HS.out]
      simp
      omega
set_option maxHeartbeats 4000000 in
theorem domI_c (A : Option Addr) (c : Nat) (m : Func) (a b : Int) (w : World) (hx : C (kBlock 0 0 0) w A m.blocks) (hS : Shapes w) (hm : m.blocks.length ≤ 1048576) (hs : ∀ (i : Nat) b, m.blocks[i]? = some b → okBlk 1048576 b) :
    Calls Tryd.prog 10 #[.agg #[.int .i64 m.values, .slice A m.blocks.length c], .int .i64 a, .int .i64 b] w fun e w' => e = .returned (.bool (domF m a b)) ∧ Below w.heap.size w w' := by
  have HVF := Lib.hid (fun W (h : Below w.heap.size w W) => validF_i A c m W (hx.below h) (hS.below h hS.pos) hm hs)
  by_cases hv : validF m = true
  · obtain ⟨hok, hp, hn⟩ := validF_okt hv
    rw [hv] at HVF
    by_cases ha : 0 ≤ a ∧ a ≤ (m.blocks.length : Int) - 1
    · by_cases hb : 0 ≤ b ∧ b ≤ (m.blocks.length : Int) - 1
      · have da : decide (0 ≤ a ∧ a ≤ (m.blocks.length : Int) - 1) = true := by simp; omega
        have db : decide (0 ≤ b ∧ b ≤ (m.blocks.length : Int) - 1) = true := by simp; omega
        obtain ⟨x, rfl⟩ : ∃ x : Nat, a = x := ⟨a.toNat, by omega⟩
        obtain ⟨y, rfl⟩ : ∃ y : Nat, b = y := ⟨b.toNat, by omega⟩
        have HFL := Lib.hid (fun W (h : Below w.heap.size w W) => flowOf_c m.values A c m.blocks W (hx.below h) hok hp hm)
        have hxn : x < m.blocks.length := by omega
        have hyn : y < m.blocks.length := by omega
        go_enter Tryd.func10, Tryd.ntmps10
        go_upto_region 5 with (first
          | (go_at_call 30; refine (HVF.out _ (by (repeat (first | (with_reducible first | exact Below.refl _ _ | assumption | exact ext_box _) | (with_reducible apply Below.drew) | ((with_reducible refine Below.setCell ?_ ?hs _); (case hs => first | (simp; done) | (simp; omega) | omega)) | ((with_reducible refine Below.alloc ?_ ?hs _); (case hs => first | (simp; done) | (simp; omega) | omega)))))).mono ?_; rintro e w1 ⟨rfl, hb1⟩; have HB1 := Below.then_ (w := w) (by (repeat (first | (with_reducible first | exact Below.refl _ _ | assumption | exact ext_box _) | (with_reducible apply Below.drew) | ((with_reducible refine Below.setCell ?_ ?hs _); (case hs => first | (simp; done) | (simp; omega) | omega)) | ((with_reducible refine Below.alloc ?_ ?hs _); (case hs => first | (simp; done) | (simp; omega) | omega))))) hb1; obtain ⟨hc1, hf1⟩ := bcell hb1; have zw1 : w.heap.size < w1.heap.size := (by have := hb1.size; (try simp at this); omega))
          | (go_at_call 31; (with_reducible refine (within_c _ _ _ _).mono ?_); rintro e w1 ⟨rfl, rfl⟩; rw [da])
          | (go_at_call 31; (with_reducible refine (within_c _ _ _ _).mono ?_); rintro e w1 ⟨rfl, rfl⟩; rw [db])
          | (go_at_call 32; refine (HFL.out _ HB1).mono ?_; rintro e w2 ⟨fa, par, post, dep, L, I, Q, D, vo, fo, rfl, hR, hb2⟩; have HB2 := HB1.trans (hb2.mono HB1.size)))
        obtain ⟨lx, elx⟩ := get_of_lt (xs := L) (k := x) (by rw [hR.flow.reach.len]; exact hxn)
        obtain ⟨ly, ely⟩ := get_of_lt (xs := L) (k := y) (by rw [hR.flow.reach.len]; exact hyn)
        have g3 := hR.flow.cells.2.2.2.1
        have qx := (hR.flow.getL elx).1
        have qy := (hR.flow.getL ely).1
        have HX : Hid (RA (succB m.blocks) none x ↔ lx = true) := Lib.hid (by rw [← hR.says.mks x]; unfold Mk; rw [List.getD_eq_getElem?_getD, elx]; simp)
        have HY : Hid (RA (succB m.blocks) none y ↔ ly = true) := Lib.hid (by rw [← hR.says.mks y]; unfold Mk; rw [List.getD_eq_getElem?_getD, ely]; simp)
        have HV := Lib.hid hv
        have HR := Lib.hid hR
        clear elx ely hv hR hok
        cases lx
        · go_wp2
          go_ret
          exact ⟨ret_bool (domF_false fun h => by have := HX.out.1 (by simpa using h.2.2.2.1); cases this).symm, HB2⟩
        · cases ly
          · go_wp2
            go_ret
            exact ⟨ret_bool (domF_false fun h => by have := HY.out.1 (by simpa using h.2.2.2.2.1); cases this).symm, HB2⟩
          · have HDO := Lib.hid (dominates_c fa m.blocks par post dep L I Q D vo fo w1 w2 HR.out x y (HX.out.2 (by first | rfl | trivial)) (HY.out.2 (by first | rfl | trivial)) hm)
            go_wp2_with (go_at_call 33; refine HDO.out.mono ?_; rintro e w3 ⟨⟨r, rfl, hr⟩, hb3⟩; have HRR := Lib.hid hr; clear hr)
            go_ret
            refine ⟨ret_bool ?_, HB2.trans (hb3.mono HB2.size)⟩
            have h1 := HRR.out.trans (HR.out.says.exact y x (HY.out.2 (by first | rfl | trivial)))
            cases r
            · refine (domF_false fun h => ?_).symm
              have h2 := h.2.2.2.2.2
              rw [Int.toNat_natCast, Int.toNat_natCast] at h2
              have := h1.2 h2
              cases this
            · refine (domF_true ⟨HV.out, by omega, by omega, ?_, ?_, ?_⟩).symm
              · rw [Int.toNat_natCast]; exact HX.out.2 (by first | rfl | trivial)
              · rw [Int.toNat_natCast]; exact HY.out.2 (by first | rfl | trivial)
              · rw [Int.toNat_natCast, Int.toNat_natCast]; exact h1.1 rfl
      · have da : decide (0 ≤ a ∧ a ≤ (m.blocks.length : Int) - 1) = true := by simp; omega
        have db : decide (0 ≤ b ∧ b ≤ (m.blocks.length : Int) - 1) = false := by simp; omega
        have HNO := Lib.hid (show domF m a b = false from domF_false fun h => by have := h.2.2.1; omega)
        clear hv hok
        go_enter Tryd.func10, Tryd.ntmps10
        go_wp2_with (first
          | (go_at_call 30; refine (HVF.out _ (by (repeat (first | (with_reducible first | exact Below.refl _ _ | assumption | exact ext_box _) | (with_reducible apply Below.drew) | ((with_reducible refine Below.setCell ?_ ?hs _); (case hs => first | (simp; done) | (simp; omega) | omega)) | ((with_reducible refine Below.alloc ?_ ?hs _); (case hs => first | (simp; done) | (simp; omega) | omega)))))).mono ?_; rintro e w1 ⟨rfl, hb1⟩; have HB1 := Below.then_ (w := w) (by (repeat (first | (with_reducible first | exact Below.refl _ _ | assumption | exact ext_box _) | (with_reducible apply Below.drew) | ((with_reducible refine Below.setCell ?_ ?hs _); (case hs => first | (simp; done) | (simp; omega) | omega)) | ((with_reducible refine Below.alloc ?_ ?hs _); (case hs => first | (simp; done) | (simp; omega) | omega))))) hb1; obtain ⟨hc1, hf1⟩ := bcell hb1; have zw1 : w.heap.size < w1.heap.size := (by have := hb1.size; (try simp at this); omega))
          | (go_at_call 31; (with_reducible refine (within_c _ _ _ _).mono ?_); rintro e w1 ⟨rfl, rfl⟩; rw [da])
          | (go_at_call 31; (with_reducible refine (within_c _ _ _ _).mono ?_); rintro e w1 ⟨rfl, rfl⟩; rw [db]))
        go_ret
        exact ⟨ret_bool HNO.out.symm, HB1⟩
    · have da : decide (0 ≤ a ∧ a ≤ (m.blocks.length : Int) - 1) = false := by simp; omega
      have HNO := Lib.hid (show domF m a b = false from domF_false fun h => by have := h.2.1; omega)
      clear hv hok
      go_enter Tryd.func10, Tryd.ntmps10
      go_wp2_with (first
        | (go_at_call 30; refine (HVF.out _ (by (repeat (first | (with_reducible first | exact Below.refl _ _ | assumption | exact ext_box _) | (with_reducible apply Below.drew) | ((with_reducible refine Below.setCell ?_ ?hs _); (case hs => first | (simp; done) | (simp; omega) | omega)) | ((with_reducible refine Below.alloc ?_ ?hs _); (case hs => first | (simp; done) | (simp; omega) | omega)))))).mono ?_; rintro e w1 ⟨rfl, hb1⟩; have HB1 := Below.then_ (w := w) (by (repeat (first | (with_reducible first | exact Below.refl _ _ | assumption | exact ext_box _) | (with_reducible apply Below.drew) | ((with_reducible refine Below.setCell ?_ ?hs _); (case hs => first | (simp; done) | (simp; omega) | omega)) | ((with_reducible refine Below.alloc ?_ ?hs _); (case hs => first | (simp; done) | (simp; omega) | omega))))) hb1; obtain ⟨hc1, hf1⟩ := bcell hb1; have zw1 : w.heap.size < w1.heap.size := (by have := hb1.size; (try simp at this); omega))
        | (go_at_call 31; (with_reducible refine (within_c _ _ _ _).mono ?_); rintro e w1 ⟨rfl, rfl⟩; rw [da]))
      go_ret
      exact ⟨ret_bool HNO.out.symm, HB1⟩
  · have hv0 : validF m = false := by simpa using hv
    have HNO := Lib.hid (show domF m a b = false from domF_false fun h => hv h.1)
    rw [hv0] at HVF
    clear hv hv0
    go_enter Tryd.func10, Tryd.ntmps10
    go_wp2_with (first
      | (go_at_call 30; refine (HVF.out _ (by (repeat (first | (with_reducible first | exact Below.refl _ _ | assumption | exact ext_box _) | (with_reducible apply Below.drew) | ((with_reducible refine Below.setCell ?_ ?hs _); (case hs => first | (simp; done) | (simp; omega) | omega)) | ((with_reducible refine Below.alloc ?_ ?hs _); (case hs => first | (simp; done) | (simp; omega) | omega)))))).mono ?_; rintro e w1 ⟨rfl, hb1⟩; have HB1 := Below.then_ (w := w) (by (repeat (first | (with_reducible first | exact Below.refl _ _ | assumption | exact ext_box _) | (with_reducible apply Below.drew) | ((with_reducible refine Below.setCell ?_ ?hs _); (case hs => first | (simp; done) | (simp; omega) | omega)) | ((with_reducible refine Below.alloc ?_ ?hs _); (case hs => first | (simp; done) | (simp; omega) | omega))))) hb1; obtain ⟨hc1, hf1⟩ := bcell hb1; have zw1 : w.heap.size < w1.heap.size := (by have := hb1.size; (try simp at this); omega)))
    go_ret
    exact ⟨ret_bool HNO.out.symm, HB1⟩
end Go.Proofs.YtnbkgaofdkkdnaaDoor
namespace Go.Proofs.YtnbkgaofdkkdnaaDoor
open Go.RowKit
set_option linter.unusedSimpArgs false
set_option linter.unusedVariables false
set_option maxRecDepth 100000
open Dom

theorem targetsS_nat (t : Term) (ts : List Nat) (h : targets t = natI ts) (w : World) : Calls Tryd.prog 61 #[t.v] w fun e w' => ∃ (A : Option Addr) (c : Nat), e = .returned (.slice A ts.length c) ∧ C kI64 w' A (natI ts) ∧ (∀ a, A = some a → w.heap.size ≤ a.block ∧ a.block < w'.heap.size) ∧ Below w.heap.size w w' := by
  rw [← natI_len ts, ← h]
  clear h
  obtain ⟨k, a, tt, els⟩ := t
  by_cases h1 : k = 1
  · subst h1
    simp only [Term.v]
    go_enter Tryd.func61, Tryd.ntmps61
    go_wp2
    go_ret
    rw [show targets ⟨1, a, tt, els⟩ = [tt] from rfl]
    exact ⟨_, _, rfl, box_ints (W := w.alloc (.cells #[.int .i64 1, .int .i64 a, .int .i64 tt, .int .i64 els] 102)) [tt] (by simp), (by intro a h; cases h; simp), by repeat (first | (with_reducible first | exact Below.refl _ _ | assumption | exact ext_box _) | (with_reducible apply Below.drew) | ((with_reducible refine Below.setCell ?_ ?hs _); (case hs => first | (simp; done) | (simp; omega) | omega)) | ((with_reducible refine Below.alloc ?_ ?hs _); (case hs => first | (simp; done) | (simp; omega) | omega)))⟩
  · by_cases h2 : k = 2
    · subst h2
      simp only [Term.v]
      go_enter Tryd.func61, Tryd.ntmps61
      go_wp2
      go_ret
      rw [show targets ⟨2, a, tt, els⟩ = [tt, els] from rfl]
      exact ⟨_, _, rfl, box_ints (W := w.alloc (.cells #[.int .i64 2, .int .i64 a, .int .i64 tt, .int .i64 els] 102)) [tt, els] (by simp), (by intro a h; cases h; simp), by repeat (first | (with_reducible first | exact Below.refl _ _ | assumption | exact ext_box _) | (with_reducible apply Below.drew) | ((with_reducible refine Below.setCell ?_ ?hs _); (case hs => first | (simp; done) | (simp; omega) | omega)) | ((with_reducible refine Below.alloc ?_ ?hs _); (case hs => first | (simp; done) | (simp; omega) | omega)))⟩
    · have g1 : (k == 1) = false := by simp [h1]
      have g2 : (k == 2) = false := by simp [h2]
      simp only [Term.v]
      go_enter Tryd.func61, Tryd.ntmps61
      go_wp2
      go_ret
      exact ⟨_, _, by simp only [targets, h1, h2, if_false]; rfl, by simp only [targets, h1, h2, if_false]; exact C.nil _ _ _, (by intro a h; cases h; simp), by repeat (first | (with_reducible first | exact Below.refl _ _ | assumption | exact ext_box _) | (with_reducible apply Below.drew) | ((with_reducible refine Below.setCell ?_ ?hs _); (case hs => first | (simp; done) | (simp; omega) | omega)) | ((with_reducible refine Below.alloc ?_ ?hs _); (case hs => first | (simp; done) | (simp; omega) | omega)))⟩
def RetReach (succ : Nat → List Nat) (d : Option Nat) (n : Nat) (w : World) (e : Ending) (w' : World) : Prop :=
  ∃ (A : Option Addr) (c : Nat) (fp : List Nat) (F : List Nat), e = .returned (.slice A F.length c) ∧ Row 2 kI64 w' (.slice A F.length c) (natI F) fp ∧ (∀ q ∈ fp, w.heap.size ≤ q) ∧ (∀ x, x ∈ F ↔ RA succ d x) ∧ F.length ≤ n ∧ F.Nodup ∧ Below w.heap.size w w'
theorem info_boolR : (Tryd.prog.info? 4).map (fun i => (i.zero, i.size, i.bytes)) = some (some (.bool false), 1, 1) := by kernel_rfl
set_option maxHeartbeats 8000000 in
theorem reach_c (A : Option Addr) (c : Nat) (m : Func) (wo : Int) (d : Option Nat) (w : World) (hx : C (kBlock 0 0 0) w A m.blocks) (hok : OkT m.blocks) (hp : 0 < m.blocks.length) (hn : m.blocks.length ≤ 1048576) (hd : ∀ t : Nat, (t : Int) = wo ↔ d = some t) :
    Calls Tryd.prog 28 #[.agg #[.int .i64 m.values, .slice A m.blocks.length c], .int .i64 wo] w (RetReach (succB m.blocks) d m.blocks.length w) := by
  obtain ⟨i0, hi, hz0, hz1, hz2⟩ := info_parts info_i64
  obtain ⟨j0, hj', hy0, hy1, hy2⟩ := info_parts info_boolR
  have HOK := Lib.hid hok
  have HD := Lib.hid hd
  have HSU := Lib.hid (succB_lt hok)
  go_enter Tryd.func28, Tryd.ntmps28
  go_upto_if 12 with fail
  go_cut [5] (fun s5 wc => ∃ (v : Value) (fp : List Nat) (u : Ext (w.alloc (.cells #[.int .i64 m.values, .slice A m.blocks.length c] 29))), s5 = v ∧ Row 2 kI64 wc v (natI (if d = some 0 then [] else [0])) fp ∧ (∀ q ∈ fp, w.heap.size < q) ∧ wc = u.w)
  case first =>
    by_cases h0 : wo = 0
    · have hb : (wo != 0) = false := by simp [h0]
      have HF := Lib.hid (show d = some 0 from (hd 0).1 (by rw [h0]; rfl))
      clear h0 hd
      go_wp2
      go_meet
      refine ⟨_, [w.heap.size + 1], ⟨(w.alloc (.cells #[.int .i64 m.values, .slice A m.blocks.length c] 29)).alloc (.cells #[] 2), by repeat (first | (with_reducible first | exact Below.refl _ _ | assumption | exact ext_box _) | (with_reducible apply Below.drew) | ((with_reducible refine Below.setCell ?_ ?hs _); (case hs => first | (simp; done) | (simp; omega) | omega)) | ((with_reducible refine Below.alloc ?_ ?hs _); (case hs => first | (simp; done) | (simp; omega) | omega)))⟩, rfl, ?_, by simp, rfl⟩
      rw [if_pos HF.out]
      exact Row.empty0 (by simp)
    · have hb : (wo != 0) = true := by simp [h0]
      have HF := Lib.hid (show ¬ d = some 0 from fun e => h0 (((hd 0).2 e).symm))
      clear h0 hd
      go_wp2_with (at_builtin; refine wpList_append_row (kInt .i64) rfl _ _ 35 rfl 2 i0 _ 8 Tryd.underlying35 hi hz0 hz1 hz2 rfl (by decide) _ [] [w.heap.size + 1] rfl ((Row.empty0 (W := w.alloc (.cells #[.int .i64 m.values, .slice A m.blocks.length c] 29)) (by simp)).chg (S := fun _ => False) (by (repeat (first | (with_reducible first | exact Chg.refl _ _ | assumption) | (with_reducible refine Chg.drew ?_) | ((with_reducible refine Chg.setCell ?_ ?hs _); (case hs => first | (simp; done) | (simp; omega) | omega)) | (with_reducible refine Chg.alloc ?_ _)))) (by simp)) _ _ [.int .i64 0] (0 : Int) [] rfl ⟨rfl, rfl⟩ (by simp) (box_news (by simp)) (by simp [maxLen]) (by simp) ?_; intro g cap w3 fp3 hr3 hf3 hC3)
      go_meet
      refine ⟨_, fp3, ⟨w3, Below.trans (b := ((w.alloc (.cells #[.int .i64 m.values, .slice A m.blocks.length c] 29)).alloc (.cells #[] 2)).alloc (.cells #[.int .i64 0] 2)) (by repeat (first | (with_reducible first | exact Below.refl _ _ | assumption | exact ext_box _) | (with_reducible apply Below.drew) | ((with_reducible refine Below.setCell ?_ ?hs _); (case hs => first | (simp; done) | (simp; omega) | omega)) | ((with_reducible refine Below.alloc ?_ ?hs _); (case hs => first | (simp; done) | (simp; omega) | omega)))) (hC3.below (by simp) fun q hq => by simp at hq; simp; omega)⟩, rfl, ?_, fun q hq => ?_, rfl⟩
      · rw [if_neg HF.out]; exact hr3
      · rcases hf3 q hq with h | h | h
        · simp at h; omega
        · simp at h
        · simp at h; omega
  case rest =>
    obtain ⟨v, fp, u, rfl, hr, hfp, rfl⟩ := hcut
    obtain ⟨F0, hF0⟩ : ∃ F0 : List Nat, F0 = if d = some 0 then [] else [0] := ⟨_, rfl⟩
    have HWB := Lib.hid (Wl.begin (succB m.blocks) d hp)
    rw [← hF0] at hr HWB
    obtain ⟨A5, c5, hv, hl5⟩ := hr.form
    rw [natI_len] at hv
    subst hv
    have HR := Lib.hid hr
    have HFP := Lib.hid hfp
    obtain ⟨b0, b1, -⟩ := box_at u
    have hzu : w.heap.size < u.w.heap.size := by have := u.hb.size; simp at this; omega
    clear hr hfp hF0 hl5 hd hok
    go_upto_region 5 with (at_make; refine wpList_make_row (kF1 eB fun _ => rfl) false [.bool false] _ rfl _ _ 34 rfl 4 j0 _ Tryd.underlying34 hj' hy0 hy1 rfl (by decide) (fun _ => ⟨rfl, rfl⟩) _ m.blocks.length rfl rfl rfl (by rw [hy2]; omega) (by simp only [maxLen]; omega) ?_; intro w3 hr3 hB3 hs3)
    obtain ⟨gs, hgs⟩ : ∃ gs, gs = u.w.heap.size := ⟨_, rfl⟩
    rw [← hgs] at hr3 hs3
    have hA3 := Arr.made hr3
    have g0 := hA3.cell (i := 0) (x := false) (by rw [List.getElem?_replicate]; simp [hp])
    have g1 := hA3.frozen hp 0
    obtain ⟨hA4, hC4⟩ := hA3.set hp true
    have HA4 := Lib.hid hA4
    have HFP4 : Hid (∀ q ∈ fp, w.heap.size < q ∧ q ≠ gs) := Lib.hid fun q hq => ⟨HFP.out q hq, fun e => by have := HR.out.lt q hq; omega⟩
    have HR4 := Lib.hid (((HR.out.chg (chg_of hB3) fun _ _ h => h)).chg hC4 fun q hq e => (HFP4.out q hq).2 e)
    obtain ⟨u4, hu4⟩ : ∃ u4 : Ext (w.alloc (.cells #[.int .i64 m.values, .slice A m.blocks.length c] 29)), w3.setCell ⟨gs, 0, none⟩ (.bool true) = u4.w := ⟨⟨_, (u.hb.trans (hB3.mono u.hb.size)).trans (hC4.below (Nat.le_trans u.hb.size hB3.size) fun q hq => by rw [hq, hgs]; exact u.hb.size)⟩, rfl⟩
    have hgz : w.heap.size < gs := by omega
    rw [← hgs]
    clear hgs
    clear hr3 hA3 hA4 hC4 HR HFP b0 b1 hzu hB3 hs3
    go_upto_region 6 with fail
    rw [hu4] at HA4 HR4
    clear hu4 g0 g1
    go_wp2
    go_loopw [5, 7] (fun v5 v7 wr => ∃ (i : Nat) (Af : Option Addr) (cf : Nat) (fp : List Nat) (F : List Nat) (seen : List Bool) (u : Ext (w.alloc (.cells #[.int .i64 m.values, .slice A m.blocks.length c] 29))), v5 = .slice Af F.length cf ∧ v7 = .int .i64 i ∧ i ≤ F.length ∧ Row 2 kI64 wr (.slice Af F.length cf) (natI F) fp ∧ (∀ q ∈ fp, w.heap.size < q ∧ q ≠ gs) ∧ Arr 4 eB gs m.blocks.length seen wr ∧ Wl (succB m.blocks) d F seen i 0 ∧ wr = u.w) (fun _ v7 _ => m.blocks.length - (intOf v7).toNat)
    case atStart => exact ⟨0, A5, c5, fp, F0, _, u4, rfl, rfl, Nat.zero_le _, HR4.out, HFP4.out, HA4.out, HWB.out, rfl⟩
    case round =>
      clear HA4 HR4 HFP4 HWB u4 u
      obtain ⟨i, Af, cf, fp, F, seen, u, rfl, rfl, hi1, hr, hfp, ha, hw, rfl⟩ := hrel
      have HR := Lib.hid hr
      have HFP := Lib.hid hfp
      have HA := Lib.hid ha
      have HW := Lib.hid hw
      have hFl := hw.len ha.len
      clear hfp ha hw
      by_cases hlt : i < F.length
      · obtain ⟨b, eb⟩ := get_of_lt (xs := F) (k := i) hlt
        have hbn : b < m.blocks.length := by have := (HW.out.seen b).2 (.inr (List.mem_of_getElem? eb)); have := mk_lt this; rw [HA.out.len] at this; exact this
        rw [← natI_len] at hr
        obtain ⟨A6, _, hA6, rfl, hc6⟩ := hr.reads.at (natI_get eb)
        subst hA6
        have p6 := hc1 (n := i * 1) hc6
        rw [Nat.mul_one] at p6
        clear hr hc6
        obtain ⟨x, ex⟩ := get_of_lt (xs := m.blocks) (k := b) hbn
        have HSL : Hid ((succB m.blocks b).length ≤ 2) := Lib.hid (by rw [succB_at ex, List.length_map]; exact targets_len x.term)
        have HTC := Lib.hid (targetsS_nat x.term (succB m.blocks b) (succB_cast HOK.out ex))
        obtain ⟨ax, _, hAx, ⟨_, _, rfl, ⟨A1', c1', rfl, l1', r1'⟩, _, _, rfl, ⟨A2', c2', rfl, l2', r2'⟩, rfl⟩, hcx⟩ := (hx.below (ext_box u)).at ex
        obtain ⟨p0, p1, p2, p3, p4, p5⟩ := _root_.Go.Proofs.YtnbkgaofdkkdnaaDoor.hc6 (n := b * 6) hcx
        obtain ⟨b0, b1, -⟩ := box_at u
        subst hAx
        clear hcx r1' r2' ex
        go_upto_region 9 with fail
        refine wp_region_still_tail 9 (by kernel_rfl) (by kernel_rfl) ?_; simp only [List.take_succ_cons, List.take_zero, List.drop_succ_cons, List.drop_zero]; change wpStill _ _ (World.drew _) _ _ _
        repeat still_step
        refine wpStill_nil ?_
        change wpList _ _ _ _ _ (World.drew _)
        go_wp2_with (go_at_call 61; refine (HTC.out _).mono ?_; rintro e w7 ⟨A3, c3, rfl, hC3, hA3, hB7⟩)
        obtain ⟨u7, hu7⟩ := u.more (Below.then_ (w := u.w) (by (repeat (first | (with_reducible first | exact Below.refl _ _ | assumption | exact ext_box _) | (with_reducible apply Below.drew) | ((with_reducible refine Below.setCell ?_ ?hs _); (case hs => first | (simp; done) | (simp; omega) | omega)) | ((with_reducible refine Below.alloc ?_ ?hs _); (case hs => first | (simp; done) | (simp; omega) | omega))))) hB7)
        have HR7 := Lib.hid ((HR.out.chg (S := fun _ => False) (by (repeat (first | (with_reducible first | exact Chg.refl _ _ | assumption) | (with_reducible refine Chg.drew ?_) | ((with_reducible refine Chg.setCell ?_ ?hs _); (case hs => first | (simp; done) | (simp; omega) | omega)) | (with_reducible refine Chg.alloc ?_ _)))) (by simp)).chg (S := fun _ => False) (chg_of hB7) (by simp))
        have HA7 := Lib.hid ((HA.out.chg (S := fun _ => False) (w' := u.w.drew) (by (repeat (first | (with_reducible first | exact Chg.refl _ _ | assumption) | (with_reducible refine Chg.drew ?_) | ((with_reducible refine Chg.setCell ?_ ?hs _); (case hs => first | (simp; done) | (simp; omega) | omega)) | (with_reducible refine Chg.alloc ?_ _)))) (fun h => h)).chg (chg_of hB7) (fun h => h))
        have HA3 : Hid (∀ a, A3 = some a → a.block ∉ fp ∧ a.block ≠ gs ∧ a.block < w7.heap.size) := Lib.hid fun a ha => by
          have h1 := hA3 a ha
          have h2 : u.w.heap.size ≤ a.block := by have := h1.1; simpa using this
          exact ⟨fun k => by have := HR.out.lt _ k; omega, fun k => by have := HA.out.lt hp; omega, h1.2⟩
        have HC3 := Lib.hid hC3
        have HEB := Lib.hid eb
        rw [hu7] at HR7 HA7 HA3 HC3 ⊢
        clear hu7 hA3 hC3 hB7 p0 p1 p2 p3 p4 p5 p6 b0 b1 eb HTC HR HA
        obtain ⟨ts, hts⟩ : ∃ ts, succB m.blocks b = ts := ⟨_, rfl⟩
        have HTS := Lib.hid hts
        have HSB := Lib.hid (fun t ht => HSU.out b t ht)
        rw [hts] at HSL HC3 HSB ⊢
        clear hts
        have htl := HSL.out
        go_wp2
        go_loopw [5, 9] (fun v5 v9 wr => ∃ (j : Nat) (Af : Option Addr) (cf : Nat) (fp : List Nat) (F : List Nat) (seen : List Bool) (u : Ext (w.alloc (.cells #[.int .i64 m.values, .slice (some ax) m.blocks.length c] 29))), v5 = .slice Af F.length cf ∧ v9 = .int .i64 j ∧ j ≤ ts.length ∧ i < F.length ∧ Row 2 kI64 wr (.slice Af F.length cf) (natI F) fp ∧ (∀ q ∈ fp, w.heap.size < q ∧ q ≠ gs) ∧ Arr 4 eB gs m.blocks.length seen wr ∧ Wl (succB m.blocks) d F seen i j ∧ F[i]? = some b ∧ C kI64 wr A3 (natI ts) ∧ (∀ a, A3 = some a → a.block ∉ fp ∧ a.block ≠ gs ∧ a.block < wr.heap.size) ∧ wr = u.w) (fun _ v9 _ => ts.length - (intOf v9).toNat)
        case atStart => exact ⟨0, _, cf, fp, F, seen, u7, rfl, rfl, Nat.zero_le _, hlt, HR7.out, HFP.out, HA7.out, HW.out, HEB.out, HC3.out, HA3.out, rfl⟩
        case round =>
          clear HR7 HFP HA7 HW HEB HC3 HA3 u7 u hlt hi1 hFl
          obtain ⟨j, Af, cf, fp, F, seen, u, rfl, rfl, hj, hlt, hr, hfp, ha, hw, heb, hc3, ha3, rfl⟩ := hrel
          have HR := Lib.hid hr
          have HFP := Lib.hid hfp
          have HA := Lib.hid ha
          have HW := Lib.hid hw
          have HEB := Lib.hid heb
          have HC3 := Lib.hid hc3
          have HA3 := Lib.hid ha3
          have hFl := hw.len ha.len
          clear hfp ha hw heb hc3 ha3 hr
          by_cases hjt : j < ts.length
          · obtain ⟨t, et⟩ := get_of_lt (xs := ts) (k := j) hjt
            have htn := HSB.out t (List.mem_of_getElem? et)
            obtain ⟨a3, _, hA3, rfl, hca⟩ := HC3.out.at (natI_get et)
            subst hA3
            have p0 := hc1 (n := j * 1) hca
            rw [Nat.mul_one] at p0
            have HET := Lib.hid (show (succB m.blocks b)[j]? = some t by rw [HTS.out]; exact et)
            clear hca et
            by_cases hdt : d = some t
            · have hb : ((t : Int) != wo) = false := by simp [(HD.out t).2 hdt]
              have HDT := Lib.hid hdt
              clear hdt
              go_wp2
              go_roundw
              case rel => exact ⟨j + 1, _, cf, fp, F, seen, u, rfl, by go_num, by omega, hlt, HR.out, HFP.out, HA.out, HW.out.skip HEB.out HET.out (.inl HDT.out), HEB.out, HC3.out, HA3.out, rfl⟩
              case measure => simp [intOf]; omega
            · have hb : ((t : Int) != wo) = true := by simp; exact fun e => hdt ((HD.out t).1 e)
              have HDT := Lib.hid hdt
              obtain ⟨ls, els⟩ := get_of_lt (xs := seen) (k := t) (by rw [HA.out.len]; exact htn)
              have g0 := HA.out.cell els
              have g1 := HA.out.frozen hp t
              have HLS := Lib.hid (show seen.getD t false = ls by rw [List.getD_eq_getElem?_getD, els]; rfl)
              clear els hdt
              cases ls
              · have HNM := Lib.hid (show ¬ Mk seen t by unfold Mk; rw [HLS.out]; simp)
                obtain ⟨hA8, hC8⟩ := HA.out.set htn true
                have HA8 := Lib.hid hA8
                have HC8 := Lib.hid hC8
                have HR8 := Lib.hid (HR.out.chg hC8 fun q hq e => (HFP.out q hq).2 e)
                have HGZ := HA.out.lt hp
                clear hA8 hC8
                go_upto_region 15 with fail
                obtain ⟨w8, hw8⟩ : ∃ w8, u.w.setCell ⟨gs, t, none⟩ (.bool true) = w8 := ⟨_, rfl⟩
                have p8 : w8.cell? (a3.add j) = some (.int .i64 t) := by rw [← hw8]; exact (World.cell?_setCell_far _ _ _ _ (by rw [add_block]; exact fun e => (HA3.out a3 rfl).2.1 e.symm)).trans p0
                rw [hw8] at HA8 HR8 HC8 ⊢
                clear hw8 g0 g1 p0
                go_wp2_with (at_builtin; refine wpList_append_row (kInt .i64) rfl _ _ 35 rfl 2 i0 _ 8 Tryd.underlying35 hi hz0 hz1 hz2 rfl (by decide) _ (natI F) fp rfl (HR8.out.chg (S := fun _ => False) (by (repeat (first | (with_reducible first | exact Chg.refl _ _ | assumption) | (with_reducible refine Chg.drew ?_) | ((with_reducible refine Chg.setCell ?_ ?hs _); (case hs => first | (simp; done) | (simp; omega) | omega)) | (with_reducible refine Chg.alloc ?_ _)))) (by simp)) _ _ [.int .i64 t] (t : Int) [] rfl ⟨rfl, rfl⟩ (by simp) (box_news (by simp)) (by rw [natI_len]; simp only [maxLen]; omega) (by rw [natI_len]; omega) ?_; intro g cap w9 fp9 hr9 hf9 hC9)
                have HC89 : Hid (Chg (fun q => q ∈ fp) w8 w9) := Lib.hid (Chg.trans (by (repeat (first | (with_reducible first | exact Chg.refl _ _ | assumption) | (with_reducible refine Chg.drew ?_) | ((with_reducible refine Chg.setCell ?_ ?hs _); (case hs => first | (simp; done) | (simp; omega) | omega)) | (with_reducible refine Chg.alloc ?_ _)))) hC9)
                have HF9 : Hid (∀ q ∈ fp9, q ∈ fp ∨ w8.heap.size ≤ q) := Lib.hid fun q hq => by
                  rcases hf9 q hq with h | h | h
                  · exact .inl h
                  · simp at h
                  · simp at h; right; omega
                have hs8 := HC8.out.size
                have hs9 := HC89.out.size
                have hub := u.hb.size
                simp only [World.size_alloc] at hub
                have HA9 := Lib.hid (HA8.out.chg HC89.out fun h => (HFP.out _ h).2 rfl)
                have HR9 : Hid (Row 2 kI64 w9 (.slice (some ⟨g, 0, none⟩) (F ++ [t]).length cap) (natI (F ++ [t])) fp9) := Lib.hid (by
                  have := hr9
                  rw [natI_len] at this
                  rw [natI_snoc, List.length_append]
                  exact this)
                have HU9 : Hid (Below ((w.alloc (.cells #[.int .i64 m.values, .slice (some ax) m.blocks.length c] 29))).heap.size (w.alloc (.cells #[.int .i64 m.values, .slice (some ax) m.blocks.length c] 29)) w9) := Lib.hid ((u.hb.trans (HC8.out.below u.hb.size fun q hq => by rw [hq, World.size_alloc]; omega)).trans (HC89.out.below (Nat.le_trans u.hb.size hs8) fun q hq => by rw [World.size_alloc]; have := (HFP.out q hq).1; omega))
                have hlt2 : i < (F ++ [t]).length := by rw [List.length_append]; omega
                have hln : (natI F).length + 1 = (F ++ [t]).length := by rw [natI_len, List.length_append]; rfl
                have HSL2 : Hid (F[i]? = some b → (F ++ [t])[i]? = some b) := Lib.hid fun h => by rw [List.getElem?_append_left hlt]; exact h
                have HTK := Lib.hid (HW.out.take HEB.out HET.out HDT.out HNM.out (by have := HA.out.len; omega))
                rw [hln]
                go_roundw
                case rel => exact ⟨j + 1, _, cap, fp9, F ++ [t], seen.set t true, ⟨w9, HU9.out⟩, rfl, by go_num, by omega, hlt2, HR9.out, fun q hq => (HF9.out q hq).elim (HFP.out q) fun k => ⟨by omega, by omega⟩, HA9.out, HTK.out, HSL2.out HEB.out, C_int_keep HC3.out (fun a ha => by
                    obtain rfl := Option.some.inj ha
                    obtain ⟨k1, k2, k3⟩ := HA3.out a3 rfl
                    exact (HC89.out.block _ (by omega) k1).trans (HC8.out.block _ k3 k2)), fun a ha => by
                    obtain rfl := Option.some.inj ha
                    obtain ⟨k1, k2, k3⟩ := HA3.out a3 rfl
                    exact ⟨fun h => (HF9.out _ h).elim k1 fun h => by omega, k2, by omega⟩, rfl⟩
                case measure => simp [intOf]; omega
              · go_wp2
                go_roundw
                case rel => exact ⟨j + 1, _, cf, fp, F, seen, u, rfl, by go_num, by omega, hlt, HR.out, HFP.out, HA.out, HW.out.skip HEB.out HET.out (.inr HLS.out), HEB.out, HC3.out, HA3.out, rfl⟩
                case measure => simp [intOf]; omega
          · have HTE := Lib.hid (show (succB m.blocks b).length ≤ j by rw [HTS.out]; omega)
            go_wp2
            go_roundw
            case rel => exact ⟨i + 1, _, cf, fp, F, seen, u, rfl, by go_num, by omega, HR.out, HFP.out, HA.out, HW.out.next HEB.out HTE.out, rfl⟩
            case measure => simp [intOf]; omega
      · have HFN := Lib.hid (HW.out.fin (by omega))
        go_wp2
        go_ret
        exact ⟨Af, cf, fp, F, rfl, HR.out, fun q hq => Nat.le_of_lt (HFP.out q hq).1, HFN.out, hFl, HW.out.nodup, ext_box u⟩
end Go.Proofs.YtnbkgaofdkkdnaaDoor
namespace Go.Proofs.YtnbkgaofdkkdnaaDoor
open Go.RowKit
set_option linter.unusedSimpArgs false
set_option linter.unusedVariables false
set_option maxRecDepth 100000
open Dom

theorem hasN_c (A : Option Addr) (c : Nat) (F : List Nat) (x : Nat) (w : World) (fp : List Nat) (hr : Row 2 kI64 w (.slice A F.length c) (natI F) fp) (hm : F.length ≤ 1048576) :
    Calls Tryd.prog 27 #[.slice A F.length c, .int .i64 x] w fun e w' => e = .returned (.bool (decide (x ∈ F))) ∧ w = w' := by
  rw [← natI_len] at hr
  have := has_c A c (natI F) x w hr.reads (by rw [natI_len]; omega)
  rw [natI_len] at this
  refine this.mono ?_
  rintro e w' ⟨rfl, rfl⟩
  exact ⟨ret_bool (by rw [decide_eq_decide]; exact mem_natI), rfl⟩
set_option maxHeartbeats 8000000 in
theorem domS_c (A : Option Addr) (c : Nat) (m : Func) (a b : Int) (w : World) (hx : C (kBlock 0 0 0) w A m.blocks) (hm : m.blocks.length ≤ 1048576) (hs : ∀ (i : Nat) b, m.blocks[i]? = some b → okBlk 1048576 b) :
    Calls Tryd.prog 8 #[.agg #[.int .i64 m.values, .slice A m.blocks.length c], .int .i64 a, .int .i64 b] w fun e w' => e = .returned (.bool (domF m a b)) ∧ Below w.heap.size w w' := by
  have HVF := Lib.hid (fun W (h : Below w.heap.size w W) => validFS_c A c m W (hx.below h) hm hs)
  by_cases hv : validF m = true
  · obtain ⟨hok, hp, hn⟩ := validF_okt hv
    rw [hv] at HVF
    by_cases ha : 0 ≤ a ∧ a < m.blocks.length
    · by_cases hb : 0 ≤ b ∧ b < m.blocks.length
      · obtain ⟨x, rfl⟩ : ∃ x : Nat, a = x := ⟨a.toNat, by omega⟩
        obtain ⟨y, rfl⟩ : ∃ y : Nat, b = y := ⟨b.toNat, by omega⟩
        have hxn : x < m.blocks.length := by omega
        have hyn : y < m.blocks.length := by omega
        have HRN := Lib.hid (fun W (h : Below w.heap.size w W) => reach_c A c m (-1) none W (hx.below h) hok hp hm (fun t => ⟨fun h => absurd h (by omega), fun h => by cases h⟩))
        have HRX := Lib.hid (fun W (h : Below w.heap.size w W) => reach_c A c m (x : Int) (some x) W (hx.below h) hok hp hm (fun t => ⟨fun h => by congr 1; omega, fun h => by have := Option.some.inj h; omega⟩))
        have HV := Lib.hid hv
        have hx0 : ¬ ((x : Int) < 0) := by omega
        have hy0 : ¬ ((y : Int) < 0) := by omega
        have hx1 : ¬ ((m.blocks.length : Int) ≤ (x : Int)) := by omega
        have hy1 : ¬ ((m.blocks.length : Int) ≤ (y : Int)) := by omega
        clear hv hok ha hb
        by_cases rx : RA (succB m.blocks) none x
        · have RX := Lib.hid rx
          clear rx
          by_cases ry : RA (succB m.blocks) none y
          · have RY := Lib.hid ry
            clear ry
            by_cases rz : RA (succB m.blocks) (some x) y
            · have RZ := Lib.hid rz
              have HNO := Lib.hid (show domF m x y = false from domF_false fun h => h.2.2.2.2.2 (by rw [Int.toNat_natCast, Int.toNat_natCast]; exact rz))
              clear rz
              go_enter Tryd.func8, Tryd.ntmps8
              go_wp2_with (first
          | (go_at_call 26; (with_reducible refine (HVF.out _ ?hb).mono ?_); (case hb => (repeat (first | (with_reducible first | exact Below.refl _ _ | assumption | exact ext_box _) | (with_reducible apply Below.drew) | ((with_reducible refine Below.setCell ?_ ?hs _); (case hs => first | (simp; done) | (simp; omega) | omega)) | ((with_reducible refine Below.alloc ?_ ?hs _); (case hs => first | (simp; done) | (simp; omega) | omega))))); rintro e w1 ⟨rfl, hb0⟩; have HB0 := Below.then_ (w := w) (by (repeat (first | (with_reducible first | exact Below.refl _ _ | assumption | exact ext_box _) | (with_reducible apply Below.drew) | ((with_reducible refine Below.setCell ?_ ?hs _); (case hs => first | (simp; done) | (simp; omega) | omega)) | ((with_reducible refine Below.alloc ?_ ?hs _); (case hs => first | (simp; done) | (simp; omega) | omega))))) hb0; obtain ⟨hc0, hf0⟩ := bcell hb0; have zw0 : w.heap.size < w1.heap.size := (by have := hb0.size; (try simp at this); omega))
          | (go_at_call 28; (with_reducible refine (HRN.out _ ?hb).mono ?_); (case hb => (repeat (first | (with_reducible first | exact Below.refl _ _ | assumption | exact ext_box _) | (with_reducible apply Below.drew) | ((with_reducible refine Below.setCell ?_ ?hs _); (case hs => first | (simp; done) | (simp; omega) | omega)) | ((with_reducible refine Below.alloc ?_ ?hs _); (case hs => first | (simp; done) | (simp; omega) | omega))))); rintro e w2 ⟨A1, c1, fp1, F1, rfl, hr1, hf1, hF1, hl1, hn1, hb1⟩; have HB1 := Below.then_ (w := w) (by (repeat (first | (with_reducible first | exact Below.refl _ _ | assumption | exact ext_box _) | (with_reducible apply Below.drew) | ((with_reducible refine Below.setCell ?_ ?hs _); (case hs => first | (simp; done) | (simp; omega) | omega)) | ((with_reducible refine Below.alloc ?_ ?hs _); (case hs => first | (simp; done) | (simp; omega) | omega))))) hb1; have HFF := Lib.hid hF1; have hl1' : F1.length ≤ 1048576 := (by omega); clear hF1; obtain ⟨hc1, hfz1⟩ := bcell hb1; have zw1 : w.heap.size < w2.heap.size := (by have := hb1.size; (try simp at this); omega))
          | (go_at_call 28; (with_reducible refine (HRX.out _ ?hb).mono ?_); (case hb => (repeat (first | (with_reducible first | exact Below.refl _ _ | assumption | exact ext_box _) | (with_reducible apply Below.drew) | ((with_reducible refine Below.setCell ?_ ?hs _); (case hs => first | (simp; done) | (simp; omega) | omega)) | ((with_reducible refine Below.alloc ?_ ?hs _); (case hs => first | (simp; done) | (simp; omega) | omega))))); rintro e w2 ⟨A5, c5, fp5, F5, rfl, hr5, hf5, hF5, hl5, hn5, hb5⟩; have HB5 := Below.then_ (w := w) (by (repeat (first | (with_reducible first | exact Below.refl _ _ | assumption | exact ext_box _) | (with_reducible apply Below.drew) | ((with_reducible refine Below.setCell ?_ ?hs _); (case hs => first | (simp; done) | (simp; omega) | omega)) | ((with_reducible refine Below.alloc ?_ ?hs _); (case hs => first | (simp; done) | (simp; omega) | omega))))) hb5; have HFF5 := Lib.hid hF5; have hl5' : F5.length ≤ 1048576 := (by omega); clear hF5)
          | (go_at_call 27; (with_reducible refine (hasN_c _ _ F5 y _ fp5 hr5 hl5').mono ?_); rintro e w3 ⟨rfl, rfl⟩; rw [show decide (y ∈ F5) = true from decide_eq_true ((HFF5.out _).2 RZ.out)])
          | (go_at_call 27; (with_reducible refine (hasN_c _ _ F1 x _ fp1 hr1 hl1').mono ?_); rintro e w3 ⟨rfl, rfl⟩; rw [show decide (x ∈ F1) = true from decide_eq_true ((HFF.out _).2 RX.out)])
          | (go_at_call 27; (with_reducible refine (hasN_c _ _ F1 y _ fp1 hr1 hl1').mono ?_); rintro e w3 ⟨rfl, rfl⟩; rw [show decide (y ∈ F1) = true from decide_eq_true ((HFF.out _).2 RY.out)]))
              go_ret
              exact ⟨ret_bool HNO.out.symm, HB5⟩
            · have RZ := Lib.hid rz
              have HYES := Lib.hid (show domF m x y = true from domF_true ⟨HV.out, by omega, by omega, by rw [Int.toNat_natCast]; exact RX.out, by rw [Int.toNat_natCast]; exact RY.out, by rw [Int.toNat_natCast, Int.toNat_natCast]; exact rz⟩)
              clear rz
              go_enter Tryd.func8, Tryd.ntmps8
              go_wp2_with (first
          | (go_at_call 26; (with_reducible refine (HVF.out _ ?hb).mono ?_); (case hb => (repeat (first | (with_reducible first | exact Below.refl _ _ | assumption | exact ext_box _) | (with_reducible apply Below.drew) | ((with_reducible refine Below.setCell ?_ ?hs _); (case hs => first | (simp; done) | (simp; omega) | omega)) | ((with_reducible refine Below.alloc ?_ ?hs _); (case hs => first | (simp; done) | (simp; omega) | omega))))); rintro e w1 ⟨rfl, hb0⟩; have HB0 := Below.then_ (w := w) (by (repeat (first | (with_reducible first | exact Below.refl _ _ | assumption | exact ext_box _) | (with_reducible apply Below.drew) | ((with_reducible refine Below.setCell ?_ ?hs _); (case hs => first | (simp; done) | (simp; omega) | omega)) | ((with_reducible refine Below.alloc ?_ ?hs _); (case hs => first | (simp; done) | (simp; omega) | omega))))) hb0; obtain ⟨hc0, hf0⟩ := bcell hb0; have zw0 : w.heap.size < w1.heap.size := (by have := hb0.size; (try simp at this); omega))
          | (go_at_call 28; (with_reducible refine (HRN.out _ ?hb).mono ?_); (case hb => (repeat (first | (with_reducible first | exact Below.refl _ _ | assumption | exact ext_box _) | (with_reducible apply Below.drew) | ((with_reducible refine Below.setCell ?_ ?hs _); (case hs => first | (simp; done) | (simp; omega) | omega)) | ((with_reducible refine Below.alloc ?_ ?hs _); (case hs => first | (simp; done) | (simp; omega) | omega))))); rintro e w2 ⟨A1, c1, fp1, F1, rfl, hr1, hf1, hF1, hl1, hn1, hb1⟩; have HB1 := Below.then_ (w := w) (by (repeat (first | (with_reducible first | exact Below.refl _ _ | assumption | exact ext_box _) | (with_reducible apply Below.drew) | ((with_reducible refine Below.setCell ?_ ?hs _); (case hs => first | (simp; done) | (simp; omega) | omega)) | ((with_reducible refine Below.alloc ?_ ?hs _); (case hs => first | (simp; done) | (simp; omega) | omega))))) hb1; have HFF := Lib.hid hF1; have hl1' : F1.length ≤ 1048576 := (by omega); clear hF1; obtain ⟨hc1, hfz1⟩ := bcell hb1; have zw1 : w.heap.size < w2.heap.size := (by have := hb1.size; (try simp at this); omega))
          | (go_at_call 28; (with_reducible refine (HRX.out _ ?hb).mono ?_); (case hb => (repeat (first | (with_reducible first | exact Below.refl _ _ | assumption | exact ext_box _) | (with_reducible apply Below.drew) | ((with_reducible refine Below.setCell ?_ ?hs _); (case hs => first | (simp; done) | (simp; omega) | omega)) | ((with_reducible refine Below.alloc ?_ ?hs _); (case hs => first | (simp; done) | (simp; omega) | omega))))); rintro e w2 ⟨A5, c5, fp5, F5, rfl, hr5, hf5, hF5, hl5, hn5, hb5⟩; have HB5 := Below.then_ (w := w) (by (repeat (first | (with_reducible first | exact Below.refl _ _ | assumption | exact ext_box _) | (with_reducible apply Below.drew) | ((with_reducible refine Below.setCell ?_ ?hs _); (case hs => first | (simp; done) | (simp; omega) | omega)) | ((with_reducible refine Below.alloc ?_ ?hs _); (case hs => first | (simp; done) | (simp; omega) | omega))))) hb5; have HFF5 := Lib.hid hF5; have hl5' : F5.length ≤ 1048576 := (by omega); clear hF5)
          | (go_at_call 27; (with_reducible refine (hasN_c _ _ F5 y _ fp5 hr5 hl5').mono ?_); rintro e w3 ⟨rfl, rfl⟩; rw [show decide (y ∈ F5) = false from decide_eq_false fun k => RZ.out ((HFF5.out _).1 k)])
          | (go_at_call 27; (with_reducible refine (hasN_c _ _ F1 x _ fp1 hr1 hl1').mono ?_); rintro e w3 ⟨rfl, rfl⟩; rw [show decide (x ∈ F1) = true from decide_eq_true ((HFF.out _).2 RX.out)])
          | (go_at_call 27; (with_reducible refine (hasN_c _ _ F1 y _ fp1 hr1 hl1').mono ?_); rintro e w3 ⟨rfl, rfl⟩; rw [show decide (y ∈ F1) = true from decide_eq_true ((HFF.out _).2 RY.out)]))
              go_ret
              exact ⟨ret_bool HYES.out.symm, HB5⟩
          · have RY := Lib.hid ry
            have HNO := Lib.hid (show domF m x y = false from domF_false fun h => ry (by have := h.2.2.2.2.1; rwa [Int.toNat_natCast] at this))
            clear ry
            go_enter Tryd.func8, Tryd.ntmps8
            go_wp2_with (first
          | (go_at_call 26; (with_reducible refine (HVF.out _ ?hb).mono ?_); (case hb => (repeat (first | (with_reducible first | exact Below.refl _ _ | assumption | exact ext_box _) | (with_reducible apply Below.drew) | ((with_reducible refine Below.setCell ?_ ?hs _); (case hs => first | (simp; done) | (simp; omega) | omega)) | ((with_reducible refine Below.alloc ?_ ?hs _); (case hs => first | (simp; done) | (simp; omega) | omega))))); rintro e w1 ⟨rfl, hb0⟩; have HB0 := Below.then_ (w := w) (by (repeat (first | (with_reducible first | exact Below.refl _ _ | assumption | exact ext_box _) | (with_reducible apply Below.drew) | ((with_reducible refine Below.setCell ?_ ?hs _); (case hs => first | (simp; done) | (simp; omega) | omega)) | ((with_reducible refine Below.alloc ?_ ?hs _); (case hs => first | (simp; done) | (simp; omega) | omega))))) hb0; obtain ⟨hc0, hf0⟩ := bcell hb0; have zw0 : w.heap.size < w1.heap.size := (by have := hb0.size; (try simp at this); omega))
          | (go_at_call 28; (with_reducible refine (HRN.out _ ?hb).mono ?_); (case hb => (repeat (first | (with_reducible first | exact Below.refl _ _ | assumption | exact ext_box _) | (with_reducible apply Below.drew) | ((with_reducible refine Below.setCell ?_ ?hs _); (case hs => first | (simp; done) | (simp; omega) | omega)) | ((with_reducible refine Below.alloc ?_ ?hs _); (case hs => first | (simp; done) | (simp; omega) | omega))))); rintro e w2 ⟨A1, c1, fp1, F1, rfl, hr1, hf1, hF1, hl1, hn1, hb1⟩; have HB1 := Below.then_ (w := w) (by (repeat (first | (with_reducible first | exact Below.refl _ _ | assumption | exact ext_box _) | (with_reducible apply Below.drew) | ((with_reducible refine Below.setCell ?_ ?hs _); (case hs => first | (simp; done) | (simp; omega) | omega)) | ((with_reducible refine Below.alloc ?_ ?hs _); (case hs => first | (simp; done) | (simp; omega) | omega))))) hb1; have HFF := Lib.hid hF1; have hl1' : F1.length ≤ 1048576 := (by omega); clear hF1; obtain ⟨hc1, hfz1⟩ := bcell hb1; have zw1 : w.heap.size < w2.heap.size := (by have := hb1.size; (try simp at this); omega))
          | (go_at_call 27; (with_reducible refine (hasN_c _ _ F1 x _ fp1 hr1 hl1').mono ?_); rintro e w3 ⟨rfl, rfl⟩; rw [show decide (x ∈ F1) = true from decide_eq_true ((HFF.out _).2 RX.out)])
          | (go_at_call 27; (with_reducible refine (hasN_c _ _ F1 y _ fp1 hr1 hl1').mono ?_); rintro e w3 ⟨rfl, rfl⟩; rw [show decide (y ∈ F1) = false from decide_eq_false fun k => RY.out ((HFF.out _).1 k)]))
            go_ret
            exact ⟨ret_bool HNO.out.symm, HB1⟩
        · have RX := Lib.hid rx
          have HNO := Lib.hid (show domF m x y = false from domF_false fun h => rx (by have := h.2.2.2.1; rwa [Int.toNat_natCast] at this))
          clear rx
          go_enter Tryd.func8, Tryd.ntmps8
          go_wp2_with (first
          | (go_at_call 26; (with_reducible refine (HVF.out _ ?hb).mono ?_); (case hb => (repeat (first | (with_reducible first | exact Below.refl _ _ | assumption | exact ext_box _) | (with_reducible apply Below.drew) | ((with_reducible refine Below.setCell ?_ ?hs _); (case hs => first | (simp; done) | (simp; omega) | omega)) | ((with_reducible refine Below.alloc ?_ ?hs _); (case hs => first | (simp; done) | (simp; omega) | omega))))); rintro e w1 ⟨rfl, hb0⟩; have HB0 := Below.then_ (w := w) (by (repeat (first | (with_reducible first | exact Below.refl _ _ | assumption | exact ext_box _) | (with_reducible apply Below.drew) | ((with_reducible refine Below.setCell ?_ ?hs _); (case hs => first | (simp; done) | (simp; omega) | omega)) | ((with_reducible refine Below.alloc ?_ ?hs _); (case hs => first | (simp; done) | (simp; omega) | omega))))) hb0; obtain ⟨hc0, hf0⟩ := bcell hb0; have zw0 : w.heap.size < w1.heap.size := (by have := hb0.size; (try simp at this); omega))
          | (go_at_call 28; (with_reducible refine (HRN.out _ ?hb).mono ?_); (case hb => (repeat (first | (with_reducible first | exact Below.refl _ _ | assumption | exact ext_box _) | (with_reducible apply Below.drew) | ((with_reducible refine Below.setCell ?_ ?hs _); (case hs => first | (simp; done) | (simp; omega) | omega)) | ((with_reducible refine Below.alloc ?_ ?hs _); (case hs => first | (simp; done) | (simp; omega) | omega))))); rintro e w2 ⟨A1, c1, fp1, F1, rfl, hr1, hf1, hF1, hl1, hn1, hb1⟩; have HB1 := Below.then_ (w := w) (by (repeat (first | (with_reducible first | exact Below.refl _ _ | assumption | exact ext_box _) | (with_reducible apply Below.drew) | ((with_reducible refine Below.setCell ?_ ?hs _); (case hs => first | (simp; done) | (simp; omega) | omega)) | ((with_reducible refine Below.alloc ?_ ?hs _); (case hs => first | (simp; done) | (simp; omega) | omega))))) hb1; have HFF := Lib.hid hF1; have hl1' : F1.length ≤ 1048576 := (by omega); clear hF1; obtain ⟨hc1, hfz1⟩ := bcell hb1; have zw1 : w.heap.size < w2.heap.size := (by have := hb1.size; (try simp at this); omega))
          | (go_at_call 27; (with_reducible refine (hasN_c _ _ F1 x _ fp1 hr1 hl1').mono ?_); rintro e w3 ⟨rfl, rfl⟩; rw [show decide (x ∈ F1) = false from decide_eq_false fun k => RX.out ((HFF.out _).1 k)]))
          go_ret
          exact ⟨ret_bool HNO.out.symm, HB1⟩
      · have HNO := Lib.hid (show domF m a b = false from domF_false fun h => hb h.2.2.1)
        have hbb : b < 0 ∨ (¬ b < 0 ∧ (m.blocks.length : Int) ≤ b) := by omega
        have ha0 : ¬ (a < 0) := by omega
        have ha1 : ¬ ((m.blocks.length : Int) ≤ a) := by omega
        clear hv hok hb
        rcases hbb with hb0 | ⟨hb0, hb1⟩
        all_goals
          go_enter Tryd.func8, Tryd.ntmps8
          go_wp2_with (first
          | (go_at_call 26; (with_reducible refine (HVF.out _ ?hb).mono ?_); (case hb => (repeat (first | (with_reducible first | exact Below.refl _ _ | assumption | exact ext_box _) | (with_reducible apply Below.drew) | ((with_reducible refine Below.setCell ?_ ?hs _); (case hs => first | (simp; done) | (simp; omega) | omega)) | ((with_reducible refine Below.alloc ?_ ?hs _); (case hs => first | (simp; done) | (simp; omega) | omega))))); rintro e w1 ⟨rfl, hb0⟩; have HB0 := Below.then_ (w := w) (by (repeat (first | (with_reducible first | exact Below.refl _ _ | assumption | exact ext_box _) | (with_reducible apply Below.drew) | ((with_reducible refine Below.setCell ?_ ?hs _); (case hs => first | (simp; done) | (simp; omega) | omega)) | ((with_reducible refine Below.alloc ?_ ?hs _); (case hs => first | (simp; done) | (simp; omega) | omega))))) hb0; obtain ⟨hc0, hf0⟩ := bcell hb0; have zw0 : w.heap.size < w1.heap.size := (by have := hb0.size; (try simp at this); omega)))
          go_ret
          exact ⟨ret_bool HNO.out.symm, HB0⟩
    · have HNO := Lib.hid (show domF m a b = false from domF_false fun h => ha h.2.1)
      have haa : a < 0 ∨ (¬ a < 0 ∧ (m.blocks.length : Int) ≤ a) := by omega
      clear hv hok ha
      rcases haa with ha0 | ⟨ha0, ha1⟩
      all_goals
        go_enter Tryd.func8, Tryd.ntmps8
        go_wp2_with (first
          | (go_at_call 26; (with_reducible refine (HVF.out _ ?hb).mono ?_); (case hb => (repeat (first | (with_reducible first | exact Below.refl _ _ | assumption | exact ext_box _) | (with_reducible apply Below.drew) | ((with_reducible refine Below.setCell ?_ ?hs _); (case hs => first | (simp; done) | (simp; omega) | omega)) | ((with_reducible refine Below.alloc ?_ ?hs _); (case hs => first | (simp; done) | (simp; omega) | omega))))); rintro e w1 ⟨rfl, hb0⟩; have HB0 := Below.then_ (w := w) (by (repeat (first | (with_reducible first | exact Below.refl _ _ | assumption | exact ext_box _) | (with_reducible apply Below.drew) | ((with_reducible refine Below.setCell ?_ ?hs _); (case hs => first | (simp; done) | (simp; omega) | omega)) | ((with_reducible refine Below.alloc ?_ ?hs _); (case hs => first | (simp; done) | (simp; omega) | omega))))) hb0; obtain ⟨hc0, hf0⟩ := bcell hb0; have zw0 : w.heap.size < w1.heap.size := (by have := hb0.size; (try simp at this); omega)))
        go_ret
        exact ⟨ret_bool HNO.out.symm, HB0⟩
  · have hv0 : validF m = false := by simpa using hv
    have HNO := Lib.hid (show domF m a b = false from domF_false fun h => hv h.1)
    rw [hv0] at HVF
    clear hv hv0
    go_enter Tryd.func8, Tryd.ntmps8
    go_wp2_with (first
          | (go_at_call 26; (with_reducible refine (HVF.out _ ?hb).mono ?_); (case hb => (repeat (first | (with_reducible first | exact Below.refl _ _ | assumption | exact ext_box _) | (with_reducible apply Below.drew) | ((with_reducible refine Below.setCell ?_ ?hs _); (case hs => first | (simp; done) | (simp; omega) | omega)) | ((with_reducible refine Below.alloc ?_ ?hs _); (case hs => first | (simp; done) | (simp; omega) | omega))))); rintro e w1 ⟨rfl, hb0⟩; have HB0 := Below.then_ (w := w) (by (repeat (first | (with_reducible first | exact Below.refl _ _ | assumption | exact ext_box _) | (with_reducible apply Below.drew) | ((with_reducible refine Below.setCell ?_ ?hs _); (case hs => first | (simp; done) | (simp; omega) | omega)) | ((with_reducible refine Below.alloc ?_ ?hs _); (case hs => first | (simp; done) | (simp; omega) | omega))))) hb0; obtain ⟨hc0, hf0⟩ := bcell hb0; have zw0 : w.heap.size < w1.heap.size := (by have := hb0.size; (try simp at this); omega)))
    go_ret
    exact ⟨ret_bool HNO.out.symm, HB0⟩
end Go.Proofs.YtnbkgaofdkkdnaaDoor
