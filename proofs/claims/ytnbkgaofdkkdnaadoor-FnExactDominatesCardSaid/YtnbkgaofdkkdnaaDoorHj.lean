/- Contract of (*flow).preorder$1. -/
import Derived.Test.YtnbkgaofdkkdnaaDoorHi
import Derived.Deep.DeepCutAuto
namespace Go.Proofs.YtnbkgaofdkkdnaaDoor
open Go.RowKit
set_option linter.unusedSimpArgs false
set_option linter.unusedVariables false
set_option maxRecDepth 100000
open Dom

theorem flat_snoc {α β : Type} {X : α → List β} {ks : List α} {j : Nat} {c : α} (h : ks[j]? = some c) : (ks.take (j + 1)).flatMap X = (ks.take j).flatMap X ++ X c := by
  rw [List.take_add_one, h, List.flatMap_append]; simp
theorem flat_take_le {α β : Type} {X : α → List β} {ks : List α} (j : Nat) : ((ks.take j).flatMap X).length ≤ (ks.flatMap X).length := by
  conv => rhs; rw [← List.take_append_drop j ks, List.flatMap_append, List.length_append]
  omega
def RetP (z : PreA) (W0 : World) (n : Nat) (P : List (List Int)) (I Q : List Int) (L : List Bool) (K : List (List Int)) (dep : Nat → Nat) (fo : List Nat) (O : List Nat) (w : World) (e : Ending) (w' : World) : Prop :=
  e = .returned (.tuple #[]) ∧ ∃ (D : List Int) (vo : Value) (fo' : List Nat), PreM z W0 n P I Q L K D O vo fo' w' ∧ DepOk dep D O ∧ (∀ q ∈ fo', q ∈ fo ∨ w.heap.size ≤ q) ∧ Chg (fun q => z.a.Own q ∨ q ∈ fo) w w'
set_option maxHeartbeats 4000000 in
theorem pvisit_step (z : PreA) (W0 : World) (n : Nat) (P : List (List Int)) (I Q : List Int) (L : List Bool) (K : List (List Int)) (dep : Nat → Nat) (hn : n ≤ 1048576) (b : Nat) (hb : b < n) (ks : List Nat) (hks : K[b]? = some (natI ks)) (hkl : ks.length ≤ n) (hdb : dep b < n) (X : Nat → List Nat)
    (hK : ∀ c ∈ ks, ∀ (D : List Int) (O : List Nat) (vo : Value) (fo : List Nat) (w : World), PreM z W0 n P I Q L K D O vo fo w → DepOk dep D O → (O ++ X c).length ≤ n →
      Calls Tryd.prog 99 #[.int .i64 c, .int .i64 ((dep b : Int) + 1), .pointer (some ⟨z.Bw, 0, none⟩), .pointer (some ⟨z.Bb, 0, none⟩), .pointer (some ⟨z.Bv, 0, none⟩)] w (RetP z W0 n P I Q L K dep fo (O ++ X c) w))
    (D : List Int) (O : List Nat) (vo : Value) (fo : List Nat) (w : World) (h : PreM z W0 n P I Q L K D O vo fo w) (hD : DepOk dep D O) (hl : (O ++ b :: ks.flatMap X).length ≤ n) :
    Calls Tryd.prog 99 #[.int .i64 b, .int .i64 (dep b : Int), .pointer (some ⟨z.Bw, 0, none⟩), .pointer (some ⟨z.Bb, 0, none⟩), .pointer (some ⟨z.Bv, 0, none⟩)] w (RetP z W0 n P I Q L K dep fo (O ++ b :: ks.flatMap X) w) := by
  obtain ⟨i0, hi, hz0, hz1, hz2⟩ := info_parts info_i64
  have HK := Lib.hid hK
  have HL := Lib.hid hl
  have hol : O.length + 1 ≤ n := by rw [List.length_append, List.length_cons] at hl; omega
  have g0 := h.bw.cell 0 rfl
  have g1 := h.flow.cells.2.2.2.2.2
  obtain ⟨db, edb⟩ := get_of_lt (xs := D) (k := b) (by rw [h.flow.depth.len]; exact hb)
  obtain ⟨gc, gf⟩ := h.flow.getD edb
  obtain ⟨hF1, hC1⟩ := h.flow.setD (i := b) hb (dep b : Int)
  have h1 := h.upd hF1 hC1 fun q hq => by rw [hq]; simp [FlowA.Own]
  have HD1 := Lib.hid (hD.snoc (b := b) (by rw [h.flow.depth.len]; exact hb))
  have HC1 := Lib.hid (hC1.mono (T := fun q => z.a.Own q ∨ q ∈ fo ∨ w.heap.size ≤ q) fun q _ k => .inl (by rw [k]; simp [FlowA.Own]))
  obtain ⟨Ao, co, hv, hco⟩ := h1.orow.form
  rw [natI_len] at hv
  have HM1 := Lib.hid h1
  clear h hF1 hC1 h1 edb hK hl hD
  go_enter Tryd.func99, Tryd.ntmps99
  go_upto_region 1 with fail
  subst hv
  generalize w.setCell ⟨z.a.gd, b, none⟩ (.int .i64 (dep b : Int)) = w1 at *
  clear g0 g1 gc gf
  have KS := Lib.hid (fun w' (hc : Chg (fun k => k ∈ fo) w1 w') => show w'.cell? ⟨z.Bw, 0, none⟩ = some (.pointer (some ⟨z.a.g, 0, none⟩)) ∧ w'.cell? ⟨z.a.g, 4, none⟩ = some (.slice Ao O.length co) ∧ w'.frozen? ⟨z.a.g, 4, none⟩ = false from by
    have hn : ∀ q, z.Own q → ¬ q ∈ fo := fun q hq hm => (HM1.out.oown q hm).2 hq
    have h1 := (HM1.out.flow.box.chg hc (hn _ (.inl (by simp [FlowA.Own]))))
    exact ⟨(HM1.out.bw.chg hc (hn _ (by simp [PreA.Own]))).cell 0 rfl, h1.cell 4 rfl, h1.frozen 4⟩)
  obtain ⟨k0, k1, k2⟩ := KS.out w1 (Chg.refl _ _)
  have zg := HM1.out.flow.box.lt
  have zw := HM1.out.bw.lt
  go_cut [] (fun wc => ∃ (vo' : Value) (fo' : List Nat), PreM z W0 n P I Q L K (D.set b (dep b : Int)) (O ++ [b]) vo' fo' wc ∧ (∀ q ∈ fo', q ∈ fo ∨ w1.heap.size ≤ q) ∧ Chg (fun q => z.a.Own q ∨ q ∈ fo) w1 wc)
  case first =>
    go_wp2
    go_region_law
      (first
        | (refine step_append_row kI64 rfl _ _ 35 rfl 2 i0 _ 8 Tryd.underlying35 hi hz0 hz1 hz2 rfl (by decide) _ (natI O) fo rfl (HM1.out.orow.chg (S := fun _ => False) (by (repeat (first | (with_reducible first | exact Chg.refl _ _ | assumption) | (with_reducible refine Chg.drew ?_) | ((with_reducible refine Chg.setCell ?_ ?hs _); (case hs => first | (simp; done) | (simp; omega) | omega)) | (with_reducible refine Chg.alloc ?_ _)))) (by simp)) _ _ [.int .i64 b] (b : Int) [] rfl ⟨rfl, rfl⟩ (by simp) (box_news (by simp)) (by rw [natI_len]; simp only [maxLen]; omega) (by rw [natI_len]; omega) ?_; intro g cap w3 fp3 hr3 hf3 hC3; have HC3 : Chg (fun k => k ∈ fo) w1 w3 := Chg.trans (by (repeat (first | (with_reducible first | exact Chg.refl _ _ | assumption) | (with_reducible refine Chg.drew ?_) | ((with_reducible refine Chg.setCell ?_ ?hs _); (case hs => first | (simp; done) | (simp; omega) | omega)) | (with_reducible refine Chg.alloc ?_ _)))) hC3; obtain ⟨y0, y1, yf⟩ := KS.out w3 HC3)
        | fail)
    all_goals (go_wp2; go_meet)
    all_goals
      obtain ⟨hM3, hC4⟩ := HM1.out.app HC3 (O' := O ++ [b]) (by rw [natI_snoc]; exact hr3) (fun q hq => by rcases hf3 q hq with h | h | h; exact .inl h; simp at h; simp at h; omega)
      exact ⟨_, fp3, hM3, fun q hq => by rcases hf3 q hq with h | h | h; exact .inl h; simp at h; simp at h; omega, hC4⟩
  case rest =>
    obtain ⟨vo2, fo2, hM2, hf2, hC2⟩ := hcut
    have HM2 := Lib.hid hM2
    have HF2 : Hid (∀ q ∈ fo2, q ∈ fo ∨ w.heap.size ≤ q) := Lib.hid fun q hq => (hf2 q hq).elim .inl fun k => .inr (Nat.le_trans HC1.out.size k)
    have HC2 := Lib.hid (HC1.out.trans (hC2.mono (T := fun q => z.a.Own q ∨ q ∈ fo ∨ w.heap.size ≤ q) fun q _ k => k.elim .inl fun k => .inr (.inl k)))
    obtain ⟨A0, A3, c3, hA, hcell, hC3, hA3⟩ := hM2.brow.inner hks
    have b0 := hM2.bb.cell 0 rfl
    rw [hA] at b0
    rw [natI_len] at hcell
    have HA3 := Lib.hid hA3
    have HCR := Lib.hid hC3
    have HAP := Lib.hid hM2.apart.2.2.2
    clear KS k0 k1 k2 zg zw HM1 HC1 hM2 hf2 hC2 hC3 hA3
    go_wp2
    go_loopw [31] (fun vi wr => ∃ (j : Nat) (D : List Int) (vo : Value) (fq : List Nat), vi = .int .i64 j ∧ j ≤ ks.length ∧ PreM z W0 n P I Q L K D (O ++ b :: (ks.take j).flatMap X) vo fq wr ∧ DepOk dep D (O ++ b :: (ks.take j).flatMap X) ∧ (∀ q ∈ fq, q ∈ fo ∨ w.heap.size ≤ q) ∧ C kI64 wr A3 (natI ks) ∧ Chg (fun q => z.a.Own q ∨ q ∈ fo ∨ w.heap.size ≤ q) w wr) (fun vi _ => ks.length - (intOf vi).toNat)
    case atStart => exact ⟨0, _, vo2, fo2, rfl, by omega, HM2.out, HD1.out, HF2.out, HCR.out, HC2.out⟩
    case round =>
      clear HM2 HC2 HF2 HCR HD1 b0 hcell
      obtain ⟨j, D, vo, fq, rfl, hj, hM, hD, hfq, hC3, hCC⟩ := hrel
      have HMr := Lib.hid hM
      have HDr := Lib.hid hD
      have HFQ := Lib.hid hfq
      have HCr := Lib.hid hC3
      have HCC := Lib.hid hCC
      clear hD hfq hC3 hCC
      by_cases hlt : j < ks.length
      · obtain ⟨c, ec⟩ := get_of_lt hlt
        obtain ⟨a3, _, hA3, rfl, hc⟩ := HCr.out.at (natI_get ec)
        subst hA3
        have p0 := hc1 (n := j * 1) hc
        rw [Nat.mul_one] at p0
        have zA := World.block_lt_of_cell? wr _ p0
        rw [add_block] at zA
        have g3 : _ = some (Value.func (.func 99) #[] #[.pointer (some ⟨z.Bw, 0, none⟩), .pointer (some ⟨z.Bb, 0, none⟩), .pointer (some ⟨z.Bv, 0, none⟩)]) := hM.bv.cell 0 rfl
        have HSN := Lib.hid (flat_snoc (X := X) ec)
        have hll : ((O ++ b :: (ks.take j).flatMap X) ++ X c).length ≤ n := by
          have h1 := flat_take_le (X := X) (ks := ks) (j + 1)
          have h2 := HL.out
          rw [HSN.out] at h1
          simp only [List.length_append, List.length_cons] at h1 h2 ⊢
          omega
        have HCALL := Lib.hid (HK.out c (List.mem_of_getElem? ec) D _ vo fq wr HMr.out HDr.out hll)
        have HSN2 := Lib.hid (show O ++ b :: (ks.take (j + 1)).flatMap X = (O ++ b :: (ks.take j).flatMap X) ++ X c by rw [HSN.out]; simp)
        have HNA := Lib.hid (show ¬ (z.a.Own a3.block ∨ a3.block ∈ fq) from fun k => k.elim (HAP.out _ (HA3.out a3 rfl)) fun k => (HMr.out.oown _ k).2 (by have := HA3.out a3 rfl; simp [PreA.Own, this]))
        clear hc ec hM hll
        go_wp2_with (go_at_call 99; refine HCALL.out.mono ?_; rintro e w3 ⟨rfl, D3, v3, fp3, hM3, hD3, hf3, hC3⟩)
        go_roundw
        case rel => exact ⟨j + 1, D3, v3, fp3, by go_num, by omega, by rw [HSN2.out]; exact hM3, by rw [HSN2.out]; exact hD3, fun q hq => (hf3 q hq).elim (HFQ.out q) fun k => .inr (Nat.le_trans HCC.out.size k), C_int_keep HCr.out fun a ha => by
            obtain rfl := Option.some.inj ha
            exact hC3.block _ zA HNA.out, HCC.out.trans (hC3.mono fun q _ k => k.elim .inl fun k => .inr (HFQ.out q k))⟩
        case measure => simp [intOf]; omega
      · have hjn : j = ks.length := by omega
        subst hjn
        have HE := Lib.hid (show ks.take ks.length = ks from List.take_length)
        clear hM
        go_wp2
        refine bodyPost_end (v := .tuple #[]) (by simp [results, Tryd.results99, go_sem]) rfl ?_
        have h1 := HMr.out
        have h2 := HDr.out
        rw [HE.out] at h1 h2
        exact ⟨rfl, D, vo, fq, h1, h2, HFQ.out, HCC.out.mono fun q hq k => by
          rcases k with k | k | k
          · exact .inl k
          · exact .inr k
          · omega⟩
end Go.Proofs.YtnbkgaofdkkdnaaDoor
