/- Contract of impl.flowOf. -/
import Derived.Test.YtnbkgaofdkkdnaaDoorHm
import Derived.Deep.RegionHeld3
namespace Go.Proofs.YtnbkgaofdkkdnaaDoor
open Go.RowKit
set_option linter.unusedSimpArgs false
set_option linter.unusedVariables false
set_option maxRecDepth 100000
open Dom

/-- A finished flow in memory. -/
structure FlowR (a : FlowA) (bs : List Block) (par : Nat → Option Nat) (post dep : Nat → Nat) (L : List Bool) (I Q D : List Int) (vo : Value) (fo : List Nat) (W0 : World) (w : World) : Prop where
  flow : FlowM a bs.length (tab bs.length fun t => predM t bs 0) I Q L D vo w
  orow : Row 2 kI64 w vo (natI (pre (kidsOf bs.length par) bs.length 0)) fo
  oown : ∀ q ∈ fo, W0.heap.size ≤ q ∧ ¬ a.Own q
  low : ∀ q, a.Own q → W0.heap.size ≤ q
  says : FlowP bs par post dep L I D (natI (pre (kidsOf bs.length par) bs.length 0))
def RetFlow (bs : List Block) (w : World) (e : Ending) (w' : World) : Prop :=
  ∃ (a : FlowA) (par : Nat → Option Nat) (post dep : Nat → Nat) (L : List Bool) (I Q D : List Int) (vo : Value) (fo : List Nat), e = .returned (.pointer (some ⟨a.g, 0, none⟩)) ∧ FlowR a bs par post dep L I Q D vo fo w w' ∧ Below w.heap.size w w'
theorem rep_set (n k : Nat) (a b : Int) (h : k < n) : (List.replicate k b ++ List.replicate (n - k) a).set k b = List.replicate (k + 1) b ++ List.replicate (n - (k + 1)) a := by
  rw [List.set_append_right _ _ (by simp), List.length_replicate, Nat.sub_self]
  obtain ⟨m, hm⟩ : ∃ m, n - k = m + 1 := ⟨n - k - 1, by omega⟩
  rw [hm, List.replicate_succ, List.set_cons_zero, List.replicate_succ', List.append_assoc, show n - (k + 1) = m by omega]; rfl
theorem rep_get (n k : Nat) (a b : Int) (h : k < n) : (List.replicate k b ++ List.replicate (n - k) a)[k]? = some a := by
  rw [List.getElem?_append_right (by simp), List.length_replicate, Nat.sub_self, List.getElem?_replicate]
  simp; omega
set_option maxHeartbeats 16000000 in
theorem flowOf_c (vals : Int) (Af : Option Addr) (cf : Nat) (bs : List Block) (w : World) (hx : C (kBlock 0 0 0) w Af bs) (hok : OkT bs) (hp : 0 < bs.length) (hn : bs.length ≤ 1048576) :
    Calls Tryd.prog 32 #[.agg #[.int .i64 vals, .slice Af bs.length cf]] w (RetFlow bs w) := by
  obtain ⟨i0, hi, hz0, hz1, hz2⟩ := info_parts info_i64
  obtain ⟨j0, hj, hy0, hy1, hy2⟩ := info_parts info_boolF
  obtain ⟨k0, hk, hx0, hx1, hx2⟩ := info_parts info_intF
  have HPR := Lib.hid (fun W (h : Below w.heap.size w W) => predecessors_c Af cf ⟨vals, bs⟩ W (hx.below h) hn hok)
  go_enter Tryd.func32, Tryd.ntmps32
  go_wp2
  go_step3
  go_upto_region 2 with fail
  refine wp_region_inv 10 3 [[], [0], [], [2], [], [4], [], [6], [], [8]] (fun bl a w2 => ∃ V o, a = FR (.agg #[.int .i64 vals, .slice Af bs.length cf]) (.slice Af bs.length cf) w.heap.size bs.length V ∧ RD (w.alloc (.cells #[.int .i64 vals, .slice Af bs.length cf] 29)) (.agg #[.int .i64 vals, .slice Af bs.length cf]) (tab bs.length fun t => predM t bs 0) bs.length bl V o w2) (by kernel_rfl) rfl (by kernel_rfl) ⟨fun _ => undef, fun _ => [], rfl, fun i hi hd => ?_, fun i q hq => by simp at hq, fun i j hij q hq => by simp at hq, (Below.refl _ _).drew⟩ ?_ ?_
  · exfalso
    rw [List.getD_eq_getElem?_getD, List.getElem?_replicate] at hd
    split at hd <;> simp at hd
  · intro bl a w2 hlen ⟨V, o, hA, hR⟩ i op hi10 ho hnd hdep Q' hQ
    subst hA
    have HR := Lib.hid hR
    have HQ := Lib.hid hQ
    have hcas : i = 0 ∨ i = 1 ∨ i = 2 ∨ i = 3 ∨ i = 4 ∨ i = 5 ∨ i = 6 ∨ i = 7 ∨ i = 8 ∨ i = 9 := by omega
    clear hR hQ hnd hlen hi10
    rcases hcas with rfl | rfl | rfl | rfl | rfl | rfl | rfl | rfl | rfl | rfl
    · obtain rfl := Option.some.inj ho
      have c0 := (HR.out.ext.cell (p := ⟨w.heap.size, 0, none⟩) (by simp)).trans (box_cell w _ _ (Ext.self _) 0)
      have c1 := (HR.out.ext.cell (p := ⟨w.heap.size, 1, none⟩) (by simp)).trans (box_cell w _ _ (Ext.self _) 1)
      replace c0 : w2.cell? ⟨w.heap.size, 0, none⟩ = some (.int .i64 vals) := c0
      replace c1 : w2.cell? ⟨w.heap.size, 1, none⟩ = some (.slice Af bs.length cf) := c1
      go_wp2
      exact HQ.out _ _ ⟨updF V 0 (.agg #[.int .i64 vals, .slice Af bs.length cf]), updF o 0 [], rfl, HR.out.step 0 _ _ rfl (Below.refl _ _) (fun q hq => by simp at hq)⟩
    · obtain rfl := Option.some.inj ho
      have e := HR.out.fact 0 (by omega) (hdep 0 (by simp))
      simp only [FactF] at e
      have HC := Lib.hid (HPR.out w2 (Below.then_ (by repeat (first | (with_reducible first | exact Below.refl _ _ | assumption | exact ext_box _) | (with_reducible apply Below.drew) | ((with_reducible refine Below.setCell ?_ ?hs _); (case hs => first | (simp; done) | (simp; omega) | omega)) | ((with_reducible refine Below.alloc ?_ ?hs _); (case hs => first | (simp; done) | (simp; omega) | omega)))) HR.out.ext))
      unfold FR
      rw [e]
      go_wp2_with (go_at_call 64; refine HC.out.mono ?_; rintro e w3 ⟨v3, fp3, rfl, hr3, hf3, hB3⟩; obtain ⟨A3, c3, hv3, hl3⟩ := hr3.form; rw [tab_len] at hv3; subst hv3)
      exact HQ.out _ _ ⟨updF V 1 (.slice A3 bs.length c3), updF o 1 fp3, (by simp [FR, updF, e]), HR.out.step 1 _ _ ⟨A3, c3, rfl, hr3⟩ hB3 (fun q hq => ⟨hf3 q hq, hr3.lt q hq⟩)⟩
    · obtain rfl := Option.some.inj ho
      go_wp2
      exact HQ.out _ _ ⟨updF V 2 (.int .i64 bs.length), updF o 2 [], rfl, HR.out.step 2 _ _ rfl (Below.refl _ _) (fun q hq => by simp at hq)⟩
    · obtain rfl := Option.some.inj ho
      have e := HR.out.fact 2 (by omega) (hdep 2 (by simp))
      simp only [FactF] at e
      unfold FR
      rw [e]
      go_wp2_with (at_make; refine wpList_make_row (kF1 eI fun _ => rfl) 0 [.int .i64 0] _ rfl _ _ 35 rfl 2 i0 _ Tryd.underlying35 hi hz0 hz1 rfl (by decide) (fun _ => ⟨rfl, rfl⟩) _ bs.length rfl rfl rfl (by rw [hz2]; omega) (by simp only [maxLen]; omega) ?_; intro w3 hr3 hB3 hs3)
      exact HQ.out _ _ ⟨updF V 3 (.slice (some ⟨w2.heap.size, 0, none⟩) bs.length bs.length), updF o 3 [w2.heap.size], (by simp [FR, updF, e]), HR.out.step 3 _ _ ⟨w2.heap.size, rfl, rfl, Arr.made hr3⟩ hB3 (fun q hq => by simp at hq; omega)⟩
    · obtain rfl := Option.some.inj ho
      go_wp2
      exact HQ.out _ _ ⟨updF V 4 (.int .i64 bs.length), updF o 4 [], rfl, HR.out.step 4 _ _ rfl (Below.refl _ _) (fun q hq => by simp at hq)⟩
    · obtain rfl := Option.some.inj ho
      have e := HR.out.fact 4 (by omega) (hdep 4 (by simp))
      simp only [FactF] at e
      unfold FR
      rw [e]
      go_wp2_with (at_make; refine wpList_make_row (kF1 eI fun _ => rfl) 0 [.int .i64 0] _ rfl _ _ 35 rfl 2 i0 _ Tryd.underlying35 hi hz0 hz1 rfl (by decide) (fun _ => ⟨rfl, rfl⟩) _ bs.length rfl rfl rfl (by rw [hz2]; omega) (by simp only [maxLen]; omega) ?_; intro w3 hr3 hB3 hs3)
      exact HQ.out _ _ ⟨updF V 5 (.slice (some ⟨w2.heap.size, 0, none⟩) bs.length bs.length), updF o 5 [w2.heap.size], (by simp [FR, updF, e]), HR.out.step 5 _ _ ⟨w2.heap.size, rfl, rfl, Arr.made hr3⟩ hB3 (fun q hq => by simp at hq; omega)⟩
    · obtain rfl := Option.some.inj ho
      go_wp2
      exact HQ.out _ _ ⟨updF V 6 (.int .i64 bs.length), updF o 6 [], rfl, HR.out.step 6 _ _ rfl (Below.refl _ _) (fun q hq => by simp at hq)⟩
    · obtain rfl := Option.some.inj ho
      have e := HR.out.fact 6 (by omega) (hdep 6 (by simp))
      simp only [FactF] at e
      unfold FR
      rw [e]
      go_wp2_with (at_make; refine wpList_make_row (kF1 eB fun _ => rfl) false [.bool false] _ rfl _ _ 34 rfl 4 j0 _ Tryd.underlying34 hj hy0 hy1 rfl (by decide) (fun _ => ⟨rfl, rfl⟩) _ bs.length rfl rfl rfl (by rw [hy2]; omega) (by simp only [maxLen]; omega) ?_; intro w3 hr3 hB3 hs3)
      exact HQ.out _ _ ⟨updF V 7 (.slice (some ⟨w2.heap.size, 0, none⟩) bs.length bs.length), updF o 7 [w2.heap.size], (by simp [FR, updF, e]), HR.out.step 7 _ _ ⟨w2.heap.size, rfl, rfl, Arr.made hr3⟩ hB3 (fun q hq => by simp at hq; omega)⟩
    · obtain rfl := Option.some.inj ho
      go_wp2
      exact HQ.out _ _ ⟨updF V 8 (.int .i64 bs.length), updF o 8 [], rfl, HR.out.step 8 _ _ rfl (Below.refl _ _) (fun q hq => by simp at hq)⟩
    · obtain rfl := Option.some.inj ho
      have e := HR.out.fact 8 (by omega) (hdep 8 (by simp))
      simp only [FactF] at e
      unfold FR
      rw [e]
      go_wp2_with (at_make; refine wpList_make_row (kF1 eI fun _ => rfl) 0 [.int .i64 0] _ rfl _ _ 58 rfl 3 k0 _ Tryd.underlying58 hk hx0 hx1 rfl (by decide) (fun _ => ⟨rfl, rfl⟩) _ bs.length rfl rfl rfl (by rw [hx2]; omega) (by simp only [maxLen]; omega) ?_; intro w3 hr3 hB3 hs3)
      exact HQ.out _ _ ⟨updF V 9 (.slice (some ⟨w2.heap.size, 0, none⟩) bs.length bs.length), updF o 9 [w2.heap.size], (by simp [FR, updF, e]), HR.out.step 9 _ _ ⟨w2.heap.size, rfl, rfl, Arr.made hr3⟩ hB3 (fun q hq => by simp at hq; omega)⟩
  · intro a w2 ⟨V, o, hA, hR⟩
    subst hA
    obtain e0 := hR.fact 0 (by omega) rfl
    obtain ⟨Ap, cp, e1, hrow⟩ := hR.fact 1 (by omega) rfl
    obtain e2 := hR.fact 2 (by omega) rfl
    obtain ⟨gi, h3, e3, hgi⟩ := hR.fact 3 (by omega) rfl
    obtain e4 := hR.fact 4 (by omega) rfl
    obtain ⟨gp, h5, e5, hgp⟩ := hR.fact 5 (by omega) rfl
    obtain e6 := hR.fact 6 (by omega) rfl
    obtain ⟨gr, h7, e7, hgr⟩ := hR.fact 7 (by omega) rfl
    obtain e8 := hR.fact 8 (by omega) rfl
    obtain ⟨gd, h9, e9, hgd⟩ := hR.fact 9 (by omega) rfl
    simp only [FactF] at e0 e2 e4 e6 e8
    unfold FR
    rw [e0, e1, e2, e3, e4, e5, e6, e7, e8, e9]
    have HR := Lib.hid hR
    clear hR
    refine wpAny_one (i := 10) (by kernel_rfl) rfl fun Q1 hQ1 => ?_
    have HQ1 := Lib.hid hQ1
    clear hQ1
    go_wp2
    refine HQ1.out _ _ ?_
    clear HQ1 Q1
    refine wpAny_one (i := 11) (by kernel_rfl) rfl fun Q1 hQ1 => ?_
    have HQ1 := Lib.hid hQ1
    clear hQ1
    go_wp2
    refine HQ1.out _ _ ?_
    clear HQ1 Q1
    refine wpAny_one (i := 12) (by kernel_rfl) rfl fun Q1 hQ1 => ?_
    have HQ1 := Lib.hid hQ1
    clear hQ1
    go_wp2
    refine HQ1.out _ _ ?_
    clear HQ1 Q1
    refine ⟨by kernel_rfl, ?_⟩
    obtain ⟨l3, l3'⟩ := HR.out.low 3 gi (by rw [h3]; simp)
    obtain ⟨l5, l5'⟩ := HR.out.low 5 gp (by rw [h5]; simp)
    obtain ⟨l7, l7'⟩ := HR.out.low 7 gr (by rw [h7]; simp)
    obtain ⟨l9, l9'⟩ := HR.out.low 9 gd (by rw [h9]; simp)
    have a35 : gi ≠ gp := by have := HR.out.apart 3 5 (by omega) gi (by rw [h3]; simp); rw [h5] at this; simpa using this
    have a37 : gi ≠ gr := by have := HR.out.apart 3 7 (by omega) gi (by rw [h3]; simp); rw [h7] at this; simpa using this
    have a39 : gi ≠ gd := by have := HR.out.apart 3 9 (by omega) gi (by rw [h3]; simp); rw [h9] at this; simpa using this
    have a57 : gp ≠ gr := by have := HR.out.apart 5 7 (by omega) gp (by rw [h5]; simp); rw [h7] at this; simpa using this
    have a59 : gp ≠ gd := by have := HR.out.apart 5 9 (by omega) gp (by rw [h5]; simp); rw [h9] at this; simpa using this
    have a79 : gr ≠ gd := by have := HR.out.apart 7 9 (by omega) gr (by rw [h7]; simp); rw [h9] at this; simpa using this
    have a1 : ∀ q ∈ o 1, q ≠ w2.heap.size ∧ q ≠ gi ∧ q ≠ gp ∧ q ≠ gr ∧ q ≠ gd := fun q hq => by
      have b0 := (HR.out.low 1 q hq).2
      have b3 := HR.out.apart 1 3 (by omega) q hq
      have b5 := HR.out.apart 1 5 (by omega) q hq
      have b7 := HR.out.apart 1 7 (by omega) q hq
      have b9 := HR.out.apart 1 9 (by omega) q hq
      rw [h3] at b3; rw [h5] at b5; rw [h7] at b7; rw [h9] at b9
      exact ⟨by omega, by simpa using b3, by simpa using b5, by simpa using b7, by simpa using b9⟩
    have hlow1 : ∀ q ∈ o 1, w.heap.size ≤ q := fun q hq => by have := (HR.out.low 1 q hq).1; simp at this; omega
    have HFW : Hid (∀ W, Below w2.heap.size w2 W → Bk w2.heap.size 60 [.slice Ap bs.length cp, .slice (some ⟨gi, 0, none⟩) bs.length bs.length, .slice (some ⟨gp, 0, none⟩) bs.length bs.length, .slice (some ⟨gr, 0, none⟩) bs.length bs.length, .slice none 0 0, .slice (some ⟨gd, 0, none⟩) bs.length bs.length] W →
        FlowM ⟨w2.heap.size, gi, gp, gr, gd, Ap, cp, o 1⟩ bs.length (tab bs.length fun t => predM t bs 0) (List.replicate bs.length 0) (List.replicate bs.length 0) (List.replicate bs.length false) (List.replicate bs.length 0) (.slice none 0 0) W) := Lib.hid fun W hb hk =>
      ⟨hk, hrow.chg (chg_of hb) fun _ _ h => h, arr_below hgi hb, arr_below hgp hb, arr_below hgr hb, arr_below hgd hb, tab_len _ _, hp, a1, (show w2.heap.size ≠ gi by omega), (show w2.heap.size ≠ gp by omega), (show w2.heap.size ≠ gr by omega), (show w2.heap.size ≠ gd by omega), a35, a37, a39, a57, a59, a79⟩
    have hextw : Below w.heap.size w w2 := Below.then_ (by repeat (first | (with_reducible first | exact Below.refl _ _ | assumption | exact ext_box _) | (with_reducible apply Below.drew) | ((with_reducible refine Below.setCell ?_ ?hs _); (case hs => first | (simp; done) | (simp; omega) | omega)) | ((with_reducible refine Below.alloc ?_ ?hs _); (case hs => first | (simp; done) | (simp; omega) | omega)))) HR.out.ext
    have b0 := (HR.out.ext.cell (p := ⟨w.heap.size, 0, none⟩) (by simp)).trans (box_cell w _ _ (Ext.self _) 0)
    have b1 := (HR.out.ext.cell (p := ⟨w.heap.size, 1, none⟩) (by simp)).trans (box_cell w _ _ (Ext.self _) 1)
    replace b0 : w2.cell? ⟨w.heap.size, 0, none⟩ = some (.int .i64 vals) := b0
    replace b1 : w2.cell? ⟨w.heap.size, 1, none⟩ = some (.slice Af bs.length cf) := b1
    obtain ⟨W3, hW3⟩ : ∃ W3, w2.alloc (.cells #[.slice Ap bs.length cp, .slice (some ⟨gi, 0, none⟩) bs.length bs.length, .slice (some ⟨gp, 0, none⟩) bs.length bs.length, .slice (some ⟨gr, 0, none⟩) bs.length bs.length, .slice none 0 0, .slice (some ⟨gd, 0, none⟩) bs.length bs.length] 60) = W3 := ⟨_, rfl⟩
    have hb23 : Below w2.heap.size w2 W3 := by rw [← hW3]; exact (Below.refl _ _).alloc (Nat.le_refl _) _
    have hF3 := HFW.out W3 hb23 (by rw [← hW3]; exact bk_newl rfl)
    have c0 := (hb23.cell (World.block_lt_of_cell? w2 _ b0)).trans b0
    have c1 := (hb23.cell (World.block_lt_of_cell? w2 _ b1)).trans b1
    have hext3 : Below w.heap.size w W3 := hextw.trans (hb23.mono hextw.size)
    have hsz2 := HR.out.ext.size
    rw [World.size_alloc] at hsz2 l3 l5 l7 l9
    have hlow : ∀ q, FlowA.Own ⟨w2.heap.size, gi, gp, gr, gd, Ap, cp, o 1⟩ q → w.heap.size ≤ q := fun q hq => by
      rcases hq with hq | rfl | rfl | rfl | rfl | rfl
      · exact hlow1 q hq
      all_goals ((try dsimp only); omega)
    obtain ⟨a, ha⟩ : ∃ a, a = FlowA.mk w2.heap.size gi gp gr gd Ap cp (o 1) := ⟨_, rfl⟩
    have hga : w2.heap.size = a.g := by rw [ha]
    rw [← ha] at hF3 hlow
    have HNUM := Lib.hid (number_c a bs w bs.length _ _ _ _ _ vals Af cf W3 hF3 rfl hok hx hn hlow hext3)
    have HLOW := Lib.hid hlow
    have HLT := Lib.hid (fun q (hq : a.Own q) => hF3.lt hq)
    have HE3 := Lib.hid hext3
    rw [hW3, hga]
    clear ha hga hF3 hlow hext3 hb23 b0 b1 hextw HFW hlow1 a1 a35 a37 a39 a57 a59 a79 l3 l5 l7 l9 l3' l5' l7' l9' hgi hgp hgr hgd hrow HR e0 e2 e4 e6 e8 hW3 h3 h5 h7 h9 hsz2 HPR
    go_upto_region 4 with (go_at_call 66; refine HNUM.out.mono ?_; rintro e w3 ⟨Q, v, fp, rfl, hF4, hr4, hf4, hP4, hC4⟩)
    obtain ⟨t, hN⟩ := Num.of hok hp (L := (dfs (succB bs) bs.length 0 (List.replicate bs.length false, [])).1) (S := (dfs (succB bs) bs.length 0 (List.replicate bs.length false, [])).2) rfl
    generalize dfs (succB bs) bs.length 0 (List.replicate bs.length false, []) = LS at *
    obtain ⟨L, S⟩ := LS
    dsimp only at hF4 hr4 hP4 hN
    obtain ⟨Al, cl, hv, hcl⟩ := hr4.form
    rw [natI_len] at hv
    subst hv
    have HN := Lib.hid hN
    have HPO := Lib.hid hP4
    have hSl : S.length ≤ bs.length := nodup_len _ S hN.nodup fun x hx => hN.lt hx
    have hS1 : 1 ≤ S.length := by have := hN.top0; omega
    have HS4 : Hid (FS a bs Q L (List.replicate bs.length 0) S Al cl fp w (List.replicate bs.length 0) w3) := Lib.hid ⟨hF4, hr4, fun q hq => ⟨Nat.le_trans HE3.out.size (hf4 q hq), fun k => by have := HLT.out q k; have := hf4 q hq; omega⟩, HLOW.out, HE3.out.trans (hC4.below HE3.out.size fun q hq => HLOW.out q hq)⟩
    have g1 := hF4.cells.2.1
    clear hF4 hr4 hf4 hP4 hC4 hN hcl HNUM HLOW HLT HE3 c0 c1 hx hok
    go_wp2
    go_loopw [33] (fun vi wr => ∃ (k : Nat) (I : List Int), vi = .int .i64 k ∧ k ≤ bs.length ∧ I = List.replicate k (-1) ++ List.replicate (bs.length - k) 0 ∧ FS a bs Q L (List.replicate bs.length 0) S Al cl fp w I wr) (fun vi _ => bs.length - (intOf vi).toNat)
    case atStart => exact ⟨0, _, rfl, by omega, by simp, HS4.out⟩
    case round =>
      clear g1 HS4
      obtain ⟨k, I, rfl, hk, hI, hs⟩ := hrel
      have g1 := hs.flow.cells.2.1
      have HS := Lib.hid hs
      by_cases hlt : k < bs.length
      · have HI2 := Lib.hid (show I.set k (-1) = List.replicate (k + 1) (-1) ++ List.replicate (bs.length - (k + 1)) 0 by rw [hI]; exact rep_set _ _ _ _ hlt)
        obtain ⟨g2, g3⟩ := hs.flow.getI (show I[k]? = some 0 by rw [hI]; exact rep_get _ _ _ _ hlt)
        have HS2 := Lib.hid (hs.setI hlt (-1))
        clear hs hI
        go_wp2
        go_roundw
        case rel => exact ⟨k + 1, _, by go_num, by omega, HI2.out, HS2.out⟩
        case measure => simp [intOf]; omega
      · have hkn : k = bs.length := by omega
        subst hkn
        have HI2 := Lib.hid (show I = List.replicate bs.length (-1) by rw [hI]; simp)
        have hI0 : I[0]? = some (-1) := by rw [HI2.out, List.getElem?_replicate]; simp [hp]
        obtain ⟨g2, g3⟩ := hs.flow.getI hI0
        have HS2 := Lib.hid (hs.setI hp 0)
        have HLS := Lib.hid (show LoopSt bs L S t (I.set 0 0) (S.idxOf 0) by rw [HI2.out]; exact LoopSt.first HN.out hp)
        clear hs hI hI0
        go_wp2
        go_step3
        generalize wr.setCell ⟨a.gi, 0, none⟩ (.int .i64 0) = w5 at *
        generalize I.set 0 0 = I5 at *
        clear g1 g2 g3 HS HI2
        have hag : a.g ≠ a.gi := HS2.out.flow.apart.2.1
        have htop := HN.out.top0
        go_wp2
        go_loopw [] (fun wr => ∃ I, LoopSt bs L S t I (S.idxOf 0) ∧ FS a bs Q L (List.replicate bs.length 0) S Al cl fp w I wr) (fun wr => S.length * S.length - wsum S.idxOf (parL (readI a.gi bs.length wr)) S)
        case atStart => exact ⟨I5, HLS.out, HS2.out⟩
        case round =>
          clear HLS HS2
          obtain ⟨I0, hL0, hs0⟩ := hrel
          have HL0 := Lib.hid hL0
          have HS0 := Lib.hid hs0
          have HRD := Lib.hid (readI_arr hs0.flow.idom)
          clear hL0 hs0
          go_wp2
          go_loopw [7] (fun vi wr => ∃ (c : Nat) (I : List Int), vi = .int .i64 ((c : Int) - 1) ∧ c + 1 ≤ S.length ∧ LoopSt bs L S t I c ∧ GrewL bs L S I0 I c ∧ FS a bs Q L (List.replicate bs.length 0) S Al cl fp w I wr) (fun vi _ => (intOf vi + 1).toNat)
          case atStart => exact ⟨S.length - 1, I0, by go_num, by omega, by rw [show S.length - 1 = S.idxOf 0 by omega]; exact HL0.out, by rw [show S.length - 1 = S.idxOf 0 by omega]; exact GrewL.first HN.out, HS0.out⟩
          case round =>
            obtain ⟨c, I, rfl, hc, hL, hg, hs⟩ := hrel
            have HL := Lib.hid hL
            have HG := Lib.hid hg
            have HS := Lib.hid hs
            clear hL hg HS0
            by_cases hc0 : c = 0
            · subst hc0
              clear hs
              rw [show (((0 : Nat) : Int) - 1) = -1 by omega]
              go_wp2
              go_loopw [72] (fun vi wr => ∃ (k : Nat), vi = .int .i64 k ∧ k ≤ S.length ∧ (∀ (j b : Nat), j < k → S[j]? = some b → FixAt bs L I b) ∧ FS a bs Q L (List.replicate bs.length 0) S Al cl fp w I wr) (fun vi _ => S.length - (intOf vi).toNat)
              case atStart => exact ⟨0, rfl, by omega, fun j b h => by omega, HS.out⟩
              case round =>
                clear HS
                obtain ⟨k, rfl, hk, hfix, hs⟩ := hrel
                have HFX := Lib.hid hfix
                have HS := Lib.hid hs
                clear hfix
                by_cases hlt : k < S.length
                · obtain ⟨b, eb⟩ := get_of_lt (xs := S) (k := k) hlt
                  obtain ⟨hb1, hb2, hb3⟩ := HN.out.at_ eb
                  obtain ⟨A, hA, hAf, q0⟩ := hs.at_ eb
                  subst hA
                  have HEB := Lib.hid eb
                  clear eb
                  by_cases hb0 : b = 0
                  · subst hb0
                    have HF2 : Hid (∀ (j b : Nat), j < k + 1 → S[j]? = some b → FixAt bs L I b) := Lib.hid fun j c hj hc => by
                      by_cases e : j = k
                      · subst e
                        rw [HEB.out] at hc
                        obtain rfl := Option.some.inj hc
                        exact fun h => absurd rfl h
                      · exact HFX.out j c (by omega) hc
                    go_wp2
                    refine wp_region_ext (W := wr) (by kernel_rfl) (by kernel_rfl) ⟨Ext.self wr, rfl⟩ ?_
                    (repeat (rw [wpQuiet_cons]; go_simp)); rw [wpQuiet_nil']
                    intro u
                    go_wp2
                    go_roundw
                    case rel => exact ⟨k + 1, by go_num, by omega, HF2.out, HS.out.below u.hb⟩
                    case measure => simp [intOf]; omega
                  · obtain ⟨p, hp1⟩ := Option.isSome_iff_exists.1 (HL.out.st.known hb1 (Nat.zero_le _))
                    have q1 := hs.flow.cells.2.1
                    obtain ⟨q2, -⟩ := hs.flow.getI (parL_get hp1)
                    have HNE := Lib.hid (fun W (h : FS a bs Q L (List.replicate bs.length 0) S (some A) cl fp w I W) => near_c HN.out HPO.out hn HL.out hb1 hb0 (by omega) W h)
                    have zg := hs.flow.box.lt
                    have zi := hs.flow.idom.lt hp
                    have hbb : ((b : Int) != 0) = true := by simp; omega
                    have HP1 := Lib.hid hp1
                    have KS := Lib.hid (fun w' (h : Below wr.heap.size wr w') => (⟨(h.cell zg).trans q1, (h.cell (p := ⟨a.gi, b, none⟩) zi).trans q2⟩ : w'.cell? ⟨a.g, 1, none⟩ = some (.slice (some ⟨a.gi, 0, none⟩) bs.length bs.length) ∧ w'.cell? ⟨a.gi, b, none⟩ = some (.int .i64 p)))
                    clear hs hp1
                    go_upto_region 17 with fail
                    go_region_held3 (fun w' => w'.cell? ⟨a.g, 1, none⟩ = some (.slice (some ⟨a.gi, 0, none⟩) bs.length bs.length) ∧ w'.cell? ⟨a.gi, b, none⟩ = some (.int .i64 p))
                      ((refine KS.out _ ?_; (repeat (first | (with_reducible first | exact Below.refl _ _ | assumption | exact ext_box _) | (with_reducible apply Below.drew) | ((with_reducible refine Below.setCell ?_ ?hs _); (case hs => first | (simp; done) | (simp; omega) | omega)) | ((with_reducible refine Below.alloc ?_ ?hs _); (case hs => first | (simp; done) | (simp; omega) | omega)))); done))
                      (first
                      | (go_at_call 67; refine (HNE.out _ (HS.out.below (by (repeat (first | (with_reducible first | exact Below.refl _ _ | assumption | exact ext_box _) | (with_reducible apply Below.drew) | ((with_reducible refine Below.setCell ?_ ?hs _); (case hs => first | (simp; done) | (simp; omega) | omega)) | ((with_reducible refine Below.alloc ?_ ?hs _); (case hs => first | (simp; done) | (simp; omega) | omega))))))).mono ?_; rintro e w7 ⟨⟨N, rfl, hNe⟩, hb7⟩; have HB7 := Below.then_ (w := wr) (by (repeat (first | (with_reducible first | exact Below.refl _ _ | assumption | exact ext_box _) | (with_reducible apply Below.drew) | ((with_reducible refine Below.setCell ?_ ?hs _); (case hs => first | (simp; done) | (simp; omega) | omega)) | ((with_reducible refine Below.alloc ?_ ?hs _); (case hs => first | (simp; done) | (simp; omega) | omega))))) hb7)
                      | fail)
                    all_goals
                      have HNe := Lib.hid hNe
                      have HS7 := Lib.hid (HS.out.below HB7)
                      clear hNe
                      by_cases hpn : p = N
                      · have hq : ((p : Int) != (N : Int)) = false := by simp [hpn]
                        have HF2 : Hid (∀ (j b : Nat), j < k + 1 → S[j]? = some b → FixAt bs L I b) := Lib.hid fun j c hj hc => by
                          by_cases e : j = k
                          · subst e
                            rw [HEB.out] at hc
                            obtain rfl := Option.some.inj hc
                            exact fun _ => ⟨N, by rw [HP1.out, hpn], HNe.out⟩
                          · exact HFX.out j c (by omega) hc
                        clear hpn
                        go_wp2
                        go_roundw
                        case rel => exact ⟨k + 1, by go_num, by omega, HF2.out, HS7.out⟩
                        case measure => simp [intOf]; omega
                      · have hq : ((p : Int) != (N : Int)) = true := by simp; omega
                        have HLA := Lib.hid (show LoopSt bs L S t I (S.idxOf 0) from HL.out.again)
                        have HW : Hid (S.length * S.length - wsum S.idxOf (parL (readI a.gi bs.length w7)) S < S.length * S.length - wsum S.idxOf (parL I0) S) := Lib.hid (by
                          rw [readI_arr HS7.out.flow.idom]
                          have h1 := HG.out.fin' HL.out.st.tree hb1 hb0 HNe.out (by rw [HP1.out]; intro e; exact hpn (Option.some.inj e))
                          have h2 := wsum_bound HN.out (parL I)
                          omega)
                        clear hpn
                        go_wp2
                        go_roundw
                        case rel => exact ⟨I, HLA.out, HS7.out⟩
                        case measure => rw [HRD.out]; exact HW.out
                · have hkn : k = S.length := by omega
                  subst hkn
                  have HH := Lib.hid (HL.out.done HN.out hp fun b hb => by obtain ⟨j, hj⟩ := List.getElem?_of_mem hb; exact HFX.out j b (List.getElem?_eq_some_iff.1 hj).1 hj)
                  have q1 := hs.flow.cells.2.1
                  obtain ⟨v0, ev0⟩ := get_of_lt (xs := I) (k := 0) (by rw [hs.flow.idom.len]; exact hp)
                  obtain ⟨q2, q3⟩ := hs.flow.getI ev0
                  have HS8 := Lib.hid (hs.setI hp (-1))
                  clear hs ev0 HL HG HL0 HRD
                  go_upto_region 20 with fail
                  generalize wr.setCell ⟨a.gi, 0, none⟩ (.int .i64 (-1)) = w8 at *
                  have HPC := Lib.hid (preorder_c a bs w bs.length _ _ _ _ L (parL I) S.idxOf _ w8 HS8.out.flow rfl hn HH.out HS8.out.low HS8.out.ext)
                  clear q1 q2 q3
                  go_wp2_with (go_at_call 68; refine HPC.out.mono ?_; rintro e w9 ⟨rfl, D9, vo9, fo9, hF9, hr9, hf9, hD9, hC9⟩)
                  try rw [Exit.noGoto_ret]
                  go_ret
                  refine ⟨a, parL I, S.idxOf, _, L, I.set 0 (-1), Q, D9, vo9, fo9, rfl, ⟨hF9, hr9, fun q hq => ⟨Nat.le_trans HS8.out.ext.size (hf9 q hq).1, (hf9 q hq).2⟩, HS8.out.low, HH.out.fin hF9.depth.len rfl hD9⟩, HS8.out.ext.trans (hC9.below HS8.out.ext.size fun q hq => HS8.out.low q hq)⟩
            · obtain ⟨i, rfl⟩ : ∃ i, c = i + 1 := ⟨c - 1, by omega⟩
              obtain ⟨b, eb⟩ := get_of_lt (xs := S) (k := i) (by omega)
              obtain ⟨hb1, hb2, hb3⟩ := HN.out.at_ eb
              have hb0 := HN.out.ne0 eb (by omega)
              have hil : i < S.length := by omega
              obtain ⟨A, hA, hAf, q0⟩ := hs.at_ eb
              subst hA
              have q1 := hs.flow.cells.2.1
              obtain ⟨vb, evb⟩ := get_of_lt (xs := I) (k := b) (by rw [hs.flow.idom.len]; exact hb3)
              obtain ⟨q2, q3⟩ := hs.flow.getI evb
              have HNE := Lib.hid (fun W (h : FS a bs Q L (List.replicate bs.length 0) S (some A) cl fp w I W) => near_c HN.out HPO.out hn HL.out hb1 hb0 (by omega) W h)
              have zg := hs.flow.box.lt
              have zA := World.block_lt_of_cell? wr _ q0
              have hAg : (A.add i).block ≠ a.gi := fun e => (hs.own _ hAf).2 (by rw [add_block] at e; rw [e]; simp [FlowA.Own])
              have zi := hs.flow.idom.lt hp
              have KS := Lib.hid (fun w' (h : Below wr.heap.size wr w') => (⟨(h.cell zg).trans q1, (h.cell zA).trans q0⟩ : w'.cell? ⟨a.g, 1, none⟩ = some (.slice (some ⟨a.gi, 0, none⟩) bs.length bs.length) ∧ w'.cell? (A.add i) = some (.int .i64 b)))
              have KS2 := Lib.hid (fun w' v (h : Below wr.heap.size wr w') => (⟨(World.cell?_setCell_far _ _ _ _ (fun e => hag e.symm)).trans ((h.cell zg).trans q1), (World.cell?_setCell_far _ _ _ _ (fun e => hAg e.symm)).trans ((h.cell zA).trans q0)⟩ : (w'.setCell ⟨a.gi, b, none⟩ v).cell? ⟨a.g, 1, none⟩ = some (.slice (some ⟨a.gi, 0, none⟩) bs.length bs.length) ∧ (w'.setCell ⟨a.gi, b, none⟩ v).cell? (A.add i) = some (.int .i64 b)))
              have hiv : (((i + 1 : Nat) : Int) - 1) = (i : Int) := by omega
              rw [hiv]
              go_upto_region 13 with fail
              go_region_held3 (fun w' => w'.cell? ⟨a.g, 1, none⟩ = some (.slice (some ⟨a.gi, 0, none⟩) bs.length bs.length) ∧ w'.cell? (A.add i) = some (.int .i64 b))
                (first | (refine KS2.out _ _ ?_; (repeat (first | (with_reducible first | exact Below.refl _ _ | assumption | exact ext_box _) | (with_reducible apply Below.drew) | ((with_reducible refine Below.setCell ?_ ?hs _); (case hs => first | (simp; done) | (simp; omega) | omega)) | ((with_reducible refine Below.alloc ?_ ?hs _); (case hs => first | (simp; done) | (simp; omega) | omega)))); done) | (refine KS.out _ ?_; (repeat (first | (with_reducible first | exact Below.refl _ _ | assumption | exact ext_box _) | (with_reducible apply Below.drew) | ((with_reducible refine Below.setCell ?_ ?hs _); (case hs => first | (simp; done) | (simp; omega) | omega)) | ((with_reducible refine Below.alloc ?_ ?hs _); (case hs => first | (simp; done) | (simp; omega) | omega)))); done))
                (first
                | (go_at_call 67; refine (HNE.out _ (HS.out.below (by (repeat (first | (with_reducible first | exact Below.refl _ _ | assumption | exact ext_box _) | (with_reducible apply Below.drew) | ((with_reducible refine Below.setCell ?_ ?hs _); (case hs => first | (simp; done) | (simp; omega) | omega)) | ((with_reducible refine Below.alloc ?_ ?hs _); (case hs => first | (simp; done) | (simp; omega) | omega))))))).mono ?_; rintro e w7 ⟨⟨N, rfl, hNe⟩, hb7⟩; have HB7 := Below.then_ (w := wr) (by (repeat (first | (with_reducible first | exact Below.refl _ _ | assumption | exact ext_box _) | (with_reducible apply Below.drew) | ((with_reducible refine Below.setCell ?_ ?hs _); (case hs => first | (simp; done) | (simp; omega) | omega)) | ((with_reducible refine Below.alloc ?_ ?hs _); (case hs => first | (simp; done) | (simp; omega) | omega))))) hb7; have y2 := (HB7.cell (p := ⟨a.gi, b, none⟩) zi).trans q2; have y3 := (HB7.frozen (p := ⟨a.gi, b, none⟩) zi).trans q3)
                | fail)
              all_goals
                have HNe := Lib.hid hNe
                obtain ⟨k1, k2⟩ := HL.out.visit HN.out eb (by omega) HG.out HNe.out
                have HL2 := Lib.hid k1
                have HG2 := Lib.hid k2
                have HS2 := Lib.hid ((HS.out.below HB7).setI hb3 (N : Int))
                clear k1 k2 hNe q0 q1 q2 q3 y2 y3 hAg hAf zi zA zg KS KS2 HNE
                go_wp2
                go_roundw
                case rel => exact ⟨i, I.set b N, by go_num, by omega, HL2.out, HG2.out, HS2.out⟩
                case measure => simp [intOf]; try omega
end Go.Proofs.YtnbkgaofdkkdnaaDoor
