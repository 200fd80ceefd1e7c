/- Contract of (*flow).preorder. -/
import Derived.Test.YtnbkgaofdkkdnaaDoorHj
namespace Go.Proofs.YtnbkgaofdkkdnaaDoor
open Go.RowKit
set_option linter.unusedSimpArgs false
set_option linter.unusedVariables false
set_option maxRecDepth 100000
open Dom

theorem kids_len (n : Nat) (par : Nat → Option Nat) (b : Nat) : (kidsOf n par b).length ≤ n := by
  unfold kidsOf
  exact Nat.le_trans (List.length_filter_le _ _) (by simp)
theorem pvisit_c (z : PreA) (W0 : World) (n : Nat) (P : List (List Int)) (I Q : List Int) (L : List Bool) (par : Nat → Option Nat) (dep : Nat → Nat) (hn : n ≤ 1048576) (hd : Dep par dep) (hm : ∀ c, (par c).isSome → dep c < n ∧ c < n) :
    ∀ (fuel b : Nat), b < n → dep b < n → n ≤ fuel + dep b + 1 → ∀ (D : List Int) (O : List Nat) (vo : Value) (fo : List Nat) (w : World), PreM z W0 n P I Q L (tab n fun d => natI (kidsOf n par d)) D O vo fo w → DepOk dep D O → (O ++ pre (kidsOf n par) fuel b).length ≤ n →
      Calls Tryd.prog 99 #[.int .i64 b, .int .i64 (dep b : Int), .pointer (some ⟨z.Bw, 0, none⟩), .pointer (some ⟨z.Bb, 0, none⟩), .pointer (some ⟨z.Bv, 0, none⟩)] w (RetP z W0 n P I Q L (tab n fun d => natI (kidsOf n par d)) dep fo (O ++ pre (kidsOf n par) fuel b) w) := by
  intro fuel
  induction fuel with
  | zero =>
    intro b hb hdb hf D O vo fo w h hD hl
    have hk : kidsOf n par b = [] := by
      cases hb : kidsOf n par b with
      | nil => rfl
      | cons c l =>
        have := kids_dep hd (fun c hc => (hm c hc).1) b c (by rw [hb]; simp)
        omega
    have := pvisit_step z W0 n P I Q L _ dep hn b hb (kidsOf n par b) (tab_get _ hb) (kids_len _ _ _) hdb (fun _ => []) (by rw [hk]; intro c hc; simp at hc) D O vo fo w h hD (by rw [hk]; exact hl)
    rw [hk] at this
    exact this
  | succ fuel ih =>
    intro b hb hdb hf D O vo fo w h hD hl
    refine pvisit_step z W0 n P I Q L _ dep hn b hb (kidsOf n par b) (tab_get _ hb) (kids_len _ _ _) hdb (pre (kidsOf n par) fuel) ?_ D O vo fo w h hD hl
    intro c hc D O vo fo w h hD hl
    have hk := kids_dep hd (fun c hc => (hm c hc).1) b c hc
    have hcn : c < n := by have := (List.mem_filter.1 hc).1; simpa using this
    have := ih c hcn hk.2 (by omega) D O vo fo w h hD hl
    rw [hk.1] at this
    simpa using this
/-- The children found among the first k. -/
def colI (I : List Int) (k : Nat) (d : Nat) : List Nat := (List.range k).filter fun c => decide (I[c]? = some (d : Int))
theorem colI_succ {I : List Int} {k : Nat} {v : Int} (h : I[k]? = some v) (d : Nat) : colI I (k + 1) d = colI I k d ++ if v = (d : Int) then [k] else [] := by
  unfold colI
  rw [List.range_succ, List.filter_append]
  congr 1
  by_cases e : v = (d : Int)
  · rw [if_pos e, List.filter_cons_of_pos (by simp [h, e])]; rfl
  · rw [if_neg e, List.filter_cons_of_neg (by simp [h, e])]; rfl
theorem colI_len (I : List Int) (k d : Nat) : (colI I k d).length ≤ k := by
  unfold colI
  exact Nat.le_trans (List.length_filter_le _ _) (by simp)
theorem colI_kids {bs : List Block} {par : Nat → Option Nat} {post dep : Nat → Nat} {L : List Bool} {I : List Int} (h : FlowH bs par post dep L I) (d : Nat) : colI I bs.length d = kidsOf bs.length par d := by
  unfold colI kidsOf
  refine List.filter_congr fun c hc => ?_
  have hcn : c < bs.length := by simpa using hc
  by_cases e : c = 0
  · subst e
    rw [h.i0]
    rw [decide_eq_false (by simp), decide_eq_false (by simp)]
  · rw [h.iN c hcn e]
    cases hp : par c with
    | none => rw [decide_eq_false (by simp), decide_eq_false (by simp)]
    | some p =>
      by_cases e2 : p = d
      · rw [decide_eq_true (by simp [e2]), decide_eq_true (by simp [e, e2])]
      · rw [decide_eq_false (by simp; omega), decide_eq_false (by simp [e2])]
def RetPre (a : FlowA) (n : Nat) (P : List (List Int)) (I Q : List Int) (L : List Bool) (par : Nat → Option Nat) (dep : Nat → Nat) (w : World) (e : Ending) (w' : World) : Prop :=
  e = .returned (.tuple #[]) ∧ ∃ (D : List Int) (vo : Value) (fo : List Nat), FlowM a n P I Q L D vo w' ∧ Row 2 kI64 w' vo (natI (pre (kidsOf n par) n 0)) fo ∧ (∀ q ∈ fo, w.heap.size ≤ q ∧ ¬ a.Own q) ∧ DepOk dep D (pre (kidsOf n par) n 0) ∧ Chg a.Own w w'
set_option maxHeartbeats 4000000 in
theorem preorder_c (a : FlowA) (bs : List Block) (W0 : World) (n : Nat) (P : List (List Int)) (I Q D : List Int) (L : List Bool) (par : Nat → Option Nat) (post dep : Nat → Nat) (w : World) (hF : FlowM a n P I Q L D (.slice none 0 0) w) (hbs : bs.length = n) (hn : n ≤ 1048576) (hH : FlowH bs par post dep L I)
    (hlow : ∀ q, a.Own q → W0.heap.size ≤ q) (hext : Below W0.heap.size W0 w) :
    Calls Tryd.prog 68 #[.pointer (some ⟨a.g, 0, none⟩)] w (RetPre a n P I Q L par dep w) := by
  obtain ⟨i0, hi, hz0, hz1, hz2⟩ := info_parts info_i64s
  obtain ⟨j0, hj', hy0, hy1, hy2⟩ := info_parts info_i64
  have hmf : ∀ (fn : Fn) (first cap : Array Value) (w : World), (Instr.makeFunc fn first cap).run Tryd.prog w = .ok (.func fn first cap) w := fun _ _ _ _ => rfl
  have HF := Lib.hid hF
  have g1 := hF.cells.2.1
  have zg := hF.box.lt
  have HIL := Lib.hid (show I.length = n from hF.idom.len)
  subst hbs
  have HDN : Hid (∀ (k : Nat) v, I[k]? = some v → v < 0 ∨ ∃ d : Nat, d < bs.length ∧ v = (d : Int)) := Lib.hid fun k v hv => by
    by_cases e : k = 0
    · subst e; rw [hH.i0] at hv; left; have := Option.some.inj hv; omega
    · have hk : k < bs.length := by rw [← hH.ilen]; exact (List.getElem?_eq_some_iff.1 hv).1
      rw [hH.iN k hk e] at hv
      cases hp : par k with
      | none => rw [hp] at hv; left; have h9 : (-1 : Int) = v := Option.some.inj hv; omega
      | some p => rw [hp] at hv; right; exact ⟨p, (hH.lt p (hH.tree.up k p e hp).2).2, (Option.some.inj hv).symm⟩
  have HHH := Lib.hid hH
  have HLOW := Lib.hid hlow
  have HEX := Lib.hid hext
  clear hH hlow hext hF
  go_enter Tryd.func68, Tryd.ntmps68
  go_wp2_with (at_make; (refine wpList_make_row kI64s [] [.slice none 0 0] _ rfl _ _ 57 rfl 35 i0 _ Tryd.underlying57 hi hz0 hz1 rfl (by decide) (fun w' => ⟨_, rfl, Row.nil _ _ _⟩) _ bs.length rfl rfl rfl (by rw [hz2]; omega) (by simp only [maxLen]; omega) ?_; intro w1 hr1 hB1 hz1'; have hBw : Below w.heap.size w w1 := Below.then_ (by repeat (first | (with_reducible first | exact Below.refl _ _ | assumption | exact ext_box _) | (with_reducible apply Below.drew) | ((with_reducible refine Below.setCell ?_ ?hs _); (case hs => first | (simp; done) | (simp; omega) | omega)) | ((with_reducible refine Below.alloc ?_ ?hs _); (case hs => first | (simp; done) | (simp; omega) | omega)))) hB1; have q0 : w1.cell? ⟨w.heap.size, 0, none⟩ = some (.pointer (some ⟨a.g, 0, none⟩)) := (hB1.cell (p := ⟨w.heap.size, 0, none⟩) (by simp)).trans (by simp); have q1 := (hBw.cell (p := ⟨a.g, 1, none⟩) zg).trans g1; have zw1 : w.heap.size + 1 < w1.heap.size := (by have h9 := hz1'; simp only [World.size_alloc] at h9; exact h9); have zw0 : w.heap.size < w1.heap.size := (by omega); have zg1 : a.g < w1.heap.size := (by omega)))
  have HR1 : Hid (Row 35 kI64s (w1.alloc (.cells #[.slice (some ⟨w.heap.size + 1, 0, none⟩) bs.length bs.length] 57)) (.slice (some ⟨w.heap.size + 1, 0, none⟩) bs.length bs.length) (List.replicate bs.length []) [w.heap.size + 1]) := Lib.hid (by
    simp only [World.size_alloc] at hr1
    exact hr1.chg (S := fun _ => False) (by (repeat (first | (with_reducible first | exact Chg.refl _ _ | assumption) | (with_reducible refine Chg.drew ?_) | ((with_reducible refine Chg.setCell ?_ ?hs _); (case hs => first | (simp; done) | (simp; omega) | omega)) | (with_reducible refine Chg.alloc ?_ _)))) (by simp))
  have HBw : Hid (Bk w.heap.size 55 [.pointer (some ⟨a.g, 0, none⟩)] w1) := Lib.hid ((Bk.made w 55 [.pointer (some ⟨a.g, 0, none⟩)]).below hB1)
  have HB := Lib.hid hBw
  clear hr1 hB1 hz1' q0 q1 g1
  go_loopw [17] (fun vi wr => ∃ (k : Nat) (fp : List Nat), vi = .int .i64 k ∧ k ≤ bs.length ∧ Row 35 kI64s wr (.slice (some ⟨w.heap.size + 1, 0, none⟩) bs.length bs.length) (tab bs.length fun d => natI (colI I k d)) fp ∧ (∀ q ∈ fp, w.heap.size < q ∧ q ≠ w1.heap.size) ∧ Bk w.heap.size 55 [.pointer (some ⟨a.g, 0, none⟩)] wr ∧ Bk w1.heap.size 57 [.slice (some ⟨w.heap.size + 1, 0, none⟩) bs.length bs.length] wr ∧ Below w.heap.size w wr) (fun vi _ => bs.length - (intOf vi).toNat)
  case atStart =>
    refine ⟨0, [w.heap.size + 1], rfl, by omega, ?_, fun q hq => by simp at hq; omega, bk_old HBw.out, bk_newl rfl, HB.out.alloc (by omega) _⟩
    rw [show (tab bs.length fun d => natI (colI I 0 d)) = List.replicate bs.length [] from tab_nil _]
    exact HR1.out
  case round =>
    clear HR1 HBw hBw HB
    obtain ⟨k, fp, rfl, hk, hr, hfp, hbw, hbb, hbl⟩ := hrel
    have HR := Lib.hid hr
    have HFP := Lib.hid hfp
    have HBW := Lib.hid hbw
    have HBB := Lib.hid hbb
    have HBL := Lib.hid hbl
    clear hr hfp
    by_cases hlt : k < bs.length
    · obtain ⟨v, ev⟩ := get_of_lt (xs := I) (k := k) (by rw [HIL.out]; exact hlt)
      have q0 := ((HF.out.below hbl).getI ev).1
      have HCS := Lib.hid (fun d => colI_succ ev d)
      rcases HDN.out k v ev with hv | ⟨d, hd, rfl⟩
      · have HTE := Lib.hid (show (tab bs.length fun d => natI (colI I (k + 1) d)) = tab bs.length fun d => natI (colI I k d) by congr 1; funext d; rw [HCS.out d, if_neg (by omega), List.append_nil])
        clear hbw hbb hbl ev
        go_wp2
        go_roundw
        case rel => exact ⟨k + 1, fp, by go_num, by omega, by rw [HTE.out]; exact HR.out, HFP.out, HBW.out, HBB.out, HBL.out⟩
        case measure => simp [intOf]; omega
      · obtain ⟨_, f0, ⟨v0, rfl, r0⟩, hcs, hsub, hgn, hset⟩ := HR.out.focus (tab_len _ _) (tab_get _ hd)
        have q1 := ha1 (n := d * 1) hcs
        obtain ⟨_, _, _, hfz⟩ := HR.out.cellsAt (tab_len _ _) (tab_get _ hd)
        have qf := hfz (d * 1)
        rw [Nat.mul_one] at q1 qf
        have HS := Lib.hid hset
        have HSB := Lib.hid hsub
        have hgu : w.heap.size + 1 < wr.heap.size := HR.out.lt _ (by obtain ⟨_, _, _, _, rfl, _⟩ := HR.out; simp [Value.ownBlock])
        have hgf : w.heap.size + 1 ∈ fp := by obtain ⟨_, _, _, _, rfl, _⟩ := HR.out; simp [Value.ownBlock]
        obtain ⟨A4, c4, hv4, hl4⟩ := r0.form
        rw [natI_len] at hv4
        subst hv4
        have HR0 := Lib.hid r0
        have hyl : (colI I k d).length ≤ 1048576 := Nat.le_trans (colI_len _ _ _) (by omega)
        have hbbn : w1.heap.size ∉ f0 := fun h => (HFP.out _ (hsub _ h)).2 rfl
        have hbb2 := hbb.lt
        have KS := Lib.hid (fun w' (hc : Chg (fun q => q ∈ f0) wr w') => show w'.cell? ⟨w1.heap.size, 0, none⟩ = some (.slice (some ⟨w.heap.size + 1, 0, none⟩) bs.length bs.length) ∧ w'.cell? ⟨w.heap.size + 1, d, none⟩ = some (.slice A4 (colI I k d).length c4) ∧ w'.frozen? ⟨w.heap.size + 1, d, none⟩ = false from
          ⟨(hbb.chg hc hbbn).cell 0 rfl, (hc.cell (p := ⟨w.heap.size + 1, d, none⟩) hgu hgn).trans q1, (frozen_of_block (hc.block (w.heap.size + 1) hgu hgn) d).trans qf⟩)
        obtain ⟨y0, y1, y2⟩ := KS.out wr (Chg.refl _ _)
        have HGN := Lib.hid hgn
        clear hbw hbb hbl ev hset hsub hcs hfz q1 qf r0 hl4 hgn hbbn
        go_wp2
        go_region_law
          (first
            | (refine step_append_row kI64 rfl _ _ 35 rfl 2 j0 _ 8 Tryd.underlying35 hj' hy0 hy1 hy2 rfl (by decide) _ (natI (colI I k d)) f0 rfl (HR0.out.chg (S := fun _ => False) (by (repeat (first | (with_reducible first | exact Chg.refl _ _ | assumption) | (with_reducible refine Chg.drew ?_) | ((with_reducible refine Chg.setCell ?_ ?hs _); (case hs => first | (simp; done) | (simp; omega) | omega)) | (with_reducible refine Chg.alloc ?_ _)))) (by simp)) _ _ [.int .i64 k] (k : Int) [] rfl ⟨rfl, rfl⟩ (by simp) (box_news (by simp)) (by rw [natI_len]; simp only [maxLen]; omega) (by rw [natI_len]; omega) ?_; intro g cap w3 fp3 hr3 hf3 hC3; have HC3 : Chg (fun q => q ∈ f0) wr w3 := Chg.trans (by (repeat (first | (with_reducible first | exact Chg.refl _ _ | assumption) | (with_reducible refine Chg.drew ?_) | ((with_reducible refine Chg.setCell ?_ ?hs _); (case hs => first | (simp; done) | (simp; omega) | omega)) | (with_reducible refine Chg.alloc ?_ _)))) hC3; obtain ⟨z0, z1, z2⟩ := KS.out w3 HC3)
            | fail)
        all_goals
          obtain ⟨fp', hr', hf', hC'⟩ := HS.out w3 (natI (colI I k d) ++ [(k : Int)]) _ fp3 HC3.size (fun b hb hn => HC3.block b (HR.out.lt b hb) hn) ⟨_, rfl, hr3⟩ (fun b hb => by rcases hf3 b hb with h | h | h; exact .inl h; simp at h; exact .inr fun hm => by have := HR.out.lt b hm; simp at h; omega)
          rw [show d * kI64s.sz = d from Nat.mul_one d, setCells1] at hr' hC'
          have htab : (tab bs.length fun s => natI (colI I k s)).set d (natI (colI I k d) ++ [(k : Int)]) = tab bs.length fun s => natI (colI I (k + 1) s) := by
            rw [← natI_snoc, show colI I k d ++ [k] = colI I (k + 1) d by rw [HCS.out d, if_pos rfl]]
            exact tab_set (F' := fun s => natI (colI I (k + 1) s)) hd (fun s hs => by rw [HCS.out s, if_neg (by omega), List.append_nil])
          rw [htab] at hr'
          clear htab
          have HR' := Lib.hid hr'
          have HFP' : Hid (∀ q ∈ fp', w.heap.size < q ∧ q ≠ w1.heap.size) := Lib.hid fun q hq => by
            rcases hf' q hq with h | h
            · exact HFP.out q h
            · rcases hf3 q h with h | h | h
              · exact HFP.out q (HSB.out q h)
              · simp at h
              · simp at h; omega
          have HBW' := Lib.hid ((HBW.out.chg HC3 fun h => by have := (HFP.out _ (HSB.out _ h)).1; omega).chg hC' (by omega))
          have HBB' := Lib.hid ((HBB.out.chg HC3 fun h => (HFP.out _ (HSB.out _ h)).2 rfl).chg hC' (by omega))
          have HBL' := Lib.hid (HBL.out.trans ((HC3.below HBL.out.size fun q hq => by have := (HFP.out _ (HSB.out _ hq)).1; omega).trans (hC'.below (Nat.le_trans HBL.out.size HC3.size) fun q hq => by omega)))
          clear hr' hf' hC' hr3 hf3 HS
          go_wp2
          go_roundw
          case rel => exact ⟨k + 1, fp', by go_num, by omega, HR'.out, HFP'.out, HBW'.out, HBB'.out, HBL'.out⟩
          case measure => simp [intOf]; omega
    · have hkn : k = bs.length := by omega
      have HKI := Lib.hid (show (tab bs.length fun d => natI (colI I k d)) = tab bs.length fun d => natI (kidsOf bs.length par d) by congr 1; funext d; rw [hkn, colI_kids HHH.out d])
      have hlta : ∀ q, a.Own q → q < w.heap.size := fun q hq => (HF.out).lt hq
      have hsz := hbl.size
      have hbbl := hbb.lt
      have HPM : Hid (PreM ⟨a, w.heap.size, w1.heap.size, wr.heap.size, some ⟨w.heap.size + 1, 0, none⟩, bs.length, fp⟩ W0 bs.length P I Q L (tab bs.length fun d => natI (kidsOf bs.length par d)) D [] (.slice none 0 0) [] (wr.alloc (.cells #[.func (.func 99) #[] #[.pointer (some ⟨w.heap.size, 0, none⟩), .pointer (some ⟨w1.heap.size, 0, none⟩), .pointer (some ⟨wr.heap.size, 0, none⟩)]] 151))) := Lib.hid (by
        refine ⟨HF.out.below (HBL.out.alloc hsz _), Row.nil _ _ _, by simp, bk_old HBW.out, bk_old HBB.out, ?_, bk_newl rfl, ⟨fun k => ?_, fun k => ?_, fun k => ?_, fun q hq k => ?_⟩, fun q hq => ?_, (HEX.out.trans (HBL.out.mono HEX.out.size)).alloc (Nat.le_trans HEX.out.size hsz) _⟩
        · rw [← HKI.out]
          exact HR.out.chg (S := fun _ => False) (by (repeat (first | (with_reducible first | exact Chg.refl _ _ | assumption) | (with_reducible refine Chg.drew ?_) | ((with_reducible refine Chg.setCell ?_ ?hs _); (case hs => first | (simp; done) | (simp; omega) | omega)) | (with_reducible refine Chg.alloc ?_ _)))) (by simp)
        · have := hlta _ k; simp at this
        · have := hlta _ k; simp at this; omega
        · have := hlta _ k; simp at this; omega
        · have := hlta _ k; have := (HFP.out q hq).1; omega
        · have h9 := HEX.out.size
          rcases hq with k | k | k | k | k
          · exact HLOW.out q k
          · simp at k; omega
          · simp at k; omega
          · simp at k; omega
          · have := (HFP.out q k).1; omega)
      have hdl : ∀ c, (par c).isSome → c < bs.length := fun c hc => (HHH.out.lt c hc).2
      have h0l : (par 0).isSome := by rw [HHH.out.par0]; rfl
      have HV := Lib.hid (show Calls Tryd.prog 99 #[.int .i64 0, .int .i64 0, .pointer (some ⟨w.heap.size, 0, none⟩), .pointer (some ⟨w1.heap.size, 0, none⟩), .pointer (some ⟨wr.heap.size, 0, none⟩)] _ _ by
        have := pvisit_c _ W0 bs.length P I Q L par dep hn HHH.out.hdep HHH.out.lt bs.length 0 HHH.out.pos (HHH.out.lt 0 h0l).1 (by omega) D [] _ [] _ HPM.out (fun x hx => by simp at hx) (by rw [List.nil_append]; exact pre_len HHH.out.hdep hdl _ _ HHH.out.pos)
        rw [HHH.out.hdep.zero] at this
        exact this)
      clear hbw hbb hbl hdl h0l hlta hbbl
      go_upto_region 10 with fail
      go_wp2_with (go_at_call 99; refine HV.out.mono ?_; rintro e w3 ⟨rfl, D3, v3, fo3, hM3, hD3, hf3, hC3⟩)
      refine bodyPost_end (v := .tuple #[]) (by simp [results, Tryd.results68, go_sem]) rfl ?_
      rw [List.nil_append] at hD3
      have horow := hM3.orow
      rw [List.nil_append] at horow
      refine ⟨rfl, D3, v3, fo3, hM3.flow, horow, fun q hq => ⟨?_, fun k => (hM3.oown q hq).2 (.inl k)⟩, hD3, ?_⟩
      · rcases hf3 q hq with h | h
        · simp at h
        · simp at h; omega
      · have h1 := (Chg.of_below (HBL.out.alloc hsz (.cells #[.func (.func 99) #[] #[.pointer (some ⟨w.heap.size, 0, none⟩), .pointer (some ⟨w1.heap.size, 0, none⟩), .pointer (some ⟨wr.heap.size, 0, none⟩)]] 151))).mono (T := fun q => a.Own q ∨ w.heap.size ≤ q) fun q _ k => .inr k
        exact (h1.trans (hC3.mono fun q _ k => k.elim .inl fun k => by simp at k)).mono fun q hq k => k.elim id fun k => by omega
end Go.Proofs.YtnbkgaofdkkdnaaDoor
