/- The law's walk: laws.FnSequence. -/
import Derived.Test.YtnnfjjgohhicjaaQl
import Derived.Test.YtnnfjjgohhicjaaDr
import Derived.Test.YtnnfjjgohhicjaaDv
import Derived.Test.YtnnfjjgohhicjaaDx
import Derived.Test.YtnnfjjgohhicjaaDy
namespace Go.Proofs.Ytnnfjjgohhicjaa
open Go.RowKit
set_option linter.unusedSimpArgs false
set_option linter.unusedVariables false
set_option maxRecDepth 100000

theorem info_boolD : (Try.prog.info? 4).map (fun i => (i.zero, i.size, i.bytes)) = some (some (.bool false), 1, 1) := by kernel_rfl
theorem wf64D {n : Int} (h : -9223372036854775808 ≤ n ∧ n ≤ 9223372036854775807) : (Lit.int .i64 n).wf = true := by
  simp [Lit.wf, IntKind.min, IntKind.max, IntKind.bits, IntKind.signed]
  omega
theorem emitS_lenD : ∀ (n : Nat) (ms : List Move), (emitS n ms).length ≤ n
  | 0, _ => Nat.le_refl _
  | n + 1, ms => by
    rw [emitS]
    split
    · simp
    · split
      · have := emitS_lenD n (ms.map (scr (toAt ms (lowF ms ms.length))))
        rw [List.length_cons]; omega
      · have := emitS_lenD n (ms.eraseIdx (bestF ms ms.length).toNat)
        rw [List.length_append]
        have h1 : ((ms[(bestF ms ms.length).toNat]?.map mvI).toList).length ≤ 1 := by
          cases ms[(bestF ms ms.length).toNat]? <;> simp
        omega
abbrev vI : Int → Value := fun x => .int .i64 x
abbrev vB : Bool → Value := fun x => .bool x
theorem seqF_lenD (ms : List Move) : (seqF ms).length ≤ 128 := by
  unfold seqF
  split
  · rename_i h
    have h1 := emitS_lenD (2 * (live ms).length) (live ms)
    have h2 := live_len ms
    have h3 := h.1
    omega
  · simp
def srcL (ms : List Move) : List Int := (List.range 64).map fun r : Nat => sg ms r
def givL (ms : List Move) : List Bool := (List.range 64).map fun r : Nat => decide ((r : Int) ∈ tgt ms)
theorem map64_set {α : Type} {f f' : Nat → α} {i : Nat} {y : α} (h : ∀ r, r < 64 → f' r = if r = i then y else f r) : ((List.range 64).map f).set i y = (List.range 64).map f' := by
  apply List.ext_getElem?
  intro j
  rw [List.getElem?_set]
  by_cases hj : j < 64
  · rw [List.getElem?_map, List.getElem?_map, List.getElem?_range hj]
    simp only [Option.map_some, List.length_map, List.length_range]
    rw [h j hj]
    by_cases e : i = j
    · subst e; simp [hj]
    · rw [if_neg e, if_neg (fun h => e h.symm)]
  · rw [List.getElem?_eq_none (l := (List.range 64).map f') (by simp; omega), List.getElem?_eq_none (l := (List.range 64).map f) (by simp; omega)]
    simp only [List.length_map, List.length_range]
    split
    · rw [if_neg (by omega)]
    · rfl
theorem range_fill {α : Type} (f : Nat → α) (z : α) {k : Nat} (hk : k < 64) : ((List.range 64).map fun r => if r < k then f r else z).set k (f k) = (List.range 64).map fun r => if r < k + 1 then f r else z :=
  map64_set fun r hr => by
    by_cases e : r = k
    · subst e; simp
    · rw [if_neg e]
      by_cases h : r < k
      · rw [if_pos h, if_pos (by omega)]
      · rw [if_neg h, if_neg (by omega)]
theorem fill_start {α : Type} (f : Nat → α) (z : α) : List.replicate 64 z = (List.range 64).map fun r => if r < 0 then f r else z := by
  apply List.ext_getElem?
  intro j
  rw [List.getElem?_replicate, List.getElem?_map]
  by_cases hj : j < 64
  · rw [if_pos hj, List.getElem?_range hj]; rfl
  · rw [if_neg hj, List.getElem?_eq_none (by simp; omega)]; rfl
theorem fill_end {α : Type} (f : Nat → α) (z : α) : ((List.range 64).map fun r => if r < 64 then f r else z) = (List.range 64).map f := List.map_congr_left fun r hr => if_pos (List.mem_range.1 hr)
theorem getD64 {α : Type} (f : Nat → α) (z : α) {r : Nat} (h : r < 64) : ((List.range 64).map f).getD r z = f r := by
  rw [List.getD_eq_getElem?_getD, List.getElem?_map, List.getElem?_range h]; rfl
/-- The law's first round over the moves. -/
def Chk (ms : List Move) (gS gG k : Nat) (t8 t9 : Value) (wr : World) : Prop :=
  (t8 = .bool true ∧ ms.length ≤ 64 ∧ GoodP (ms.take k) ∧ t9 = .int .i64 ((live (ms.take k)).length : Int) ∧ Arr 2 vI gS 64 (srcL (ms.take k)) wr ∧ Arr 4 vB gG 64 (givL (ms.take k)) wr) ∨ (t8 = .bool false ∧ ¬ okM ms)
theorem srcL_nil : srcL [] = (List.range 64).map fun r : Nat => (r : Int) := List.map_congr_left fun r _ => sg_fix (by simp [tgt])
theorem givL_nil : givL [] = List.replicate 64 false := by
  rw [fill_start (fun _ => false)]
  exact List.map_congr_left fun r _ => by simp [tgt]
theorem sg_snoc {l : List Move} {x : Move} (h : GoodP (l ++ [x])) (r : Int) : sg (l ++ [x]) r = if r = x.to then x.src else sg l r := by
  have hd := h.2
  have hd0 : DistTo l := by unfold DistTo at *; exact (List.pairwise_append.1 hd).1
  by_cases e : r = x.to
  · rw [if_pos e, e, sg_of hd (by simp)]
  · rw [if_neg e]
    by_cases hr : r ∈ tgt l
    · obtain ⟨m, hm, rfl⟩ := List.mem_map.1 hr
      rw [sg_of hd0 hm, sg_of hd (List.mem_append_left _ hm)]
    · rw [sg_fix hr, sg_fix]
      intro h2
      simp [tgt] at h2 hr
      rcases h2 with ⟨m, hm, e2⟩ | h2
      · exact hr m hm e2
      · exact e (by omega)
theorem srcL_snoc {l : List Move} {x : Move} (h : GoodP (l ++ [x])) {t : Nat} (ht : x.to = t) : (srcL l).set t x.src = srcL (l ++ [x]) :=
  map64_set fun r _ => by
    rw [sg_snoc h, ht]
    by_cases e : r = t
    · rw [if_pos (by omega), if_pos e]
    · rw [if_neg (by omega), if_neg e]
theorem givL_snoc {l : List Move} {x : Move} {t : Nat} (ht : x.to = t) : (givL l).set t true = givL (l ++ [x]) :=
  map64_set fun r _ => by
    have : tgt (l ++ [x]) = tgt l ++ [x.to] := by simp [tgt]
    rw [this]
    by_cases e : r = t
    · rw [if_pos e]; simp [ht, e]
    · rw [if_neg e]
      rw [decide_eq_decide]
      simp [ht]
      intro e2; omega
set_option maxHeartbeats 8000000 in
theorem lawFnSequence_c (A : Option Addr) (c : Nat) (bytes : List UInt8) (w : World) (hx : C kB w A bytes) (hn : bytes.length ≤ 9223372036854775807) :
    Calls Try.prog 5 #[.slice A bytes.length c] w fun e w' => e = .returned (.bool true) ∧ Below w.heap.size w w' := by
  by_cases hbl : bytes.length ≤ 1048576
  · obtain ⟨i0, hi, hz0, hz1, hz2⟩ := info_parts info_i64
    obtain ⟨j0, hj, hjz0, hjz1, hjz2⟩ := info_parts info_boolD
    have HDS := Lib.hid (fun W (h : Below w.heap.size w W) => drawSequence_c A c bytes W (hx.below h) hbl)
    obtain ⟨hsm, hml⟩ := drawSeq_sm bytes
    obtain ⟨ms, hms⟩ : ∃ x, x = drawSeq bytes := ⟨_, rfl⟩
    rw [← hms] at HDS hsm hml
    have HWF := Lib.hid (show ∀ m ∈ ms, (Lit.int .i64 m.to).wf = true ∧ (Lit.int .i64 m.src).wf = true from fun m hm => by
      have := hsm m hm
      exact ⟨wf64D (by omega), wf64D (by omega)⟩)
    have HIV := Lib.hid (fun A c W (h1 : C kMove W A ms) => seq_i A c ms W h1 (by omega) HWF.out)
    have hel := seqF_lenD ms
    obtain ⟨E, hE⟩ : ∃ x, x = seqF ms := ⟨_, rfl⟩
    rw [← hE] at HIV hel
    have HE := Lib.hid hE
    clear hms hE hsm
    go_enter Try.func5, Try.ntmps5
    go_upto_region 5 with (first
      | (go_at_call 15; (with_reducible refine (HDS.out _ (Below.refl _ _)).mono ?_); intro e w1 hp; unfold RetRow at hp; obtain ⟨v1, fp1, rfl, r1, -, hb1⟩ := hp; obtain ⟨A1, c1, rfl, -⟩ := r1.form; have HR1 := Lib.hid r1.reads; have HB1 := Lib.hid hb1; clear r1)
      | (go_at_call 15; (with_reducible refine (HDS.out _ HB1.out).mono ?_); intro e w2 hp; unfold RetRow at hp; obtain ⟨v2, fp2, rfl, r2, -, hb2⟩ := hp; obtain ⟨A2, c2, rfl, -⟩ := r2.form; have HR2 := Lib.hid r2.reads; have HB2 := Lib.hid hb2; clear r2)
      | (go_at_call 9; (with_reducible refine (HIV.out _ _ _ HR2.out).mono ?_); intro e w4 hp; unfold RetRow at hp; obtain ⟨v4, f4, rfl, r4, h4, hb4⟩ := hp; obtain ⟨A4, c4, rfl, -⟩ := r4.form; have HR4 := Lib.hid r4.reads; have HB4 := Lib.hid hb4; clear r4 h4))
    have HMS := Lib.hid ((HR1.out.below HB2.out).below HB4.out)
    have HB := Lib.hid (Below.then_ (Below.then_ HB1.out HB2.out) HB4.out)
    clear hb1 hb2 hb4 HR1 HR2 HDS HIV HB1 HB2 HB4
    -- TAIL
    have HNM := Lib.hid (show w.heap.size ≤ w4.heap.size from HB.out.size)
    go_upto_region 6 with (at_make; refine wpList_make_row (kF1 vI fun _ => rfl) 0 [.int .i64 0] _ rfl _ _ 36 rfl 2 i0 _ Try.underlying36 hi hz0 hz1 rfl (by decide) (fun _ => ⟨rfl, rfl⟩) 64 64 rfl rfl rfl (by rw [hz2]; omega) (by simp [maxLen]) ?_; intro w5 hr5 hb5 hs5)
    have HS5 := Lib.hid (Arr.made hr5)
    have HB5 := Lib.hid hb5
    clear hr5 hb5
    go_wp2
    go_loopw [6] (fun t6 wr => ∃ (k : Nat) (u : Ext w4), k ≤ 64 ∧ t6 = .int .i64 k ∧ Arr 2 vI w4.heap.size 64 ((List.range 64).map fun r => if r < k then (r : Int) else 0) wr ∧ w4.heap.size < wr.heap.size ∧ wr = u.w) (fun t6 _ => 64 - (intOf t6).toNat)
    case atStart => exact ⟨0, ⟨w5, HB5.out⟩, by omega, rfl, by rw [← fill_start (fun r : Nat => (r : Int))]; exact HS5.out, hs5, rfl⟩
    case round =>
      clear HS5 HB5 hs5
      obtain ⟨k, u, hk, rfl, ha, hsz, rfl⟩ := hrel
      have HA := Lib.hid ha
      by_cases hlt : k < 64
      · have v0 := ha.at' hlt 0
        have f0 := ha.frozen (by omega)
        clear ha
        obtain ⟨h1, h2⟩ := HA.out.set hlt (k : Int)
        have HA1 := Lib.hid h1
        have HC1 := Lib.hid h2
        clear h1 h2
        go_wp2
        refine ⟨⟨k + 1, ⟨_, u.hb.trans (HC1.out.below u.hb.size fun q hq => by rw [hq]; exact Nat.le_refl _)⟩, hlt, ?_, ?_, ?_, rfl⟩, ?_⟩
        · show Value.int .i64 ((k : Int) + 1) = .int .i64 ((k + 1 : Nat) : Int)
          rw [Int.natCast_add]; rfl
        · rw [← range_fill (fun r : Nat => (r : Int)) 0 hlt]; exact HA1.out
        · exact Nat.lt_of_lt_of_le hsz HC1.out.size
        · show 64 - ((k : Int) + 1).toNat < 64 - (k : Int).toNat
          omega
      · have hk64 : k = 64 := by omega
        subst hk64
        clear hlt hk ha
        have HS := Lib.hid (show Arr 2 vI w4.heap.size 64 (srcL []) u.w by rw [srcL_nil, ← fill_end]; exact HA.out)
        have HU := Lib.hid u.hb
        obtain ⟨w6, hw6⟩ : ∃ x, x = u.w := ⟨_, rfl⟩
        rw [← hw6] at HS HU hsz
        rw [← hw6]
        clear HA hw6
        go_upto_region 11 with (at_make; refine wpList_make_row (kF1 vB fun _ => rfl) false [.bool false] _ rfl _ _ 37 rfl 4 j0 _ Try.underlying37 hj hjz0 hjz1 rfl (by decide) (fun _ => ⟨rfl, rfl⟩) 64 64 rfl rfl rfl (by rw [hjz2]; omega) (by simp [maxLen]) ?_; intro w7 hr7 hb7 hs7)
        have HG7 := Lib.hid (show Arr 4 vB w6.heap.size 64 (givL []) w7 by rw [givL_nil]; exact Arr.made hr7)
        have HS7 := Lib.hid (HS.out.chg (S := fun q => w6.heap.size ≤ q) (chg_of hb7 |>.mono fun _ _ h => h.elim) (by omega))
        have HB7 := Lib.hid (HU.out.trans (hb7.mono HU.out.size))
        clear hr7 hb7 HS HU
        obtain ⟨gG, hgG⟩ : ∃ x, x = w6.heap.size := ⟨_, rfl⟩
        rw [← hgG] at HG7 hs7 hsz
        rw [← hgG]
        clear hgG
        go_wp2
        have HS7' := HS7
        go_loopw [8, 9, 10] (fun t8 t9 t10 wr => ∃ (k : Nat) (u : Ext w4), k ≤ ms.length ∧ t10 = .int .i64 k ∧ Chk ms w4.heap.size gG k t8 t9 wr ∧ gG < wr.heap.size ∧ wr = u.w) (fun _ _ t10 _ => ms.length - (intOf t10).toNat)
        case atStart =>
          refine ⟨0, ⟨w7, HB7.out⟩, by omega, rfl, ?_, hs7, rfl⟩
          by_cases h64 : ms.length ≤ 64
          · exact .inl ⟨by congr 1; simp; omega, h64, by simpa using goodP_nil, rfl, HS7.out, HG7.out⟩
          · exact .inr ⟨by congr 1; simp; omega, fun h => h64 h.1⟩
        case round =>
          clear HS7 HG7 HB7 hs7 HS7'
          obtain ⟨k, u, hk, rfl, hch, hsz2, rfl⟩ := hrel
          rcases hch with ⟨rfl, h64, hgp, rfl, hS, hG⟩ | ⟨rfl, hbad⟩
          · by_cases hlt : k < ms.length
            · obtain ⟨x, ex⟩ := get_of_lt hlt
              obtain ⟨a, _, rfl, rfl, hc⟩ := (HMS.out.ext u).at ex
              obtain ⟨v0, v1⟩ := hc2 (n := k * 2) hc
              have zv := World.block_lt_of_cell? _ _ v0
              have HSX := Lib.hid hS
              have HGX := Lib.hid hG
              have HGP := Lib.hid hgp
              have HEX := Lib.hid ex
              have hll := live_len (ms.take k)
              have hlk : (ms.take k).length = k := List.length_take_of_le hk
              rw [hlk] at hll
              have HRG := Lib.hid (fun h => not_okM_rg (ms := ms) ex h)
              clear hc hS hG hgp ex hlk
              have hend : ∀ W, W = u.w.alloc (.cells #[.int .i64 x.to, .int .i64 x.src] 39) → ¬ okM ms → (∃ (k_1 : Nat) (u_1 : Ext w4), k_1 ≤ ms.length ∧ Value.int .i64 ((k : Int) + 1) = .int .i64 k_1 ∧ Chk ms w4.heap.size gG k_1 (.bool false) (.int .i64 ((live (ms.take k)).length : Int)) W ∧ gG < W.heap.size ∧ W = u_1.w) ∧ ms.length - (intOf (.int .i64 ((k : Int) + 1))).toNat < ms.length - (intOf (.int .i64 (k : Int))).toNat := by
                rintro W rfl hb
                refine ⟨⟨k + 1, ⟨_, u.hb.alloc u.hb.size _⟩, hlt, ?_, .inr ⟨rfl, hb⟩, ?_, rfl⟩, ?_⟩
                · show Value.int .i64 ((k : Int) + 1) = .int .i64 ((k + 1 : Nat) : Int)
                  rw [Int.natCast_add]; rfl
                · simp; omega
                · show ms.length - ((k : Int) + 1).toNat < ms.length - (k : Int).toNat
                  omega
              have HEND := Lib.hid hend
              clear hend
              by_cases c1 : x.to < 0
              · go_wp2
                exact HEND.out _ rfl (HRG.out fun h => by have := h.1.1; omega)
              · by_cases c2 : 64 ≤ x.to
                · go_wp2
                  exact HEND.out _ rfl (HRG.out fun h => by have := h.1.2; omega)
                · by_cases c3 : x.src < 0
                  · go_wp2
                    exact HEND.out _ rfl (HRG.out fun h => by have := h.2.1; omega)
                  · by_cases c4 : 64 ≤ x.src
                    · go_wp2
                      exact HEND.out _ rfl (HRG.out fun h => by have := h.2.2; omega)
                    · have HIN := Lib.hid (show InRg x from ⟨⟨by omega, by omega⟩, by omega, by omega⟩)
                      obtain ⟨t, hxt⟩ := Int.eq_ofNat_of_zero_le (show 0 ≤ x.to by omega)
                      have ht64 : t < 64 := by omega
                      have gv := HGX.out.at' (i := t) (by omega) false
                      rw [givL, getD64 _ _ ht64] at gv
                      have hxs : x.src = x.src := rfl
                      rw [hxt] at v0
                      by_cases c5 : (t : Int) ∈ tgt (ms.take k)
                      · have gv1 : u.w.cell? ⟨gG, t, none⟩ = some (.bool true) := by rw [gv]; simp [c5]
                        have HBAD := Lib.hid (show ¬ okM ms by
                          obtain ⟨m, hm, hmt⟩ := List.mem_map.1 c5
                          obtain ⟨j, hj⟩ := List.getElem?_of_mem hm
                          have hjk : j < k := by have := (List.getElem?_eq_some_iff.1 hj).1; simp at this; omega
                          rw [List.getElem?_take_of_lt hjk] at hj
                          exact not_okM_eq hjk HEX.out hj (by omega))
                        have HXT := Lib.hid hxt
                        clear gv hxt hxs c1 c2 c5
                        go_wp2
                        exact HEND.out _ (by rw [HXT.out]) HBAD.out
                      · have gv1 : u.w.cell? ⟨gG, t, none⟩ = some (.bool false) := by rw [gv]; simp [c5]
                        have fG := HGX.out.frozen (by omega)
                        have sv := HSX.out.at' (i := t) (by omega) 0
                        have fS := HSX.out.frozen (by omega)
                        have zS := HSX.out.lt (by omega)
                        obtain ⟨g1, hc1⟩ := HGX.out.set ht64 true
                        obtain ⟨s1, hc2⟩ := (HSX.out.chg hc1 (by omega)).set ht64 x.src
                        have g2 := g1.chg hc2 (by omega)
                        have hgp2 := goodP_snoc HGP.out HIN.out (fun m hm e => c5 (List.mem_map.2 ⟨m, hm, by rw [e, hxt]⟩))
                        have HSN := Lib.hid (take_snoc HEX.out)
                        rw [srcL_snoc hgp2 hxt, ← HSN.out] at s1
                        rw [givL_snoc hxt, ← HSN.out] at g2
                        rw [← HSN.out] at hgp2
                        have hlv : live (ms.take (k + 1)) = live (ms.take k) ++ if decide (x.to ≠ x.src) then [x] else [] := filter_snoc _ HEX.out
                        have HS2 := Lib.hid s1
                        have HG2 := Lib.hid g2
                        have HC2 := Lib.hid (hc1.mono (T := fun q => w4.heap.size ≤ q) (fun q _ h => by omega) |>.trans (hc2.mono fun q _ h => by omega))
                        have HP2 := Lib.hid hgp2
                        have HLV := Lib.hid hlv
                        have HXT := Lib.hid hxt
                        clear gv hxs c5 g1 hc1 s1 hc2 g2 hgp2 hlv HEND
                        by_cases c6 : (t : Int) = x.src
                        · have H6 := Lib.hid c6
                          have hb6 : ((t : Int) != x.src) = false := by simp [c6]
                          clear c6
                          go_wp2
                          refine ⟨⟨k + 1, ⟨_, (u.hb.trans (HC2.out.below u.hb.size fun q hq => hq)).alloc (Nat.le_trans u.hb.size HC2.out.size) _⟩, hlt, ?_, .inl ⟨rfl, h64, HP2.out, ?_, HS2.out.chg (S := fun _ => False) (by (repeat (first | (with_reducible first | exact Chg.refl _ _ | assumption) | (with_reducible refine Chg.drew ?_) | ((with_reducible refine Chg.setCell ?_ ?hs _); (case hs => first | (simp; done) | (simp; omega) | omega)) | (with_reducible refine Chg.alloc ?_ _)))) (by simp), HG2.out.chg (S := fun _ => False) (by (repeat (first | (with_reducible first | exact Chg.refl _ _ | assumption) | (with_reducible refine Chg.drew ?_) | ((with_reducible refine Chg.setCell ?_ ?hs _); (case hs => first | (simp; done) | (simp; omega) | omega)) | (with_reducible refine Chg.alloc ?_ _)))) (by simp)⟩, ?_, rfl⟩, ?_⟩
                          · show Value.int .i64 ((k : Int) + 1) = .int .i64 ((k + 1 : Nat) : Int)
                            rw [Int.natCast_add]; rfl
                          · rw [HLV.out, if_neg (by have := H6.out; have := HXT.out; simp; omega)]; simp
                          · have := HC2.out.size
                            simp at this
                            simp
                            omega
                          · show ms.length - ((k : Int) + 1).toNat < ms.length - (k : Int).toNat
                            omega
                        · have H6 := Lib.hid c6
                          have hb6 : ((t : Int) != x.src) = true := by simp [c6]
                          go_wp2
                          refine ⟨⟨k + 1, ⟨_, (u.hb.trans (HC2.out.below u.hb.size fun q hq => hq)).alloc (Nat.le_trans u.hb.size HC2.out.size) _⟩, hlt, ?_, .inl ⟨rfl, h64, HP2.out, ?_, HS2.out.chg (S := fun _ => False) (by (repeat (first | (with_reducible first | exact Chg.refl _ _ | assumption) | (with_reducible refine Chg.drew ?_) | ((with_reducible refine Chg.setCell ?_ ?hs _); (case hs => first | (simp; done) | (simp; omega) | omega)) | (with_reducible refine Chg.alloc ?_ _)))) (by simp), HG2.out.chg (S := fun _ => False) (by (repeat (first | (with_reducible first | exact Chg.refl _ _ | assumption) | (with_reducible refine Chg.drew ?_) | ((with_reducible refine Chg.setCell ?_ ?hs _); (case hs => first | (simp; done) | (simp; omega) | omega)) | (with_reducible refine Chg.alloc ?_ _)))) (by simp)⟩, ?_, rfl⟩, ?_⟩
                          · show Value.int .i64 ((k : Int) + 1) = .int .i64 ((k + 1 : Nat) : Int)
                            rw [Int.natCast_add]; rfl
                          · rw [HLV.out, if_pos (by have := H6.out; have := HXT.out; simp; omega)]; simp [Int.natCast_add]
                          · have := HC2.out.size
                            simp at this
                            simp
                            omega
                          · show ms.length - ((k : Int) + 1).toNat < ms.length - (k : Int).toNat
                            omega
            · have hkl : k = ms.length := by omega
              have hfull : ms.take k = ms := by rw [hkl]; exact List.take_of_length_le (Nat.le_refl _)
              rw [hfull] at hgp hS hG ⊢
              have HOK := Lib.hid (show okM ms from ⟨h64, hgp⟩)
              have HSX := Lib.hid hS
              have hll := live_len ms
              clear hgp hG hS hfull
              subst hkl
              obtain ⟨P1, P2, P3⟩ := plain_law HOK.out
              rw [← HE.out] at P1 P2 P3
              have HP1 := Lib.hid P1
              have HP2 := Lib.hid P2
              have HP3 := Lib.hid P3
              clear P1 P2 P3
              obtain ⟨w8, hw8⟩ : ∃ x, x = u.w := ⟨_, rfl⟩
              have HU8 := Lib.hid u.hb
              rw [← hw8] at HSX hsz2 HU8
              rw [← hw8]
              clear hw8
              obtain ⟨lv, hlv⟩ : ∃ x, x = (live ms).length := ⟨_, rfl⟩
              rw [← hlv] at hll HP3
              rw [← hlv]
              clear hlv hlt hk
              have zS := HSX.out.lt (by omega)
              have hrg : ∀ q : Nat, q < 64 → w8.cell? ⟨w4.heap.size, q, none⟩ = some (.int .i64 (sg ms q)) := fun q hq => by
                have := HSX.out.at' hq 0
                rwa [srcL, getD64 _ _ hq] at this
              have HRG := Lib.hid hrg
              have HSR := Lib.hid (sg_range HOK.out)
              clear hrg
              obtain ⟨σ, hσ⟩ : ∃ x, x = sg ms := ⟨_, rfl⟩
              rw [← hσ] at HRG HSR HP2 HP3
              have HSG := Lib.hid hσ
              clear hσ
              go_wp2
              go_loopw [9, 12] (fun t9 t12 wr => ∃ r : Nat, r ≤ 64 ∧ t12 = .int .i64 r ∧ t9 = .int .i64 ((lv : Int) + (((List.range r).filter fun q : Nat => cycB σ (q : Int)).length : Int)) ∧ wr = w8) (fun _ t12 _ => 64 - (intOf t12).toNat)
              case atStart => exact ⟨0, by omega, rfl, by simp, rfl⟩
              case round =>
                obtain ⟨r, hr, rfl, rfl, rfl⟩ := hrel
                obtain ⟨cn, hcn⟩ : ∃ x, x = ((List.range r).filter fun q : Nat => cycB σ (q : Int)).length := ⟨_, rfl⟩
                have hcr : cn ≤ r := by rw [hcn]; have := List.length_filter_le (fun q : Nat => cycB σ (q : Int)) (List.range r); simpa using this
                rw [← hcn]
                have HCN := Lib.hid hcn
                clear hcn
                by_cases hr64 : r < 64
                · have r0 := HRG.out r hr64
                  have hbr : decide ((r : Int) < 64) = true := decide_eq_true (by omega)
                  obtain ⟨hs0, hs1⟩ := HSR.out r (by omega) (by omega)
                  obtain ⟨wr8, hw8⟩ : ∃ x, x = wr := ⟨_, rfl⟩
                  subst hw8
                  go_wp2
                  go_loopw [13, 14, 15] (fun t13 t14 t15 wr => ∃ (i : Nat) (p : Nat) (sm : Bool), i ≤ 64 ∧ p < 64 ∧ t13 = .int .i64 p ∧ t14 = .bool sm ∧ t15 = .int .i64 i ∧ walkC σ r (64 - i) p sm = walkC σ r 64 (σ r) true ∧ wr = wr8) (fun _ _ t15 _ => 64 - (intOf t15).toNat)
                  case atStart => exact ⟨0, (σ r).toNat, true, by omega, by omega, by rw [Int.toNat_of_nonneg hs0], rfl, rfl, by rw [Int.toNat_of_nonneg hs0], rfl⟩
                  case round =>
                    obtain ⟨i, p, sm, hi64, hp64, rfl, rfl, rfl, hwk, rfl⟩ := hrel
                    have HWK := Lib.hid hwk
                    clear hwk
                    by_cases hgo : i < 64 ∧ ¬ p = r
                    · obtain ⟨hi1, hpr⟩ := hgo
                      have hpi : ((p : Int) != (r : Int)) = true := by simp [hpr]; omega
                      have rp := HRG.out p hp64
                      obtain ⟨hp0, hp1⟩ := HSR.out p (by omega) (by omega)
                      have HN := Lib.hid (show walkC σ r (64 - i) p sm = walkC σ r (64 - (i + 1)) (σ p) (sm && !decide ((p : Int) < r)) by rw [show 64 - i = (64 - (i + 1)) + 1 by omega, walkC, if_neg (by omega)])
                      by_cases hplt : p < r
                      · have HM := Lib.hid hplt
                        have hpl : (p : Int) < r := by omega
                        go_wp2
                        refine ⟨⟨i + 1, (σ p).toNat, false, hi1, by omega, by rw [Int.toNat_of_nonneg hp0], rfl, ?_, ?_, trivial⟩, ?_⟩
                        · show Value.int .i64 ((i : Int) + 1) = .int .i64 ((i + 1 : Nat) : Int)
                          rw [Int.natCast_add]; rfl
                        · rw [Int.toNat_of_nonneg hp0, ← HWK.out, HN.out, decide_eq_true (p := (p : Int) < r) (by have := HM.out; omega)]; simp
                        · show 64 - ((i : Int) + 1).toNat < 64 - (i : Int).toNat
                          omega
                      · have HM := Lib.hid hplt
                        have hpl : ¬ (p : Int) < r := by omega
                        go_wp2
                        refine ⟨⟨i + 1, (σ p).toNat, sm, hi1, by omega, by rw [Int.toNat_of_nonneg hp0], rfl, ?_, ?_, trivial⟩, ?_⟩
                        · show Value.int .i64 ((i : Int) + 1) = .int .i64 ((i + 1 : Nat) : Int)
                          rw [Int.natCast_add]; rfl
                        · rw [Int.toNat_of_nonneg hp0, ← HWK.out, HN.out, decide_eq_false (p := (p : Int) < r) (by have := HM.out; omega)]; simp
                        · show 64 - ((i : Int) + 1).toNat < 64 - (i : Int).toNat
                          omega
                    · have hfin : walkC σ r (64 - i) p sm = ((p : Int), sm) := by
                        by_cases hi1 : i < 64
                        · have : (p : Int) = r := by
                            by_cases e : p = r
                            · omega
                            · exact absurd ⟨hi1, e⟩ hgo
                          rw [show 64 - i = (64 - (i + 1)) + 1 by omega, walkC, if_pos this]
                        · rw [show 64 - i = 0 by omega]; rfl
                      have hcy : cycB σ r = (decide ((p : Int) = r) && sm && decide (σ r ≠ r)) := by rw [cycB, ← HWK.out, hfin]
                      have HCY := Lib.hid hcy
                      have hway : (¬ i < 64 ∧ ¬ p = r) ∨ (¬ i < 64 ∧ p = r) ∨ (i < 64 ∧ p = r) := by
                        by_cases e : p = r
                        · by_cases e2 : i < 64
                          · exact .inr (.inr ⟨e2, e⟩)
                          · exact .inr (.inl ⟨e2, e⟩)
                        · by_cases e2 : i < 64
                          · exact absurd ⟨e2, e⟩ hgo
                          · exact .inl ⟨e2, e⟩
                      clear hfin hcy hgo HWK
                      rcases hway with ⟨hw1, hw2⟩ | hway
                      · have HCB := Lib.hid (show cycB σ r = false by rw [HCY.out, decide_eq_false (by omega)]; rfl)
                        have hpi : ((p : Int) == (r : Int)) = false := by simp; omega
                        clear hw2 HCY
                        go_wp2
                        refine ⟨⟨r + 1, hr64, ?_, ?_, trivial⟩, ?_⟩
                        · show Value.int .i64 ((r : Int) + 1) = .int .i64 ((r + 1 : Nat) : Int)
                          rw [Int.natCast_add]; rfl
                        · rw [List.range_succ, List.filter_append, List.length_append, ← HCN.out]
                          have := HCB.out
                          rw [List.filter_cons, this]
                          simp []
                        · show 64 - ((r : Int) + 1).toNat < 64 - (r : Int).toNat
                          omega

                      · have hw2 : p = r := by rcases hway with h | h <;> exact h.2
                        subst hw2
                        rcases hway with ⟨hw1, -⟩ | ⟨hw1, -⟩
                        all_goals
                          cases sm
                          · have HCB := Lib.hid (show cycB σ p = false by rw [HCY.out]; simp)
                            clear HCY
                            go_wp2
                            refine ⟨⟨p + 1, hr64, ?_, ?_, trivial⟩, ?_⟩
                            · show Value.int .i64 ((p : Int) + 1) = .int .i64 ((p + 1 : Nat) : Int)
                              rw [Int.natCast_add]; rfl
                            · rw [List.range_succ, List.filter_append, List.length_append, ← HCN.out]
                              have := HCB.out
                              rw [List.filter_cons, this]
                              simp []
                            · show 64 - ((p : Int) + 1).toNat < 64 - (p : Int).toNat
                              omega

                          · by_cases hsr : σ p = p
                            · have HCB := Lib.hid (show cycB σ p = false by rw [HCY.out]; simp [hsr])
                              have hsb : (σ p != (p : Int)) = false := by simp [hsr]
                              clear HCY hsr
                              go_wp2
                              refine ⟨⟨p + 1, hr64, ?_, ?_, trivial⟩, ?_⟩
                              · show Value.int .i64 ((p : Int) + 1) = .int .i64 ((p + 1 : Nat) : Int)
                                rw [Int.natCast_add]; rfl
                              · rw [List.range_succ, List.filter_append, List.length_append, ← HCN.out]
                                have := HCB.out
                                rw [List.filter_cons, this]
                                simp []
                              · show 64 - ((p : Int) + 1).toNat < 64 - (p : Int).toNat
                                omega

                            · have HCB := Lib.hid (show cycB σ p = true by rw [HCY.out]; simp [hsr])
                              have hsb : (σ p != (p : Int)) = true := by simp [hsr]
                              clear HCY hsr
                              go_wp2
                              refine ⟨⟨p + 1, hr64, ?_, ?_, trivial⟩, ?_⟩
                              · show Value.int .i64 ((p : Int) + 1) = .int .i64 ((p + 1 : Nat) : Int)
                                rw [Int.natCast_add]; rfl
                              · rw [List.range_succ, List.filter_append, List.length_append, ← HCN.out]
                                have := HCB.out
                                rw [List.filter_cons, this]
                                simp; omega
                              · show 64 - ((p : Int) + 1).toNat < 64 - (p : Int).toNat
                                omega
                · have hr2 : r = 64 := by omega
                  subst hr2
                  have HW := Lib.hid (show E.length = lv + cn by rw [HCN.out]; exact HP3.out)
                  clear hr HCN hr64 HP3
                  obtain ⟨w9, hw9⟩ : ∃ x, x = wr := ⟨_, rfl⟩
                  subst hw9
                  have HN9 := Lib.hid HU8.out.size
                  go_upto_region 39 with (at_make; refine wpList_make_row (kF1 vI fun _ => rfl) 0 [.int .i64 0] _ rfl _ _ 36 rfl 2 i0 _ Try.underlying36 hi hz0 hz1 rfl (by decide) (fun _ => ⟨rfl, rfl⟩) 64 64 rfl rfl rfl (by rw [hz2]; omega) (by simp [maxLen]) ?_; intro w10 hr10 hb10 hs10)
                  have HR10 := Lib.hid (Arr.made hr10)
                  have HS10 := Lib.hid (HSX.out.chg (S := fun q => w9.heap.size ≤ q) (chg_of hb10 |>.mono fun _ _ h => h.elim) (by omega))
                  have HB10 := Lib.hid (HU8.out.trans (hb10.mono HU8.out.size))
                  have hgs : w4.heap.size < w9.heap.size := zS
                  clear hr10 hb10 HSX HU8 HRG zS
                  obtain ⟨gR, hgR⟩ : ∃ x, x = w9.heap.size := ⟨_, rfl⟩
                  rw [← hgR] at HR10 hs10 hgs
                  rw [← hgR]
                  clear hgR HN9
                  go_wp2
                  go_loopw [17] (fun t17 wr => ∃ (k : Nat) (u : Ext w4), k ≤ 64 ∧ t17 = .int .i64 k ∧ Arr 2 vI gR 64 ((List.range 64).map fun r => if r < k then 1000 + (r : Int) else 0) wr ∧ Arr 2 vI w4.heap.size 64 (srcL ms) wr ∧ wr = u.w) (fun t17 _ => 64 - (intOf t17).toNat)
                  case atStart => exact ⟨0, ⟨w10, HB10.out⟩, by omega, rfl, by rw [← fill_start (fun r : Nat => 1000 + (r : Int))]; exact HR10.out, HS10.out, rfl⟩
                  case round =>
                    clear HR10 HS10 HB10 hs10
                    obtain ⟨k, u, hk, rfl, ha, hs, rfl⟩ := hrel
                    have HA := Lib.hid ha
                    have HSX := Lib.hid hs
                    by_cases hlt : k < 64
                    · have v0 := ha.at' hlt 0
                      have f0 := ha.frozen (by omega)
                      clear ha hs
                      obtain ⟨h1, h2⟩ := HA.out.set hlt (1000 + (k : Int))
                      have HA1 := Lib.hid h1
                      have HC1 := Lib.hid h2
                      clear h1 h2
                      go_wp2
                      refine ⟨⟨k + 1, ⟨_, u.hb.trans (HC1.out.below u.hb.size fun q hq => by rw [hq]; omega)⟩, hlt, ?_, ?_, HSX.out.chg HC1.out (by omega), rfl⟩, ?_⟩
                      · show Value.int .i64 ((k : Int) + 1) = .int .i64 ((k + 1 : Nat) : Int)
                        rw [Int.natCast_add]; rfl
                      · rw [← range_fill (fun r : Nat => 1000 + (r : Int)) 0 hlt]; exact HA1.out
                      · show 64 - ((k : Int) + 1).toNat < 64 - (k : Int).toNat
                        omega
                    · have hk64 : k = 64 := by omega
                      subst hk64
                      clear hlt hk ha hs
                      have HR := Lib.hid (show Arr 2 vI gR 64 init64 u.w by rw [init64, ← fill_end (fun r : Nat => 1000 + (r : Int)) 0]; exact HA.out)
                      have HU := Lib.hid u.hb
                      obtain ⟨w11, hw11⟩ : ∃ x, x = u.w := ⟨_, rfl⟩
                      rw [← hw11] at HR HU HSX
                      rw [← hw11]
                      clear HA hw11
                      go_wp2
                      go_loopw [18, 19] (fun t18 t19 wr => ∃ (k : Nat) (st : List Int × Int) (u : Ext w4), k ≤ E.length ∧ t19 = .int .i64 k ∧ t18 = .int .i64 st.2 ∧ st = (E.take k).foldl stepC (init64, 0) ∧ Arr 2 vI gR 64 st.1 wr ∧ Arr 2 vI w4.heap.size 64 (srcL ms) wr ∧ wr = u.w) (fun _ t19 _ => E.length - (intOf t19).toNat)
                      case atStart => exact ⟨0, (init64, 0), ⟨w11, HU.out⟩, by omega, rfl, rfl, rfl, HR.out, HSX.out, rfl⟩
                      case round =>
                        clear HR HU HSX
                        obtain ⟨k, st, u, hk, rfl, rfl, hst, ha, hs, rfl⟩ := hrel
                        have HA := Lib.hid ha
                        have HSX := Lib.hid hs
                        have HST := Lib.hid hst
                        clear hst hs
                        by_cases hlt : k < E.length
                        · obtain ⟨x, ex⟩ := get_of_lt hlt
                          obtain ⟨a, _, rfl, rfl, hc⟩ := (HR4.out.ext u).at ex
                          obtain ⟨v0, v1, v2, v3, v4⟩ := hc5 (n := k * 5) hc
                          have zv := World.block_lt_of_cell? _ _ v0
                          obtain ⟨⟨⟨hd0, hd1⟩, ha0, ha1⟩, hop⟩ := HP1.out x (List.mem_of_getElem? ex)
                          obtain ⟨d, hd⟩ := Int.eq_ofNat_of_zero_le hd0
                          obtain ⟨q, hq⟩ := Int.eq_ofNat_of_zero_le ha0
                          have hd64 : d < 64 := by omega
                          have hq64 : q < 64 := by omega
                          have HNX := Lib.hid (show (E.take (k + 1)).foldl stepC (init64, 0) = stepC st x by rw [take_snoc ex, List.foldl_append, ← HST.out]; rfl)
                          rw [hd] at v1
                          rw [hq] at v2
                          have HD := Lib.hid (show x.dst.toNat = d by omega)
                          have HQ := Lib.hid (show x.a.toNat = q by omega)
                          obtain ⟨y, hy⟩ : ∃ y, y = st.1.getD q 0 := ⟨_, rfl⟩
                          have rq : u.w.cell? ⟨gR, q, none⟩ = some (.int .i64 y) := by rw [hy]; exact ha.at' hq64 0
                          have HY := Lib.hid hy
                          obtain ⟨sc, hsc⟩ : ∃ y, y = st.2 := ⟨_, rfl⟩
                          have HSC := Lib.hid hsc
                          rw [← hsc]
                          clear hy hsc
                          have rd : u.w.cell? ⟨gR, d, none⟩ = some (.int .i64 (st.1.getD d 0)) := ha.at' hd64 0
                          have fR := ha.frozen (by omega)
                          have zR := ha.lt (by omega)
                          clear hc ex hd hq hd0 hd1 ha0 ha1 ha
                          rcases hop with hop | hop | hop
                          · rw [hop] at v0
                            have HX := Lib.hid (show stepC st x = (st.1.set d y, sc) by rw [stepC, if_pos hop, HD.out, HQ.out, HY.out, HSC.out])
                            clear hop
                            go_wp2
                            refine wp_region_still_tail 9 (by kernel_rfl) (by kernel_rfl) ?_; simp only [List.take_succ_cons, List.take_zero, List.drop_succ_cons, List.drop_zero]; change wpStill _ _ (World.drew _) _ _ _
                            repeat still_step
                            refine wpStill_nil ?_
                            change wpList _ _ _ _ _ (World.drew _)
                            go_wp2
                            go_roundw
                            case rel =>
                              obtain ⟨h1, h2⟩ := HA.out.set hd64 y
                              have hC : Chg (fun q => q = gR) u.w (((u.w.setCell ⟨gR, d, none⟩ (.int .i64 y)).alloc (.cells #[.int .i64 11, .int .i64 (d : Int), .int .i64 (q : Int), .int .i64 x.b, .int .i64 x.imm] 41)).drew) := h2.trans (by (repeat (first | (with_reducible first | exact Chg.refl _ _ | assumption) | (with_reducible refine Chg.drew ?_) | ((with_reducible refine Chg.setCell ?_ ?hs _); (case hs => first | (simp; done) | (simp; omega) | omega)) | (with_reducible refine Chg.alloc ?_ _))))
                              have hA : Arr 2 vI gR 64 (stepC st x).1 (((u.w.setCell ⟨gR, d, none⟩ (.int .i64 y)).alloc (.cells #[.int .i64 11, .int .i64 (d : Int), .int .i64 (q : Int), .int .i64 x.b, .int .i64 x.imm] 41)).drew) := by rw [HX.out]; exact h1.chg (S := fun _ => False) (by (repeat (first | (with_reducible first | exact Chg.refl _ _ | assumption) | (with_reducible refine Chg.drew ?_) | ((with_reducible refine Chg.setCell ?_ ?hs _); (case hs => first | (simp; done) | (simp; omega) | omega)) | (with_reducible refine Chg.alloc ?_ _)))) (by simp)
                              (repeat apply Exists.intro)
                              exact ⟨⟨k + 1, stepC st x, ⟨_, u.hb.trans (hC.below u.hb.size fun q hq => by rw [hq]; omega)⟩, hlt, by go_num, by rw [HX.out], HNX.out.symm, hA, HSX.out.chg hC (by omega), rfl⟩, rfl⟩
                            case measure => simp [intOf]; omega
                          · rw [hop] at v0
                            have HX := Lib.hid (show stepC st x = (st.1, y) by rw [stepC, if_neg (by omega), if_pos hop, HQ.out, HY.out])
                            clear hop
                            go_wp2
                            go_roundw
                            case rel =>
                              have hC : Chg (fun q => q = gR) u.w (u.w.alloc (.cells #[.int .i64 12, .int .i64 (d : Int), .int .i64 (q : Int), .int .i64 x.b, .int .i64 x.imm] 41)) := by (repeat (first | (with_reducible first | exact Chg.refl _ _ | assumption) | (with_reducible refine Chg.drew ?_) | ((with_reducible refine Chg.setCell ?_ ?hs _); (case hs => first | (simp; done) | (simp; omega) | omega)) | (with_reducible refine Chg.alloc ?_ _)))
                              have hA : Arr 2 vI gR 64 (stepC st x).1 (u.w.alloc (.cells #[.int .i64 12, .int .i64 (d : Int), .int .i64 (q : Int), .int .i64 x.b, .int .i64 x.imm] 41)) := by rw [HX.out]; exact HA.out.chg (S := fun _ => False) (by (repeat (first | (with_reducible first | exact Chg.refl _ _ | assumption) | (with_reducible refine Chg.drew ?_) | ((with_reducible refine Chg.setCell ?_ ?hs _); (case hs => first | (simp; done) | (simp; omega) | omega)) | (with_reducible refine Chg.alloc ?_ _)))) (by simp)
                              (repeat apply Exists.intro)
                              exact ⟨⟨k + 1, stepC st x, ⟨_, u.hb.trans (hC.below u.hb.size fun q hq => by rw [hq]; omega)⟩, hlt, by go_num, by rw [HX.out], HNX.out.symm, hA, HSX.out.chg hC (by omega), rfl⟩, rfl⟩
                            case measure => simp [intOf]; omega
                          · rw [hop] at v0
                            have HX := Lib.hid (show stepC st x = (st.1.set d sc, sc) by rw [stepC, if_neg (by omega), if_neg (by omega), HD.out, HSC.out])
                            clear hop
                            go_wp2
                            go_roundw
                            case rel =>
                              obtain ⟨h1, h2⟩ := HA.out.set hd64 sc
                              have hC : Chg (fun q => q = gR) u.w ((u.w.setCell ⟨gR, d, none⟩ (.int .i64 sc)).alloc (.cells #[.int .i64 13, .int .i64 (d : Int), .int .i64 (q : Int), .int .i64 x.b, .int .i64 x.imm] 41)) := h2.trans (by (repeat (first | (with_reducible first | exact Chg.refl _ _ | assumption) | (with_reducible refine Chg.drew ?_) | ((with_reducible refine Chg.setCell ?_ ?hs _); (case hs => first | (simp; done) | (simp; omega) | omega)) | (with_reducible refine Chg.alloc ?_ _))))
                              have hA : Arr 2 vI gR 64 (stepC st x).1 ((u.w.setCell ⟨gR, d, none⟩ (.int .i64 sc)).alloc (.cells #[.int .i64 13, .int .i64 (d : Int), .int .i64 (q : Int), .int .i64 x.b, .int .i64 x.imm] 41)) := by rw [HX.out]; exact h1.chg (S := fun _ => False) (by (repeat (first | (with_reducible first | exact Chg.refl _ _ | assumption) | (with_reducible refine Chg.drew ?_) | ((with_reducible refine Chg.setCell ?_ ?hs _); (case hs => first | (simp; done) | (simp; omega) | omega)) | (with_reducible refine Chg.alloc ?_ _)))) (by simp)
                              (repeat apply Exists.intro)
                              exact ⟨⟨k + 1, stepC st x, ⟨_, u.hb.trans (hC.below u.hb.size fun q hq => by rw [hq]; omega)⟩, hlt, by go_num, by rw [HX.out], HNX.out.symm, hA, HSX.out.chg hC (by omega), rfl⟩, rfl⟩
                            case measure => simp [intOf]; omega
                        · have hkE : k = E.length := by omega
                          rw [← hkE] at HW
                          have HFIN := Lib.hid (show st.1.length = 64 ∧ ∀ r : Nat, r < 64 → st.1.getD r 0 = 1000 + σ r by
                            have h := HP2.out
                            rw [HST.out, hkE, List.take_of_length_le (Nat.le_refl _)]
                            exact h)
                          have HKE := Lib.hid hkE
                          clear hkE hk ha
                          have hbw : ((E.length : Int) == (lv : Int) + (cn : Int)) = true := by have := HW.out; have := HKE.out; simp; omega
                          obtain ⟨st1, hst1⟩ : ∃ z, z = st.1 := ⟨_, rfl⟩
                          rw [← hst1] at HA HFIN
                          clear HST hst1
                          obtain ⟨wz, hwz⟩ : ∃ z, z = u.w := ⟨_, rfl⟩
                          have HUz := Lib.hid u.hb
                          rw [← hwz] at HA HSX HUz
                          rw [← hwz]
                          clear hwz HW HKE HP2 HP1 HR4
                          go_wp2
                          go_loopw [21] (fun t21 wr => ∃ (r : Nat) (u : Ext w4), r ≤ 64 ∧ t21 = .int .i64 r ∧ Arr 2 vI gR 64 st1 wr ∧ Arr 2 vI w4.heap.size 64 (srcL ms) wr ∧ wr = u.w) (fun t21 _ => 64 - (intOf t21).toNat)
                          case atStart => exact ⟨0, ⟨wz, HUz.out⟩, by omega, rfl, HA.out, HSX.out, rfl⟩
                          case round =>
                            clear HA HSX HUz
                            obtain ⟨r, v, hr, rfl, ha, hs, rfl⟩ := hrel
                            have HA := Lib.hid ha
                            have HSX := Lib.hid hs
                            by_cases hr64 : r < 64
                            · obtain ⟨hs0, hs1⟩ := HSR.out r (by omega) (by omega)
                              obtain ⟨sr, hsr⟩ : ∃ z, z = σ r := ⟨_, rfl⟩
                              have V0 := fun u' : Ext v.w => (u'.hb.cell (p := ⟨gR, r, none⟩) (ha.lt (by omega))).trans (show v.w.cell? ⟨gR, r, none⟩ = some (.int .i64 (1000 + sr)) by rw [hsr, ← HFIN.out.2 r hr64]; exact ha.at' hr64 0)
                              have V1 := fun u' : Ext v.w => (u'.hb.cell (p := ⟨w4.heap.size, r, none⟩) (hs.lt (by omega))).trans (show v.w.cell? ⟨w4.heap.size, r, none⟩ = some (.int .i64 sr) by
                                have := hs.at' hr64 0
                                rw [srcL, getD64 _ _ hr64] at this
                                rw [hsr, HSG.out]; exact this)
                              rw [← hsr] at hs0 hs1
                              have hwi : IntKind.i64.wrap (1000 + sr) = 1000 + sr := wi64 (by omega) (by omega)
                              have hbq : ((1000 + sr : Int) != 1000 + sr) = false := by simp
                              clear hsr ha hs
                              go_wp2
                              refine wp_region_ext (W := v.w) (by kernel_rfl) (by kernel_rfl) ⟨Ext.self v.w, rfl⟩ ?_
                              (repeat (rw [wpQuiet_cons]; go_simp)); rw [wpQuiet_nil']
                              intro u'
                              go_wp2
                              go_roundw
                              case rel =>
                                first
                                | exact ⟨r + 1, ⟨u'.w, v.hb.trans (u'.hb.mono v.hb.size)⟩, hr64, by go_num, HA.out.chg (chg_of u'.hb) (by simp), HSX.out.chg (chg_of u'.hb) (by simp), rfl⟩
                                | ((repeat apply Exists.intro); exact ⟨⟨r + 1, ⟨u'.w, v.hb.trans (u'.hb.mono v.hb.size)⟩, hr64, by go_num, HA.out.chg (chg_of u'.hb) (by simp), HSX.out.chg (chg_of u'.hb) (by simp), rfl⟩, rfl⟩)
                              case measure =>
                                show 64 - ((r : Int) + 1).toNat < 64 - (r : Int).toNat
                                omega
                            · clear ha hs
                              go_wp2
                              go_ret
                              exact ⟨rfl, HB.out.trans (v.hb.mono HNM.out)⟩
          · have hEn : E.length = 0 := by rw [HE.out, seqF, if_neg hbad]; rfl
            have HU8 := Lib.hid u.hb
            (try simp only [hEn])
            clear hEn
            go_wp2
            go_ret
            exact ⟨rfl, HB.out.trans (HU8.out.mono HNM.out)⟩
  · go_enter Try.func5, Try.ntmps5
    go_wp2
    go_ret
    exact ⟨rfl, Below.refl _ _⟩
end Go.Proofs.Ytnnfjjgohhicjaa
