/- Contract: impl.ValidFunc. -/
import Derived.Test.YtnbkgaofdkkdnaaDoorKg2
import Derived.Test.YtnbkgaofdkkdnaaDoorMd1
import Derived.Test.YtnbkgaofdkkdnaaDoorKi
namespace Go.Proofs.YtnbkgaofdkkdnaaDoor
open Go.RowKit
set_option linter.unusedSimpArgs false
set_option linter.unusedVariables false
set_option maxRecDepth 100000

def cnt (V : Nat) (L : List Int) : List Int := tab V fun v => (L.count (v : Int) : Int)
theorem cnt_nil (V : Nat) : cnt V [] = List.replicate V 0 := by unfold cnt; rw [← tab_const]; rfl
theorem cnt_snoc {V : Nat} {L : List Int} {a : Nat} (h : a < V) : (cnt V L).set a ((L.count (a : Int) : Int) + 1) = cnt V (L ++ [(a : Int)]) := by
  have h1 : (cnt V L).set a (((L ++ [(a : Int)]).count (a : Int) : Nat) : Int) = cnt V (L ++ [(a : Int)]) := tab_set (F' := fun v => (((L ++ [(a : Int)]).count (v : Int) : Nat) : Int)) h fun s hs => by
    rw [List.count_append, List.count_singleton]
    have : ((a : Int) == (s : Int)) = false := by simp; omega
    simp [this]
  rw [← h1]
  congr 1
  rw [List.count_append, List.count_singleton]
  simp
/-- The counts lie in block G, the predecessors apart of it. -/
def VI (G V : Nat) (v10 : Value) (P : List (List Int)) (L : List Int) (wr : World) : Prop :=
  Row 3 (kInt .i64) wr (.slice (some ⟨G, 0, none⟩) V V) (cnt V L) [G] ∧ ∃ fp, Row 35 kI64s wr v10 P fp ∧ G ∉ fp
theorem VI.chg {G V : Nat} {v10 : Value} {P : List (List Int)} {L : List Int} {w w' : World} (h : VI G V v10 P L w) (hc : Chg (fun _ => False) w w') : VI G V v10 P L w' := by
  obtain ⟨h1, fp, h2, h3⟩ := h
  exact ⟨h1.chg hc (by simp), fp, h2.chg hc (by simp), h3⟩
theorem VI.lt {G V : Nat} {v10 : Value} {P : List (List Int)} {L : List Int} {w : World} (h : VI G V v10 P L w) : G < w.heap.size := h.1.lt G (by simp)
theorem cnt_len (V : Nat) (L : List Int) : (cnt V L).length = V := tab_len _ _
theorem cnt_get {V a : Nat} (L : List Int) (h : a < V) : (cnt V L)[a]? = some (L.count (a : Int) : Int) := tab_get _ h
theorem VI.cell {G V : Nat} {v10 : Value} {P : List (List Int)} {L : List Int} {w : World} (h : VI G V v10 P L w) {a : Nat} (ha : a < V) : w.cell? ⟨G, a, none⟩ = some (.int .i64 (L.count (a : Int) : Int)) ∧ w.frozen? ⟨G, a, none⟩ = false := by
  obtain ⟨_, rfl, hq, hf⟩ := h.1.cellsAt (cnt_len _ _) (cnt_get L ha)
  have q0 := ha1 (n := a * 1) hq
  rw [Nat.mul_one] at q0
  exact ⟨q0, hf a⟩
theorem VI.store {G V : Nat} {v10 : Value} {P : List (List Int)} {L : List Int} {w : World} (h : VI G V v10 P L w) {a : Nat} (ha : a < V) : VI G V v10 P (L ++ [(a : Int)]) (w.setCell ⟨G, a, none⟩ (.int .i64 ((L.count (a : Int) : Int) + 1))) := by
  obtain ⟨h1, fp, h2, h3⟩ := h
  obtain ⟨fp', hr', hf', hC⟩ := h1.set (cnt_len _ _) ha (y := (L.count (a : Int) : Int) + 1) (cs := [.int .i64 ((L.count (a : Int) : Int) + 1)]) (f := []) ⟨rfl, rfl⟩ (by simp)
  rw [show a * (kInt .i64).sz = a from Nat.mul_one a, setCells1] at hr' hC
  rw [cnt_snoc ha] at hr'
  have e : fp' = [G] := by
    obtain ⟨css, fps, ho, hall, rfl, hn⟩ := hr'
    have : fps.flatten = [] := List.eq_nil_iff_forall_not_mem.2 fun b hb => by
      obtain ⟨f, hf, hbf⟩ := List.mem_flatten.1 hb
      obtain ⟨i, hi⟩ := List.getElem?_of_mem hf
      have hil := (List.getElem?_eq_some_iff.1 hi).1
      obtain ⟨x, hx⟩ := get_of_lt (show i < (cnt V (L ++ [(a : Int)])).length by rw [← hall.len3]; exact hil)
      obtain ⟨_, c, _, hc, hO⟩ := hall.get hx
      rw [hi] at hc
      obtain rfl := Option.some.inj hc
      rw [hO.2] at hbf
      simp at hbf
    rw [this]; rfl
  subst e
  exact ⟨hr', fp, h2.chg hC fun b hb e => h3 (e ▸ hb), h3⟩
theorem VI.pred {G V g10 n cap : Nat} {P : List (List Int)} {L : List Int} {w : World} (h : VI G V (.slice (some ⟨g10, 0, none⟩) n cap) P L w) (hn : P.length = n) {k : Nat} {xs : List Int} (hk : P[k]? = some xs) : ∃ A c, w.cell? ⟨g10, k, none⟩ = some (.slice A xs.length c) := by
  obtain ⟨_, fp, h2, _⟩ := h
  obtain ⟨_, ⟨A, c, rfl, _, _⟩, hq, _⟩ := h2.cellsAt hn hk
  have q0 := ha1 (n := k * 1) hq
  rw [Nat.mul_one] at q0
  exact ⟨A, c, q0⟩
theorem Ext.old {w : World} {o : Obj} (u : Ext (w.alloc o)) {p : Addr} {v : Value} (h : w.cell? p = some v) : u.w.cell? p = some v := ((ext_box u).cell (World.block_lt_of_cell? w _ h)).trans h
theorem good_targets {t : Term} {n low N : Int} (h : goodTerm t n low N = true) (h0 : 0 ≤ low) : ∀ q ∈ targets t, 0 ≤ q ∧ q < N := by
  rw [goodTerm_iff] at h
  intro q hq
  rcases h with ⟨h1, h⟩ | ⟨h1, h⟩ | ⟨h1, h⟩ <;> simp [targets, h1] at hq <;> omega
def argsN (ps : List Phi) : Nat := (ps.map fun p => p.args.length).sum
theorem argsN_snoc {ps : List Phi} {k : Nat} {p : Phi} (h : ps[k]? = some p) : argsN (ps.take (k + 1)) = argsN (ps.take k) + p.args.length := by
  unfold argsN; rw [List.take_add_one, h]; simp
theorem sizePhis_args (ps : List Phi) : sizePhis ps = ps.length + argsN ps := by
  induction ps with
  | nil => rfl
  | cons p ps ih => simp only [sizePhis, argsN, List.map_cons, List.sum_cons, List.length_cons] at *; omega
theorem argsN_le {ps : List Phi} {L : Nat} (h2 : ∀ (i : Nat) p, ps[i]? = some p → okPhi L p) (k : Nat) : argsN (ps.take k) ≤ ps.length * L := by
  have h3 := sum_take_le (fun p : Phi => p.args.length) ps k
  have h4 := sum_bound (f := fun p : Phi => p.args.length) (L := L) (xs := ps) fun i p hp => h2 i p hp
  unfold argsN; omega
def TermsUpTo (m : Func) (k : Nat) : Prop := ∀ (j : Nat) b, j < k → m.blocks[j]? = some b → goodTerm b.term m.values 1 m.blocks.length = true ∧ sameEnds b.term = false
theorem termsUpTo_snoc {m : Func} {k : Nat} {b : Block} (h : TermsUpTo m k) (hb : m.blocks[k]? = some b) (h1 : goodTerm b.term m.values 1 m.blocks.length = true) (h2 : sameEnds b.term = false) : TermsUpTo m (k + 1) := by
  intro j c hj hc
  rcases Nat.lt_or_eq_of_le (Nat.le_of_lt_succ hj) with h3 | rfl
  · exact h j c h3 hc
  · obtain rfl := Option.some.inj (hb.symm.trans hc); exact ⟨h1, h2⟩
/-- What is known of the blocks that have been gone through. -/
def BlksUpTo (m : Func) (k : Nat) : Prop := ∀ (j : Nat) b, j < k → m.blocks[j]? = some b → (∀ (i : Nat) p, b.phis[i]? = some p → phiOK m.values (preds m.blocks j).length p = true ∧ inR m.values p.dst = true) ∧ (b.instrs.all fun x => goodInstr x m.values 10) = true
theorem blksUpTo_snoc {m : Func} {k : Nat} {b : Block} (h : BlksUpTo m k) (hb : m.blocks[k]? = some b) (h1 : b.phis.all (fun p => phiOK m.values (preds m.blocks k).length p && inR m.values p.dst) = true) (h2 : (b.instrs.all fun x => goodInstr x m.values 10) = true) : BlksUpTo m (k + 1) := by
  intro j c hj hc
  rcases Nat.lt_or_eq_of_le (Nat.le_of_lt_succ hj) with h3 | rfl
  · exact h j c h3 hc
  · obtain rfl := Option.some.inj (hb.symm.trans hc)
    exact ⟨fun i p hp => by simpa using List.all_eq_true.1 h1 p (List.mem_of_getElem? hp), h2⟩
theorem vf_end {m : Func} (h1 : 0 ≤ m.values ∧ m.values ≤ 2000) (h2 : 1 ≤ m.blocks.length ∧ m.blocks.length ≤ 1000) (h3 : sizeF m.blocks ≤ 4000) (h4 : TermsUpTo m m.blocks.length) (h5 : BlksUpTo m m.blocks.length) (h6 : ∀ v : Nat, v < m.values → (defs m.blocks).count (v : Int) = 1) : validF m = true := by
  have lt : ∀ {j : Nat} {b : Block}, m.blocks[j]? = some b → j < m.blocks.length := fun h => (List.getElem?_eq_some_iff.1 h).1
  have hi : ∀ (j : Nat) b, m.blocks[j]? = some b → ∀ (i : Nat) x, b.instrs[i]? = some x → goodInstr x m.values 10 = true := fun j b hb i x hx => List.all_eq_true.1 (h5 j b (lt hb) hb).2 x (List.mem_of_getElem? hx)
  exact vf_true h1 h2 h3 (fun j b hb => h4 j b (lt hb) hb) hi (fun j b hb i p hp => ((h5 j b (lt hb) hb).1 i p hp).1)
    ((defsOK_count h1.1).2 ⟨defs_range (fun j b hb i p hp => inR_iff.1 ((h5 j b (lt hb) hb).1 i p hp).2) hi, h6⟩)
theorem pred_len {m : Func} (h : TermsUpTo m m.blocks.length) (k : Nat) : predM k m.blocks 0 = preds m.blocks k :=
  predM_preds (n := m.values) (low := 1) (N := m.blocks.length) k 0 fun b hb => by
    obtain ⟨j, hj⟩ := List.getElem?_of_mem hb
    exact h j b (List.getElem?_eq_some_iff.1 hj).1 hj
end Go.Proofs.YtnbkgaofdkkdnaaDoor
namespace Go.Proofs.YtnbkgaofdkkdnaaDoor
open Go.RowKit
set_option linter.unusedSimpArgs false
set_option linter.unusedVariables false
set_option maxRecDepth 100000

abbrev W0F (w : World) (m : Func) (A : Option Addr) (c : Nat) : World := w.alloc (.cells #[.int .i64 m.values, .slice A m.blocks.length c] 29)
theorem info_int : (Tryd.prog.info? 3).map (fun i => (i.zero, i.size, i.bytes)) = some (some (.int .i64 0), 1, 8) := by kernel_rfl
theorem chg_set {G o : Nat} {v : Value} {w w' : World} (h : Below w.heap.size w w') : Chg (fun k => k = G) w (w'.setCell ⟨G, o, none⟩ v) := Chg.setCell (p := ⟨G, o, none⟩) ((chg_of h).mono (T := fun k => k = G) (fun _ _ h => h.elim)) (.inl rfl) v
set_option maxHeartbeats 16000000 in
theorem validF_i (A : Option Addr) (c : Nat) (m : Func) (w : World) (hx : C (kBlock 0 0 0) w A m.blocks) (hS : Shapes w) (hm : m.blocks.length ≤ 1048576) (hs : ∀ (i : Nat) b, m.blocks[i]? = some b → okBlk 1048576 b) :
    Calls Tryd.prog 30 #[.agg #[.int .i64 m.values, .slice A m.blocks.length c]] w fun e w' => e = .returned (.bool (validF m)) ∧ Below w.heap.size w w' := by
  by_cases hr : 0 ≤ m.values ∧ m.values ≤ 2000
  · have hd1 : decide (0 ≤ m.values ∧ m.values ≤ 2000) = true := by simpa using hr
    by_cases hn : 1 ≤ m.blocks.length ∧ m.blocks.length ≤ 1000
    · have hd2 : decide (1 ≤ (m.blocks.length : Int) ∧ (m.blocks.length : Int) ≤ 1000) = true := by simp; omega
      obtain ⟨i0, hi, hz0, hz1, hz2⟩ := info_parts info_int
      go_enter Tryd.func30, Tryd.ntmps30
      go_wp2_with (go_at_call 31; (with_reducible refine (within_c _ _ _ _).mono ?_); rintro e w1 ⟨rfl, rfl⟩)
      have HN := Lib.hid hn
      have HRR := Lib.hid hr
      have HO := Lib.hid hs
      have HDL := Lib.hid (show ∀ k, (defs (m.blocks.take k)).length ≤ 2199023255552 from fun k => by have h1 := defs_len hs k; omega)
      have HPD := Lib.hid (fun W (h : C (kBlock 0 0 0) W A m.blocks) ht => predecessors_c A c m W h hm ht)
      obtain ⟨n1, n2⟩ := hn
      obtain ⟨v1, v2⟩ := hr
      clear hd1 hd2 hs
      go_loopw [4, 36] (fun t i wr => ∃ (k : Nat) (u : Ext (W0F w m A c)), k ≤ m.blocks.length ∧ i = .int .i64 k ∧ t = .int .i64 (sizeF (m.blocks.take k) : Int) ∧ sizeF (m.blocks.take k) ≤ 4000 ∧ TermsUpTo m k ∧ wr = u.w) (fun _ i _ => m.blocks.length - (intOf i).toNat)
      case atStart => exact ⟨0, Ext.self _, by omega, rfl, rfl, by simp [sizeF], fun j b hj => by omega, rfl⟩
      case round =>
        obtain ⟨k, u, hk, rfl, rfl, hz, hall, rfl⟩ := hrel
        have HA := Lib.hid hall
        clear hall
        obtain ⟨b0, b1, -⟩ := box_at u
        have hzu := u.lt
        by_cases hlt : k < m.blocks.length
        · obtain ⟨x, ex⟩ := get_of_lt hlt
          obtain ⟨a, _, rfl, ⟨_, _, rfl, ⟨A1', c1', rfl, l1', r1'⟩, _, _, rfl, ⟨A2', c2', rfl, l2', r2'⟩, rfl⟩, hc⟩ := (hx.below (ext_box u)).at ex
          obtain ⟨p0, p1, p2, p3, p4, p5⟩ := hc6 (n := k * 6) hc
          clear hc
          have hbo := HO.out _ _ ex
          have hb1 := hbo.1
          have hb3 := hbo.2.2
          have HBO := Lib.hid hbo.2.1
          have HZ := Lib.hid (show sizeF (m.blocks.take (k + 1)) = sizeF (m.blocks.take k) + (1 + x.instrs.length + x.phis.length) + argsN x.phis by rw [sizeF_snoc ex, sizeB, sizePhis_args]; omega)
          have HAL := Lib.hid (fun j => argsN_le HBO.out j)
          have HE := Lib.hid ex
          clear ex hbo
          go_wp2
          go_loopw [4, 53] (fun t i wr => ∃ (j : Nat) (v : Ext (u.w.alloc (.cells #[.slice A1' x.phis.length c1', .slice A2' x.instrs.length c2', .int .i64 x.term.kind, .int .i64 x.term.a, .int .i64 x.term.to, .int .i64 x.term.els] 104))), j ≤ x.phis.length ∧ i = .int .i64 j ∧ t = .int .i64 ((sizeF (m.blocks.take k) : Int) + (1 + (x.instrs.length : Int) + (x.phis.length : Int)) + (argsN (x.phis.take j) : Int)) ∧ wr = v.w) (fun _ i _ => x.phis.length - (intOf i).toNat)
          case atStart => exact ⟨0, Ext.self _, by omega, rfl, by simp [argsN], rfl⟩
          case round =>
            obtain ⟨j, v, hj, rfl, rfl, rfl⟩ := hrel
            have hbv := ext_box v
            have hzv := v.lt
            clear p0 p1 p2 p3 p4 p5
            have haj := HAL.out j
            by_cases hlj : j < x.phis.length
            · obtain ⟨p, ep⟩ := get_of_lt hlj
              obtain ⟨a', _, rfl, ⟨_, _, rfl, rfl, ⟨A3', c3', rfl, l3', r3'⟩⟩, hc⟩ := (r1'.below hbv).at ep
              obtain ⟨q0, q1⟩ := hc2 (n := j * 2) hc
              clear hc
              have hal : p.args.length ≤ 1048576 := HBO.out _ _ ep
              have HZP := Lib.hid (argsN_snoc ep)
              have haj2 : x.phis.length * 1048576 ≤ 1048576 * 1048576 := Nat.mul_le_mul_right _ hb1
              clear ep
              go_wp2
              go_roundw
              case rel => exact ⟨j + 1, v.step (w' := v.w.alloc (.cells #[.int .i64 p.dst, .slice A3' p.args.length c3'] 110)) (by repeat (first | (with_reducible first | exact Below.refl _ _ | assumption | exact ext_box _) | (with_reducible apply Below.drew) | ((with_reducible refine Below.setCell ?_ ?hs _); (case hs => first | (simp; done) | (simp; omega) | omega)) | ((with_reducible refine Below.alloc ?_ ?hs _); (case hs => first | (simp; done) | (simp; omega) | omega)))), by omega, by go_num, by rw [HZP.out]; go_num, rfl⟩
              case measure => simp [intOf]; omega
            · have hjn : x.phis.take j = x.phis := List.take_of_length_le (by omega)
              rw [hjn] at haj ⊢
              have hZ := HZ.out
              clear hjn
              have d0 := (hbv.cell (p := ⟨w.heap.size, 0, none⟩) hzu).trans b0
              have hzz : w.heap.size < v.w.heap.size := by omega
              obtain ⟨e0, e1, e2, e3, e4, e5, -⟩ := box_at v
              by_cases hsz : sizeF (m.blocks.take (k + 1)) ≤ 4000
              · cases hg : goodTerm x.term m.values 1 m.blocks.length
                · have HV := Lib.hid (vf_term HE.out hg)
                  have hgi := fun W => termOK_c x.term m.values 1 m.blocks.length W v1 (by omega) (by omega) (by omega)
                  rw [hg] at hgi
                  clear hg
                  go_wp2_with (go_at_call 63; refine (hgi _).mono ?_; rintro e w1 ⟨rfl, hb1⟩; have HB1 := Below.then_ (w := v.w) (by repeat (first | (with_reducible first | exact Below.refl _ _ | assumption | exact ext_box _) | (with_reducible apply Below.drew) | ((with_reducible refine Below.setCell ?_ ?hs _); (case hs => first | (simp; done) | (simp; omega) | omega)) | ((with_reducible refine Below.alloc ?_ ?hs _); (case hs => first | (simp; done) | (simp; omega) | omega)))) hb1)
                  go_ret
                  exact ⟨ret_bool HV.out.symm, ext_end u (Below.trans hbv (HB1.mono (by omega)))⟩
                · have HG := Lib.hid hg
                  have hgi := fun W => termOK_c x.term m.values 1 m.blocks.length W v1 (by omega) (by omega) (by omega)
                  rw [hg] at hgi
                  clear hg
                  by_cases h2 : x.term.kind = 2
                  · by_cases h3 : x.term.to = x.term.els
                    · have HV := Lib.hid (vf_same HE.out h2 h3)
                      have t2 : (x.term.kind == 2) = true := by simp [h2]
                      have t3 : (x.term.to == x.term.els) = true := by simp [h3]
                      clear h2 h3
                      go_wp2_with (go_at_call 63; refine (hgi _).mono ?_; rintro e w1 ⟨rfl, hb1⟩; have HB1 := Below.then_ (w := v.w) (by repeat (first | (with_reducible first | exact Below.refl _ _ | assumption | exact ext_box _) | (with_reducible apply Below.drew) | ((with_reducible refine Below.setCell ?_ ?hs _); (case hs => first | (simp; done) | (simp; omega) | omega)) | ((with_reducible refine Below.alloc ?_ ?hs _); (case hs => first | (simp; done) | (simp; omega) | omega)))) hb1; have i2 := (HB1.cell hzv).trans e2; have i4 := (HB1.cell hzv).trans e4; have i5 := (HB1.cell hzv).trans e5)
                      go_ret
                      exact ⟨ret_bool HV.out.symm, ext_end u (Below.trans hbv (HB1.mono (by omega)))⟩
                    · have HSE := Lib.hid (show sameEnds x.term = false by simp [sameEnds, h3])
                      have t2 : (x.term.kind == 2) = true := by simp [h2]
                      have t3 : (x.term.to == x.term.els) = false := by simp [h3]
                      clear h2 h3
                      go_wp2_with (go_at_call 63; refine (hgi _).mono ?_; rintro e w1 ⟨rfl, hb1⟩; have HB1 := Below.then_ (w := v.w) (by repeat (first | (with_reducible first | exact Below.refl _ _ | assumption | exact ext_box _) | (with_reducible apply Below.drew) | ((with_reducible refine Below.setCell ?_ ?hs _); (case hs => first | (simp; done) | (simp; omega) | omega)) | ((with_reducible refine Below.alloc ?_ ?hs _); (case hs => first | (simp; done) | (simp; omega) | omega)))) hb1; have i2 := (HB1.cell hzv).trans e2; have i4 := (HB1.cell hzv).trans e4; have i5 := (HB1.cell hzv).trans e5)
                      obtain ⟨u1, rfl⟩ := u.more (Below.trans hbv (HB1.mono (by omega)))
                      go_roundw
                      case rel => exact ⟨k + 1, u1, by omega, by go_num, by rw [HZ.out]; go_num, hsz, termsUpTo_snoc HA.out HE.out HG.out HSE.out, rfl⟩
                      case measure => simp [intOf]; omega
                  · have HSE := Lib.hid (show sameEnds x.term = false by simp [sameEnds, h2])
                    have t2 : (x.term.kind == 2) = false := by simp [h2]
                    clear h2
                    go_wp2_with (go_at_call 63; refine (hgi _).mono ?_; rintro e w1 ⟨rfl, hb1⟩; have HB1 := Below.then_ (w := v.w) (by repeat (first | (with_reducible first | exact Below.refl _ _ | assumption | exact ext_box _) | (with_reducible apply Below.drew) | ((with_reducible refine Below.setCell ?_ ?hs _); (case hs => first | (simp; done) | (simp; omega) | omega)) | ((with_reducible refine Below.alloc ?_ ?hs _); (case hs => first | (simp; done) | (simp; omega) | omega)))) hb1; have i2 := (HB1.cell hzv).trans e2)
                    obtain ⟨u1, rfl⟩ := u.more (Below.trans hbv (HB1.mono (by omega)))
                    go_roundw
                    case rel => exact ⟨k + 1, u1, by omega, by go_num, by rw [HZ.out]; go_num, hsz, termsUpTo_snoc HA.out HE.out HG.out HSE.out, rfl⟩
                    case measure => simp [intOf]; omega
              · have HV := Lib.hid (vf_size' (m := m) (k := k + 1) (show 4000 < sizeF (m.blocks.take (k + 1)) by omega) (Nat.le_refl _))
                go_wp2
                go_ret
                exact ⟨ret_bool HV.out.symm, ext_end u hbv⟩
        · have HT := Lib.hid (show TermsUpTo m m.blocks.length by have := HA.out; rwa [show k = m.blocks.length by omega] at this)
          have HSZ := Lib.hid (show sizeF m.blocks ≤ 4000 by rwa [List.take_of_length_le (by omega)] at hz)
          clear HA hz
          have HTG := Lib.hid (show ∀ (i : Nat) b, m.blocks[i]? = some b → ∀ q ∈ targets b.term, 0 ≤ q ∧ q < m.blocks.length from fun i b hb => good_targets (HT.out i b (List.getElem?_eq_some_iff.1 hb).1 hb).1 (by omega))
          obtain ⟨V, hV⟩ : ∃ V : Nat, m.values = V := ⟨m.values.toNat, by omega⟩
          have HVV := Lib.hid hV
          have hV2 : V ≤ 2000 := by omega
          clear hV
          go_wp2_with (first
            | (at_make; refine wpList_make_row (kInt .i64) 0 [.int .i64 0] _ rfl _ _ 58 rfl 3 i0 _ Tryd.underlying58 hi hz0 hz1 rfl (by decide) (fun _ => ⟨rfl, rfl⟩) m.values V rfl rfl HVV.out (by rw [hz2]; omega) (by simp only [maxLen]; omega) ?_; intro w1 hr1 hb1 hz1'; have HR1 := Lib.hid hr1; have b0' := (hb1.cell (p := ⟨w.heap.size, 0, none⟩) hzu).trans b0; have b1' := (hb1.cell (p := ⟨w.heap.size, 1, none⟩) hzu).trans b1; clear hr1)
            | (go_at_call 64; refine (HPD.out _ (hx.below (Below.trans (ext_box u) (Below.mono hb1 (by omega)))) HTG.out).mono ?_; rintro e w2 ⟨v10, fp10, rfl, hr2, hf2, hb2⟩; have HR2 := Lib.hid hr2; have HF2 := Lib.hid hf2; obtain ⟨A10, c10, rfl, hl10⟩ := hr2.form; have b0'' := (hb2.cell (p := ⟨w.heap.size, 0, none⟩) (by omega)).trans b0'; have b1'' := (hb2.cell (p := ⟨w.heap.size, 1, none⟩) (by omega)).trans b1'; clear hr2 hf2))
          refine (HPD.out _ (hx.below (Below.trans (ext_box u) (Below.mono hb1 (by omega)))) HTG.out).mono ?_
          rintro e w2 ⟨v10, fp10, rfl, hr2, hf2, hb2⟩
          obtain ⟨g10, c10, rfl, hg10⟩ : ∃ g cap, v10 = .slice (some ⟨g, 0, none⟩) m.blocks.length cap ∧ g ∈ fp10 := by
            rcases hr2.form' with ⟨_, h, _⟩ | ⟨g, cap, rfl, hg, _⟩
            · have := congrArg List.length h; rw [tab_len, List.length_nil] at this; omega
            · exact ⟨g, cap, by rw [tab_len], hg⟩
          have HVI : Hid (VI u.w.heap.size V (.slice (some ⟨g10, 0, none⟩) m.blocks.length c10) (tab m.blocks.length fun t => predM t m.blocks 0) [] w2) := Lib.hid ⟨by rw [cnt_nil]; exact HR1.out.chg (chg_of hb2) (by simp), fp10, hr2, fun hm => absurd (hf2 _ hm) (Nat.not_le.2 hz1')⟩
          have hG : w.heap.size < u.w.heap.size := hzu
          have hB12 : Below u.w.heap.size u.w w2 := Below.trans hb1 (hb2.mono (by omega))
          obtain ⟨U2, rfl⟩ := u.more hB12
          have hlt2 : u.w.heap.size < U2.w.heap.size := HVI.out.lt
          clear hr2 hf2 hg10 HR1 b0' b1' b0 b1 hzu hB12 hb1 hb2 hz1' HPD HTG
          generalize u.w.heap.size = G at *
          obtain ⟨b0, b1, -⟩ := box_at U2
          go_wp2
          clear b0 b1
          go_loopw [98] (fun i wr => ∃ (k : Nat) (u : Ext (W0F w m A c)), k ≤ m.blocks.length ∧ i = .int .i64 k ∧ VI G V (.slice (some ⟨g10, 0, none⟩) m.blocks.length c10) (tab m.blocks.length fun t => predM t m.blocks 0) (defs (m.blocks.take k)) wr ∧ BlksUpTo m k ∧ wr = u.w) (fun i _ => m.blocks.length - (intOf i).toNat)
          case atStart => exact ⟨0, U2, by omega, rfl, HVI.out, fun j b hj => by omega, rfl⟩
          case round =>
            clear HVI hlt2 U2 hk hlt
            obtain ⟨k, u, hk, rfl, hvi, hall, rfl⟩ := hrel
            have HVI := Lib.hid hvi
            have HB := Lib.hid hall
            clear hall hvi
            by_cases hlt : k < m.blocks.length
            · obtain ⟨x, ex⟩ := get_of_lt hlt
              obtain ⟨a, _, rfl, ⟨_, _, rfl, ⟨A1', c1', rfl, l1', r1'⟩, _, _, rfl, ⟨A2', c2', rfl, l2', r2'⟩, rfl⟩, hc⟩ := hx.at ex
              obtain ⟨o0, o1, o2, o3, o4, o5⟩ := hc6 (n := k * 6) hc
              have p0 := u.old o0
              have p1 := u.old o1
              have p2 := u.old o2
              have p3 := u.old o3
              have p4 := u.old o4
              have p5 := u.old o5
              clear hc o0 o1 o2 o3 o4 o5
              have hbo := HO.out _ _ ex
              have hb1 := hbo.1
              have hb3 := hbo.2.2
              have HBO := Lib.hid hbo.2.1
              have HE := Lib.hid ex
              have hdl := HDL.out k
              have HDS := Lib.hid (defs_snoc ex)
              have hGu : G < u.w.heap.size := HVI.out.lt
              obtain ⟨b0, b1, -⟩ := box_at u
              have hzu := u.lt
              clear ex hbo
              have hpl := congrArg List.length (pred_len HT.out k)
              have HPL := Lib.hid hpl
              clear hpl
              go_wp2
              have hvi0 := HVI.out.chg (w' := u.w.alloc (.cells #[.slice A1' x.phis.length c1', .slice A2' x.instrs.length c2', .int .i64 x.term.kind, .int .i64 x.term.a, .int .i64 x.term.to, .int .i64 x.term.els] 104)) (by (repeat (first | (with_reducible first | exact Chg.refl _ _ | assumption) | (with_reducible refine Chg.drew ?_) | ((with_reducible refine Chg.setCell ?_ ?hs _); (case hs => first | (simp; done) | (simp; omega) | omega)) | (with_reducible refine Chg.alloc ?_ _))))
              have HVI0 := Lib.hid hvi0
              have hx1 : (u.w.alloc (.cells #[.slice A1' x.phis.length c1', .slice A2' x.instrs.length c2', .int .i64 x.term.kind, .int .i64 x.term.a, .int .i64 x.term.to, .int .i64 x.term.els] 104)).cell? ⟨u.w.heap.size, 1, none⟩ = some (.slice A2' x.instrs.length c2') := new_cell _ _ _ 1 (.slice A2' x.instrs.length c2') rfl
              have HX1 := Lib.hid hx1
              obtain ⟨u0, hu0⟩ : ∃ u0 : Ext (W0F w m (some a) c), u.w.alloc (.cells #[.slice A1' x.phis.length c1', .slice A2' x.instrs.length c2', .int .i64 x.term.kind, .int .i64 x.term.a, .int .i64 x.term.to, .int .i64 x.term.els] 104) = u0.w := ⟨u.step (w' := u.w.alloc (.cells #[.slice A1' x.phis.length c1', .slice A2' x.instrs.length c2', .int .i64 x.term.kind, .int .i64 x.term.a, .int .i64 x.term.to, .int .i64 x.term.els] 104)) (by repeat (first | (with_reducible first | exact Below.refl _ _ | assumption | exact ext_box _) | (with_reducible apply Below.drew) | ((with_reducible refine Below.setCell ?_ ?hs _); (case hs => first | (simp; done) | (simp; omega) | omega)) | ((with_reducible refine Below.alloc ?_ ?hs _); (case hs => first | (simp; done) | (simp; omega) | omega)))), rfl⟩
              clear hvi0 hx1 HVI b0 b1 p0 p1 p2 p3 p4 p5
              rw [hu0] at HVI0 HX1 ⊢
              clear hu0
              generalize u.w.heap.size = B at *
              go_loopw [106] (fun i wr => ∃ (j : Nat) (v : Ext (W0F w m (some a) c)), j ≤ x.phis.length ∧ i = .int .i64 j ∧ VI G V (.slice (some ⟨g10, 0, none⟩) m.blocks.length c10) (tab m.blocks.length fun t => predM t m.blocks 0) (defs (m.blocks.take k) ++ (x.phis.take j).map (·.dst)) wr ∧ (x.phis.take j).all (fun p => phiOK m.values (preds m.blocks k).length p && inR m.values p.dst) = true ∧ wr.cell? ⟨B, 1, none⟩ = some (.slice A2' x.instrs.length c2') ∧ wr = v.w) (fun i _ => x.phis.length - (intOf i).toNat)
              case atStart => exact ⟨0, u0, by omega, rfl, by simpa using HVI0.out, by simp, HX1.out, rfl⟩
              case round =>
                clear HVI0 HX1 u0
                obtain ⟨j, v, hj, rfl, hvi, hall, hx1, rfl⟩ := hrel
                obtain ⟨L, hL⟩ : ∃ L, defs (m.blocks.take k) ++ (x.phis.take j).map (·.dst) = L := ⟨_, rfl⟩
                rw [hL] at hvi
                have HLL := Lib.hid hL
                have hLl : L.length ≤ 2199024304128 := by rw [← hL, List.length_append, List.length_map, List.length_take]; omega
                clear hL
                have HVI := Lib.hid hvi
                have HPA := Lib.hid hall
                have HX1 := Lib.hid hx1
                clear hvi hall hx1
                obtain ⟨b0, b1, -⟩ := box_at v
                have hzv := v.lt
                have hGv : G < v.w.heap.size := HVI.out.lt
                by_cases hlj : j < x.phis.length
                · obtain ⟨⟨pd, pargs⟩, ep⟩ := get_of_lt hlj
                  obtain ⟨a', _, rfl, ⟨_, _, rfl, rfl, ⟨A3', c3', rfl, l3', r3'⟩⟩, hc⟩ := (r1'.below (ext_box v)).at ep
                  obtain ⟨q0, q1⟩ := hc2 (n := j * 2) hc
                  have hal : pargs.length ≤ 1048576 := HBO.out _ _ ep
                  have HEP := Lib.hid ep
                  clear hc ep
                  dsimp only at *
                  obtain ⟨Aq, cq, tq⟩ := HVI.out.pred (tab_len _ _) (tab_get _ hlt)
                  have hWp : ∀ z : Ext (v.w.alloc (.cells #[.int .i64 pd, .slice A3' pargs.length c3'] 110)), Below v.w.heap.size v.w z.w := fun z => ext_box z
                  have f0 := fun z : Ext (v.w.alloc (.cells #[.int .i64 pd, .slice A3' pargs.length c3'] 110)) => (box_at z).1
                  have f1 := fun z : Ext (v.w.alloc (.cells #[.int .i64 pd, .slice A3' pargs.length c3'] 110)) => (box_at z).2.1
                  have f2 := fun z : Ext (v.w.alloc (.cells #[.int .i64 pd, .slice A3' pargs.length c3'] 110)) => bat (hWp z) b0 hzv
                  have f3 := fun z : Ext (v.w.alloc (.cells #[.int .i64 pd, .slice A3' pargs.length c3'] 110)) => bat (hWp z) tq (World.block_lt_of_cell? v.w _ tq)
                  have HTQ := Lib.hid tq
                  have HW := Lib.hid (show IntKind.i64.wrap (m.values - 1) = m.values - 1 from IntWalk.i64_in _ (by omega))
                  clear tq
                  by_cases hin : inR m.values pd = true
                  · have hin' := inR_iff.1 hin
                    have hd : decide (0 ≤ pd ∧ pd ≤ m.values - 1) = true := by simp; omega
                    have HIN' := Lib.hid hin'
                    clear hin'
                    by_cases h0 : pargs.length = 0
                    · have HV := Lib.hid (vf_phi HE.out HEP.out (phi_len (np := (preds m.blocks k).length) (by simp only; omega)))
                      have hd0 : ((pargs.length : Int) == 0) = true := by simp [h0]
                      clear h0 hin
                      go_wp2
                      have hw := HW.out
                      refine wp_region_ext (W := v.w.alloc (.cells #[.int .i64 pd, .slice A3' pargs.length c3'] 110)) (by kernel_rfl) (by kernel_rfl) ⟨Ext.self _, rfl⟩ ?_
                      repeat (go_big_quiet_step ((go_at_call 31; exact ext_same (within_c _ _ _ _))))
                      refine wpQuiet_nil ?_
                      rintro _ ⟨z, rfl⟩
                      clear hw
                      go_wp2
                      go_ret
                      exact ⟨ret_bool HV.out.symm, ext_end v (hWp z)⟩
                    · have hd0 : ((pargs.length : Int) == 0) = false := by simp [h0]
                      by_cases hl2 : pargs.length = (preds m.blocks k).length
                      · have HL := Lib.hid (show 1 ≤ pargs.length ∧ pargs.length = (preds m.blocks k).length by omega)
                        have hd3 : ((pargs.length : Int) != ((predM k m.blocks 0).length : Int)) = false := by rw [HPL.out, hl2]; simp
                        clear hl2
                        have HIN := Lib.hid hin
                        clear hin
                        go_wp2
                        have hw := HW.out
                        refine wp_region_ext (W := v.w.alloc (.cells #[.int .i64 pd, .slice A3' pargs.length c3'] 110)) (by kernel_rfl) (by kernel_rfl) ⟨Ext.self _, rfl⟩ ?_
                        repeat (go_big_quiet_step ((go_at_call 31; exact ext_same (within_c _ _ _ _))))
                        refine wpQuiet_nil ?_
                        rintro _ ⟨z, rfl⟩
                        (try rw [hw])
                        (try rw [hd])
                        clear hw
                        have i0' := f0 z
                        have i1' := f1 z
                        have i2' := f2 z
                        have r3z := Lib.hid (r3'.below (hWp z))
                        have HZ := Lib.hid (hWp z)
                        have HVZ := Lib.hid (HVI.out.chg (chg_of (hWp z)))
                        have HXZ := Lib.hid (bat (hWp z) HX1.out (World.block_lt_of_cell? v.w _ HX1.out))
                        have hzz : w.heap.size < z.w.heap.size := by have := (hWp z).size; omega
                        clear f0 f1 f2 f3 hWp hd hd0 hd3 b0 b1 q0 q1
                        go_wp2
                        go_loop [137] (fun i => ∃ l : Nat, l ≤ pargs.length ∧ i = .int .i64 l ∧ (pargs.take l).all (inR m.values) = true) (fun i => pargs.length - (intOf i).toNat)
                        case atStart => exact ⟨0, by omega, rfl, by simp⟩
                        case round =>
                          obtain ⟨l, hl, rfl, hall4⟩ := hrel
                          have HA5 := Lib.hid hall4
                          clear hall4
                          by_cases hll : l < pargs.length
                          · obtain ⟨y, ey⟩ := get_of_lt hll
                            obtain ⟨a4, _, rfl, rfl, hc⟩ := r3z.out.at ey
                            have s0 := hc1 (n := l * 1) hc
                            rw [Nat.mul_one] at s0
                            have EY := Lib.hid ey
                            clear hc ey
                            by_cases hy : inR m.values y = true
                            · have HY := Lib.hid hy
                              have hd : decide (0 ≤ y ∧ y ≤ m.values - 1) = true := by have := inR_iff.1 hy; simp; omega
                              clear hy
                              go_wp2_with (go_at_call 31; (with_reducible refine (within_c _ _ _ _).mono ?_); rintro e w1 ⟨rfl, rfl⟩)
                              go_round
                              case rel => exact ⟨l + 1, by omega, by go_num, all_snoc EY.out HA5.out HY.out⟩
                              case measure => simp [intOf]; omega
                            · have hy' : inR m.values y = false := by simpa using hy
                              have HV := Lib.hid (vf_phi HE.out HEP.out (phi_arg EY.out hy'))
                              have hd : decide (0 ≤ y ∧ y ≤ m.values - 1) = false := by have := inR_not.1 hy'; simp; omega
                              clear hy hy'
                              go_wp2_with (go_at_call 31; (with_reducible refine (within_c _ _ _ _).mono ?_); rintro e w1 ⟨rfl, rfl⟩)
                              go_ret
                              exact ⟨ret_bool HV.out.symm, ext_end v HZ.out⟩
                          · have hall5 : pargs.all (inR m.values) = true := by have := HA5.out; rwa [List.take_of_length_le (show pargs.length ≤ l by omega)] at this
                            have HOK := Lib.hid (show (phiOK m.values (preds m.blocks k).length ⟨pd, pargs⟩ && inR m.values pd) = true by rw [phi_ok (p := ⟨pd, pargs⟩) HL.out hall5, HIN.out]; rfl)
                            clear hall5
                            have hin' := HIN'.out
                            obtain ⟨d, rfl⟩ : ∃ d : Nat, pd = d := ⟨pd.toNat, by omega⟩
                            have hdV : d < V := by have := HVV.out; omega
                            obtain ⟨s1, s2⟩ := HVZ.out.cell hdV
                            have hcb := List.count_le_length (a := (d : Int)) (l := L)
                            have HST := Lib.hid (HVZ.out.store hdV)
                            have HL2 := Lib.hid (show defs (m.blocks.take k) ++ (x.phis.take (j + 1)).map (·.dst) = L ++ [(d : Int)] by rw [take_snoc HEP.out, ← HLL.out]; simp)
                            have hBG : ¬ B = G := by omega
                            go_wp2
                            have hC := chg_set (G := G) (o := d) (v := .int .i64 ((L.count (d : Int) : Nat) + 1 : Int)) HZ.out
                            go_roundw
                            case rel => exact ⟨j + 1, v.chg hC (fun q hq => by subst hq; simp; omega), by omega, by go_num, by rw [HL2.out]; exact HST.out, all_snoc HEP.out HPA.out HOK.out, hC.at HX1.out hBG, rfl⟩
                            case measure => simp [intOf]; omega
                      · have HV := Lib.hid (vf_phi HE.out HEP.out (phi_len (np := (preds m.blocks k).length) (by simp only; omega)))
                        have hd3 : ((pargs.length : Int) != ((predM k m.blocks 0).length : Int)) = true := by rw [HPL.out]; simp; omega
                        clear hl2 h0 hin
                        go_wp2
                        have hw := HW.out
                        refine wp_region_ext (W := v.w.alloc (.cells #[.int .i64 pd, .slice A3' pargs.length c3'] 110)) (by kernel_rfl) (by kernel_rfl) ⟨Ext.self _, rfl⟩ ?_
                        repeat (go_big_quiet_step ((go_at_call 31; exact ext_same (within_c _ _ _ _))))
                        refine wpQuiet_nil ?_
                        rintro _ ⟨z, rfl⟩
                        clear hw
                        go_wp2
                        go_ret
                        exact ⟨ret_bool HV.out.symm, ext_end v (hWp z)⟩
                  · have hin' : inR m.values pd = false := by simpa using hin
                    have HV := Lib.hid (vf_dst HE.out HEP.out hin')
                    have hd : decide (0 ≤ pd ∧ pd ≤ m.values - 1) = false := by have := inR_not.1 hin'; simp; omega
                    clear hin hin'
                    go_wp2
                    have hw := HW.out
                    refine wp_region_ext (W := v.w.alloc (.cells #[.int .i64 pd, .slice A3' pargs.length c3'] 110)) (by kernel_rfl) (by kernel_rfl) ⟨Ext.self _, rfl⟩ ?_
                    repeat (go_big_quiet_step ((go_at_call 31; exact ext_same (within_c _ _ _ _))))
                    refine wpQuiet_nil ?_
                    rintro _ ⟨z, rfl⟩
                    go_wp2
                    go_ret
                    exact ⟨ret_bool HV.out.symm, ext_end v (hWp z)⟩
                · have HPB := Lib.hid (all_take HPA.out (by omega))
                  have HVJ : Hid (VI G V (.slice (some ⟨g10, 0, none⟩) m.blocks.length c10) (tab m.blocks.length fun t => predM t m.blocks 0) (defs (m.blocks.take k) ++ x.phis.map (·.dst)) v.w) := Lib.hid (by have := HVI.out; rwa [← HLL.out, List.take_of_length_le (show x.phis.length ≤ j by omega)] at this)
                  have hx1 := HX1.out
                  clear HPA HVI
                  go_wp2
                  clear hx1 HX1 b0 b1 hj hlj
                  go_loopw [159] (fun i wr => ∃ (j : Nat) (v : Ext (W0F w m (some a) c)), j ≤ x.instrs.length ∧ i = .int .i64 j ∧ VI G V (.slice (some ⟨g10, 0, none⟩) m.blocks.length c10) (tab m.blocks.length fun t => predM t m.blocks 0) (defs (m.blocks.take k) ++ x.phis.map (·.dst) ++ dstsI (x.instrs.take j)) wr ∧ (x.instrs.take j).all (fun x => goodInstr x m.values 10) = true ∧ wr = v.w) (fun i _ => x.instrs.length - (intOf i).toNat)
                  case atStart => exact ⟨0, v, by omega, rfl, by simpa [dstsI] using HVJ.out, by simp, rfl⟩
                  case round =>
                    clear HVJ hzv hGv v
                    obtain ⟨j, v, hj, rfl, hvi, hall, rfl⟩ := hrel
                    obtain ⟨L, hL⟩ : ∃ L, defs (m.blocks.take k) ++ x.phis.map (·.dst) ++ dstsI (x.instrs.take j) = L := ⟨_, rfl⟩
                    rw [hL] at hvi
                    have HLL := Lib.hid hL
                    have hLl : L.length ≤ 2199025352704 := by rw [← hL, List.length_append, List.length_append, List.length_map]; have hdi := dstsI_len (x.instrs.take j); rw [List.length_take] at hdi; omega
                    clear hL
                    have HVI := Lib.hid hvi
                    have HIA := Lib.hid hall
                    clear hvi hall
                    obtain ⟨b0, b1, -⟩ := box_at v
                    have hzv := v.lt
                    have hGv : G < v.w.heap.size := HVI.out.lt
                    by_cases hlj : j < x.instrs.length
                    · obtain ⟨⟨op, dst, ya, yb, yi⟩, ey⟩ := get_of_lt hlj
                      obtain ⟨a', _, rfl, rfl, hc⟩ := (r2'.below (ext_box v)).at ey
                      obtain ⟨q0, q1, q2, q3, q4⟩ := hc5 (n := j * 5) hc
                      dsimp only at *
                      have HEY := Lib.hid ey
                      clear hc ey
                      have hgi := fun W h => instrOK_c ⟨op, dst, ya, yb, yi⟩ 10 m.values W h v1 (by omega) (by omega)
                      simp only [Instr.v] at hgi
                      have hSB := Lib.hid (fun W (h : Below v.w.heap.size v.w W) => hS.below (B := w.heap.size) (Below.trans (ext_box v) (h.mono (by omega))) hS.pos)
                      cases hg : goodInstr ⟨op, dst, ya, yb, yi⟩ m.values 10
                      · have HV := Lib.hid (vf_instr HE.out HEY.out hg)
                        rw [hg] at hgi
                        clear hg
                        go_wp2_with (go_at_call 65; refine (hgi _ (hSB.out _ (by repeat (first | (with_reducible first | exact Below.refl _ _ | assumption | exact ext_box _) | (with_reducible apply Below.drew) | ((with_reducible refine Below.setCell ?_ ?hs _); (case hs => first | (simp; done) | (simp; omega) | omega)) | ((with_reducible refine Below.alloc ?_ ?hs _); (case hs => first | (simp; done) | (simp; omega) | omega)))))).mono ?_; rintro e w1 ⟨rfl, hb1⟩; have HB1 := Below.then_ (w := v.w) (by repeat (first | (with_reducible first | exact Below.refl _ _ | assumption | exact ext_box _) | (with_reducible apply Below.drew) | ((with_reducible refine Below.setCell ?_ ?hs _); (case hs => first | (simp; done) | (simp; omega) | omega)) | ((with_reducible refine Below.alloc ?_ ?hs _); (case hs => first | (simp; done) | (simp; omega) | omega)))) hb1)
                        go_ret
                        exact ⟨ret_bool HV.out.symm, ext_end v HB1⟩
                      · have HG := Lib.hid hg
                        rw [hg] at hgi
                        obtain ⟨o, rfl⟩ : ∃ o : Nat, op = o := ⟨op.toNat, by have := ((goodInstr_iff _ _ _).1 hg).1; simp only at this; omega⟩
                        have K0 := Lib.hid (new_cell v.w #[.int .i64 (o : Int), .int .i64 dst, .int .i64 ya, .int .i64 yb, .int .i64 yi] 107 0 (.int .i64 (o : Int)) rfl)
                        have ho10 : o ≤ 10 := by have := ((goodInstr_iff _ _ _).1 hg).2.1; simp only at this; omega
                        cases hd : usedD (o : Int)
                        · have HDI := Lib.hid (show dstsI (x.instrs.take (j + 1)) = dstsI (x.instrs.take j) by rw [dstsI_snoc HEY.out, hd]; simp)
                          have HSD : Hid (∀ W, Shapes W → W.cell? ⟨0, o * 4, none⟩ = some (.bool (usedD o))) := Lib.hid fun W h => h o (by omega) 0 _ rfl
                          rw [hd] at HSD
                          clear hd hg
                          go_wp2_with (go_at_call 65; refine (hgi _ (hSB.out _ (by repeat (first | (with_reducible first | exact Below.refl _ _ | assumption | exact ext_box _) | (with_reducible apply Below.drew) | ((with_reducible refine Below.setCell ?_ ?hs _); (case hs => first | (simp; done) | (simp; omega) | omega)) | ((with_reducible refine Below.alloc ?_ ?hs _); (case hs => first | (simp; done) | (simp; omega) | omega)))))).mono ?_; rintro e w1 ⟨rfl, hb1⟩; have HB1 : Below v.w.heap.size v.w w1 := Below.then_ (by repeat (first | (with_reducible first | exact Below.refl _ _ | assumption | exact ext_box _) | (with_reducible apply Below.drew) | ((with_reducible refine Below.setCell ?_ ?hs _); (case hs => first | (simp; done) | (simp; omega) | omega)) | ((with_reducible refine Below.alloc ?_ ?hs _); (case hs => first | (simp; done) | (simp; omega) | omega)))) hb1; have i0' := bat hb1 K0.out (by simp); have s0 := HSD.out _ (hSB.out _ HB1))
                          go_roundw
                          case rel => exact ⟨j + 1, v.step HB1, by omega, by go_num, by rw [HDI.out, HLL.out]; exact HVI.out.chg (chg_of HB1), all_snoc HEY.out HIA.out HG.out, rfl⟩
                          case measure => simp [intOf]; omega
                        · have hur := used_range hg hd
                          dsimp only at hur
                          obtain ⟨d, rfl⟩ : ∃ d : Nat, dst = d := ⟨dst.toNat, by omega⟩
                          have K1 := Lib.hid (new_cell v.w #[.int .i64 (o : Int), .int .i64 (d : Int), .int .i64 ya, .int .i64 yb, .int .i64 yi] 107 1 (.int .i64 (d : Int)) rfl)
                          have hdV : d < V := by have := HVV.out; omega
                          have HDI := Lib.hid (show dstsI (x.instrs.take (j + 1)) = dstsI (x.instrs.take j) ++ [(d : Int)] by rw [dstsI_snoc HEY.out, hd]; simp)
                          have HSD : Hid (∀ W, Shapes W → W.cell? ⟨0, o * 4, none⟩ = some (.bool (usedD o))) := Lib.hid fun W h => h o (by omega) 0 _ rfl
                          rw [hd] at HSD
                          have HVF := Lib.hid (fun W (h : Below v.w.heap.size v.w W) => (HVI.out.chg (chg_of h)).cell hdV)
                          have hcb := List.count_le_length (a := (d : Int)) (l := L)
                          clear hd hg
                          go_wp2_with (go_at_call 65; refine (hgi _ (hSB.out _ (by repeat (first | (with_reducible first | exact Below.refl _ _ | assumption | exact ext_box _) | (with_reducible apply Below.drew) | ((with_reducible refine Below.setCell ?_ ?hs _); (case hs => first | (simp; done) | (simp; omega) | omega)) | ((with_reducible refine Below.alloc ?_ ?hs _); (case hs => first | (simp; done) | (simp; omega) | omega)))))).mono ?_; rintro e w1 ⟨rfl, hb1⟩; have HB1 : Below v.w.heap.size v.w w1 := Below.then_ (by repeat (first | (with_reducible first | exact Below.refl _ _ | assumption | exact ext_box _) | (with_reducible apply Below.drew) | ((with_reducible refine Below.setCell ?_ ?hs _); (case hs => first | (simp; done) | (simp; omega) | omega)) | ((with_reducible refine Below.alloc ?_ ?hs _); (case hs => first | (simp; done) | (simp; omega) | omega)))) hb1; have i0' := bat hb1 K0.out (by simp); have i1' := bat hb1 K1.out (by simp); have s0 := HSD.out _ (hSB.out _ HB1); obtain ⟨s1, s2⟩ := HVF.out _ HB1)
                          have HST := Lib.hid ((HVI.out.chg (chg_of HB1)).store hdV)
                          have hC := chg_set (G := G) (o := d) (v := .int .i64 ((L.count (d : Int) : Nat) + 1 : Int)) HB1
                          go_roundw
                          case rel => exact ⟨j + 1, v.chg hC (fun q hq => by subst hq; simp; omega), by omega, by go_num, by rw [HDI.out, ← List.append_assoc, HLL.out]; exact HST.out, all_snoc HEY.out HIA.out HG.out, rfl⟩
                          case measure => simp [intOf]; omega
                    · have HDE := Lib.hid (show defs (m.blocks.take (k + 1)) = L by rw [← HLL.out, HDS.out, List.take_of_length_le (show x.instrs.length ≤ j by omega), defsB, List.append_assoc])
                      have HIB := Lib.hid (all_take HIA.out (by omega))
                      go_wp2
                      go_roundw
                      case rel => exact ⟨k + 1, v, by omega, by go_num, by rw [HDE.out]; exact HVI.out, blksUpTo_snoc HB.out HE.out HPB.out HIB.out, rfl⟩
                      case measure => simp [intOf]; omega
            · have HBE := Lib.hid (show BlksUpTo m m.blocks.length by have := HB.out; rwa [show k = m.blocks.length by omega] at this)
              have HVJ : Hid (VI G V (.slice (some ⟨g10, 0, none⟩) m.blocks.length c10) (tab m.blocks.length fun t => predM t m.blocks 0) (defs m.blocks) u.w) := Lib.hid (by have := HVI.out; rwa [List.take_of_length_le (show m.blocks.length ≤ k by omega)] at this)
              clear HB HVI
              go_wp2
              go_loop [184] (fun i => ∃ j : Nat, j ≤ V ∧ i = .int .i64 j ∧ ∀ v : Nat, v < j → (defs m.blocks).count (v : Int) = 1) (fun i => V - (intOf i).toNat)
              case atStart => exact ⟨0, by omega, rfl, by omega⟩
              case round =>
                obtain ⟨j, hj, rfl, hin⟩ := hrel
                have HIN := Lib.hid hin
                clear hin
                by_cases hlj : j < V
                · obtain ⟨s1, s2⟩ := HVJ.out.cell hlj
                  by_cases hc1 : (defs m.blocks).count (j : Int) = 1
                  · have HC1 := Lib.hid hc1
                    have hd1 : ((((defs m.blocks).count (j : Int) : Nat) : Int) != 1) = false := by simp [hc1]
                    clear hc1
                    go_wp2
                    go_round
                    case rel => exact ⟨j + 1, by omega, by go_num, fun v hv => by rcases Nat.lt_or_eq_of_le (Nat.le_of_lt_succ hv) with h | rfl; exact HIN.out v h; exact HC1.out⟩
                    case measure => simp [intOf]; omega
                  · have HV := Lib.hid (vf_count (m := m) (v := j) (by have := HVV.out; omega) hc1)
                    have hd1 : ((((defs m.blocks).count (j : Int) : Nat) : Int) != 1) = true := by simp; omega
                    clear hc1
                    go_wp2
                    go_ret
                    exact ⟨ret_bool HV.out.symm, ext_box u⟩
                · have HV := Lib.hid (vf_end HRR.out HN.out HSZ.out HT.out HBE.out fun v hv => HIN.out v (by have := HVV.out; omega))
                  go_wp2
                  go_ret
                  exact ⟨ret_bool HV.out.symm, ext_box u⟩
    · have hd2 : decide (1 ≤ (m.blocks.length : Int) ∧ (m.blocks.length : Int) ≤ 1000) = false := by simp; omega
      have HV := Lib.hid (vf_n hn)
      go_enter Tryd.func30, Tryd.ntmps30
      go_wp2_with (go_at_call 31; (with_reducible refine (within_c _ _ _ _).mono ?_); rintro e w1 ⟨rfl, rfl⟩)
      go_ret
      exact ⟨ret_bool HV.out.symm, by repeat (first | (with_reducible first | exact Below.refl _ _ | assumption | exact ext_box _) | (with_reducible apply Below.drew) | ((with_reducible refine Below.setCell ?_ ?hs _); (case hs => first | (simp; done) | (simp; omega) | omega)) | ((with_reducible refine Below.alloc ?_ ?hs _); (case hs => first | (simp; done) | (simp; omega) | omega)))⟩
  · have hd1 : decide (0 ≤ m.values ∧ m.values ≤ 2000) = false := by simpa using hr
    have HV := Lib.hid (vf_values hr)
    clear hr
    go_enter Tryd.func30, Tryd.ntmps30
    go_wp2_with (go_at_call 31; (with_reducible refine (within_c _ _ _ _).mono ?_); rintro e w1 ⟨rfl, rfl⟩)
    go_ret
    exact ⟨ret_bool HV.out.symm, by repeat (first | (with_reducible first | exact Below.refl _ _ | assumption | exact ext_box _) | (with_reducible apply Below.drew) | ((with_reducible refine Below.setCell ?_ ?hs _); (case hs => first | (simp; done) | (simp; omega) | omega)) | ((with_reducible refine Below.alloc ?_ ?hs _); (case hs => first | (simp; done) | (simp; omega) | omega)))⟩
end Go.Proofs.YtnbkgaofdkkdnaaDoor
