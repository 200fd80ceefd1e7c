/- Contract: spec.EncodeMach. -/
import Derived.Test.YtnnfjjgohhicjaaDoorEe
namespace Go.Proofs.YtnnfjjgohhicjaaDoor
open Go.RowKit
set_option linter.unusedSimpArgs false
set_option linter.unusedVariables false
set_option maxRecDepth 100000

/-- A new row of whole numbers, all written out. -/
theorem litC (W : World) (l : List Int) : C kI64 (W.alloc (.cells (l.map (Value.int .i64)).toArray 2)) (some ⟨W.heap.size, 0, none⟩) l := fun i y hy => ⟨_, _, rfl, rfl, fun j u hu => by
  obtain ⟨rfl, hu2⟩ : j = 0 ∧ u = .int .i64 y := by
    cases j with
    | zero => simp at hu; exact ⟨rfl, hu.symm⟩
    | succ j => simp at hu
  subst hu2
  have := cell_of_row (W.alloc (.cells (l.map (Value.int .i64)).toArray 2)) W.heap.size i (l.map (Value.int .i64)).toArray 2 (0, 0) (heap_alloc_new W _)
  rw [show i * (kInt .i64).sz + 0 = i from by simp [kInt], add_plain, Nat.zero_add, this]
  simp [hy]⟩
theorem putLine0_c (A : Option Addr) (c : Nat) (xs word : List UInt8) (b : Nat) (fp : List Nat) (w : World) (h : Row 5 kU8 w (.slice A xs.length c) xs fp) (hb : b = w.heap.size) (hl : xs.length ≤ 549755813888) (hwl : word.length ≤ 100) :
    Calls Tryd.prog 55 #[.slice A xs.length c, sv word, .slice (some ⟨b, 0, none⟩) 0 0] (w.alloc (.cells #[] 2)) (AppB (w.alloc (.cells #[] 2)) fp xs (lineB word [])) := by
  subst hb
  exact putLine_c A c xs word (some ⟨w.heap.size, 0, none⟩) 0 [] fp _ (h.chg (S := fun _ => False) ((Chg.refl _ _).alloc _) (by simp)) (litC w []) (fun n hn => by simp at hn) (by simp) (fun a ha hm => by injection ha with ha; subst ha; have := h.lt _ hm; simp at this) hl hwl
theorem putLine1_c (A : Option Addr) (c : Nat) (xs word : List UInt8) (n : Int) (b : Nat) (fp : List Nat) (w : World) (h : Row 5 kU8 w (.slice A xs.length c) xs fp) (hb : b = w.heap.size) (hS : Small [n]) (hl : xs.length ≤ 549755813888) (hwl : word.length ≤ 100) :
    Calls Tryd.prog 55 #[.slice A xs.length c, sv word, .slice (some ⟨b, 0, none⟩) 1 1] (w.alloc (.cells #[.int .i64 n] 2)) (AppB (w.alloc (.cells #[.int .i64 n] 2)) fp xs (lineB word [n])) := by
  subst hb
  exact putLine_c A c xs word (some ⟨w.heap.size, 0, none⟩) 1 [n] fp _ (h.chg (S := fun _ => False) ((Chg.refl _ _).alloc _) (by simp)) (litC w [n]) hS (by simp) (fun a ha hm => by injection ha with ha; subst ha; have := h.lt _ hm; simp at this) hl hwl
/-- Bytes written so far, in worlds that extend W. -/
def Out (W : World) (t : Value) (ys : List UInt8) (wr : World) : Prop :=
  ∃ A c fp, t = .slice A ys.length c ∧ Row 5 kU8 wr (.slice A ys.length c) ys fp ∧ (∀ b ∈ fp, W.heap.size ≤ b) ∧ ∃ u : Ext W, wr = u.w
theorem Out.app {W w1 w' wr : World} {xs ys : List UInt8} {fp : List Nat} {e : Ending} {v : Value} (u : Ext W) (hwr : wr = u.w) (hb : Below wr.heap.size wr w1) (hf : ∀ b ∈ fp, W.heap.size ≤ b) (h : AppB w1 fp xs ys e w') (he : e = .returned v) : Out W v (xs ++ ys) w' := by
  subst hwr
  obtain ⟨A, c, fp', rfl, hr, hf', hc⟩ := h
  injection he with he
  subst he
  have hb1 : Below W.heap.size W w1 := u.hb.trans (hb.mono u.hb.size)
  exact ⟨A, c, fp', rfl, hr, fun b hb' => (hf' b hb').elim (hf b) fun h => Nat.le_trans hb1.size h, ⟨w', AppB.ext hb1 hf hc⟩, rfl⟩
theorem AppB.ret {w w' : World} {fp : List Nat} {xs ys : List UInt8} {e : Ending} (h : AppB w fp xs ys e w') : ∃ A c, e = .returned (.slice A (xs ++ ys).length c) := by
  obtain ⟨A, c, _, he, _⟩ := h
  exact ⟨A, c, he⟩
set_option maxHeartbeats 4000000 in
theorem encMach_s (L : Option Addr) (c : Nat) (m : Mach) (w : World) (hx : C (kMB 0) w L m.blocks) (hm : m.blocks.length ≤ 1048576) (hs : ∀ (i : Nat) b, m.blocks[i]? = some b → b.instrs.length ≤ 1048576) :
    Calls Tryd.prog 19 #[.agg #[.int .i64 m.regs, .slice L m.blocks.length c]] w (RetB w (encMach m)) := by
  have HIV := Lib.hid (fun W (h : Below w.heap.size w W) => validMachS_c L c m W (hx.below h) hm hs)
  cases hv : validMach m
  · have HR := Lib.hid (show encMach m = [] by simp [encMach, hv])
    have HV := Lib.hid hv
    clear hv
    go_enter Tryd.func19, Tryd.ntmps19
    go_wp2_with (go_at_call 10; have hiv := HIV.out; rw [HV.out] at hiv; refine (hiv _ (by repeat (first | (with_reducible first | exact Below.refl _ _ | assumption | exact ext_box _) | (with_reducible apply Below.drew) | ((with_reducible refine Below.setCell ?_ ?hs _); (case hs => first | (simp; done) | (simp; omega) | omega)) | ((with_reducible refine Below.alloc ?_ ?hs _); (case hs => first | (simp; done) | (simp; omega) | omega))))).mono ?_; rintro e w1 ⟨rfl, hb1⟩; have HB1 : Below w.heap.size w w1 := Below.then_ (by repeat (first | (with_reducible first | exact Below.refl _ _ | assumption | exact ext_box _) | (with_reducible apply Below.drew) | ((with_reducible refine Below.setCell ?_ ?hs _); (case hs => first | (simp; done) | (simp; omega) | omega)) | ((with_reducible refine Below.alloc ?_ ?hs _); (case hs => first | (simp; done) | (simp; omega) | omega)))) hb1)
    go_ret
    rw [HR.out]
    exact ⟨some ⟨w1.heap.size, 0, none⟩, 0, [w1.heap.size], rfl, Row.empty0 rfl, fun b hb => by simp at hb; subst hb; exact HB1.size, HB1.alloc HB1.size _⟩
  · have HR' := Lib.hid (show encMach m = machL m by simp [encMach, hv])
    have HV := Lib.hid hv
    have HMT := Lib.hid (validMach_MT hv)
    have hml := HMT.out.len
    clear hv
    go_enter Tryd.func19, Tryd.ntmps19
    go_upto_region 4 with (first
      | (go_at_call 10; have hiv := HIV.out; rw [HV.out] at hiv; refine (hiv _ (by repeat (first | (with_reducible first | exact Below.refl _ _ | assumption | exact ext_box _) | (with_reducible apply Below.drew) | ((with_reducible refine Below.setCell ?_ ?hs _); (case hs => first | (simp; done) | (simp; omega) | omega)) | ((with_reducible refine Below.alloc ?_ ?hs _); (case hs => first | (simp; done) | (simp; omega) | omega))))).mono ?_; rintro e w1 ⟨rfl, hb1⟩; have HB1 : Below w.heap.size w w1 := Below.then_ (by repeat (first | (with_reducible first | exact Below.refl _ _ | assumption | exact ext_box _) | (with_reducible apply Below.drew) | ((with_reducible refine Below.setCell ?_ ?hs _); (case hs => first | (simp; done) | (simp; omega) | omega)) | ((with_reducible refine Below.alloc ?_ ?hs _); (case hs => first | (simp; done) | (simp; omega) | omega)))) hb1; obtain ⟨hc1, hf1⟩ := bcell hb1; have zw1 : w.heap.size < w1.heap.size := (by have := hb1.size; simp at this; omega); have K0 := Lib.hid ((Bk.made w 29 [.int .i64 m.regs, .slice L m.blocks.length c]).below hb1))
      | (go_at_call 55; have hp0 : Calls Tryd.prog 55 #[.slice (some ⟨w1.heap.size, 0, none⟩) 0 0, sv [109, 97, 99, 104], .slice (some ⟨w1.heap.size + 1, 0, none⟩) 1 1] ((w1.alloc (.cells #[] 5)).alloc (.cells #[.int .i64 m.regs] 2)) (AppB ((w1.alloc (.cells #[] 5)).alloc (.cells #[.int .i64 m.regs] 2)) [w1.heap.size] [] (lineB [109, 97, 99, 104] [m.regs])) := (putLine1_c (some ⟨w1.heap.size, 0, none⟩) 0 [] [109, 97, 99, 104] m.regs (w1.heap.size + 1) [w1.heap.size] (w1.alloc (.cells #[] 5)) (Row.empty0 rfl) (by simp) HMT.out.regs (by simp) (by simp)); (with_reducible refine hp0.mono ?_); intro e w2 hp; obtain ⟨A2, c2, rfl⟩ := hp.ret))
    have HO2 := Lib.hid (Out.app (W := w1) (wr := w1) (w1 := (w1.alloc (.cells #[] 5)).alloc (.cells #[.int .i64 m.regs] 2)) (Ext.self w1) rfl (((Below.refl _ _).alloc (Nat.le_refl _) _).alloc (by simp) _) (by simp) hp rfl)
    clear hp
    rw [List.nil_append] at HO2
    obtain ⟨HD, hHD⟩ : ∃ HD, lineB [109, 97, 99, 104] [m.regs] = HD := ⟨_, rfl⟩
    have HDL := Lib.hid (show HD.length ≤ 27 by rw [← hHD]; have := line_len (word := [109, 97, 99, 104]) HMT.out.regs; simp at this ⊢; omega)
    have HML := Lib.hid (show machL m = HD ++ m.blocks.flatMap mblockL by rw [machL, hHD])
    rw [hHD] at HO2
    simp only [List.nil_append, hHD]
    clear hHD
    have y1 := K0.out.cell 1 (v := .slice L m.blocks.length c) rfl
    go_wp2
    go_loopw [3, 4] (fun t3 t4 wr => ∃ (k : Nat), k ≤ m.blocks.length ∧ t4 = .int .i64 k ∧ Out w1 t3 (HD ++ (m.blocks.take k).flatMap mblockL) wr) (fun _ t4 _ => m.blocks.length - (intOf t4).toNat)
    case atStart => exact ⟨0, by omega, rfl, by simpa using HO2.out⟩
    case round =>
      clear HO2
      obtain ⟨k, hk, rfl, ho⟩ := hrel
      have hup := HMT.out.upto k
      obtain ⟨ys, hys⟩ : ∃ ys, HD ++ (m.blocks.take k).flatMap mblockL = ys := ⟨_, rfl⟩
      have hyl : ys.length ≤ 27 + 3000 * 2000000 := by rw [← hys, List.length_append]; have := HDL.out; omega
      have HYS := Lib.hid hys
      rw [hys] at ho
      clear hys hup
      obtain ⟨A, cA, fp, rfl, hr, hf, u, rfl⟩ := ho
      have HR := Lib.hid hr
      have HF := Lib.hid hf
      have HWu := Lib.hid (HB1.trans (u.hb.mono HB1.size))
      have hzu : w.heap.size < u.w.heap.size := by have := u.hb.size; omega
      have b1 := (u.hb.cell zw1).trans y1
      clear hr hf
      by_cases hlt : k < m.blocks.length
      · obtain ⟨x, ex⟩ := get_of_lt hlt
        have hil := HMT.out.il _ _ ex
        have HIN := Lib.hid (HMT.out.ins _ _ ex)
        have HTM := Lib.hid (HMT.out.term _ _ ex)
        have HSN := Lib.hid (show ys ++ mblockL x = HD ++ (m.blocks.take (k + 1)).flatMap mblockL by rw [flatMap_snoc ex, ← HYS.out, List.append_assoc])
        obtain ⟨a, _, rfl, ⟨_, _, rfl, ⟨A', c', rfl, l', r'⟩, rfl⟩, hc⟩ := hx.at ex
        obtain ⟨p0, p1, p2, p3, p4⟩ := hc5 (n := k * 5) hc
        have KS := Lib.hid (fun w' (h : Below w.heap.size w w') => (⟨(h.cell (World.block_lt_of_cell? w _ p0)).trans p0, (h.cell (World.block_lt_of_cell? w _ p1)).trans p1, (h.cell (World.block_lt_of_cell? w _ p2)).trans p2, (h.cell (World.block_lt_of_cell? w _ p3)).trans p3, (h.cell (World.block_lt_of_cell? w _ p4)).trans p4⟩ : w'.cell? (a.add (k * 5)) = some (.slice A' x.instrs.length c') ∧ w'.cell? ⟨(a.add (k * 5)).block, (a.add (k * 5)).off + 1, none⟩ = some (.int .i64 x.term.kind) ∧ w'.cell? ⟨(a.add (k * 5)).block, (a.add (k * 5)).off + 2, none⟩ = some (.int .i64 x.term.a) ∧ w'.cell? ⟨(a.add (k * 5)).block, (a.add (k * 5)).off + 3, none⟩ = some (.int .i64 x.term.to) ∧ w'.cell? ⟨(a.add (k * 5)).block, (a.add (k * 5)).off + 4, none⟩ = some (.int .i64 x.term.els)))
        clear hc p0 p1 p2 p3 p4 ex
        go_upto_region 8 with (
          go_at_call 55; (with_reducible refine (putLine0_c _ _ ys blockW _ fp u.w HR.out (by rfl) (by omega) (by decide)).mono ?_); intro e w2 hp; obtain ⟨A2, c2, rfl⟩ := hp.ret)
        have HO2 := Lib.hid (Out.app u rfl ((Below.refl _ _).alloc (Nat.le_refl _) _) HF.out hp rfl)
        clear hp
        have hbl : (lineB blockW []).length = 6 := by decide
        obtain ⟨zs0, hzs0⟩ : ∃ zs0, ys ++ lineB blockW [] = zs0 := ⟨_, rfl⟩
        have hz0l : zs0.length ≤ 27 + 3000 * 2000000 + 6 := by rw [← hzs0, List.length_append, hbl]; omega
        have HZ0 := Lib.hid (show zs0 ++ (x.instrs.flatMap instrL ++ termL x.term) = ys ++ mblockL x by rw [← hzs0, mblockL, List.append_assoc])
        rw [hzs0] at HO2
        have hlen0 : ys.length + (lineB blockW []).length = zs0.length := by rw [← hzs0, List.length_append]
        simp only [← List.length_append, hzs0]
        clear hzs0 hbl hlen0
        go_wp2
        go_loopw [3, 5] (fun t3 t5 wq => ∃ (j : Nat), j ≤ x.instrs.length ∧ t5 = .int .i64 j ∧ Out w1 t3 (zs0 ++ (x.instrs.take j).flatMap instrL) wq) (fun _ t5 _ => x.instrs.length - (intOf t5).toNat)
        case atStart => exact ⟨0, by omega, rfl, by simpa using HO2.out⟩
        case round =>
          clear HO2 HR HF b1
          obtain ⟨j, hj, rfl, ho⟩ := hrel
          have hfl := flatMap_len (f := instrL) (L := 72) (xs := x.instrs.take j) (fun y hy => by obtain ⟨i, hi⟩ := List.getElem?_of_mem (List.mem_of_mem_take hy); exact instrL_len (HIN.out i y hi).1)
          obtain ⟨zs, hzs⟩ : ∃ zs, zs0 ++ (x.instrs.take j).flatMap instrL = zs := ⟨_, rfl⟩
          have hzl : zs.length ≤ 27 + 3000 * 2000000 + 6 + 20000 * 72 := by
            rw [← hzs, List.length_append]
            have : (x.instrs.take j).length * 72 ≤ 20000 * 72 := Nat.mul_le_mul_right _ (by rw [List.length_take]; omega)
            omega
          have HZS := Lib.hid hzs
          rw [hzs] at ho
          clear hzs hfl
          obtain ⟨A4, c4, fp4, rfl, hr4, hf4, u4, rfl⟩ := ho
          have HR4 := Lib.hid hr4
          have HF4 := Lib.hid hf4
          have HW4 := Lib.hid (HB1.trans (u4.hb.mono HB1.size))
          have hz4 : w.heap.size < u4.w.heap.size := by have := u4.hb.size; omega
          have b1 := (u4.hb.cell zw1).trans y1
          obtain ⟨s0, s1, s2, s3, s4⟩ := KS.out _ HW4.out
          clear hr4 hf4
          by_cases hlt2 : j < x.instrs.length
          · obtain ⟨y, ey⟩ := get_of_lt hlt2
            have HIY := Lib.hid (HIN.out _ _ ey)
            have HSN2 := Lib.hid (show zs ++ instrL y = zs0 ++ (x.instrs.take (j + 1)).flatMap instrL by rw [flatMap_snoc ey, ← HZS.out, List.append_assoc])
            obtain ⟨a2, _, rfl, rfl, hc⟩ := r'.at ey
            obtain ⟨p0, p1, p2, p3, p4⟩ := hc5 (n := j * 5) hc
            have v0 := (HW4.out.cell (World.block_lt_of_cell? w _ p0)).trans p0
            have v1 := (HW4.out.cell (World.block_lt_of_cell? w _ p1)).trans p1
            have v2 := (HW4.out.cell (World.block_lt_of_cell? w _ p2)).trans p2
            have v3 := (HW4.out.cell (World.block_lt_of_cell? w _ p3)).trans p3
            have v4 := (HW4.out.cell (World.block_lt_of_cell? w _ p4)).trans p4
            have HPI := Lib.hid (putInstr_c A4 c4 zs y fp4 u4.w HR4.out HIY.out.2.1 HIY.out.2.2 HIY.out.1 (by omega))
            simp only [Instr.v] at HPI
            clear hc p0 p1 p2 p3 p4 ey
            go_wp2_with (
              go_at_call 56; (with_reducible refine HPI.out.mono ?_); intro e w5 hp; obtain ⟨A5, c5, rfl⟩ := hp.ret)
            have HO5 := Lib.hid (Out.app u4 rfl (Below.refl _ _) HF4.out hp rfl)
            clear hp
            go_roundw
            case rel => exact ⟨j + 1, by omega, by go_num, by rw [← HSN2.out]; simpa using HO5.out⟩
            case measure => simp [intOf]; omega
          · have hje : j = x.instrs.length := by omega
            subst hje
            rw [List.take_length] at HZS
            have HPT := Lib.hid (putTerm_c A4 c4 zs x.term fp4 u4.w HR4.out HTM.out.2.1 HTM.out.2.2 HTM.out.1 (by omega))
            simp only [Term.v] at HPT
            go_wp2_with (
              go_at_call 57; (with_reducible refine HPT.out.mono ?_); intro e w5 hp; obtain ⟨A5, c5, rfl⟩ := hp.ret)
            have HO5 := Lib.hid (Out.app u4 rfl (Below.refl _ _) HF4.out hp rfl)
            have HSN3 := Lib.hid (show zs ++ termL x.term = HD ++ (m.blocks.take (k + 1)).flatMap mblockL by rw [← HSN.out, ← HZ0.out, ← HZS.out, List.append_assoc])
            clear hp
            go_roundw
            case rel => exact ⟨k + 1, by omega, by go_num, by rw [← HSN3.out]; simpa using HO5.out⟩
            case measure => simp [intOf]; omega
      · have hke : k = m.blocks.length := by omega
        subst hke
        rw [List.take_length] at HYS
        have HE := Lib.hid (show encMach m = ys by rw [HR'.out, HML.out, HYS.out])
        go_wp2
        go_ret
        rw [HE.out]
        exact ⟨A, cA, fp, rfl, HR.out, fun b hb => Nat.le_trans HB1.size (HF.out b hb), HWu.out⟩
end Go.Proofs.YtnnfjjgohhicjaaDoor
