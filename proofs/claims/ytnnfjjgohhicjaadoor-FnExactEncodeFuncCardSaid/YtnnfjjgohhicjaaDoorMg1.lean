/- Over the laid tables: what the walks of the text writers need; contracts: FormatInt, impl's (*page).row. -/
import Derived.Test.YtnnfjjgohhicjaaDoorEe
import Derived.Lib.AppendStr
import Derived.Lib.Builder
import Derived.Laws.Externs
import Derived.Laws.Rows
import Derived.Shelf.Strings.Builder1
import Derived.Shelf.Strings.BuilderF
import Derived.Shelf.Strings.BuilderK
import Derived.Shelf.Strconv.Itoa0
import Derived.Shelf.Strconv.Itoa1
import Derived.Shelf.LaysM
import Derived.Shelf.Strconv.Itoa2
import Derived.Shelf.Strconv.Itoa3
import Derived.Shelf.Strconv.Itoa4
import Derived.Shelf.Strings.BuilderCap
import Derived.Test.YtnnfjjgohhicjaaDoorProg
import Derived.Test.YtnnfjjgohhicjaaDoorKh
import Derived.Lib.AppendIntMem
namespace Go.Proofs.YtnnfjjgohhicjaaDoor
open Go.RowKit
set_option linter.unusedSimpArgs false
set_option linter.unusedVariables false
set_option maxRecDepth 100000

/-- A new row of whole numbers, all written out. -/
theorem litC (W : World) (l : List Int) : C kI64 (W.alloc (.cells (l.map (Value.int .i64)).toArray 2)) (some ⟨W.heap.size, 0, none⟩) l := fun i y hy => ⟨_, _, rfl, rfl, fun j u hu => by
  obtain ⟨rfl, hu2⟩ : j = 0 ∧ u = .int .i64 y := by
    cases j with
    | zero => simp at hu; exact ⟨rfl, hu.symm⟩
    | succ j => simp at hu
  subst hu2
  have := cell_of_row (W.alloc (.cells (l.map (Value.int .i64)).toArray 2)) W.heap.size i (l.map (Value.int .i64)).toArray 2 (0, 0) (heap_alloc_new W _)
  rw [show i * (kInt .i64).sz + 0 = i from by simp [kInt], add_plain, Nat.zero_add, this]
  simp [hy]⟩
theorem putLine0_c (A : Option Addr) (c : Nat) (xs word : List UInt8) (b : Nat) (fp : List Nat) (w : World) (h : Row 5 kU8 w (.slice A xs.length c) xs fp) (hb : b = w.heap.size) (hl : xs.length ≤ 549755813888) (hwl : word.length ≤ 100) :
    Calls Tryd.prog 55 #[.slice A xs.length c, sv word, .slice (some ⟨b, 0, none⟩) 0 0] (w.alloc (.cells #[] 2)) (AppB (w.alloc (.cells #[] 2)) fp xs (lineB word [])) := by
  subst hb
  exact putLine_c A c xs word (some ⟨w.heap.size, 0, none⟩) 0 [] fp _ (h.chg (S := fun _ => False) ((Chg.refl _ _).alloc _) (by simp)) (litC w []) (fun n hn => by simp at hn) (by simp) (fun a ha hm => by injection ha with ha; subst ha; have := h.lt _ hm; simp at this) hl hwl
theorem putLine1_c (A : Option Addr) (c : Nat) (xs word : List UInt8) (n : Int) (b : Nat) (fp : List Nat) (w : World) (h : Row 5 kU8 w (.slice A xs.length c) xs fp) (hb : b = w.heap.size) (hS : Small [n]) (hl : xs.length ≤ 549755813888) (hwl : word.length ≤ 100) :
    Calls Tryd.prog 55 #[.slice A xs.length c, sv word, .slice (some ⟨b, 0, none⟩) 1 1] (w.alloc (.cells #[.int .i64 n] 2)) (AppB (w.alloc (.cells #[.int .i64 n] 2)) fp xs (lineB word [n])) := by
  subst hb
  exact putLine_c A c xs word (some ⟨w.heap.size, 0, none⟩) 1 [n] fp _ (h.chg (S := fun _ => False) ((Chg.refl _ _).alloc _) (by simp)) (litC w [n]) hS (by simp) (fun a ha hm => by injection ha with ha; subst ha; have := h.lt _ hm; simp at this) hl hwl
/-- Bytes written so far, in worlds that extend W. -/
def Out (W : World) (t : Value) (ys : List UInt8) (wr : World) : Prop :=
  ∃ A c fp, t = .slice A ys.length c ∧ Row 5 kU8 wr (.slice A ys.length c) ys fp ∧ (∀ b ∈ fp, W.heap.size ≤ b) ∧ ∃ u : Ext W, wr = u.w
theorem Out.app {W w1 w' wr : World} {xs ys : List UInt8} {fp : List Nat} {e : Ending} {v : Value} (u : Ext W) (hwr : wr = u.w) (hb : Below wr.heap.size wr w1) (hf : ∀ b ∈ fp, W.heap.size ≤ b) (h : AppB w1 fp xs ys e w') (he : e = .returned v) : Out W v (xs ++ ys) w' := by
  subst hwr
  obtain ⟨A, c, fp', rfl, hr, hf', hc⟩ := h
  injection he with he
  subst he
  have hb1 : Below W.heap.size W w1 := u.hb.trans (hb.mono u.hb.size)
  exact ⟨A, c, fp', rfl, hr, fun b hb' => (hf' b hb').elim (hf b) fun h => Nat.le_trans hb1.size h, ⟨w', AppB.ext hb1 hf hc⟩, rfl⟩
theorem AppB.ret {w w' : World} {fp : List Nat} {xs ys : List UInt8} {e : Ending} (h : AppB w fp xs ys e w') : ∃ A c, e = .returned (.slice A (xs ++ ys).length c) := by
  obtain ⟨A, c, _, he, _⟩ := h
  exact ⟨A, c, he⟩
set_option maxHeartbeats 4000000 in
theorem encMach_s (L : Option Addr) (c : Nat) (m : Mach) (w : World) (hx : C (kMB 0) w L m.blocks) (hm : m.blocks.length ≤ 1048576) (hs : ∀ (i : Nat) b, m.blocks[i]? = some b → b.instrs.length ≤ 1048576) :
    Calls Tryd.prog 19 #[.agg #[.int .i64 m.regs, .slice L m.blocks.length c]] w (RetB w (encMach m)) := by
  have HIV := Lib.hid (fun W (h : Below w.heap.size w W) => validMachS_c L c m W (hx.below h) hm hs)
  cases hv : validMach m
  · have HR := Lib.hid (show encMach m = [] by simp [encMach, hv])
    have HV := Lib.hid hv
    clear hv
    go_enter Tryd.func19, Tryd.ntmps19
    go_wp2_with (go_at_call 10; have hiv := HIV.out; rw [HV.out] at hiv; refine (hiv _ (by repeat (first | (with_reducible first | exact Below.refl _ _ | assumption | exact ext_box _) | (with_reducible apply Below.drew) | ((with_reducible refine Below.setCell ?_ ?hs _); (case hs => first | (simp; done) | (simp; omega) | omega)) | ((with_reducible refine Below.alloc ?_ ?hs _); (case hs => first | (simp; done) | (simp; omega) | omega))))).mono ?_; rintro e w1 ⟨rfl, hb1⟩; have HB1 : Below w.heap.size w w1 := Below.then_ (by repeat (first | (with_reducible first | exact Below.refl _ _ | assumption | exact ext_box _) | (with_reducible apply Below.drew) | ((with_reducible refine Below.setCell ?_ ?hs _); (case hs => first | (simp; done) | (simp; omega) | omega)) | ((with_reducible refine Below.alloc ?_ ?hs _); (case hs => first | (simp; done) | (simp; omega) | omega)))) hb1)
    go_ret
    rw [HR.out]
    exact ⟨some ⟨w1.heap.size, 0, none⟩, 0, [w1.heap.size], rfl, Row.empty0 rfl, fun b hb => by simp at hb; subst hb; exact HB1.size, HB1.alloc HB1.size _⟩
  · have HR' := Lib.hid (show encMach m = machL m by simp [encMach, hv])
    have HV := Lib.hid hv
    have HMT := Lib.hid (validMach_MT hv)
    have hml := HMT.out.len
    clear hv
    go_enter Tryd.func19, Tryd.ntmps19
    go_upto_region 4 with (first
      | (go_at_call 10; have hiv := HIV.out; rw [HV.out] at hiv; refine (hiv _ (by repeat (first | (with_reducible first | exact Below.refl _ _ | assumption | exact ext_box _) | (with_reducible apply Below.drew) | ((with_reducible refine Below.setCell ?_ ?hs _); (case hs => first | (simp; done) | (simp; omega) | omega)) | ((with_reducible refine Below.alloc ?_ ?hs _); (case hs => first | (simp; done) | (simp; omega) | omega))))).mono ?_; rintro e w1 ⟨rfl, hb1⟩; have HB1 : Below w.heap.size w w1 := Below.then_ (by repeat (first | (with_reducible first | exact Below.refl _ _ | assumption | exact ext_box _) | (with_reducible apply Below.drew) | ((with_reducible refine Below.setCell ?_ ?hs _); (case hs => first | (simp; done) | (simp; omega) | omega)) | ((with_reducible refine Below.alloc ?_ ?hs _); (case hs => first | (simp; done) | (simp; omega) | omega)))) hb1; obtain ⟨hc1, hf1⟩ := bcell hb1; have zw1 : w.heap.size < w1.heap.size := (by have := hb1.size; simp at this; omega); have K0 := Lib.hid ((Bk.made w 29 [.int .i64 m.regs, .slice L m.blocks.length c]).below hb1))
      | (go_at_call 55; have hp0 : Calls Tryd.prog 55 #[.slice (some ⟨w1.heap.size, 0, none⟩) 0 0, sv [109, 97, 99, 104], .slice (some ⟨w1.heap.size + 1, 0, none⟩) 1 1] ((w1.alloc (.cells #[] 5)).alloc (.cells #[.int .i64 m.regs] 2)) (AppB ((w1.alloc (.cells #[] 5)).alloc (.cells #[.int .i64 m.regs] 2)) [w1.heap.size] [] (lineB [109, 97, 99, 104] [m.regs])) := (putLine1_c (some ⟨w1.heap.size, 0, none⟩) 0 [] [109, 97, 99, 104] m.regs (w1.heap.size + 1) [w1.heap.size] (w1.alloc (.cells #[] 5)) (Row.empty0 rfl) (by simp) HMT.out.regs (by simp) (by simp)); (with_reducible refine hp0.mono ?_); intro e w2 hp; obtain ⟨A2, c2, rfl⟩ := hp.ret))
    have HO2 := Lib.hid (Out.app (W := w1) (wr := w1) (w1 := (w1.alloc (.cells #[] 5)).alloc (.cells #[.int .i64 m.regs] 2)) (Ext.self w1) rfl (((Below.refl _ _).alloc (Nat.le_refl _) _).alloc (by simp) _) (by simp) hp rfl)
    clear hp
    rw [List.nil_append] at HO2
    obtain ⟨HD, hHD⟩ : ∃ HD, lineB [109, 97, 99, 104] [m.regs] = HD := ⟨_, rfl⟩
    have HDL := Lib.hid (show HD.length ≤ 27 by rw [← hHD]; have := line_len (word := [109, 97, 99, 104]) HMT.out.regs; simp at this ⊢; omega)
    have HML := Lib.hid (show machL m = HD ++ m.blocks.flatMap mblockL by rw [machL, hHD])
    rw [hHD] at HO2
    simp only [List.nil_append, hHD]
    clear hHD
    have y1 := K0.out.cell 1 (v := .slice L m.blocks.length c) rfl
    go_wp2
    go_loopw [3, 4] (fun t3 t4 wr => ∃ (k : Nat), k ≤ m.blocks.length ∧ t4 = .int .i64 k ∧ Out w1 t3 (HD ++ (m.blocks.take k).flatMap mblockL) wr) (fun _ t4 _ => m.blocks.length - (intOf t4).toNat)
    case atStart => exact ⟨0, by omega, rfl, by simpa using HO2.out⟩
    case round =>
      clear HO2
      obtain ⟨k, hk, rfl, ho⟩ := hrel
      have hup := HMT.out.upto k
      obtain ⟨ys, hys⟩ : ∃ ys, HD ++ (m.blocks.take k).flatMap mblockL = ys := ⟨_, rfl⟩
      have hyl : ys.length ≤ 27 + 3000 * 2000000 := by rw [← hys, List.length_append]; have := HDL.out; omega
      have HYS := Lib.hid hys
      rw [hys] at ho
      clear hys hup
      obtain ⟨A, cA, fp, rfl, hr, hf, u, rfl⟩ := ho
      have HR := Lib.hid hr
      have HF := Lib.hid hf
      have HWu := Lib.hid (HB1.trans (u.hb.mono HB1.size))
      have hzu : w.heap.size < u.w.heap.size := by have := u.hb.size; omega
      have b1 := (u.hb.cell zw1).trans y1
      clear hr hf
      by_cases hlt : k < m.blocks.length
      · obtain ⟨x, ex⟩ := get_of_lt hlt
        have hil := HMT.out.il _ _ ex
        have HIN := Lib.hid (HMT.out.ins _ _ ex)
        have HTM := Lib.hid (HMT.out.term _ _ ex)
        have HSN := Lib.hid (show ys ++ mblockL x = HD ++ (m.blocks.take (k + 1)).flatMap mblockL by rw [flatMap_snoc ex, ← HYS.out, List.append_assoc])
        obtain ⟨a, _, rfl, ⟨_, _, rfl, ⟨A', c', rfl, l', r'⟩, rfl⟩, hc⟩ := hx.at ex
        obtain ⟨p0, p1, p2, p3, p4⟩ := hc5 (n := k * 5) hc
        have KS := Lib.hid (fun w' (h : Below w.heap.size w w') => (⟨(h.cell (World.block_lt_of_cell? w _ p0)).trans p0, (h.cell (World.block_lt_of_cell? w _ p1)).trans p1, (h.cell (World.block_lt_of_cell? w _ p2)).trans p2, (h.cell (World.block_lt_of_cell? w _ p3)).trans p3, (h.cell (World.block_lt_of_cell? w _ p4)).trans p4⟩ : w'.cell? (a.add (k * 5)) = some (.slice A' x.instrs.length c') ∧ w'.cell? ⟨(a.add (k * 5)).block, (a.add (k * 5)).off + 1, none⟩ = some (.int .i64 x.term.kind) ∧ w'.cell? ⟨(a.add (k * 5)).block, (a.add (k * 5)).off + 2, none⟩ = some (.int .i64 x.term.a) ∧ w'.cell? ⟨(a.add (k * 5)).block, (a.add (k * 5)).off + 3, none⟩ = some (.int .i64 x.term.to) ∧ w'.cell? ⟨(a.add (k * 5)).block, (a.add (k * 5)).off + 4, none⟩ = some (.int .i64 x.term.els)))
        clear hc p0 p1 p2 p3 p4 ex
        go_upto_region 8 with (
          go_at_call 55; (with_reducible refine (putLine0_c _ _ ys blockW _ fp u.w HR.out (by rfl) (by omega) (by decide)).mono ?_); intro e w2 hp; obtain ⟨A2, c2, rfl⟩ := hp.ret)
        have HO2 := Lib.hid (Out.app u rfl ((Below.refl _ _).alloc (Nat.le_refl _) _) HF.out hp rfl)
        clear hp
        have hbl : (lineB blockW []).length = 6 := by decide
        obtain ⟨zs0, hzs0⟩ : ∃ zs0, ys ++ lineB blockW [] = zs0 := ⟨_, rfl⟩
        have hz0l : zs0.length ≤ 27 + 3000 * 2000000 + 6 := by rw [← hzs0, List.length_append, hbl]; omega
        have HZ0 := Lib.hid (show zs0 ++ (x.instrs.flatMap instrL ++ termL x.term) = ys ++ mblockL x by rw [← hzs0, mblockL, List.append_assoc])
        rw [hzs0] at HO2
        have hlen0 : ys.length + (lineB blockW []).length = zs0.length := by rw [← hzs0, List.length_append]
        simp only [← List.length_append, hzs0]
        clear hzs0 hbl hlen0
        go_wp2
        go_loopw [3, 5] (fun t3 t5 wq => ∃ (j : Nat), j ≤ x.instrs.length ∧ t5 = .int .i64 j ∧ Out w1 t3 (zs0 ++ (x.instrs.take j).flatMap instrL) wq) (fun _ t5 _ => x.instrs.length - (intOf t5).toNat)
        case atStart => exact ⟨0, by omega, rfl, by simpa using HO2.out⟩
        case round =>
          clear HO2 HR HF b1
          obtain ⟨j, hj, rfl, ho⟩ := hrel
          have hfl := flatMap_len (f := instrL) (L := 72) (xs := x.instrs.take j) (fun y hy => by obtain ⟨i, hi⟩ := List.getElem?_of_mem (List.mem_of_mem_take hy); exact instrL_len (HIN.out i y hi).1)
          obtain ⟨zs, hzs⟩ : ∃ zs, zs0 ++ (x.instrs.take j).flatMap instrL = zs := ⟨_, rfl⟩
          have hzl : zs.length ≤ 27 + 3000 * 2000000 + 6 + 20000 * 72 := by
            rw [← hzs, List.length_append]
            have : (x.instrs.take j).length * 72 ≤ 20000 * 72 := Nat.mul_le_mul_right _ (by rw [List.length_take]; omega)
            omega
          have HZS := Lib.hid hzs
          rw [hzs] at ho
          clear hzs hfl
          obtain ⟨A4, c4, fp4, rfl, hr4, hf4, u4, rfl⟩ := ho
          have HR4 := Lib.hid hr4
          have HF4 := Lib.hid hf4
          have HW4 := Lib.hid (HB1.trans (u4.hb.mono HB1.size))
          have hz4 : w.heap.size < u4.w.heap.size := by have := u4.hb.size; omega
          have b1 := (u4.hb.cell zw1).trans y1
          obtain ⟨s0, s1, s2, s3, s4⟩ := KS.out _ HW4.out
          clear hr4 hf4
          by_cases hlt2 : j < x.instrs.length
          · obtain ⟨y, ey⟩ := get_of_lt hlt2
            have HIY := Lib.hid (HIN.out _ _ ey)
            have HSN2 := Lib.hid (show zs ++ instrL y = zs0 ++ (x.instrs.take (j + 1)).flatMap instrL by rw [flatMap_snoc ey, ← HZS.out, List.append_assoc])
            obtain ⟨a2, _, rfl, rfl, hc⟩ := r'.at ey
            obtain ⟨p0, p1, p2, p3, p4⟩ := hc5 (n := j * 5) hc
            have v0 := (HW4.out.cell (World.block_lt_of_cell? w _ p0)).trans p0
            have v1 := (HW4.out.cell (World.block_lt_of_cell? w _ p1)).trans p1
            have v2 := (HW4.out.cell (World.block_lt_of_cell? w _ p2)).trans p2
            have v3 := (HW4.out.cell (World.block_lt_of_cell? w _ p3)).trans p3
            have v4 := (HW4.out.cell (World.block_lt_of_cell? w _ p4)).trans p4
            have HPI := Lib.hid (putInstr_c A4 c4 zs y fp4 u4.w HR4.out HIY.out.2.1 HIY.out.2.2 HIY.out.1 (by omega))
            simp only [Instr.v] at HPI
            clear hc p0 p1 p2 p3 p4 ey
            go_wp2_with (
              go_at_call 56; (with_reducible refine HPI.out.mono ?_); intro e w5 hp; obtain ⟨A5, c5, rfl⟩ := hp.ret)
            have HO5 := Lib.hid (Out.app u4 rfl (Below.refl _ _) HF4.out hp rfl)
            clear hp
            go_roundw
            case rel => exact ⟨j + 1, by omega, by go_num, by rw [← HSN2.out]; simpa using HO5.out⟩
            case measure => simp [intOf]; omega
          · have hje : j = x.instrs.length := by omega
            subst hje
            rw [List.take_length] at HZS
            have HPT := Lib.hid (putTerm_c A4 c4 zs x.term fp4 u4.w HR4.out HTM.out.2.1 HTM.out.2.2 HTM.out.1 (by omega))
            simp only [Term.v] at HPT
            go_wp2_with (
              go_at_call 57; (with_reducible refine HPT.out.mono ?_); intro e w5 hp; obtain ⟨A5, c5, rfl⟩ := hp.ret)
            have HO5 := Lib.hid (Out.app u4 rfl (Below.refl _ _) HF4.out hp rfl)
            have HSN3 := Lib.hid (show zs ++ termL x.term = HD ++ (m.blocks.take (k + 1)).flatMap mblockL by rw [← HSN.out, ← HZ0.out, ← HZS.out, List.append_assoc])
            clear hp
            go_roundw
            case rel => exact ⟨k + 1, by omega, by go_num, by rw [← HSN3.out]; simpa using HO5.out⟩
            case measure => simp [intOf]; omega
      · have hke : k = m.blocks.length := by omega
        subst hke
        rw [List.take_length] at HYS
        have HE := Lib.hid (show encMach m = ys by rw [HR'.out, HML.out, HYS.out])
        go_wp2
        go_ret
        rw [HE.out]
        exact ⟨A, cA, fp, rfl, HR.out, fun b hb => Nat.le_trans HB1.size (HF.out b hb), HWu.out⟩
end Go.Proofs.YtnnfjjgohhicjaaDoor
namespace Go.Proofs.YtnnfjjgohhicjaaDoor
open Go.RowKit
set_option linter.unusedSimpArgs false
set_option linter.unusedVariables false
set_option maxRecDepth 100000

theorem u8_flat {w : World} {xs : List UInt8} {css : List (List Value)} {fps : List (List Nat)} (h : All3 (kU8.O w) xs css fps) : css.flatten = Lib.byteCells xs ∧ fps.flatten = [] := by
  induction h with
  | nil => exact ⟨rfl, rfl⟩
  | cons h _ ih =>
    obtain ⟨rfl, rfl⟩ := h
    simp only [List.flatten_cons, ih.1, ih.2, List.append_nil]
    exact ⟨rfl, trivial⟩
theorem u8_all (w : World) : ∀ xs : List UInt8, All3 (kU8.O w) xs (xs.map fun c => [.int .u8 (c.toNat : Int)]) (xs.map fun _ => [])
  | [] => .nil
  | _ :: xs => .cons ⟨rfl, rfl⟩ (u8_all w xs)
theorem u8_row {w : World} {B : Nat} {v : Value} {xs : List UInt8} (h : w.ownsRow B 5 1 v xs.length (Lib.byteCells xs)) : Row 5 kU8 w v xs v.ownBlock.toList ∧ ∀ b ∈ v.ownBlock.toList, B ≤ b := by
  have hfl : (xs.map fun c => [Value.int .u8 (c.toNat : Int)]).flatten = Lib.byteCells xs := (u8_flat (u8_all w xs)).1
  have hfp : (xs.map fun _ => ([] : List Nat)).flatten = [] := (u8_flat (u8_all w xs)).2
  refine ⟨⟨_, _, ?_, u8_all w xs, by rw [hfp, List.append_nil], ?_⟩, fun b hb => ?_⟩
  · rw [hfl]
    refine ⟨h.1, ?_⟩
    rcases h.2 with h2 | ⟨g, cap, cur, h1, h2, h3⟩
    · exact .inl h2
    · exact .inr ⟨g, cap, cur, h1, Nat.zero_le _, h3⟩
  · cases v.ownBlock <;> simp
  · exact (h.lt b (by simpa using hb)).1
theorem row_u8 {w : World} {B : Nat} {v : Value} {xs : List UInt8} {fp : List Nat} (h : Row 5 kU8 w v xs fp) (hB : ∀ b ∈ fp, B ≤ b) : w.ownsRow B 5 1 v xs.length (Lib.byteCells xs) ∧ fp = v.ownBlock.toList := by
  obtain ⟨css, fps, ho, ha, rfl, hn⟩ := h
  obtain ⟨e1, e2⟩ := u8_flat ha
  rw [e1] at ho
  rw [e2, List.append_nil] at hB ⊢
  refine ⟨⟨ho.1, ?_⟩, rfl⟩
  rcases ho.2 with h2 | ⟨g, cap, cur, h1, h2, h3⟩
  · exact .inl h2
  · refine .inr ⟨g, cap, cur, h1, hB g (by rw [h1]; simp [Value.ownBlock]), h3⟩
theorem wpList_append_str {P : Program} {ops : Array Oper} {rest : List Oper} {o : Oper} {a : Act} {Q : Exit → Act → World → Prop} {w : World} (hgd : o.guard = none) (sl x : Operand) (t u : TypeId)
    (ho : o.op = .call { callee := .builtin .append, args := #[sl, x], argTypes := #[t, u] }) (i : TypeInfo) (ht : P.underlying t = some (.slice 5)) (hu : P.underlying u = some .string) (hi : P.info? 5 = some i) (hz : i.zero = some (.int .u8 0)) (hsize : i.size = 1) (hby : i.bytes = 1)
    (v : Value) (xs s : List UInt8) (fp : List Nat) (B : Nat) (hs : a.eval sl = v) (hrow : Row 5 kU8 w v xs fp) (hB : ∀ b ∈ fp, B ≤ b) (hBw : B ≤ w.heap.size) (hx : a.eval x = sv s) (hl : xs.length + s.length ≤ 140737488355328)
    (h : ∀ A c w' fp', Row 5 kU8 w' (.slice A (xs ++ s).length c) (xs ++ s) fp' → (∀ b ∈ fp', B ≤ b) → Chg (fun k => k ∈ fp) w w' → wpList P ops Q rest (a.put o.dst (.slice A (xs ++ s).length c)) w') : wpList P ops Q (o :: rest) a w := by
  obtain ⟨hown, rfl⟩ := row_u8 hrow hB
  have hsz : (⟨s.toArray⟩ : ByteArray).size = s.length := by simp [ByteArray.size]
  refine Lib.wpList_append_own_string _ hgd sl x t u ho B 5 i ht hu hi hz hsize hby v xs.length _ hs hown ⟨s.toArray⟩ hx (by rw [hsz]; unfold maxLen; omega) (by rw [hsz]; exact hl) hBw ?_
  intro v' w' ho' hg _
  have e : Lib.byteCells xs ++ Lib.strCells ⟨s.toArray⟩ = Lib.byteCells (xs ++ s) := by rw [Lib.strCells_eq, Lib.byteCells_append]
  rw [e, hsz, ← List.length_append] at ho'
  obtain ⟨hr, hf⟩ := u8_row ho'
  obtain ⟨A, c, rfl, -⟩ := hr.form
  exact h A c w' _ hr hf ((Chg.of_grown hg).mono fun k _ hk => by simp [hk])
/-- A page: its box b, the bytes in it, the blocks that these lie in (from B on). -/
def Pg (B b : Nat) (l : List UInt8) (w : World) : Prop :=
  ∃ p v fp, (p = none ∨ p = some ⟨b, 0, none⟩) ∧ Bk b 102 [.pointer p, v] w ∧ Row 5 kU8 w v l fp ∧ (∀ q ∈ fp, B ≤ q) ∧ B ≤ b
theorem Pg.ne {b : Nat} {T : TypeId} {cs : List Value} {v : Value} {l : List UInt8} {fp : List Nat} {w : World} (hb : Bk b T cs w) (hT : T ≠ 5) (hr : Row 5 kU8 w v l fp) : b ∉ fp := by
  intro hm
  obtain ⟨hown, rfl⟩ := row_u8 (B := 0) hr (fun _ _ => Nat.zero_le _)
  rcases hown.2 with ⟨rfl, _⟩ | ⟨g, cap, cur, rfl, _, hg, _⟩
  · simp [Value.ownBlock] at hm
  · simp [Value.ownBlock] at hm
    subst hm
    rw [show w.heap[b]? = _ from hb] at hg
    injection hg with hg
    injection hg with _ hg _
    exact hT hg
theorem info_builder : (Tryd.prog.info? 100).map (·.size) = some 2 := by kernel_rfl
theorem lies_builder : liesAt Tryd.prog (Tryd.prog).depth 102 (2 / (Tryd.prog).cellsOf 102) 0 100 1 = true := by kernel_rfl
set_option maxHeartbeats 1000000 in
theorem copyCheck_c (b : Nat) (v : Value) (p : Option Addr) (w : World) (h : Bk b 102 [.pointer p, v] w) (hp : p = none ∨ p = some ⟨b, 0, none⟩) :
    Calls Tryd.prog 110 #[.pointer (some ⟨b, 0, none⟩)] w fun e w' => e = .returned (.tuple #[]) ∧ Bk b 102 [.pointer (some ⟨b, 0, none⟩), v] w' ∧ Chg (fun k => k = b) w w' := by
  obtain ⟨j, hj, hjs⟩ := Option.map_eq_some_iff.1 info_builder
  have h0 := h.cell 0 (v := .pointer p) rfl
  have f0 := h.frozen 0
  have hsh : w.shape? b = some (102, 2) := by unfold World.shape?; rw [show w.heap[b]? = _ from h]; rfl
  have HB := Lib.hid h
  clear h
  rcases hp with rfl | rfl
  · go_enter Tryd.func110, Tryd.ntmps110
    go_wp2
    rw [Lib.run_to_unsafe w ⟨b, 0, none⟩ Tryd.underlying98 Tryd.underlying196 hj (by rw [hjs]; decide) hsh (Nat.zero_lt_succ 1)]
    simp only [Result.andThen]
    rw [Oper.upon_value]
    go_wp2
    rw [run_callFunc_extern Tryd.func119 (by kernel_rfl) (by kernel_rfl) (by kernel_rfl) (e := Extern.AbiNoEscape.same) (by kernel_rfl)]
    rw [Lib.run_noEscape]
    simp only [Result.andThen]
    rw [Oper.upon_value]
    go_wp2
    rw [Lib.run_from_unsafe w ⟨b, 0, none⟩ Tryd.underlying196 Tryd.underlying98 hj hsh lies_builder]
    simp only [Result.andThen]
    rw [Oper.upon_value]
    go_wp2
    refine bodyPost_end (v := .tuple #[]) (by simp [results, Tryd.results110, go_sem]) rfl ?_
    obtain ⟨h1, h2⟩ := HB.out.set 0 (.pointer (some ⟨b, 0, none⟩))
    exact ⟨rfl, h1, h2⟩
  · go_enter Tryd.func110, Tryd.ntmps110
    go_wp2
    rw [Lib.run_neq_ptr_same w _ Tryd.underlying98 hj]
    go_wp2
    refine bodyPost_end (v := .tuple #[]) (by simp [results, Tryd.results110, go_sem]) rfl ?_
    exact ⟨rfl, HB.out, Chg.refl _ _⟩
end Go.Proofs.YtnnfjjgohhicjaaDoor
namespace Go.Proofs.YtnnfjjgohhicjaaDoor
open Go.RowKit
set_option linter.unusedSimpArgs false
set_option linter.unusedVariables false
set_option maxRecDepth 100000

/-- What a write to page b may turn: the page, rows of bytes. -/
def PgS (B b : Nat) (w : World) (k : Nat) : Prop := B ≤ k ∧ (k = b ∨ ∃ cur fr, w.heap[k]? = some (.cells cur 5 fr))
theorem PgS.trans {B b : Nat} {w w1 w2 : World} (h1 : Chg (PgS B b w) w w1) (h2 : Chg (PgS B b w1) w1 w2) : Chg (PgS B b w) w w2 :=
  ⟨h2.os.trans h1.os, h2.tape.trans h1.tape, h2.output.trans h1.output, Nat.le_trans h1.size h2.size, fun k hk hn => by
    have e := h1.block k hk hn
    refine (h2.block k (Nat.lt_of_lt_of_le hk h1.size) fun hS => hn ?_).trans e
    rcases hS with ⟨hB, hS | ⟨cur, fr, hS⟩⟩
    · exact ⟨hB, .inl hS⟩
    · exact ⟨hB, .inr ⟨cur, fr, by rw [← e]; exact hS⟩⟩⟩
theorem PgS.of {B b : Nat} {w w' : World} (h : Chg (fun _ => False) w w') : Chg (PgS B b w) w w' := h.mono fun _ _ h => h.elim
theorem row_blk {w : World} {v : Value} {l : List UInt8} {fp : List Nat} (h : Row 5 kU8 w v l fp) {q : Nat} (hq : q ∈ fp) : ∃ cur fr, w.heap[q]? = some (.cells cur 5 fr) := by
  obtain ⟨hown, rfl⟩ := row_u8 (B := 0) h (fun _ _ => Nat.zero_le _)
  rcases hown.2 with ⟨rfl, _⟩ | ⟨g, cap, cur, rfl, _, hg, _⟩
  · simp [Value.ownBlock] at hq
  · simp [Value.ownBlock] at hq
    subst hq
    exact ⟨_, _, hg⟩
theorem PgS.below {B b : Nat} {w w' : World} (h : Chg (PgS B b w) w w') (hB : B ≤ w.heap.size) : Below B w w' := h.below hB fun k hk => hk.1
/-- Other blocks stay. -/
theorem Bk.pgs {B b k : Nat} {T : TypeId} {l : List Value} {w w' : World} (h : Bk k T l w) (hc : Chg (PgS B b w) w w') (hk : k ≠ b) (hT : T ≠ 5) : Bk k T l w' := h.chg hc fun e => by
  rcases e with ⟨_, e | ⟨cur, fr, e⟩⟩
  · exact hk e
  · rw [show w.heap[k]? = _ from h] at e; injection e with e; injection e with _ e _; exact hT e
set_option maxHeartbeats 1000000 in
theorem writeString_c (B b : Nat) (l s : List UInt8) (w : World) (h : Pg B b l w) (hBw : B ≤ w.heap.size) (hl : l.length + s.length ≤ 1099511627776) :
    Calls Tryd.prog 89 #[.pointer (some ⟨b, 0, none⟩), sv s] w fun e w' => e = .returned (.tuple #[.int .i64 s.length, .nilIface]) ∧ Pg B b (l ++ s) w' ∧ Chg (PgS B b w) w w' := by
  obtain ⟨i0, hi, hz0, hz1, hz2⟩ := info_parts info_u8
  obtain ⟨p, v, fp, hp, hk, hr, hf, hBb⟩ := h
  have HCC := Lib.hid (copyCheck_c b v p w hk hp)
  have HNE := Lib.hid (Pg.ne hk (by decide) hr)
  have HR := Lib.hid hr
  have HF := Lib.hid hf
  obtain ⟨A0, c0, rfl, -⟩ := hr.form
  clear hk hr hf hp
  go_enter Tryd.func89, Tryd.ntmps89
  go_upto_region 2 with (go_at_call 110; (with_reducible refine HCC.out.mono ?_); rintro e w1 ⟨rfl, hk1, hc1⟩)
  have HR1 := Lib.hid (HR.out.chg hc1 (fun q hq e => HNE.out (e ▸ hq)))
  have HK1 := Lib.hid hk1
  have HC1 := Lib.hid (show Chg (PgS B b w) w w1 from hc1.mono fun k _ e => ⟨e ▸ hBb, .inl e⟩)
  have hs1 := hc1.size
  have k1 := hk1.cell 1 (v := .slice A0 l.length c0) rfl
  clear hk1 hc1 HCC
  go_wp2_with (at_builtin; refine wpList_append_str rfl _ _ 44 9 rfl i0 Tryd.underlying44 Tryd.underlying9 hi hz0 hz1 hz2 _ l s fp B rfl HR1.out HF.out (by omega) rfl (by omega) ?_; intro A2 c2 w2 fp2 hr2 hf2 hc2; have hk2 := HK1.out.chg hc2 HNE.out; have d1 := hk2.cell 1 (v := .slice A0 l.length c0) rfl; have f1 := hk2.frozen 1; have HK2 := Lib.hid hk2; have HR2 := Lib.hid hr2; have HF2 := Lib.hid hf2; have HC2 := Lib.hid hc2; clear hk2 hr2 hf2 hc2)
  have hne2 : b ∉ fp2 := Pg.ne HK2.out (by decide) HR2.out
  have hset := HK2.out.set 1 (.slice A2 (l ++ s).length c2)
  have hch : Chg (PgS B b w) w (w2.setCell ⟨b, 1, none⟩ (.slice A2 (l ++ s).length c2)) := PgS.trans HC1.out (PgS.trans (HC2.out.mono fun q _ hq => ⟨HF.out q hq, .inr (row_blk HR1.out hq)⟩) (hset.2.mono fun q _ e => ⟨e ▸ hBb, .inl e⟩))
  have hpg : Pg B b (l ++ s) (w2.setCell ⟨b, 1, none⟩ (.slice A2 (l ++ s).length c2)) := ⟨some ⟨b, 0, none⟩, _, fp2, .inr rfl, hset.1, HR2.out.chg hset.2 (fun q hq e => hne2 (e ▸ hq)), HF2.out, hBb⟩
  rw [List.length_append] at hch hpg
  exact bodyPost_ret (v := .tuple #[.int .i64 s.length, .nilIface]) (by simp [results, Tryd.results89, go_sem]) rfl ⟨rfl, hpg, hch⟩
set_option maxHeartbeats 1000000 in
theorem writeByte_c (B b : Nat) (l : List UInt8) (x : UInt8) (w : World) (h : Pg B b l w) (hBw : B ≤ w.heap.size) (hl : l.length + 1 ≤ 1099511627776) :
    Calls Tryd.prog 90 #[.pointer (some ⟨b, 0, none⟩), .int .u8 (x.toNat : Int)] w fun e w' => e = .returned .nilIface ∧ Pg B b (l ++ [x]) w' ∧ Chg (PgS B b w) w w' := by
  obtain ⟨i0, hi, hz0, hz1, hz2⟩ := info_parts info_u8
  obtain ⟨p, v, fp, hp, hk, hr, hf, hBb⟩ := h
  have HCC := Lib.hid (copyCheck_c b v p w hk hp)
  have HNE := Lib.hid (Pg.ne hk (by decide) hr)
  have HR := Lib.hid hr
  have HF := Lib.hid hf
  obtain ⟨A0, c0, rfl, -⟩ := hr.form
  clear hk hr hf hp
  go_enter Tryd.func90, Tryd.ntmps90
  go_upto_region 2 with (go_at_call 110; (with_reducible refine HCC.out.mono ?_); rintro e w1 ⟨rfl, hk1, hc1⟩)
  have HR1 := Lib.hid (HR.out.chg hc1 (fun q hq e => HNE.out (e ▸ hq)))
  have HK1 := Lib.hid hk1
  have HC1 := Lib.hid (show Chg (PgS B b w) w w1 from hc1.mono fun k _ e => ⟨e ▸ hBb, .inl e⟩)
  have hs1 := hc1.size
  have k1 := hk1.cell 1 (v := .slice A0 l.length c0) rfl
  clear hk1 hc1 HCC
  go_wp2_with (at_builtin; refine wpList_append_row kU8 rfl _ _ 44 rfl 5 i0 _ 1 Tryd.underlying44 hi hz0 hz1 hz2 rfl (by decide) _ l fp rfl (HR1.out.chg (S := fun _ => False) (by (repeat (first | (with_reducible first | exact Chg.refl _ _ | assumption) | (with_reducible refine Chg.drew ?_) | ((with_reducible refine Chg.setCell ?_ ?hs _); (case hs => first | (simp; done) | (simp; omega) | omega)) | (with_reducible refine Chg.alloc ?_ _)))) (by simp)) _ _ [.int .u8 (x.toNat : Int)] x [] rfl ⟨rfl, rfl⟩ (by simp) (box_news (by simp)) (by simp [maxLen]; omega) (by omega) ?_; intro g cap w2 fp2 hr2 hf2 hc2; have hB1 : Chg (fun q => q ∈ fp) w1 w2 := Chg.trans (by (repeat (first | (with_reducible first | exact Chg.refl _ _ | assumption) | (with_reducible refine Chg.drew ?_) | ((with_reducible refine Chg.setCell ?_ ?hs _); (case hs => first | (simp; done) | (simp; omega) | omega)) | (with_reducible refine Chg.alloc ?_ _)))) hc2; have hk2 := HK1.out.chg hB1 HNE.out; have d1 := hk2.cell 1 (v := .slice A0 l.length c0) rfl; have f1 := hk2.frozen 1; have HK2 := Lib.hid hk2; have HR2 := Lib.hid hr2; have HF2 := Lib.hid (show ∀ q ∈ fp2, B ≤ q from fun q hq => by rcases hf2 q hq with h | h | h; exact HF.out q h; simp at h; simp at h; omega); have HC2 := Lib.hid hB1; clear hk2 hr2 hf2 hc2 hB1)
  have hne2 : b ∉ fp2 := Pg.ne HK2.out (by decide) HR2.out
  have HR2 := Lib.hid (show Row 5 kU8 w2 (.slice (some ⟨g, 0, none⟩) (l ++ [x]).length cap) (l ++ [x]) fp2 by simpa using HR2.out)
  have hset := HK2.out.set 1 (.slice (some ⟨g, 0, none⟩) (l ++ [x]).length cap)
  have hch : Chg (PgS B b w) w (w2.setCell ⟨b, 1, none⟩ (.slice (some ⟨g, 0, none⟩) (l ++ [x]).length cap)) := PgS.trans HC1.out (PgS.trans (HC2.out.mono fun q _ hq => ⟨HF.out q hq, .inr (row_blk HR1.out hq)⟩) (hset.2.mono fun q _ e => ⟨e ▸ hBb, .inl e⟩))
  have hpg : Pg B b (l ++ [x]) (w2.setCell ⟨b, 1, none⟩ (.slice (some ⟨g, 0, none⟩) (l ++ [x]).length cap)) := ⟨some ⟨b, 0, none⟩, _, fp2, .inr rfl, hset.1, HR2.out.chg hset.2 (fun q hq e => hne2 (e ▸ hq)), HF2.out, hBb⟩
  rw [show (l ++ [x]).length = l.length + 1 by simp] at hch hpg
  exact bodyPost_ret (v := .nilIface) (by simp [results, Tryd.results90, go_sem]) rfl ⟨rfl, hpg, hch⟩
end Go.Proofs.YtnnfjjgohhicjaaDoor
namespace Go.Proofs
open Go.Shelf
def Tryd.laysM173_ren : Go.Shelf.Ren := ⟨fun | 173 => 91 | 246 => 111 | 283 => 120 | 284 => 121 | 285 => 122 | 286 => 123 | 129 => 126 | 317 => 125 | 318 => 127 | 319 => 128 | 320 => 129 | 337 => 130 | 338 => 131 | n => n, fun | 2 => 2 | 3 => 3 | 9 => 9 | 4 => 4 | 171 => 199 | 0 => 0 | 53 => 200 | 37 => 44 | 5 => 5 | 173 => 203 | 212 => 207 | 51 => 208 | 20 => 20 | 213 => 209 | 46 => 211 | 232 => 214 | 233 => 215 | n => n, fun | 17 => 2 | 18 => 3 | 19 => 4 | n => n⟩
theorem Tryd.laysM173 : Go.Proofs.LaysM.n173 Tryd.prog Tryd.laysM173_ren := {
  mixed := by kernel_rfl
  f129 := Tryd.func126.trans (congrArg some (by kernel_rfl))
  f173 := Tryd.func91.trans (congrArg some (by kernel_rfl))
  f246 := Tryd.func111.trans (congrArg some (by kernel_rfl))
  f283 := Tryd.func120.trans (congrArg some (by kernel_rfl))
  f284 := Tryd.func121.trans (congrArg some (by kernel_rfl))
  f285 := Tryd.func122.trans (congrArg some (by kernel_rfl))
  f286 := Tryd.func123.trans (congrArg some (by kernel_rfl))
  f317 := Tryd.func125.trans (congrArg some (by kernel_rfl))
  f318 := Tryd.func127.trans (congrArg some (by kernel_rfl))
  f319 := Tryd.func128.trans (congrArg some (by kernel_rfl))
  f320 := Tryd.func129.trans (congrArg some (by kernel_rfl))
  f337 := Tryd.func130.trans (congrArg some (by kernel_rfl))
  f338 := Tryd.func131.trans (congrArg some (by kernel_rfl))
  t0 := Tryd.underlying0
  a0 := Tryd.isAgg0
  z0 := Tryd.sizeOf0
  v0 := Tryd.zeroValue0
  t2 := Tryd.underlying2
  a2 := Tryd.isAgg2
  z2 := Tryd.sizeOf2
  v2 := Tryd.zeroValue2
  t3 := Tryd.underlying3
  a3 := Tryd.isAgg3
  z3 := Tryd.sizeOf3
  v3 := Tryd.zeroValue3
  t4 := Tryd.underlying4
  a4 := Tryd.isAgg4
  z4 := Tryd.sizeOf4
  v4 := Tryd.zeroValue4
  t5 := Tryd.underlying5
  a5 := Tryd.isAgg5
  z5 := Tryd.sizeOf5
  v5 := Tryd.zeroValue5
  t9 := Tryd.underlying9
  a9 := Tryd.isAgg9
  z9 := Tryd.sizeOf9
  v9 := Tryd.zeroValue9
  t20 := Tryd.underlying20
  a20 := Tryd.isAgg20
  z20 := Tryd.sizeOf20
  v20 := Tryd.zeroValue20
  t37 := Tryd.underlying44
  a37 := Tryd.isAgg44
  z37 := Tryd.sizeOf44
  v37 := Tryd.zeroValue44
  t46 := Tryd.underlying211
  a46 := Tryd.isAgg211
  z46 := Tryd.sizeOf211
  v46 := Tryd.zeroValue211
  t51 := Tryd.underlying208
  a51 := Tryd.isAgg208
  z51 := Tryd.sizeOf208
  v51 := Tryd.zeroValue208
  t53 := Tryd.underlying200
  a53 := Tryd.isAgg200
  z53 := Tryd.sizeOf200
  v53 := Tryd.zeroValue200
  t171 := Tryd.underlying199
  a171 := Tryd.isAgg199
  z171 := Tryd.sizeOf199
  v171 := Tryd.zeroValue199
  t173 := Tryd.underlying203
  a173 := Tryd.isAgg203
  z173 := Tryd.sizeOf203
  v173 := Tryd.zeroValue203
  t212 := Tryd.underlying207
  a212 := Tryd.isAgg207
  z212 := Tryd.sizeOf207
  v212 := Tryd.zeroValue207
  t213 := Tryd.underlying209
  a213 := Tryd.isAgg209
  z213 := Tryd.sizeOf209
  t232 := Tryd.underlying214
  a232 := Tryd.isAgg214
  z232 := Tryd.sizeOf214
  v232 := Tryd.zeroValue214
  t233 := Tryd.underlying215
  a233 := Tryd.isAgg215
  z233 := Tryd.sizeOf215
  v233 := Tryd.zeroValue215
  g17 := by kernel_rfl
  g18 := by kernel_rfl
  g19 := by kernel_rfl
  i0 := by kernel_rfl
  i2 := by kernel_rfl
  i3 := by kernel_rfl
  i4 := by kernel_rfl
  i5 := by kernel_rfl
  i9 := by kernel_rfl
  i20 := by kernel_rfl
  i37 := by kernel_rfl
  i46 := by kernel_rfl
  i51 := by kernel_rfl
  i53 := by kernel_rfl
  i171 := by kernel_rfl
  i173 := by kernel_rfl
  i212 := by kernel_rfl
  i232 := by kernel_rfl
  i233 := by kernel_rfl
  m17 := by kernel_rfl
  m18 := by kernel_rfl
  m19 := by kernel_rfl }
open Go.RowKit Go.Sort Go.Lib in
theorem Tryd.strconv_FormatInt_10 (n : Int) (h0 : -9223372036854775808 ≤ n) (h1 : n ≤ 9223372036854775807) (w : World) (htab : Lib.TabIs Tryd.prog w "internal/strconv.uint64pow10" .u64 Lib.pow10Tab) :
    Calls Tryd.prog 91 #[.int .i64 n, .int .i64 10] w fun e w' => e = .returned (.string ⟨(Lib.itoa n).toArray⟩) ∧ ∃ k os, w' = grow (w.drewN k) os := Any.strconv_FormatInt_10 Tryd.laysM173 n h0 h1 w htab
end Go.Proofs
namespace Go.Proofs.YtnnfjjgohhicjaaDoor
open Go.RowKit
set_option linter.unusedSimpArgs false
set_option linter.unusedVariables false
set_option maxRecDepth 100000

/-- The tables: shapes, opNames, strconv's powers of ten. -/
structure Globs (w : World) : Prop where
  sh : Shapes w
  nm : ∀ op : Nat, 1 ≤ op → op ≤ 13 → w.cell? ⟨1, op, none⟩ = some (sv (wordL op))
  tab : Lib.TabIs Tryd.prog w "internal/strconv.uint64pow10" .u64 Lib.pow10Tab
theorem gTab : (Tryd.prog).globalNamed "internal/strconv.uint64pow10" = some 2 := by kernel_rfl
theorem Globs.keep {w w' : World} (h : Globs w) (hk : ∀ k, k ≤ 2 → w'.heap[k]? = w.heap[k]?) : Globs w' := by
  refine ⟨h.sh.keep (hk 0 (by omega)), fun op h1 h2 => (World.cell?_of_block (hk 1 (by decide))).trans (h.nm op h1 h2), ?_⟩
  have := h.tab
  unfold Lib.TabIs World.var? at this ⊢
  rw [gTab] at this ⊢
  simp only [Option.bind_some] at this ⊢
  rw [hk _ (by decide)]; exact this
theorem Globs.pos {w : World} (h : Globs w) : 3 ≤ w.heap.size := World.block_lt_of_cell? w _ (h.tab.cell gTab 0 (by decide))
theorem Globs.below {B : Nat} {w w' : World} (h : Globs w) (hb : Below B w w') (hB : 3 ≤ B) : Globs w' := h.keep fun k hk => hb.block k (by omega)
theorem Globs.bel {w w' : World} (h : Globs w) (hb : Below w.heap.size w w') : Globs w' := h.below hb h.pos
theorem Globs.pgs {B b : Nat} {w w' : World} (h : Globs w) (hc : Chg (PgS B b w) w w') (hB : 3 ≤ B) : Globs w' :=
  h.keep fun k hk => hc.block k (by have := h.pos; omega) fun hS => by have := hS.1; omega
theorem fmt_c (n : Int) (h0 : -4611686018427387904 ≤ n) (h1 : n ≤ 4611686018427387904) (w : World) (hG : Globs w) : Calls Tryd.prog 91 #[.int .i64 n, .int .i64 10] w fun e w' => e = .returned (sv (Lib.itoa n)) ∧ Below w.heap.size w w' :=
  (Tryd.strconv_FormatInt_10 n (by omega) (by omega) w hG.tab).mono fun e w' ⟨he, k, os, hw⟩ => ⟨he, by rw [hw]; exact Lib.below_grow _ w (Nat.le_refl _) k os⟩
theorem row_i64_blk {w : World} {v : Value} {xs : List Int} {fp : List Nat} (h : Row 2 kI64 w v xs fp) {q : Nat} (hq : q ∈ fp) : ∃ cur fr, w.heap[q]? = some (.cells cur 2 fr) := by
  have hfp := row_int_fp h
  obtain ⟨css, fps, ho, _⟩ := h
  rw [hfp] at hq
  rcases ho.2 with ⟨rfl, _⟩ | ⟨g, cap, cur, rfl, _, hg, _⟩
  · simp [Value.ownBlock] at hq
  · simp [Value.ownBlock] at hq
    subst hq
    exact ⟨_, _, hg⟩
theorem row_pgs {B b : Nat} {T : TypeId} {cs : List Value} {w w' : World} {v : Value} {xs : List Int} {fp : List Nat} (h : Row 2 kI64 w v xs fp) (hb : Bk b T cs w) (hT : T ≠ 2) (hc : Chg (PgS B b w) w w') : Row 2 kI64 w' v xs fp := h.chg hc fun q hq e => by
  obtain ⟨cur, fr, hg⟩ := row_i64_blk h hq
  rcases e with ⟨_, e | ⟨cur', fr', e⟩⟩
  · subst e; rw [show w.heap[q]? = _ from hb] at hg; injection hg with hg; injection hg with _ hg _; exact hT hg
  · rw [hg] at e; injection e with e; injection e with _ e _; exact absurd e (by decide)
theorem Pg.bk {B b : Nat} {l : List UInt8} {w : World} (h : Pg B b l w) : ∃ cs, Bk b 102 cs w := by
  obtain ⟨p, v, fp, _, hk, _⟩ := h
  exact ⟨_, hk⟩
theorem Pg.lt {B b : Nat} {l : List UInt8} {w : World} (h : Pg B b l w) : b < w.heap.size := by obtain ⟨cs, hk⟩ := h.bk; exact hk.lt
theorem Pg.below {B b : Nat} {l : List UInt8} {w w' : World} (h : Pg B b l w) (hb : Below w.heap.size w w') : Pg B b l w' := by
  obtain ⟨p, v, fp, hp, hk, hr, hf, hB⟩ := h
  exact ⟨p, v, fp, hp, hk.below hb, hr.chg (chg_of hb) (by simp), hf, hB⟩
theorem Pg.ge {B b : Nat} {l : List UInt8} {w : World} (h : Pg B b l w) : B ≤ b := by
  obtain ⟨p, v, fp, hp, hk, hr, hf, hB⟩ := h
  exact hB
set_option maxHeartbeats 2000000 in
theorem row_c (B b : Nat) (l word : List UInt8) (v : Value) (ns : List Int) (fpv : List Nat) (w : World) (h : Pg B b l w) (hB3 : 3 ≤ B) (hG : Globs w) (hV : Row 2 kI64 w v ns fpv) (hS : Small ns) (hnl : ns.length ≤ 1048576) (hl : l.length ≤ 549755813888) (hwl : word.length ≤ 100) :
    Calls Tryd.prog 58 #[.pointer (some ⟨b, 0, none⟩), sv word, v] w fun e w' => e = .returned (.tuple #[]) ∧ Pg B b (l ++ lineB word ns) w' ∧ Chg (PgS B b w) w w' := by
  obtain ⟨V, cv, rfl, -⟩ := hV.form
  have hBw : B ≤ w.heap.size := by have := h.lt; have := h.ge; omega
  have hb3 : 3 ≤ b := by have := h.ge; omega
  have HFL := Lib.hid (flat_len hS)
  have HS := Lib.hid hS
  have HW := Lib.hid (writeString_c B b l word w h hBw (by omega))
  obtain ⟨cs0, hk0⟩ := h.bk
  have HK0 := Lib.hid hk0
  have HV := Lib.hid hV
  have HG := Lib.hid hG
  have hb3' := hb3
  clear h hG hV hS hk0
  go_enter Tryd.func58, Tryd.ntmps58
  go_wp2_with (go_at_call 89; (with_reducible refine HW.out.mono ?_); rintro e w1 ⟨rfl, hp1, hc1⟩)
  have HP1 := Lib.hid hp1
  have HC1 := Lib.hid hc1
  clear hp1 hc1 HW
  go_loopw [15] (fun t wr => ∃ k : Nat, k ≤ ns.length ∧ t = .int .i64 k ∧ Pg B b (l ++ (word ++ (ns.take k).flatMap fun n => 32 :: Lib.itoa n)) wr ∧ Chg (PgS B b w) w wr) (fun t _ => ns.length - (intOf t).toNat)
  case atStart => exact ⟨0, by omega, rfl, by simpa using HP1.out, HC1.out⟩
  case round =>
    clear HP1 HC1
    obtain ⟨k, hk, rfl, hp, hc⟩ := hrel
    have hfl := HFL.out k
    obtain ⟨ys, hys⟩ : ∃ ys, l ++ (word ++ (ns.take k).flatMap fun n => 32 :: Lib.itoa n) = ys := ⟨_, rfl⟩
    have hyl : ys.length ≤ 549755813888 + 100 + 22 * 1048576 := by rw [← hys]; simp only [List.length_append]; omega
    have HYS := Lib.hid hys
    rw [hys] at hp
    have HP := Lib.hid hp
    have HC := Lib.hid hc
    have hGr := HG.out.pgs hc hB3
    have hVr := row_pgs HV.out HK0.out (by decide) hc
    have hBr : B ≤ wr.heap.size := by have := hc.size; omega
    have hbr := hp.lt
    clear hp hc hys hfl
    by_cases hlt : k < ns.length
    · obtain ⟨n, en⟩ := get_of_lt hlt
      obtain ⟨a, _, rfl, rfl, hcc⟩ := hVr.reads.at en
      have q0 := hc1 (n := k * 1) hcc
      rw [Nat.mul_one] at q0
      obtain ⟨hn0, hn1⟩ := HS.out n (List.mem_of_getElem? en)
      have hil := itoa_len hn0 hn1
      have HWB := Lib.hid (writeByte_c B b ys 32 wr HP.out hBr (by omega))
      have HSN := Lib.hid (show ys ++ (32 :: Lib.itoa n) = l ++ (word ++ (ns.take (k + 1)).flatMap fun n => 32 :: Lib.itoa n) by rw [flat_snoc en, ← HYS.out]; simp [List.append_assoc])
      have HGr := Lib.hid hGr
      clear hcc en hVr hGr
      go_upto_region 5 with (go_at_call 90; (refine HWB.out.mono ?_); rintro e w2 ⟨rfl, hp2, hc2⟩)
      have HC2 := Lib.hid (PgS.trans HC.out hc2)
      have HG2 := Lib.hid (HGr.out.pgs hc2 hB3)
      have HP2 := Lib.hid hp2
      have hs2 := hc2.size
      have HFM := Lib.hid (fun W (hb : Below w2.heap.size w2 W) => fmt_c n hn0 hn1 W (HG2.out.bel hb))
      have HWS := Lib.hid (fun W (hb : Below w2.heap.size w2 W) => writeString_c B b (ys ++ [32]) (Lib.itoa n) W (HP2.out.below hb) (by have := hb.size; omega) (by simp; omega))
      clear hp2 hc2 HWB q0
      go_region_with (first
        | (go_at_call 91; (with_reducible refine (HFM.out _ (by (repeat (first | (with_reducible first | exact Below.refl _ _ | assumption | exact ext_box _) | (with_reducible apply Below.drew) | ((with_reducible refine Below.setCell ?_ ?hs _); (case hs => first | (simp; done) | (simp; omega) | omega)) | ((with_reducible refine Below.alloc ?_ ?hs _); (case hs => first | (simp; done) | (simp; omega) | omega)))))).mono ?_); rintro e w3 ⟨rfl, hb3⟩; have HB3 : Below w2.heap.size w2 w3 := Below.then_ (by (repeat (first | (with_reducible first | exact Below.refl _ _ | assumption | exact ext_box _) | (with_reducible apply Below.drew) | ((with_reducible refine Below.setCell ?_ ?hs _); (case hs => first | (simp; done) | (simp; omega) | omega)) | ((with_reducible refine Below.alloc ?_ ?hs _); (case hs => first | (simp; done) | (simp; omega) | omega))))) hb3)
        | (go_at_call 89; (with_reducible refine (HWS.out _ (by (repeat (first | (with_reducible first | exact Below.refl _ _ | assumption | exact ext_box _) | (with_reducible apply Below.drew) | ((with_reducible refine Below.setCell ?_ ?hs _); (case hs => first | (simp; done) | (simp; omega) | omega)) | ((with_reducible refine Below.alloc ?_ ?hs _); (case hs => first | (simp; done) | (simp; omega) | omega)))))).mono ?_); rintro e w4 ⟨rfl, hp4, hc4⟩))
      all_goals
        have HP4 := Lib.hid hp4
        have HC4 := Lib.hid (PgS.trans HC2.out (PgS.trans (PgS.of (chg_of HB3)) hc4))
        clear hp4 hc4
        go_wp2
        go_roundw
        case rel => exact ⟨k + 1, by omega, by go_num, by rw [← HSN.out]; have := HP4.out; rw [List.append_assoc] at this; exact this, HC4.out⟩
        case measure => simp [intOf]; omega
    · have hke : k = ns.length := by omega
      subst hke
      rw [List.take_length] at HYS
      have HWB := Lib.hid (writeByte_c B b ys 10 wr HP.out hBr (by omega))
      have HE := Lib.hid (show ys ++ [10] = l ++ lineB word ns by rw [← HYS.out, lineB]; simp [List.append_assoc])
      clear hVr hGr
      go_wp2_with (go_at_call 90; (refine HWB.out.mono ?_); rintro e w2 ⟨rfl, hp2, hc2⟩)
      refine bodyPost_end (v := .tuple #[]) (by simp [results, Tryd.results58, go_sem]) rfl ?_
      rw [HE.out] at hp2
      exact ⟨rfl, hp2, PgS.trans HC.out hc2⟩
end Go.Proofs.YtnnfjjgohhicjaaDoor
