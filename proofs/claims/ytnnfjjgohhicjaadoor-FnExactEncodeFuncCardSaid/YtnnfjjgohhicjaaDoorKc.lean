/- Contracts: the laws' copies (laws.to..). -/
import Derived.Test.YtnnfjjgohhicjaaDoorKt
import Derived.Test.YtnnfjjgohhicjaaDoorKr
namespace Go.Proofs.YtnnfjjgohhicjaaDoor
open Go.RowKit
set_option linter.unusedSimpArgs false
set_option linter.unusedVariables false
set_option maxRecDepth 100000

theorem info_instr : (Tryd.prog.info? 72).map (fun i => (i.zero, i.size, i.bytes)) = some (some (.agg #[.int .i64 0, .int .i64 0, .int .i64 0, .int .i64 0, .int .i64 0]), 5, 40) := by kernel_rfl
theorem toInstr_c (x : Instr) (w : World) : Calls Tryd.prog 114 #[x.v] w fun e w' => e = .returned (.agg #[.int .i64 x.op, .int .i64 x.dst, .int .i64 x.a, .int .i64 x.b, .int .i64 x.imm]) ∧ Below w.heap.size w w' := by
  obtain ⟨a0, a1, a2, a3, a4⟩ := x
  simp only [Instr.v]
  go_enter Tryd.func114, Tryd.ntmps114
  go_wp2
  exact bodyPost_ret (v := .agg #[.int .i64 a0, .int .i64 a1, .int .i64 a2, .int .i64 a3, .int .i64 a4]) (by simp [results, Tryd.results114, go_sem]) rfl ⟨rfl, (by repeat (first | (with_reducible first | exact Below.refl _ _ | assumption | exact ext_box _) | (with_reducible apply Below.drew) | ((with_reducible refine Below.setCell ?_ ?hs _); (case hs => first | (simp; done) | (simp; omega) | omega)) | ((with_reducible refine Below.alloc ?_ ?hs _); (case hs => first | (simp; done) | (simp; omega) | omega))))⟩

theorem slot_k {α β : Type} {xs : List α} {ys : List β} {k : Nat} {z : β} (h : k < xs.length) (hy : ys.length = k) : (ys ++ List.replicate (xs.length - k) z)[k]? = some z := by
  rw [List.getElem?_append_right (by omega), List.getElem?_replicate, if_pos (by omega)]
theorem slot_set {α : Type} {xs : List α} {k : Nat} {z x : α} (h : k < xs.length) (hx : xs[k]? = some x) : (xs.take k ++ List.replicate (xs.length - k) z).set k x = xs.take (k + 1) ++ List.replicate (xs.length - (k + 1)) z := by
  have hl : (xs.take k).length = k := List.length_take_of_le (by omega)
  rw [List.set_append_right _ _ (by omega), hl, Nat.sub_self, show xs.length - k = (xs.length - (k + 1)) + 1 by omega, List.replicate_succ, List.set_cons_zero, take_snoc hx]
  simp
theorem slot_len {α : Type} {xs : List α} {k : Nat} {z : α} (h : k ≤ xs.length) : (xs.take k ++ List.replicate (xs.length - k) z).length = xs.length := by simp; omega
set_option maxHeartbeats 1000000 in
theorem toInstrS_c (A : Option Addr) (c : Nat) (xs : List Instr) (w : World) (hx : C kInstr w A xs) (hm : xs.length ≤ 1048576) :
    Calls Tryd.prog 103 #[.slice A xs.length c] w (RetRow 72 kInstr w xs) := by
  obtain ⟨i0, hi, hz0, hz1, hz2⟩ := info_parts info_instr
  go_enter Tryd.func103, Tryd.ntmps103
  go_wp2_with (at_make; refine wpList_make_full _ rfl _ _ 65 rfl 0 72 i0 _ 5 Tryd.underlying65 hi hz0 hz1 _ _ _ _ xs.length rfl rfl rfl rfl (by rw [hz2]; omega) (by simp [maxLen]; omega) (Nat.zero_le _) ?_; intro w1 ho hg)
  have hR := Lib.hid (Row.made (d := kInstr) (z := ⟨0, 0, 0, 0, 0⟩) (zc := [.int .i64 0, .int .i64 0, .int .i64 0, .int .i64 0, .int .i64 0]) ho (by decide) ⟨rfl, rfl⟩)
  have hB : Below w.heap.size w w1 := (Below.refl _ _).grown hg (Nat.le_refl _) (by simp)
  go_loopw [4] (fun i wr => ∃ (k : Nat) (fp : List Nat), k ≤ xs.length ∧ i = .int .i64 k ∧ Row 72 kInstr wr (.slice (some ⟨w.heap.size, 0, none⟩) xs.length xs.length) (xs.take k ++ List.replicate (xs.length - k) ⟨0, 0, 0, 0, 0⟩) fp ∧ (∀ b ∈ fp, w.heap.size ≤ b) ∧ ∃ u : Ext w, wr = u.w) (fun i _ => xs.length - (intOf i).toNat)
  case atStart => exact ⟨0, _, by omega, rfl, hR.out, by simp, ⟨w1, hB⟩, rfl⟩
  case round =>
    obtain ⟨k, fp, hk, rfl, hr, hfp, u, rfl⟩ := hrel
    have HR := Lib.hid hr
    have HF := Lib.hid hfp
    clear hr hfp ho hR
    by_cases hlt : k < xs.length
    · obtain ⟨x, ex⟩ := get_of_lt hlt
      obtain ⟨a, _, rfl, rfl, hc⟩ := (hx.ext u).at ex
      obtain ⟨p0, p1, p2, p3, p4⟩ := hc5 (n := k * 5) hc
      clear hc
      have EX := Lib.hid ex
      clear ex
      go_wp2_with (go_at_call 114; refine (toInstr_c x _).mono ?_; rintro e w2 ⟨rfl, hb⟩; have HR2 := Lib.hid (HR.out.keep fun b hb' => hb.block b (HR.out.lt b hb')); obtain ⟨_, rfl, hq, hfz⟩ := HR2.out.cellsAt (slot_len hk) (i := k) (x := ⟨0, 0, 0, 0, 0⟩) (slot_k hlt (by simp; omega)); obtain ⟨q0, q1, q2, q3, q4⟩ := ha5 (n := k * 5) hq; have f0 := hfz (k * 5); have f1 := hfz (k * 5 + 1); have f2 := hfz (k * 5 + 2); have f3 := hfz (k * 5 + 3); have f4 := hfz (k * 5 + 4); clear hq hfz)
      obtain ⟨fp', hr', hf', hC⟩ := HR2.out.set (slot_len hk) (i := k) hlt (y := x) ⟨rfl, rfl⟩ (by simp)
      rw [show k * kInstr.sz = k * 5 from rfl, setCells5] at hr' hC
      rw [slot_set hlt EX.out] at hr'
      go_roundw
      case rel => exact ⟨k + 1, fp', by omega, by go_num, hr', fun b hb' => HF.out b ((hf' b hb').resolve_right (by simp)), ⟨_, (Below.then_ u.hb hb).trans (hC.below (by have := u.hb.size; have := hb.size; omega) fun b hb' => by omega)⟩, rfl⟩
      case measure => simp [intOf]; omega
    · go_wp2
      go_ret
      refine ⟨_, fp, rfl, ?_, HF.out, u.hb⟩
      have := HR.out
      rwa [List.take_of_length_le (by omega), show xs.length - k = 0 by omega, List.replicate_zero, List.append_nil] at this

theorem toTerm_c (t : Term) (w : World) : Calls Tryd.prog 104 #[t.v] w fun e w' => e = .returned (.agg #[.int .i64 t.kind, .int .i64 t.a, .int .i64 t.to, .int .i64 t.els]) ∧ Below w.heap.size w w' := by
  obtain ⟨a0, a1, a2, a3⟩ := t
  simp only [Term.v]
  go_enter Tryd.func104, Tryd.ntmps104
  go_wp2
  exact bodyPost_ret (v := .agg #[.int .i64 a0, .int .i64 a1, .int .i64 a2, .int .i64 a3]) (by simp [results, Tryd.results104, go_sem]) rfl ⟨rfl, (by repeat (first | (with_reducible first | exact Below.refl _ _ | assumption | exact ext_box _) | (with_reducible apply Below.drew) | ((with_reducible refine Below.setCell ?_ ?hs _); (case hs => first | (simp; done) | (simp; omega) | omega)) | ((with_reducible refine Below.alloc ?_ ?hs _); (case hs => first | (simp; done) | (simp; omega) | omega))))⟩
def RetMB (w : World) (b : MBlock) (en : Ending) (w' : World) : Prop := ∃ v fp, en = .returned (.agg #[v, .int .i64 b.term.kind, .int .i64 b.term.a, .int .i64 b.term.to, .int .i64 b.term.els]) ∧ Row 72 kInstr w' v b.instrs fp ∧ (∀ b ∈ fp, w.heap.size ≤ b) ∧ Below w.heap.size w w'
set_option maxHeartbeats 1000000 in
theorem toMBlock_c (A : Option Addr) (c : Nat) (b : MBlock) (w : World) (hx : C kInstr w A b.instrs) (hm : b.instrs.length ≤ 1048576) :
    Calls Tryd.prog 77 #[.agg #[.slice A b.instrs.length c, .int .i64 b.term.kind, .int .i64 b.term.a, .int .i64 b.term.to, .int .i64 b.term.els]] w (RetMB w b) := by
  obtain ⟨xs, a0, a1, a2, a3⟩ := b
  dsimp only at *
  go_enter Tryd.func77, Tryd.ntmps77
  go_wp2_with (first | (go_at_call 103; refine (toInstrS_c _ _ xs _ (hx.below (by repeat (first | (with_reducible first | exact Below.refl _ _ | assumption | exact ext_box _) | (with_reducible apply Below.drew) | ((with_reducible refine Below.setCell ?_ ?hs _); (case hs => first | (simp; done) | (simp; omega) | omega)) | ((with_reducible refine Below.alloc ?_ ?hs _); (case hs => first | (simp; done) | (simp; omega) | omega))))) hm).mono ?_; rintro e w1 ⟨v, fp, rfl, hr, hf, hb⟩; have HR := Lib.hid hr; have HF := Lib.hid hf; clear hr hf; obtain ⟨A1, c1, rfl, hl1⟩ := HR.out.form; have HB1 : Below w.heap.size w w1 := Below.then_ (by repeat (first | (with_reducible first | exact Below.refl _ _ | assumption | exact ext_box _) | (with_reducible apply Below.drew) | ((with_reducible refine Below.setCell ?_ ?hs _); (case hs => first | (simp; done) | (simp; omega) | omega)) | ((with_reducible refine Below.alloc ?_ ?hs _); (case hs => first | (simp; done) | (simp; omega) | omega)))) hb; obtain ⟨hc1, hf1⟩ := bcell hb; obtain ⟨zw10, zw11, zw12⟩ : w.heap.size < w1.heap.size ∧ w.heap.size + 1 < w1.heap.size ∧ w.heap.size + 1 + 1 < w1.heap.size := (by have := hb.size; simp at this; omega)) | (go_at_call 104; refine (toTerm_c ⟨a0, a1, a2, a3⟩ _).mono ?_; rintro e w2 ⟨rfl, hb2⟩; have HC2 : Chg (fun k => k = w.heap.size + 1 ∨ k = w.heap.size + 1 + 1) w1 w2 := Chg.call (by (repeat (first | (with_reducible first | exact Chg.refl _ _ | assumption) | (with_reducible refine Chg.drew ?_) | ((with_reducible refine Chg.setCell ?_ ?hs _); (case hs => first | (simp; done) | (simp; omega) | omega)) | (with_reducible refine Chg.alloc ?_ _)))) hb2; have HB2 : Below w.heap.size w w2 := Below.then_ (by first | exact HB1 | (repeat (first | (with_reducible first | exact Below.refl _ _ | assumption | exact ext_box _) | (with_reducible apply Below.drew) | ((with_reducible refine Below.setCell ?_ ?hs _); (case hs => first | (simp; done) | (simp; omega) | omega)) | ((with_reducible refine Below.alloc ?_ ?hs _); (case hs => first | (simp; done) | (simp; omega) | omega))))) hb2; obtain ⟨hc2, hf2⟩ := bcell hb2; obtain ⟨zw20, zw21, zw22⟩ : w.heap.size < w2.heap.size ∧ w.heap.size + 1 < w2.heap.size ∧ w.heap.size + 1 + 1 < w2.heap.size := (by have := hb2.size; simp at this; omega)))
  refine bodyPost_ret (v := .agg #[.slice A1 xs.length c1, .int .i64 a0, .int .i64 a1, .int .i64 a2, .int .i64 a3]) (by simp [results, Tryd.results77, go_sem, hc1, hc2, zw10, zw11, zw12, zw20, zw21, zw22]) rfl ⟨_, fp, rfl, HR.out.chg (S := fun k => k = w.heap.size + 1 ∨ k = w.heap.size + 1 + 1) (by (repeat (first | (with_reducible first | exact Chg.refl _ _ | assumption) | (with_reducible refine Chg.drew ?_) | ((with_reducible refine Chg.setCell ?_ ?hs _); (case hs => first | (simp; done) | (simp; omega) | omega)) | (with_reducible refine Chg.alloc ?_ _)))) fun b hb => ?_, fun b hb => ?_, ?_⟩
  · have := HF.out b hb; simp at this; omega
  · have := HF.out b hb; simp at this; omega
  · (repeat (first | (with_reducible first | exact Below.refl _ _ | assumption | exact ext_box _) | (with_reducible apply Below.drew) | ((with_reducible refine Below.setCell ?_ ?hs _); (case hs => first | (simp; done) | (simp; omega) | omega)) | ((with_reducible refine Below.alloc ?_ ?hs _); (case hs => first | (simp; done) | (simp; omega) | omega))))

theorem kMB_O {e : TypeId} {w : World} {v : Value} {b : MBlock} {fp : List Nat} (h : Row e kInstr w v b.instrs fp) : (kMB e).O w b [v, .int .i64 b.term.kind, .int .i64 b.term.a, .int .i64 b.term.to, .int .i64 b.term.els] fp := by
  have hn : fp.Nodup := by obtain ⟨_, _, _, _, _, hn⟩ := h; exact hn
  exact ⟨[v], _, fp, [], rfl, by simp, hn, ⟨v, rfl, h⟩, rfl, rfl⟩
def zMB : MBlock := ⟨[], ⟨0, 0, 0, 0⟩⟩
theorem info_mb : (Tryd.prog.info? 69).map (fun i => (i.zero, i.size, i.bytes)) = some (some (.agg #[.slice none 0 0, .int .i64 0, .int .i64 0, .int .i64 0, .int .i64 0]), 5, 56) := by kernel_rfl
set_option maxHeartbeats 1000000 in
theorem toMBlockS_c (A : Option Addr) (c : Nat) (xs : List MBlock) (w : World) (hx : C (kMB 0) w A xs) (hm : xs.length ≤ 1048576) (hs : ∀ (i : Nat) b, xs[i]? = some b → b.instrs.length ≤ 1048576) :
    Calls Tryd.prog 42 #[.slice A xs.length c] w (RetRow 69 (kMB 72) w xs) := by
  obtain ⟨i0, hi, hz0, hz1, hz2⟩ := info_parts info_mb
  go_enter Tryd.func42, Tryd.ntmps42
  go_wp2_with (at_make; refine wpList_make_full _ rfl _ _ 27 rfl 0 69 i0 _ 5 Tryd.underlying27 hi hz0 hz1 _ _ _ _ xs.length rfl rfl rfl rfl (by rw [hz2]; omega) (by simp [maxLen]; omega) (Nat.zero_le _) ?_; intro w1 ho hg)
  have hR := Lib.hid (Row.made (d := kMB 72) (z := zMB) (zc := [.slice none 0 0, .int .i64 0, .int .i64 0, .int .i64 0, .int .i64 0]) ho (by decide) (kMB_O (b := zMB) (Row.nil _ _ _)))
  have hB : Below w.heap.size w w1 := (Below.refl _ _).grown hg (Nat.le_refl _) (by simp)
  go_loopw [4] (fun i wr => ∃ (k : Nat) (fp : List Nat), k ≤ xs.length ∧ i = .int .i64 k ∧ Row 69 (kMB 72) wr (.slice (some ⟨w.heap.size, 0, none⟩) xs.length xs.length) (xs.take k ++ List.replicate (xs.length - k) zMB) fp ∧ (∀ b ∈ fp, w.heap.size ≤ b) ∧ ∃ u : Ext w, wr = u.w) (fun i _ => xs.length - (intOf i).toNat)
  case atStart => exact ⟨0, _, by omega, rfl, hR.out, by simp, ⟨w1, hB⟩, rfl⟩
  case round =>
    obtain ⟨k, fp, hk, rfl, hr, hfp, u, rfl⟩ := hrel
    have HR := Lib.hid hr
    have HF := Lib.hid hfp
    clear hr hfp ho hR
    by_cases hlt : k < xs.length
    · obtain ⟨x, ex⟩ := get_of_lt hlt
      obtain ⟨a, _, rfl, ⟨_, _, rfl, ⟨A', c', rfl, l', r'⟩, rfl⟩, hc⟩ := (hx.ext u).at ex
      obtain ⟨p0, p1, p2, p3, p4⟩ := hc5 (n := k * 5) hc
      clear hc
      have hxl := hs _ _ ex
      have EX := Lib.hid ex
      clear ex
      go_wp2_with (go_at_call 77; refine (toMBlock_c _ _ x _ r' hxl).mono ?_; rintro e w2 ⟨v, f, rfl, hr2, hf2, hb⟩; have HX := Lib.hid hr2; have HX2 := Lib.hid hf2; clear hr2 hf2; obtain ⟨A2, c2, rfl, _⟩ := HX.out.form; have HR2 := Lib.hid (HR.out.keep fun b hb' => hb.block b (HR.out.lt b hb')); obtain ⟨_, ⟨_, _, rfl, ⟨_, _, rfl, _⟩, rfl⟩, hq, hfz⟩ := HR2.out.cellsAt (slot_len hk) (i := k) (x := zMB) (slot_k hlt (by simp; omega)); obtain ⟨q0, q1, q2, q3, q4⟩ := ha5 (n := k * 5) hq; have f0 := hfz (k * 5); have f1 := hfz (k * 5 + 1); have f2 := hfz (k * 5 + 2); have f3 := hfz (k * 5 + 3); have f4 := hfz (k * 5 + 4); clear hq hfz)
      obtain ⟨fp', hr', hf', hC⟩ := HR2.out.set (slot_len hk) (i := k) hlt (kMB_O HX.out) (fun b hb1 hb2 => by have := HR.out.lt b hb2; have := HX2.out b hb1; omega)
      rw [show k * (kMB 72).sz = k * 5 from rfl, setCells5] at hr' hC
      rw [slot_set hlt EX.out] at hr'
      go_roundw
      case rel => exact ⟨k + 1, fp', by omega, by go_num, hr', fun b hb' => (hf' b hb').elim (HF.out b) (fun h => Nat.le_trans u.hb.size (HX2.out b h)), ⟨_, (Below.then_ u.hb hb).trans (hC.below (by have := u.hb.size; have := hb.size; omega) fun b hb' => by omega)⟩, rfl⟩
      case measure => simp [intOf]; omega
    · go_wp2
      go_ret
      refine ⟨_, fp, rfl, ?_, HF.out, u.hb⟩
      have := HR.out
      rwa [List.take_of_length_le (by omega), show xs.length - k = 0 by omega, List.replicate_zero, List.append_nil] at this
def RetMach (w : World) (m : Mach) (en : Ending) (w' : World) : Prop := ∃ v fp, en = .returned (.agg #[.int .i64 m.regs, v]) ∧ Row 69 (kMB 72) w' v m.blocks fp ∧ (∀ b ∈ fp, w.heap.size ≤ b) ∧ Below w.heap.size w w'
set_option maxHeartbeats 1000000 in
theorem toMach_c (A : Option Addr) (c : Nat) (m : Mach) (w : World) (hx : C (kMB 0) w A m.blocks) (hm : m.blocks.length ≤ 1048576) (hs : ∀ (i : Nat) b, m.blocks[i]? = some b → b.instrs.length ≤ 1048576) :
    Calls Tryd.prog 11 #[.agg #[.int .i64 m.regs, .slice A m.blocks.length c]] w (RetMach w m) := by
  obtain ⟨r0, xs⟩ := m
  dsimp only at *
  go_enter Tryd.func11, Tryd.ntmps11
  go_wp2_with (first | (go_at_call 42; refine (toMBlockS_c _ _ xs _ (hx.below (by repeat (first | (with_reducible first | exact Below.refl _ _ | assumption | exact ext_box _) | (with_reducible apply Below.drew) | ((with_reducible refine Below.setCell ?_ ?hs _); (case hs => first | (simp; done) | (simp; omega) | omega)) | ((with_reducible refine Below.alloc ?_ ?hs _); (case hs => first | (simp; done) | (simp; omega) | omega))))) hm hs).mono ?_; rintro e w1 ⟨v, fp, rfl, hr, hf, hb⟩; have HR := Lib.hid hr; have HF := Lib.hid hf; clear hr hf; obtain ⟨A1, c1, rfl, hl1⟩ := HR.out.form; have HB1 : Below w.heap.size w w1 := Below.then_ (by repeat (first | (with_reducible first | exact Below.refl _ _ | assumption | exact ext_box _) | (with_reducible apply Below.drew) | ((with_reducible refine Below.setCell ?_ ?hs _); (case hs => first | (simp; done) | (simp; omega) | omega)) | ((with_reducible refine Below.alloc ?_ ?hs _); (case hs => first | (simp; done) | (simp; omega) | omega)))) hb; obtain ⟨hc1, hf1⟩ := bcell hb; obtain ⟨zw10, zw11, zw12⟩ : w.heap.size < w1.heap.size ∧ w.heap.size + 1 < w1.heap.size ∧ w.heap.size + 1 + 1 < w1.heap.size := (by have := hb.size; simp at this; omega)))
  refine bodyPost_ret (v := .agg #[.int .i64 r0, .slice A1 xs.length c1]) (by simp [results, Tryd.results11, go_sem, hc1, zw10, zw11, zw12]) rfl ⟨_, fp, rfl, HR.out.chg (S := fun k => k = w.heap.size + 1 ∨ k = w.heap.size + 1 + 1) (by (repeat (first | (with_reducible first | exact Chg.refl _ _ | assumption) | (with_reducible refine Chg.drew ?_) | ((with_reducible refine Chg.setCell ?_ ?hs _); (case hs => first | (simp; done) | (simp; omega) | omega)) | (with_reducible refine Chg.alloc ?_ _)))) fun b hb => ?_, fun b hb => ?_, ?_⟩
  · have := HF.out b hb; simp at this; omega
  · have := HF.out b hb; simp at this; omega
  · (repeat (first | (with_reducible first | exact Below.refl _ _ | assumption | exact ext_box _) | (with_reducible apply Below.drew) | ((with_reducible refine Below.setCell ?_ ?hs _); (case hs => first | (simp; done) | (simp; omega) | omega)) | ((with_reducible refine Below.alloc ?_ ?hs _); (case hs => first | (simp; done) | (simp; omega) | omega))))
end Go.Proofs.YtnnfjjgohhicjaaDoor
