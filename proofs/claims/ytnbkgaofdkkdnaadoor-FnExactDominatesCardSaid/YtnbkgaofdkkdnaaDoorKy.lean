/- Contracts: the laws' copies of functions (laws.to..). -/
import Derived.Test.YtnbkgaofdkkdnaaDoorKu
import Derived.Test.YtnbkgaofdkkdnaaDoorKc
namespace Go.Proofs.YtnbkgaofdkkdnaaDoor
open Go.RowKit
set_option linter.unusedSimpArgs false
set_option linter.unusedVariables false
set_option maxRecDepth 100000

theorem info_i64 : (Tryd.prog.info? 2).map (fun i => (i.zero, i.size, i.bytes)) = some (some (.int .i64 0), 1, 8) := by kernel_rfl
set_option maxHeartbeats 1000000 in
theorem toInt64S_c (A : Option Addr) (c : Nat) (xs : List Int) (w : World) (hx : C (kInt .i64) w A xs) (hm : xs.length ≤ 1048576) :
    Calls Tryd.prog 112 #[.slice A xs.length c] w (RetRow 2 (kInt .i64) w xs) := by
  obtain ⟨i0, hi, hz0, hz1, hz2⟩ := info_parts info_i64
  go_enter Tryd.func112, Tryd.ntmps112
  go_wp2_with (at_make; refine wpList_make_full _ rfl _ _ 35 rfl 0 2 i0 _ 1 Tryd.underlying35 hi hz0 hz1 _ _ _ _ xs.length rfl rfl rfl rfl (by rw [hz2]; omega) (by simp [maxLen]; omega) (Nat.zero_le _) ?_; intro w1 ho hg)
  have hR := Lib.hid (Row.made (d := kInt .i64) (z := 0) (zc := [.int .i64 0]) ho (by decide) ⟨rfl, rfl⟩)
  have hB : Below w.heap.size w w1 := (Below.refl _ _).grown hg (Nat.le_refl _) (by simp)
  go_loopw [4] (fun i wr => ∃ (k : Nat) (fp : List Nat), k ≤ xs.length ∧ i = .int .i64 k ∧ Row 2 (kInt .i64) wr (.slice (some ⟨w.heap.size, 0, none⟩) xs.length xs.length) (xs.take k ++ List.replicate (xs.length - k) 0) fp ∧ (∀ b ∈ fp, w.heap.size ≤ b) ∧ ∃ u : Ext w, wr = u.w) (fun i _ => xs.length - (intOf i).toNat)
  case atStart => exact ⟨0, _, by omega, rfl, hR.out, by simp, ⟨w1, hB⟩, rfl⟩
  case round =>
    obtain ⟨k, fp, hk, rfl, hr, hfp, u, rfl⟩ := hrel
    have HR := Lib.hid hr
    have HF := Lib.hid hfp
    clear hr hfp ho hR
    by_cases hlt : k < xs.length
    · obtain ⟨x, ex⟩ := get_of_lt hlt
      obtain ⟨a, _, rfl, rfl, hc⟩ := (hx.ext u).at ex
      have p0 := hc1 (n := k * 1) hc
      rw [Nat.mul_one] at p0
      clear hc
      have EX := Lib.hid ex
      clear ex
      obtain ⟨_, rfl, hq, hfz⟩ := HR.out.cellsAt (slot_len hk) (i := k) (x := 0) (slot_k hlt (by simp; omega))
      have q0 := ha1 (n := k * 1) hq
      have f0 := hfz (k * 1)
      rw [Nat.mul_one] at q0 f0
      clear hq hfz
      go_wp2
      obtain ⟨fp', hr', hf', hC⟩ := HR.out.set (slot_len hk) (i := k) hlt (y := x) (cs := [.int .i64 x]) (f := []) ⟨rfl, rfl⟩ (by simp)
      rw [show k * (kInt .i64).sz = k from Nat.mul_one k, setCells1] at hr' hC
      rw [slot_set hlt EX.out] at hr'
      go_roundw
      case rel => exact ⟨k + 1, fp', by omega, by go_num, hr', fun b hb' => HF.out b ((hf' b hb').resolve_right (by simp)), ⟨_, u.hb.trans (hC.below u.hb.size fun b hb' => by omega)⟩, rfl⟩
      case measure => simp [intOf]; omega
    · go_wp2
      go_ret
      refine ⟨_, fp, rfl, ?_, HF.out, u.hb⟩
      have := HR.out
      rwa [List.take_of_length_le (by omega), show xs.length - k = 0 by omega, List.replicate_zero, List.append_nil] at this
def RetPhi (w : World) (p : Phi) (en : Ending) (w' : World) : Prop := ∃ v fp, en = .returned (.agg #[.int .i64 p.dst, v]) ∧ Row 2 (kInt .i64) w' v p.args fp ∧ (∀ b ∈ fp, w.heap.size ≤ b) ∧ Below w.heap.size w w'
set_option maxHeartbeats 1000000 in
theorem toPhi_c (A : Option Addr) (c : Nat) (p : Phi) (w : World) (hx : C (kInt .i64) w A p.args) (hm : p.args.length ≤ 1048576) :
    Calls Tryd.prog 107 #[.agg #[.int .i64 p.dst, .slice A p.args.length c]] w (RetPhi w p) := by
  obtain ⟨r0, xs⟩ := p
  dsimp only at *
  go_enter Tryd.func107, Tryd.ntmps107
  go_wp2_with (go_at_call 112; refine (toInt64S_c _ _ xs _ (hx.below (by repeat (first | (with_reducible first | exact Below.refl _ _ | assumption | exact ext_box _) | (with_reducible apply Below.drew) | ((with_reducible refine Below.setCell ?_ ?hs _); (case hs => first | (simp; done) | (simp; omega) | omega)) | ((with_reducible refine Below.alloc ?_ ?hs _); (case hs => first | (simp; done) | (simp; omega) | omega))))) hm).mono ?_; rintro e w1 ⟨v, fp, rfl, hr, hf, hb⟩; have HR := Lib.hid hr; have HF := Lib.hid hf; clear hr hf; obtain ⟨A1, c1, rfl, hl1⟩ := HR.out.form; have HB1 : Below w.heap.size w w1 := Below.then_ (by repeat (first | (with_reducible first | exact Below.refl _ _ | assumption | exact ext_box _) | (with_reducible apply Below.drew) | ((with_reducible refine Below.setCell ?_ ?hs _); (case hs => first | (simp; done) | (simp; omega) | omega)) | ((with_reducible refine Below.alloc ?_ ?hs _); (case hs => first | (simp; done) | (simp; omega) | omega)))) hb; obtain ⟨hc1, hf1⟩ := bcell hb; obtain ⟨zw10, zw11, zw12⟩ : w.heap.size < w1.heap.size ∧ w.heap.size + 1 < w1.heap.size ∧ w.heap.size + 1 + 1 < w1.heap.size := (by have := hb.size; simp at this; omega))
  refine bodyPost_ret (v := .agg #[.int .i64 r0, .slice A1 xs.length c1]) (by simp [results, Tryd.results107, go_sem, hc1, zw10, zw11, zw12]) rfl ⟨_, fp, rfl, HR.out.chg (S := fun k => k = w.heap.size + 1 ∨ k = w.heap.size + 1 + 1) (by (repeat (first | (with_reducible first | exact Chg.refl _ _ | assumption) | (with_reducible refine Chg.drew ?_) | ((with_reducible refine Chg.setCell ?_ ?hs _); (case hs => first | (simp; done) | (simp; omega) | omega)) | (with_reducible refine Chg.alloc ?_ _)))) fun b hb => ?_, fun b hb => ?_, ?_⟩
  · have := HF.out b hb; simp at this; omega
  · have := HF.out b hb; simp at this; omega
  · (repeat (first | (with_reducible first | exact Below.refl _ _ | assumption | exact ext_box _) | (with_reducible apply Below.drew) | ((with_reducible refine Below.setCell ?_ ?hs _); (case hs => first | (simp; done) | (simp; omega) | omega)) | ((with_reducible refine Below.alloc ?_ ?hs _); (case hs => first | (simp; done) | (simp; omega) | omega))))
theorem kPhi_O {e : TypeId} {w : World} {v : Value} {p : Phi} {fp : List Nat} (h : Row e (kInt .i64) w v p.args fp) : (kPhi e).O w p [.int .i64 p.dst, v] fp := by
  have hn : fp.Nodup := by obtain ⟨_, _, _, _, _, hn⟩ := h; exact hn
  exact ⟨[.int .i64 p.dst], [v], [], fp, rfl, by simp, hn, ⟨rfl, rfl⟩, ⟨v, rfl, h⟩⟩
theorem kBlock_O {e f g : TypeId} {w : World} {v1 v2 : Value} {b : Block} {fp1 fp2 : List Nat} (h1 : Row f (kPhi e) w v1 b.phis fp1) (h2 : Row g kInstr w v2 b.instrs fp2) (hn : (fp1 ++ fp2).Nodup) : (kBlock e f g).O w b [v1, v2, .int .i64 b.term.kind, .int .i64 b.term.a, .int .i64 b.term.to, .int .i64 b.term.els] (fp1 ++ fp2) := by
  have hn2 : fp2.Nodup := by obtain ⟨_, _, _, _, _, hn⟩ := h2; exact hn
  exact ⟨[v1], _, fp1, fp2, rfl, rfl, hn, ⟨v1, rfl, h1⟩, [v2], _, fp2, [], rfl, by simp, hn2, ⟨v2, rfl, h2⟩, rfl, rfl⟩
def zPhi : Phi := ⟨0, []⟩
def zBlk : Block := ⟨[], [], ⟨0, 0, 0, 0⟩⟩
theorem zPhi_info : (Tryd.prog.info? 110).map (fun i => (i.zero, i.size, i.bytes)) = some (some (.agg #[.int .i64 0, .slice none 0 0]), 2, 32) := by kernel_rfl
theorem zBlk_info : (Tryd.prog.info? 104).map (fun i => (i.zero, i.size, i.bytes)) = some (some (.agg #[.slice none 0 0, .slice none 0 0, .int .i64 0, .int .i64 0, .int .i64 0, .int .i64 0]), 6, 80) := by kernel_rfl
set_option maxHeartbeats 1000000 in
theorem toPhiS_c (A : Option Addr) (c : Nat) (xs : List Phi) (w : World) (hx : C (kPhi 0) w A xs) (hm : xs.length ≤ 1048576) (hs : ∀ (i : Nat) b, xs[i]? = some b → okPhi 1048576 b) :
    Calls Tryd.prog 93 #[.slice A xs.length c] w (RetRow 110 (kPhi 2) w xs) := by
  obtain ⟨i0, hi, hz0, hz1, hz2⟩ := info_parts zPhi_info
  go_enter Tryd.func93, Tryd.ntmps93
  go_wp2_with (at_make; refine wpList_make_full _ rfl _ _ 100 rfl 0 110 i0 _ 2 Tryd.underlying100 hi hz0 hz1 _ _ _ _ xs.length rfl rfl rfl rfl (by rw [hz2]; omega) (by simp [maxLen]; omega) (Nat.zero_le _) ?_; intro w1 ho hg)
  have hR := Lib.hid (Row.made (d := (kPhi 2)) (z := zPhi) (zc := [.int .i64 0, .slice none 0 0]) ho (by decide) (kPhi_O (p := zPhi) (Row.nil _ _ _)))
  have hB : Below w.heap.size w w1 := (Below.refl _ _).grown hg (Nat.le_refl _) (by simp)
  go_loopw [4] (fun i wr => ∃ (k : Nat) (fp : List Nat), k ≤ xs.length ∧ i = .int .i64 k ∧ Row 110 (kPhi 2) wr (.slice (some ⟨w.heap.size, 0, none⟩) xs.length xs.length) (xs.take k ++ List.replicate (xs.length - k) zPhi) fp ∧ (∀ b ∈ fp, w.heap.size ≤ b) ∧ ∃ u : Ext w, wr = u.w) (fun i _ => xs.length - (intOf i).toNat)
  case atStart => exact ⟨0, _, by omega, rfl, hR.out, by simp, ⟨w1, hB⟩, rfl⟩
  case round =>
    obtain ⟨k, fp, hk, rfl, hr, hfp, u, rfl⟩ := hrel
    have HR := Lib.hid hr
    have HF := Lib.hid hfp
    clear hr hfp ho hR
    by_cases hlt : k < xs.length
    · obtain ⟨x, ex⟩ := get_of_lt hlt
      obtain ⟨a, _, rfl, ⟨_, _, rfl, rfl, ⟨A', c', rfl, l', r'⟩⟩, hc⟩ := (hx.ext u).at ex
      have hP := hc2 (n := k * 2) hc
      obtain ⟨p0, p1⟩ := hP
      clear hc
      have hxl := hs _ _ ex
      have EX := Lib.hid ex
      clear ex
      go_wp2_with (go_at_call 107; refine (toPhi_c _ _ x _ r' hxl).mono ?_; rintro e w2 ⟨v, f, rfl, hr2, hf2, hb⟩; have HX := Lib.hid hr2; have HX2 := Lib.hid hf2; clear hr2 hf2; obtain ⟨A2, c2, rfl, _⟩ := HX.out.form; have HR2 := Lib.hid (HR.out.keep fun b hb' => hb.block b (HR.out.lt b hb')); obtain ⟨_, ⟨_, _, rfl, rfl, ⟨_, _, rfl, _⟩⟩, hq, hfz⟩ := HR2.out.cellsAt (slot_len hk) (i := k) (x := zPhi) (slot_k hlt (by simp; omega)); obtain ⟨q0, q1⟩ := ha2 (n := k * 2) hq; have f0 := hfz (k * 2); have f1 := hfz (k * 2 + 1); clear hq hfz)
      obtain ⟨fp', hr', hf', hC⟩ := HR2.out.set (slot_len hk) (i := k) hlt (kPhi_O HX.out) (fun b hb1 hb2 => by have := HR.out.lt b hb2; have := HX2.out b hb1; omega)
      rw [show k * ((kPhi 2)).sz = k * 2 from rfl, setCells2] at hr' hC
      rw [slot_set hlt EX.out] at hr'
      go_roundw
      case rel => exact ⟨k + 1, fp', by omega, by go_num, hr', fun b hb' => (hf' b hb').elim (HF.out b) (fun h => Nat.le_trans u.hb.size (HX2.out b h)), ⟨_, (Below.then_ u.hb hb).trans (hC.below (by have := u.hb.size; have := hb.size; omega) fun b hb' => by omega)⟩, rfl⟩
      case measure => simp [intOf]; omega
    · go_wp2
      go_ret
      refine ⟨_, fp, rfl, ?_, HF.out, u.hb⟩
      have := HR.out
      rwa [List.take_of_length_le (by omega), show xs.length - k = 0 by omega, List.replicate_zero, List.append_nil] at this
def RetBlk (w : World) (b : Block) (en : Ending) (w' : World) : Prop := ∃ v1 v2 fp1 fp2, en = .returned (.agg #[v1, v2, .int .i64 b.term.kind, .int .i64 b.term.a, .int .i64 b.term.to, .int .i64 b.term.els]) ∧ Row 110 (kPhi 2) w' v1 b.phis fp1 ∧ Row 107 kInstr w' v2 b.instrs fp2 ∧ (fp1 ++ fp2).Nodup ∧ (∀ b ∈ fp1 ++ fp2, w.heap.size ≤ b) ∧ Below w.heap.size w w'
set_option maxHeartbeats 2000000 in
theorem toBlock_c (A B : Option Addr) (c d : Nat) (b : Block) (w : World) (hx : C (kPhi 0) w A b.phis) (hy : C kInstr w B b.instrs) (hm : okBlk 1048576 b) :
    Calls Tryd.prog 62 #[.agg #[.slice A b.phis.length c, .slice B b.instrs.length d, .int .i64 b.term.kind, .int .i64 b.term.a, .int .i64 b.term.to, .int .i64 b.term.els]] w (RetBlk w b) := by
  obtain ⟨ps, xs, a0, a1, a2, a3⟩ := b
  obtain ⟨m1, m2, m3⟩ := hm
  dsimp only at *
  have M2 := Lib.hid m2
  clear m2
  go_enter Tryd.func62, Tryd.ntmps62
  go_wp2_with (first | (go_at_call 93; refine (toPhiS_c _ _ ps _ (hx.below (by repeat (first | (with_reducible first | exact Below.refl _ _ | assumption | exact ext_box _) | (with_reducible apply Below.drew) | ((with_reducible refine Below.setCell ?_ ?hs _); (case hs => first | (simp; done) | (simp; omega) | omega)) | ((with_reducible refine Below.alloc ?_ ?hs _); (case hs => first | (simp; done) | (simp; omega) | omega))))) m1 M2.out).mono ?_; rintro e w1 ⟨v, fp, rfl, hr, hf, hb⟩; have HR := Lib.hid hr; have HF := Lib.hid hf; clear hr hf; obtain ⟨A1, c1, rfl, hl1⟩ := HR.out.form; have HB1 : Below w.heap.size w w1 := Below.then_ (by repeat (first | (with_reducible first | exact Below.refl _ _ | assumption | exact ext_box _) | (with_reducible apply Below.drew) | ((with_reducible refine Below.setCell ?_ ?hs _); (case hs => first | (simp; done) | (simp; omega) | omega)) | ((with_reducible refine Below.alloc ?_ ?hs _); (case hs => first | (simp; done) | (simp; omega) | omega)))) hb; obtain ⟨hc1, hf1⟩ := bcell hb; obtain ⟨zw10, zw11, zw12⟩ : w.heap.size < w1.heap.size ∧ w.heap.size + 1 < w1.heap.size ∧ w.heap.size + 1 + 1 < w1.heap.size := (by have := hb.size; simp at this; omega)) | (go_at_call 94; refine (toInstrS_c _ _ xs _ (hy.below (by repeat (first | (with_reducible first | exact Below.refl _ _ | assumption | exact ext_box _) | (with_reducible apply Below.drew) | ((with_reducible refine Below.setCell ?_ ?hs _); (case hs => first | (simp; done) | (simp; omega) | omega)) | ((with_reducible refine Below.alloc ?_ ?hs _); (case hs => first | (simp; done) | (simp; omega) | omega))))) m3).mono ?_; rintro e w2 ⟨v, fq, rfl, hr, hf, hb2⟩; have HS := Lib.hid hr; have HG := Lib.hid hf; clear hr hf; obtain ⟨A2, c2, rfl, hl2⟩ := HS.out.form; have HC2 : Chg (fun k => k = w.heap.size + 1 ∨ k = w.heap.size + 1 + 1) w1 w2 := Chg.call (by (repeat (first | (with_reducible first | exact Chg.refl _ _ | assumption) | (with_reducible refine Chg.drew ?_) | ((with_reducible refine Chg.setCell ?_ ?hs _); (case hs => first | (simp; done) | (simp; omega) | omega)) | (with_reducible refine Chg.alloc ?_ _)))) hb2; have HB2 : Below w.heap.size w w2 := Below.then_ (by first | exact HB1 | (repeat (first | (with_reducible first | exact Below.refl _ _ | assumption | exact ext_box _) | (with_reducible apply Below.drew) | ((with_reducible refine Below.setCell ?_ ?hs _); (case hs => first | (simp; done) | (simp; omega) | omega)) | ((with_reducible refine Below.alloc ?_ ?hs _); (case hs => first | (simp; done) | (simp; omega) | omega))))) hb2; obtain ⟨hc2, hf2⟩ := bcell hb2; obtain ⟨zw20, zw21, zw22⟩ : w.heap.size < w2.heap.size ∧ w.heap.size + 1 < w2.heap.size ∧ w.heap.size + 1 + 1 < w2.heap.size := (by have := hb2.size; simp at this; omega)) | (go_at_call 95; refine (toTerm_c ⟨a0, a1, a2, a3⟩ _).mono ?_; rintro e w3 ⟨rfl, hb3⟩; have HC3 : Chg (fun k => k = w.heap.size + 1 ∨ k = w.heap.size + 1 + 1) w2 w3 := Chg.call (by (repeat (first | (with_reducible first | exact Chg.refl _ _ | assumption) | (with_reducible refine Chg.drew ?_) | ((with_reducible refine Chg.setCell ?_ ?hs _); (case hs => first | (simp; done) | (simp; omega) | omega)) | (with_reducible refine Chg.alloc ?_ _)))) hb3; have HB3 : Below w.heap.size w w3 := Below.then_ (by first | exact HB2 | (repeat (first | (with_reducible first | exact Below.refl _ _ | assumption | exact ext_box _) | (with_reducible apply Below.drew) | ((with_reducible refine Below.setCell ?_ ?hs _); (case hs => first | (simp; done) | (simp; omega) | omega)) | ((with_reducible refine Below.alloc ?_ ?hs _); (case hs => first | (simp; done) | (simp; omega) | omega))))) hb3; obtain ⟨hc3, hf3⟩ := bcell hb3; obtain ⟨zw30, zw31, zw32⟩ : w.heap.size < w3.heap.size ∧ w.heap.size + 1 < w3.heap.size ∧ w.heap.size + 1 + 1 < w3.heap.size := (by have := hb3.size; simp at this; omega)))
  have HC13 := HC2.trans HC3
  have hr13 := HR.out.chg HC13 (fun b hb' => by have := HF.out b hb'; simp at this; omega)
  have hlt1 := HR.out.lt
  have hn1 : fp.Nodup := by obtain ⟨_, _, _, _, _, hn⟩ := HR.out; exact hn
  have hn2 : fq.Nodup := by obtain ⟨_, _, _, _, _, hn⟩ := HS.out; exact hn
  refine bodyPost_ret (v := .agg #[.slice A1 ps.length c1, .slice A2 xs.length c2, .int .i64 a0, .int .i64 a1, .int .i64 a2, .int .i64 a3]) (by simp [results, Tryd.results62, go_sem, hc1, hc2, hc3, zw10, zw11, zw12, zw20, zw21, zw22, zw30, zw31, zw32]) rfl ⟨_, _, fp, fq, rfl, HR.out.chg (S := fun k => k = w.heap.size + 1 ∨ k = w.heap.size + 1 + 1) (by (repeat (first | (with_reducible first | exact Chg.refl _ _ | assumption) | (with_reducible refine Chg.drew ?_) | ((with_reducible refine Chg.setCell ?_ ?hs _); (case hs => first | (simp; done) | (simp; omega) | omega)) | (with_reducible refine Chg.alloc ?_ _)))) fun b hb => ?_, HS.out.chg (S := fun k => k = w.heap.size + 1 ∨ k = w.heap.size + 1 + 1) (by (repeat (first | (with_reducible first | exact Chg.refl _ _ | assumption) | (with_reducible refine Chg.drew ?_) | ((with_reducible refine Chg.setCell ?_ ?hs _); (case hs => first | (simp; done) | (simp; omega) | omega)) | (with_reducible refine Chg.alloc ?_ _)))) fun b hb => ?_, ?_, fun b hb => ?_, ?_⟩
  · have := HF.out b hb; simp at this; omega
  · have := HG.out b hb; simp at this; omega
  · refine List.nodup_append.2 ⟨hn1, hn2, fun x hx1 y hy1 => ?_⟩
    have h1 := hlt1 x hx1
    have h2 := HG.out y hy1
    simp at h2
    omega
  · rcases List.mem_append.1 hb with h | h
    · have := HF.out b h; simp at this; omega
    · have := HG.out b h; simp at this; omega
  · (repeat (first | (with_reducible first | exact Below.refl _ _ | assumption | exact ext_box _) | (with_reducible apply Below.drew) | ((with_reducible refine Below.setCell ?_ ?hs _); (case hs => first | (simp; done) | (simp; omega) | omega)) | ((with_reducible refine Below.alloc ?_ ?hs _); (case hs => first | (simp; done) | (simp; omega) | omega))))
set_option maxHeartbeats 1000000 in
theorem toBlockS_c (A : Option Addr) (c : Nat) (xs : List Block) (w : World) (hx : C (kBlock 0 0 0) w A xs) (hm : xs.length ≤ 1048576) (hs : ∀ (i : Nat) b, xs[i]? = some b → okBlk 1048576 b) :
    Calls Tryd.prog 29 #[.slice A xs.length c] w (RetRow 104 (kBlock 2 110 107) w xs) := by
  obtain ⟨i0, hi, hz0, hz1, hz2⟩ := info_parts zBlk_info
  go_enter Tryd.func29, Tryd.ntmps29
  go_wp2_with (at_make; refine wpList_make_full _ rfl _ _ 27 rfl 0 104 i0 _ 6 Tryd.underlying27 hi hz0 hz1 _ _ _ _ xs.length rfl rfl rfl rfl (by rw [hz2]; omega) (by simp [maxLen]; omega) (Nat.zero_le _) ?_; intro w1 ho hg)
  have hR := Lib.hid (Row.made (d := (kBlock 2 110 107)) (z := zBlk) (zc := [.slice none 0 0, .slice none 0 0, .int .i64 0, .int .i64 0, .int .i64 0, .int .i64 0]) ho (by decide) (kBlock_O (b := zBlk) (Row.nil _ _ _) (Row.nil _ _ _) (by simp)))
  have hB : Below w.heap.size w w1 := (Below.refl _ _).grown hg (Nat.le_refl _) (by simp)
  go_loopw [4] (fun i wr => ∃ (k : Nat) (fp : List Nat), k ≤ xs.length ∧ i = .int .i64 k ∧ Row 104 (kBlock 2 110 107) wr (.slice (some ⟨w.heap.size, 0, none⟩) xs.length xs.length) (xs.take k ++ List.replicate (xs.length - k) zBlk) fp ∧ (∀ b ∈ fp, w.heap.size ≤ b) ∧ ∃ u : Ext w, wr = u.w) (fun i _ => xs.length - (intOf i).toNat)
  case atStart => exact ⟨0, _, by omega, rfl, hR.out, by simp, ⟨w1, hB⟩, rfl⟩
  case round =>
    obtain ⟨k, fp, hk, rfl, hr, hfp, u, rfl⟩ := hrel
    have HR := Lib.hid hr
    have HF := Lib.hid hfp
    clear hr hfp ho hR
    by_cases hlt : k < xs.length
    · obtain ⟨x, ex⟩ := get_of_lt hlt
      obtain ⟨a, _, rfl, ⟨_, _, rfl, ⟨A1', c1', rfl, l1', r1'⟩, _, _, rfl, ⟨A2', c2', rfl, l2', r2'⟩, rfl⟩, hc⟩ := (hx.ext u).at ex
      have hP := hc6 (n := k * 6) hc
      obtain ⟨p0, p1, p2, p3, p4, p5⟩ := hP
      clear hc
      have hxl := hs _ _ ex
      have EX := Lib.hid ex
      clear ex
      go_wp2_with (go_at_call 62; refine (toBlock_c _ _ _ _ x _ r1' r2' hxl).mono ?_; rintro e w2 ⟨v, v', f, f', rfl, hr2, hr3, hn2, hf2, hb⟩; have HX := Lib.hid hr2; have HY := Lib.hid hr3; have HN2 := Lib.hid hn2; have HX2 := Lib.hid hf2; clear hr2 hr3 hn2 hf2; obtain ⟨A2, c2, rfl, _⟩ := HX.out.form; obtain ⟨A3, c3, rfl, _⟩ := HY.out.form; have HR2 := Lib.hid (HR.out.keep fun b hb' => hb.block b (HR.out.lt b hb')); obtain ⟨_, ⟨_, _, rfl, ⟨_, _, rfl, _⟩, _, _, rfl, ⟨_, _, rfl, _⟩, rfl⟩, hq, hfz⟩ := HR2.out.cellsAt (slot_len hk) (i := k) (x := zBlk) (slot_k hlt (by simp; omega)); obtain ⟨q0, q1, q2, q3, q4, q5⟩ := ha6 (n := k * 6) hq; have f0 := hfz (k * 6); have f1 := hfz (k * 6 + 1); have f2 := hfz (k * 6 + 2); have f3 := hfz (k * 6 + 3); have f4 := hfz (k * 6 + 4); have f5 := hfz (k * 6 + 5); clear hq hfz)
      obtain ⟨fp', hr', hf', hC⟩ := HR2.out.set (slot_len hk) (i := k) hlt (kBlock_O HX.out HY.out HN2.out) (fun b hb1 hb2 => by have := HR.out.lt b hb2; have := HX2.out b hb1; omega)
      rw [show k * ((kBlock 2 110 107)).sz = k * 6 from rfl, setCells6] at hr' hC
      rw [slot_set hlt EX.out] at hr'
      go_roundw
      case rel => exact ⟨k + 1, fp', by omega, by go_num, hr', fun b hb' => (hf' b hb').elim (HF.out b) (fun h => Nat.le_trans u.hb.size (HX2.out b h)), ⟨_, (Below.then_ u.hb hb).trans (hC.below (by have := u.hb.size; have := hb.size; omega) fun b hb' => by omega)⟩, rfl⟩
      case measure => simp [intOf]; omega
    · go_wp2
      go_ret
      refine ⟨_, fp, rfl, ?_, HF.out, u.hb⟩
      have := HR.out
      rwa [List.take_of_length_le (by omega), show xs.length - k = 0 by omega, List.replicate_zero, List.append_nil] at this
def RetFunc (w : World) (m : Func) (en : Ending) (w' : World) : Prop := ∃ v fp, en = .returned (.agg #[.int .i64 m.values, v]) ∧ Row 104 (kBlock 2 110 107) w' v m.blocks fp ∧ (∀ b ∈ fp, w.heap.size ≤ b) ∧ Below w.heap.size w w'
set_option maxHeartbeats 1000000 in
theorem toFunc_c (A : Option Addr) (c : Nat) (m : Func) (w : World) (hx : C (kBlock 0 0 0) w A m.blocks) (hm : m.blocks.length ≤ 1048576) (hs : ∀ (i : Nat) b, m.blocks[i]? = some b → okBlk 1048576 b) :
    Calls Tryd.prog 9 #[.agg #[.int .i64 m.values, .slice A m.blocks.length c]] w (RetFunc w m) := by
  obtain ⟨r0, xs⟩ := m
  dsimp only at *
  go_enter Tryd.func9, Tryd.ntmps9
  go_wp2_with (first | (go_at_call 29; refine (toBlockS_c _ _ xs _ (hx.below (by repeat (first | (with_reducible first | exact Below.refl _ _ | assumption | exact ext_box _) | (with_reducible apply Below.drew) | ((with_reducible refine Below.setCell ?_ ?hs _); (case hs => first | (simp; done) | (simp; omega) | omega)) | ((with_reducible refine Below.alloc ?_ ?hs _); (case hs => first | (simp; done) | (simp; omega) | omega))))) hm hs).mono ?_; rintro e w1 ⟨v, fp, rfl, hr, hf, hb⟩; have HR := Lib.hid hr; have HF := Lib.hid hf; clear hr hf; obtain ⟨A1, c1, rfl, hl1⟩ := HR.out.form; have HB1 : Below w.heap.size w w1 := Below.then_ (by repeat (first | (with_reducible first | exact Below.refl _ _ | assumption | exact ext_box _) | (with_reducible apply Below.drew) | ((with_reducible refine Below.setCell ?_ ?hs _); (case hs => first | (simp; done) | (simp; omega) | omega)) | ((with_reducible refine Below.alloc ?_ ?hs _); (case hs => first | (simp; done) | (simp; omega) | omega)))) hb; obtain ⟨hc1, hf1⟩ := bcell hb; obtain ⟨zw10, zw11, zw12⟩ : w.heap.size < w1.heap.size ∧ w.heap.size + 1 < w1.heap.size ∧ w.heap.size + 1 + 1 < w1.heap.size := (by have := hb.size; simp at this; omega)))
  refine bodyPost_ret (v := .agg #[.int .i64 r0, .slice A1 xs.length c1]) (by simp [results, Tryd.results9, go_sem, hc1, zw10, zw11, zw12]) rfl ⟨_, fp, rfl, HR.out.chg (S := fun k => k = w.heap.size + 1 ∨ k = w.heap.size + 1 + 1) (by (repeat (first | (with_reducible first | exact Chg.refl _ _ | assumption) | (with_reducible refine Chg.drew ?_) | ((with_reducible refine Chg.setCell ?_ ?hs _); (case hs => first | (simp; done) | (simp; omega) | omega)) | (with_reducible refine Chg.alloc ?_ _)))) fun b hb => ?_, fun b hb => ?_, ?_⟩
  · have := HF.out b hb; simp at this; omega
  · have := HF.out b hb; simp at this; omega
  · (repeat (first | (with_reducible first | exact Below.refl _ _ | assumption | exact ext_box _) | (with_reducible apply Below.drew) | ((with_reducible refine Below.setCell ?_ ?hs _); (case hs => first | (simp; done) | (simp; omega) | omega)) | ((with_reducible refine Below.alloc ?_ ?hs _); (case hs => first | (simp; done) | (simp; omega) | omega))))
end Go.Proofs.YtnbkgaofdkkdnaaDoor
