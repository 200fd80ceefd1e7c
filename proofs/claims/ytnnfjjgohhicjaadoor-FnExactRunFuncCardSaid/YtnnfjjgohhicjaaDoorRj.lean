/- Contracts: spec.l1Heap, spec.l1Exec. -/
import Derived.Test.YtnnfjjgohhicjaaDoorRo
import Derived.Test.YtnnfjjgohhicjaaDoorKp
import Derived.Test.YtnnfjjgohhicjaaDoorRe
namespace Go.Proofs.YtnnfjjgohhicjaaDoor
open Go.RowKit
set_option linter.unusedSimpArgs false
set_option linter.unusedVariables false
set_option maxRecDepth 100000

theorem heap32_snoc (hp : List Int) {k : Nat} (hk : k < 32) : (heap32 hp).take (k + 1) = (heap32 hp).take k ++ [hp.getD k 0] := take_snoc (by simp [heap32, hk])
set_option maxHeartbeats 2000000 in
theorem l1Heap_c (A : Option Addr) (c : Nat) (hp : List Int) (w : World) (hx : C kI64 w A hp) (hm : hp.length ≤ 1048576) :
    Calls Tryd.prog 64 #[.slice A hp.length c] w (RetRow 2 kI64 w (heap32 hp)) := by
  obtain ⟨i0, hi, hz0, hz1, hz2⟩ := info_parts info_i64
  go_enter Tryd.func64, Tryd.ntmps64
  go_wp2
  go_loopw [3, 4] (fun v i wr => ∃ (k : Nat) (fp : List Nat) (u : Ext w), k ≤ 32 ∧ i = .int .i64 k ∧ Row 2 kI64 wr v ((heap32 hp).take k) fp ∧ (∀ q ∈ fp, w.heap.size ≤ q) ∧ wr = u.w) (fun _ i _ => 32 - (intOf i).toNat)
  case atStart => exact ⟨0, [w.heap.size], ⟨w.alloc (.cells #[] 2), by repeat (first | (with_reducible first | exact Below.refl _ _ | assumption | exact ext_box _) | (with_reducible apply Below.drew) | ((with_reducible refine Below.setCell ?_ ?hs _); (case hs => first | (simp; done) | (simp; omega) | omega)) | ((with_reducible refine Below.alloc ?_ ?hs _); (case hs => first | (simp; done) | (simp; omega) | omega)))⟩, by omega, rfl, Row.empty0 (by simp), by simp, rfl⟩
  case round =>
    obtain ⟨k, fp, u, hk, rfl, hr, hfp, rfl⟩ := hrel
    have HR := Lib.hid hr
    have HF := Lib.hid hfp
    obtain ⟨A0, c0, hv, hl0⟩ := hr.form
    clear hr hfp
    subst hv
    have hzu := u.hb.size
    by_cases hlt : k < 32
    · have HS := Lib.hid (heap32_snoc hp hlt)
      have hl : ((heap32 hp).take k).length = k := by rw [List.length_take, heap32_len]; omega
      have HL := Lib.hid hl
      by_cases hin : k < hp.length
      · obtain ⟨y, ey⟩ := get_of_lt hin
        obtain ⟨a, _, rfl, rfl, hc⟩ := (hx.ext u).at ey
        have p0 := hc1 (n := k * 1) hc
        rw [Nat.mul_one] at p0
        have HY := Lib.hid (show hp.getD k 0 = y by rw [List.getD_eq_getElem?_getD, ey]; rfl)
        clear hc ey hl
        go_wp2_with (at_builtin; refine wpList_append_row kI64 rfl _ _ 49 rfl 2 i0 _ 8 Tryd.underlying49 hi hz0 hz1 hz2 rfl (by decide) _ _ fp rfl (HR.out.chg (S := fun _ => False) (by (repeat (first | (with_reducible first | exact Chg.refl _ _ | assumption) | (with_reducible refine Chg.drew ?_) | ((with_reducible refine Chg.setCell ?_ ?hs _); (case hs => first | (simp; done) | (simp; omega) | omega)) | (with_reducible refine Chg.alloc ?_ _)))) (by simp)) _ _ [.int .i64 y] y [] rfl ⟨rfl, rfl⟩ (by simp) (box_news (by simp)) (by have := HL.out; simp [maxLen]; omega) (by have := HL.out; omega) ?_; intro g cap w3 fp3 hr3 hf3 hC3)
        have HR3 := Lib.hid hr3
        have HF3 := Lib.hid hf3
        clear hr3 hf3
        obtain ⟨u3, rfl⟩ := u.app (by repeat (first | (with_reducible first | exact Below.refl _ _ | assumption | exact ext_box _) | (with_reducible apply Below.drew) | ((with_reducible refine Below.setCell ?_ ?hs _); (case hs => first | (simp; done) | (simp; omega) | omega)) | ((with_reducible refine Below.alloc ?_ ?hs _); (case hs => first | (simp; done) | (simp; omega) | omega)))) hC3 (fun q hq => HF.out q hq)
        go_roundw
        case rel => exact ⟨k + 1, fp3, u3, by omega, by go_num, by rw [HS.out, HY.out]; simpa using HR3.out, fun q hq => by rcases HF3.out q hq with h | h | h; exact HF.out q h; simp at h; simp at h; omega, rfl⟩
        case measure => simp [intOf]; omega
      · have HY := Lib.hid (show hp.getD k 0 = 0 by rw [List.getD_eq_getElem?_getD, List.getElem?_eq_none (by omega)]; rfl)
        clear hl
        go_wp2_with (at_builtin; refine wpList_append_row kI64 rfl _ _ 49 rfl 2 i0 _ 8 Tryd.underlying49 hi hz0 hz1 hz2 rfl (by decide) _ _ fp rfl (HR.out.chg (S := fun _ => False) (by (repeat (first | (with_reducible first | exact Chg.refl _ _ | assumption) | (with_reducible refine Chg.drew ?_) | ((with_reducible refine Chg.setCell ?_ ?hs _); (case hs => first | (simp; done) | (simp; omega) | omega)) | (with_reducible refine Chg.alloc ?_ _)))) (by simp)) _ _ [.int .i64 0] 0 [] rfl ⟨rfl, rfl⟩ (by simp) (box_news (by simp)) (by have := HL.out; simp [maxLen]; omega) (by have := HL.out; omega) ?_; intro g cap w3 fp3 hr3 hf3 hC3)
        have HR3 := Lib.hid hr3
        have HF3 := Lib.hid hf3
        clear hr3 hf3
        obtain ⟨u3, rfl⟩ := u.app (by repeat (first | (with_reducible first | exact Below.refl _ _ | assumption | exact ext_box _) | (with_reducible apply Below.drew) | ((with_reducible refine Below.setCell ?_ ?hs _); (case hs => first | (simp; done) | (simp; omega) | omega)) | ((with_reducible refine Below.alloc ?_ ?hs _); (case hs => first | (simp; done) | (simp; omega) | omega)))) hC3 (fun q hq => HF.out q hq)
        go_roundw
        case rel => exact ⟨k + 1, fp3, u3, by omega, by go_num, by rw [HS.out, HY.out]; simpa using HR3.out, fun q hq => by rcases HF3.out q hq with h | h | h; exact HF.out q h; simp at h; simp at h; omega, rfl⟩
        case measure => simp [intOf]; omega
    · have hkn : k = 32 := by omega
      subst hkn
      go_wp2
      go_ret
      refine ⟨_, fp, rfl, ?_, HF.out, u.hb⟩
      have := HR.out
      rw [List.take_of_length_le (by rw [heap32_len]; omega)] at this ⊢
      exact this
/-- Heap and trace travel in an outcome by value. -/
def ExecPost (N : Nat) (X : List Nat) (D cD G cG : Nat) (code value : Int) (s' : Wd) (w : World) (e : Ending) (w' : World) : Prop :=
  ∃ At ct, e = .returned (.tuple #[.slice (some ⟨D, 0, none⟩) s'.cells.length cD, .agg #[.int .i64 code, .int .i64 value, .int .i64 s'.steps, .slice At s'.trace.length ct, .slice (some ⟨G, 0, none⟩) 32 cG]]) ∧ Rws N X D cD G cG (.slice At s'.trace.length ct) s' w' ∧ Chg (fun k => N ≤ k ∧ k ∉ X) w w'
theorem below3 (w : World) (a b c : Obj) : Below w.heap.size w (((w.alloc a).alloc b).alloc c).drew := ((((Below.refl _ _).alloc (Nat.le_refl _) _).alloc (by simp) _).alloc (by simp; omega) _).drew
theorem below3d (w : World) (a b c : Obj) : Below w.heap.size w (((w.alloc a).alloc b).alloc c).drew.drew := (below3 w a b c).drew
theorem exFin {N : Nat} {X : List Nat} {D cD G cG : Nat} {s' : Wd} {w w1 w' : World} {At : Option Addr} {ct : Nat} {code value : Int} {e : Ending} {k : Nat} (h : Rws N X D cD G cG (.slice At s'.trace.length ct) s' w1 ∧ Chg (fun b => b = k) w w1) (hk : N ≤ k ∧ k ∉ X) (hb : Below w1.heap.size w1 w')
    (he : e = .returned (.tuple #[.slice (some ⟨D, 0, none⟩) s'.cells.length cD, .agg #[.int .i64 code, .int .i64 value, .int .i64 s'.steps, .slice At s'.trace.length ct, .slice (some ⟨G, 0, none⟩) 32 cG]])) : ExecPost N X D cD G cG code value s' w e w' :=
  ⟨At, ct, he, h.1.below hb, (h.2.mono fun b _ e => e ▸ hk).call hb⟩
section
variable (N : Nat) (X : List Nat) (D cD G cG : Nat) (s : Wd) (w : World) (A : Option Addr) (ca : Nat) (At : Option Addr) (ct : Nat) (code value : Int)
abbrev exArgs (x : Instr) : Array Value := #[x.v, .slice (some ⟨D, 0, none⟩) s.cells.length cD, .slice A s.args.length ca, .agg #[.int .i64 code, .int .i64 value, .int .i64 s.steps, .slice At s.trace.length ct, .slice (some ⟨G, 0, none⟩) 32 cG]]
set_option maxHeartbeats 2000000 in
theorem ex_const (dst a b imm : Int) (h : Rws N X D cD G cG (.slice At s.trace.length ct) s w) (hd : 0 ≤ dst ∧ dst < s.cells.length) :
    Calls Tryd.prog 65 (exArgs D cD G cG s A ca At ct code value ⟨1, dst, a, b, imm⟩) w (ExecPost N X D cD G cG code value { s with cells := setI s.cells dst imm } w) := by
  obtain ⟨r, rfl⟩ : ∃ r : Nat, dst = r := ⟨dst.toNat, by omega⟩
  obtain ⟨d1, d2⟩ := hd
  obtain ⟨qd, pd⟩ := h.reg (r := r) (by omega)
  obtain ⟨zD, zG⟩ := h.lt
  have zD1 : D < w.heap.size + 1 := by omega
  have zD2 : D < w.heap.size + 1 + 1 := by omega
  have zG1 : G < w.heap.size + 1 := by omega
  have zG2 : G < w.heap.size + 1 + 1 := by omega
  rw [Int.toNat_natCast] at qd pd
  simp only [exArgs, Instr.v]
  go_enter Tryd.func65, Tryd.ntmps65
  go_wp2
  refine wp_region_still_tail 3 (by kernel_rfl) (by kernel_rfl) ?_; simp only [List.take_succ_cons, List.take_zero, List.drop_succ_cons, List.drop_zero]; change wpStill _ _ (World.drew _) _ _ _
  repeat still_step
  refine wpStill_nil ?_
  change wpList _ _ _ _ _ (World.drew _)
  go_wp2
  exact bodyPost_ret (v := .tuple #[.slice (some ⟨D, 0, none⟩) s.cells.length cD, .agg #[.int .i64 code, .int .i64 value, .int .i64 s.steps, .slice At s.trace.length ct, .slice (some ⟨G, 0, none⟩) 32 cG]]) (by simp [results, Tryd.results65, go_sem]) rfl (exFin (h.setReg (r := r) (by omega) imm) ⟨h.2.2.2.2.1, h.2.2.2.2.2.2.1⟩ (by first | exact below3 _ _ _ _ | exact below3d _ _ _ _) (by simp only [setI_len]))
set_option maxHeartbeats 2000000 in
theorem ex_arg (dst a b imm : Int) (h : Rws N X D cD G cG (.slice At s.trace.length ct) s w) (hd : 0 ≤ dst ∧ dst < s.cells.length) (hA : C kI64 w A s.args) (hl : s.args.length ≤ 1048576) (hi : 0 ≤ imm ∧ imm < 8) :
    Calls Tryd.prog 65 (exArgs D cD G cG s A ca At ct code value ⟨2, dst, a, b, imm⟩) w (ExecPost N X D cD G cG code value { s with cells := setI s.cells dst (getI s.args imm) } w) := by
  obtain ⟨r, rfl⟩ : ∃ r : Nat, dst = r := ⟨dst.toNat, by omega⟩
  obtain ⟨d1, d2⟩ := hd
  obtain ⟨qd, pd⟩ := h.reg (r := r) (by omega)
  obtain ⟨zD, zG⟩ := h.lt
  have zD1 : D < w.heap.size + 1 := by omega
  have zD2 : D < w.heap.size + 1 + 1 := by omega
  have zG1 : G < w.heap.size + 1 := by omega
  have zG2 : G < w.heap.size + 1 + 1 := by omega
  rw [Int.toNat_natCast] at qd pd
  have HAR := fun W (hb : Below w.heap.size w W) => still_of (argOf_c A ca s.args imm W (hA.below hb) hi.1 hi.2 hl)
  simp only [exArgs, Instr.v]
  go_enter Tryd.func65, Tryd.ntmps65
  go_wp2
  refine wp_region_still_tail 7 (by kernel_rfl) (by kernel_rfl) ?_; simp only [List.take_succ_cons, List.take_zero, List.drop_succ_cons, List.drop_zero]; change wpStill _ _ (World.drew _) _ _ _
  repeat (first | still_step | still_call (HAR _ (by (repeat (first | (with_reducible first | exact Below.refl _ _ | assumption | exact ext_box _) | (with_reducible apply Below.drew) | ((with_reducible refine Below.setCell ?_ ?hs _); (case hs => first | (simp; done) | (simp; omega) | omega)) | ((with_reducible refine Below.alloc ?_ ?hs _); (case hs => first | (simp; done) | (simp; omega) | omega)))))))
  refine wpStill_nil ?_
  change wpList _ _ _ _ _ (World.drew _)
  go_wp2
  refine wp_region_still_tail 3 (by kernel_rfl) (by kernel_rfl) ?_; simp only [List.take_succ_cons, List.take_zero, List.drop_succ_cons, List.drop_zero]; change wpStill _ _ (World.drew _) _ _ _
  repeat still_step
  refine wpStill_nil ?_
  change wpList _ _ _ _ _ (World.drew _)
  go_wp2
  exact bodyPost_ret (v := .tuple #[.slice (some ⟨D, 0, none⟩) s.cells.length cD, .agg #[.int .i64 code, .int .i64 value, .int .i64 s.steps, .slice At s.trace.length ct, .slice (some ⟨G, 0, none⟩) 32 cG]]) (by simp [results, Tryd.results65, go_sem]) rfl (exFin (h.setReg (r := r) (by omega) _) ⟨h.2.2.2.2.1, h.2.2.2.2.2.2.1⟩ (by first | exact below3 _ _ _ _ | exact below3d _ _ _ _) (by simp only [setI_len]))
set_option maxHeartbeats 2000000 in
theorem ex_load (dst a b imm : Int) (h : Rws N X D cD G cG (.slice At s.trace.length ct) s w) (hd : 0 ≤ dst ∧ dst < s.cells.length) (ha : 0 ≤ a ∧ a < s.cells.length) :
    Calls Tryd.prog 65 (exArgs D cD G cG s A ca At ct code value ⟨8, dst, a, b, imm⟩) w (ExecPost N X D cD G cG code value { s with cells := setI s.cells dst (getI s.heap (getI s.cells a % 32)) } w) := by
  obtain ⟨r, rfl⟩ : ∃ r : Nat, dst = r := ⟨dst.toNat, by omega⟩
  obtain ⟨d1, d2⟩ := hd
  obtain ⟨k, rfl⟩ : ∃ k : Nat, a = k := ⟨a.toNat, by omega⟩
  obtain ⟨a1, a2⟩ := ha
  obtain ⟨qd, pd⟩ := h.reg (r := r) (by omega)
  obtain ⟨qa, pa⟩ := h.reg (r := k) (by omega)
  obtain ⟨zD, zG⟩ := h.lt
  have zD1 : D < w.heap.size + 1 := by omega
  have zD2 : D < w.heap.size + 1 + 1 := by omega
  have zG1 : G < w.heap.size + 1 := by omega
  have zG2 : G < w.heap.size + 1 + 1 := by omega
  have hm := mod32 (getI s.cells k)
  obtain ⟨g1, g2⟩ := h.hp (r := getI s.cells k % 32) (by omega)
  rw [Int.toNat_natCast] at qd pd qa pa
  have HCE := fun W => still_of (cellS_c (getI s.cells k) W)
  obtain ⟨hm1, hm2⟩ := hm
  simp only [exArgs, Instr.v]
  go_enter Tryd.func65, Tryd.ntmps65
  go_wp2
  refine wp_region_still_tail 13 (by kernel_rfl) (by kernel_rfl) ?_; simp only [List.take_succ_cons, List.take_zero, List.drop_succ_cons, List.drop_zero]; change wpStill _ _ (World.drew _) _ _ _
  repeat (first | still_step | still_call (HCE _))
  refine wpStill_nil ?_
  change wpList _ _ _ _ _ (World.drew _)
  go_wp2
  refine wp_region_still_tail 3 (by kernel_rfl) (by kernel_rfl) ?_; simp only [List.take_succ_cons, List.take_zero, List.drop_succ_cons, List.drop_zero]; change wpStill _ _ (World.drew _) _ _ _
  repeat still_step
  refine wpStill_nil ?_
  change wpList _ _ _ _ _ (World.drew _)
  go_wp2
  exact bodyPost_ret (v := .tuple #[.slice (some ⟨D, 0, none⟩) s.cells.length cD, .agg #[.int .i64 code, .int .i64 value, .int .i64 s.steps, .slice At s.trace.length ct, .slice (some ⟨G, 0, none⟩) 32 cG]]) (by simp [results, Tryd.results65, go_sem]) rfl (exFin (h.setReg (r := r) (by omega) _) ⟨h.2.2.2.2.1, h.2.2.2.2.2.2.1⟩ (by first | exact below3 _ _ _ _ | exact below3d _ _ _ _) (by simp only [setI_len]))
set_option maxHeartbeats 2000000 in
theorem ex_store (dst a b imm : Int) (h : Rws N X D cD G cG (.slice At s.trace.length ct) s w) (ha : 0 ≤ a ∧ a < s.cells.length) (hb : 0 ≤ b ∧ b < s.cells.length) :
    Calls Tryd.prog 65 (exArgs D cD G cG s A ca At ct code value ⟨9, dst, a, b, imm⟩) w (ExecPost N X D cD G cG code value { s with heap := setI s.heap (getI s.cells a % 32) (getI s.cells b) } w) := by
  obtain ⟨k, rfl⟩ : ∃ k : Nat, a = k := ⟨a.toNat, by omega⟩
  obtain ⟨a1, a2⟩ := ha
  obtain ⟨l, rfl⟩ : ∃ l : Nat, b = l := ⟨b.toNat, by omega⟩
  obtain ⟨b1, b2⟩ := hb
  obtain ⟨qa, pa⟩ := h.reg (r := k) (by omega)
  obtain ⟨qb, pb⟩ := h.reg (r := l) (by omega)
  obtain ⟨zD, zG⟩ := h.lt
  have zD1 : D < w.heap.size + 1 := by omega
  have zD2 : D < w.heap.size + 1 + 1 := by omega
  have zG1 : G < w.heap.size + 1 := by omega
  have zG2 : G < w.heap.size + 1 + 1 := by omega
  have hm := mod32 (getI s.cells k)
  obtain ⟨g1, g2⟩ := h.hp (r := getI s.cells k % 32) (by omega)
  rw [Int.toNat_natCast] at qa pa qb pb
  have HCE := fun W => still_of (cellS_c (getI s.cells k) W)
  have HSH := Lib.hid (h.setHp (r := getI s.cells k % 32) (by omega) (getI s.cells l))
  obtain ⟨hm1, hm2⟩ := hm
  simp only [exArgs, Instr.v]
  go_enter Tryd.func65, Tryd.ntmps65
  go_wp2
  refine wp_region_still_tail 13 (by kernel_rfl) (by kernel_rfl) ?_; simp only [List.take_succ_cons, List.take_zero, List.drop_succ_cons, List.drop_zero]; change wpStill _ _ (World.drew _) _ _ _
  repeat (first | still_step | still_call (HCE _))
  refine wpStill_nil ?_
  change wpList _ _ _ _ _ (World.drew _)
  go_wp2
  refine wp_region_still_tail 3 (by kernel_rfl) (by kernel_rfl) ?_; simp only [List.take_succ_cons, List.take_zero, List.drop_succ_cons, List.drop_zero]; change wpStill _ _ (World.drew _) _ _ _
  repeat still_step
  refine wpStill_nil ?_
  change wpList _ _ _ _ _ (World.drew _)
  go_wp2
  exact bodyPost_ret (v := .tuple #[.slice (some ⟨D, 0, none⟩) s.cells.length cD, .agg #[.int .i64 code, .int .i64 value, .int .i64 s.steps, .slice At s.trace.length ct, .slice (some ⟨G, 0, none⟩) 32 cG]]) (by simp [results, Tryd.results65, go_sem]) rfl (exFin HSH.out ⟨h.2.2.2.2.2.1, h.2.2.2.2.2.2.2.1⟩ (by (repeat (first | (with_reducible first | exact Below.refl _ _ | assumption | exact ext_box _) | (with_reducible apply Below.drew) | ((with_reducible refine Below.setCell ?_ ?hs _); (case hs => first | (simp; done) | (simp; omega) | omega)) | ((with_reducible refine Below.alloc ?_ ?hs _); (case hs => first | (simp; done) | (simp; omega) | omega))))) rfl)
set_option maxHeartbeats 2000000 in
theorem ex_ari (dst a b imm : Int) (h : Rws N X D cD G cG (.slice At s.trace.length ct) s w) (hd : 0 ≤ dst ∧ dst < s.cells.length) (ha : 0 ≤ a ∧ a < s.cells.length) (hb : 0 ≤ b ∧ b < s.cells.length) (op : Int) (hop : 3 ≤ op ∧ op ≤ 7) (hz : op = 6 → getI s.cells b ≠ 0) :
    Calls Tryd.prog 65 (exArgs D cD G cG s A ca At ct code value ⟨op, dst, a, b, imm⟩) w (ExecPost N X D cD G cG code value { s with cells := setI s.cells dst (arithP op (getI s.cells a) (getI s.cells b)) } w) := by
  obtain ⟨r, rfl⟩ : ∃ r : Nat, dst = r := ⟨dst.toNat, by omega⟩
  obtain ⟨d1, d2⟩ := hd
  obtain ⟨k, rfl⟩ : ∃ k : Nat, a = k := ⟨a.toNat, by omega⟩
  obtain ⟨a1, a2⟩ := ha
  obtain ⟨l, rfl⟩ : ∃ l : Nat, b = l := ⟨b.toNat, by omega⟩
  obtain ⟨b1, b2⟩ := hb
  obtain ⟨qd, pd⟩ := h.reg (r := r) (by omega)
  obtain ⟨qa, pa⟩ := h.reg (r := k) (by omega)
  obtain ⟨qb, pb⟩ := h.reg (r := l) (by omega)
  obtain ⟨zD, zG⟩ := h.lt
  have zD1 : D < w.heap.size + 1 := by omega
  have zD2 : D < w.heap.size + 1 + 1 := by omega
  have zG1 : G < w.heap.size + 1 := by omega
  have zG2 : G < w.heap.size + 1 + 1 := by omega
  rw [Int.toNat_natCast] at qd pd qa pa qb pb
  have HAR := fun W => still_of (arithS_c op (getI s.cells k) (getI s.cells l) W hop.1 hop.2 hz)
  have e1 : (op == 1) = false := by simp; omega
  have e2 : (op == 2) = false := by simp; omega
  have e3 : (op == 8) = false := by simp; omega
  have e4 : (op == 9) = false := by simp; omega
  have e5 : (op == 10) = false := by simp; omega
  simp only [exArgs, Instr.v]
  go_enter Tryd.func65, Tryd.ntmps65
  go_wp2
  refine wp_region_still_tail 16 (by kernel_rfl) (by kernel_rfl) ?_; simp only [List.take_succ_cons, List.take_zero, List.drop_succ_cons, List.drop_zero]; change wpStill _ _ (World.drew _) _ _ _
  repeat (first | still_step | still_call (HAR _))
  refine wpStill_nil ?_
  change wpList _ _ _ _ _ (World.drew _)
  go_wp2
  refine wp_region_still_tail 3 (by kernel_rfl) (by kernel_rfl) ?_; simp only [List.take_succ_cons, List.take_zero, List.drop_succ_cons, List.drop_zero]; change wpStill _ _ (World.drew _) _ _ _
  repeat still_step
  refine wpStill_nil ?_
  change wpList _ _ _ _ _ (World.drew _)
  go_wp2
  exact bodyPost_ret (v := .tuple #[.slice (some ⟨D, 0, none⟩) s.cells.length cD, .agg #[.int .i64 code, .int .i64 value, .int .i64 s.steps, .slice At s.trace.length ct, .slice (some ⟨G, 0, none⟩) 32 cG]]) (by simp [results, Tryd.results65, go_sem]) rfl (exFin (h.setReg (r := r) (by omega) _) ⟨h.2.2.2.2.1, h.2.2.2.2.2.2.1⟩ (by first | exact below3 _ _ _ _ | exact below3d _ _ _ _) (by simp only [setI_len]))
end
end Go.Proofs.YtnnfjjgohhicjaaDoor
