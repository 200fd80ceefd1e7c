/- Contract: spec.l2Source. -/
import Derived.Test.YtnnfjjgohhicjaaDn
import Derived.Deep.RegionLaw
import Derived.StillTailTactics
namespace Go.Proofs.Ytnnfjjgohhicjaa
open Go.RowKit
set_option linter.unusedSimpArgs false
set_option linter.unusedVariables false
set_option maxRecDepth 100000

theorem step_append_row {P : Program} {ops : Array Oper} {o : Oper} {a : Act} {K : Act → World → Prop} {Q : Exit → Act → World → Prop} {E : Prop} {w : World} {α : Type} (d : Kd α) (hgd : o.guard = none) (s x : Operand) (t : TypeId)
    (ho : o.op = .call { callee := .builtin .append, args := #[s, x], argTypes := #[t, t] })
    (e : TypeId) (i : TypeInfo) (z : Value) (bytes : Nat) (ht : P.underlying t = some (.slice e)) (hi : P.info? e = some i) (hz : i.zero = some z)
    (hsize : i.size = d.sz) (hby : i.bytes = bytes) (hzs : z.cells.size = d.sz) (hsz : 0 < d.sz)
    (v : Value) (xs : List α) (fp : List Nat) (hs : a.eval s = v) (hrow : Row e d w v xs fp)
    (ad : Addr) (c : Nat) (news : List Value) (y : α) (f : List Nat) (hx : a.eval x = .slice (some ad) 1 c) (hO : d.O w y news f) (hf : ∀ b ∈ f, b ∉ fp) (hnews : ∀ (j : Nat) u, news[j]? = some u → w.cell? (ad.add j) = some u)
    (h63 : xs.length + 1 ≤ maxLen) (hbytes : (xs.length + 1) * bytes ≤ 140737488355328)
    (h : ∀ g cap w' fp', Row e d w' (.slice (some ⟨g, 0, none⟩) (xs.length + 1) cap) (xs ++ [y]) fp' → (∀ b ∈ fp', b ∈ fp ∨ b ∈ f ∨ b = w.heap.size) → Chg (fun k => k ∈ fp) w w' → K (a.put o.dst (.slice (some ⟨g, 0, none⟩) (xs.length + 1) cap)) w') : if Region.wanted o (yielded ops a.tmps) = true then Oper.wp P o a w K Q else E := by
  obtain ⟨css, fps, how, ha, rfl, hn⟩ := hrow
  refine step_append_lies w hgd s x t ho 0 e i z d.sz bytes ht hi hz hsize hby hzs hsz v xs.length css.flatten hs how ad 1 c news hx (by rw [Nat.one_mul]; exact d.len (d.read hO)) hnews (d.one (d.read hO)) (by omega) h63 hbytes (Nat.zero_le _) w.heap.size rfl ?_
  intro g cap w' h2 h3 h4 _
  have hc := Chg.of_grown h3
  refine h g cap w' _ (Row.snoc how ha hn hO hf h2 hc h4) ?_ (hc.mono fun k _ hk => by simp [hk])
  intro b hb
  rcases List.mem_cons.1 hb with rfl | hb
  · rcases h4 with h4 | h4
    · exact .inl (by simp [h4])
    · exact .inr (.inr h4)
  · rcases List.mem_append.1 hb with hb | hb
    · exact .inl (List.mem_append_right _ hb)
    · exact .inr (.inl hb)
theorem row_reads {α : Type} {e : TypeId} {d : Kd α} {w : World} {A : Option Addr} {n c : Nat} {xs : List α} {fp : List Nat} (h : Row e d w (.slice A n c) xs fp) (hn : n = xs.length) : C d w A xs := by subst hn; exact h.reads
theorem mix_w {m : Int} {x : Nat} (h0 : 0 ≤ m) (h1 : m < 1000003) (h2 : x < 256) : (wrap64 (wrap64 (m * 257 + wrap64 (x : Int)) + 1)).tmod 1000003 = (m * 257 + (x : Int) + 1) % 1000003 := by
  have e1 : wrap64 (x : Int) = x := by unfold wrap64; omega
  have e2 : wrap64 (m * 257 + (x : Int)) = m * 257 + (x : Int) := by unfold wrap64; omega
  have e3 : wrap64 (m * 257 + (x : Int) + 1) = m * 257 + (x : Int) + 1 := by unfold wrap64; omega
  rw [e1, e2, e3, Int.tmod_eq_emod_of_nonneg (by omega)]
theorem info_byte : (Try.prog.info? 5).map (fun i => (i.zero, i.size, i.bytes)) = some (some (.int .u8 0), 1, 1) := by kernel_rfl
def SrcPost (w : World) (bytes : List UInt8) (e : Ending) (w' : World) : Prop := ∃ S Ac cc, e = .returned (.pointer (some ⟨S, 0, none⟩)) ∧ SrcB S (srcOf bytes) Ac cc w' ∧ w.heap.size ≤ S ∧ Below w.heap.size w w'
theorem srcB_of {S i cv : Nat} {w : World} {bytes : List UInt8} {Av : Option Addr} {m z : Int} {fp : List Nat} (hb : Bk S 57 [.slice Av i cv, .int .i64 0, .int .i64 m, .int .i64 z] w) (hi : i = (bytes.take 4000).length)
    (hm : m = mixL ((bytes.take 4000).take i) ((bytes.length : Int) % 1000 + 29)) (hz : z = (srcOf bytes).size) (hr : Row 5 kB w (.slice Av i cv) (bytes.take 4000) fp) (hf : ∀ q ∈ fp, S < q) : SrcB S (srcOf bytes) Av cv w := by
  subst hi
  rw [List.take_of_length_le (Nat.le_refl _)] at hm
  subst hm
  subst hz
  refine ⟨hb, hr.reads, fun a ha e => ?_, fun a ha => ?_⟩
  all_goals
    rcases hr.form' with ⟨h1, _, _⟩ | ⟨g, cap, h1, h2, _⟩
    · injection h1 with h1; rw [ha] at h1; cases h1
    · injection h1 with h1
      rw [ha] at h1
      injection h1 with h1
      subst h1
      have := hf g h2
      have := hr.lt g h2
      first | exact this | (simp only at e; omega)
set_option maxHeartbeats 4000000 in
theorem source_c (A : Option Addr) (c : Nat) (bytes : List UInt8) (w : World) (hx : C kB w A bytes) (hl : bytes.length ≤ 1048576) :
    Calls Try.prog 23 #[.slice A bytes.length c] w (SrcPost w bytes) := by
  obtain ⟨i0, hi, hz0, hz1, hz2⟩ := info_parts info_byte
  go_enter Try.func23, Try.ntmps23
  go_upto_region 3 with (fail)
  have K0 := Lib.hid (Bk.made w 57 [.slice none 0 0, .int .i64 0, .int .i64 0, .int .i64 0])
  have HB0 := Lib.hid (show Below w.heap.size w (w.alloc (.cells #[.slice none 0 0, .int .i64 0, .int .i64 0, .int .i64 0] 57)) from (Below.refl _ _).alloc (Nat.le_refl _) _)
  go_loopw [4] (fun t4 wr => ∃ (k : Nat) (v : Value) (fp : List Nat) (u : Ext w), k ≤ (bytes.take 4000).length ∧ t4 = .int .i64 k ∧ Bk w.heap.size 57 [v, .int .i64 0, .int .i64 0, .int .i64 0] wr ∧ Row 5 kB wr v ((bytes.take 4000).take k) fp ∧ (∀ q ∈ fp, w.heap.size < q) ∧ wr = u.w) (fun t4 _ => (bytes.take 4000).length - (intOf t4).toNat)
  case atStart => exact ⟨0, _, [], ⟨_, HB0.out⟩, by omega, rfl, K0.out, Row.nil _ _ _, by simp, rfl⟩
  case round =>
    clear K0 HB0
    obtain ⟨k, v, fp, u, hk, rfl, hb, hr, hf, rfl⟩ := hrel
    have HK := Lib.hid hb
    have HR := Lib.hid hr
    have HF := Lib.hid hf
    obtain ⟨Av, cv, rfl, hvl⟩ := hr.form
    have hlk : ((bytes.take 4000).take k).length = k := List.length_take_of_le hk
    have q0 := hb.cell 0 (v := .slice Av ((bytes.take 4000).take k).length cv) rfl
    have zS := hb.lt
    have fS := hb.frozen
    obtain ⟨ys, hys⟩ : ∃ ys, (bytes.take 4000).take k = ys := ⟨_, rfl⟩
    rw [hys] at hlk HR q0 HK
    rw [hlk] at HR q0 HK
    (try simp only [hys, hlk])
    have HYS := Lib.hid hys
    clear hb hr hf hys
    by_cases hlt : k < (bytes.take 4000).length
    · have hk1 : k < bytes.length := by rw [List.length_take] at hlt; omega
      have hk2 : k < 4000 := by rw [List.length_take] at hlt; omega
      obtain ⟨x, ex⟩ := get_of_lt hk1
      obtain ⟨a, _, rfl, rfl, hc⟩ := hx.at ex
      have v0 : w.cell? (a.add k) = some (.int .u8 (x.toNat : Int)) := by have := hc1 (n := k * 1) hc; rwa [Nat.mul_one] at this
      have v1 := (u.hb.cell (World.block_lt_of_cell? w _ v0)).trans v0
      have zv : (a.add k).block < u.w.heap.size := World.block_lt_of_cell? u.w _ v1
      have HEX := Lib.hid ex
      clear hc ex v0
      have HNE := Lib.hid (show w.heap.size ∉ fp from fun hm => by have := HF.out _ hm; omega)
      go_wp2
      go_region_law
        (first
        | (refine step_append_row kB rfl _ _ 34 rfl 5 i0 _ 1 Try.underlying34 hi hz0 hz1 hz2 rfl (by decide) _ ys fp rfl (HR.out.chg (S := fun _ => False) (by (repeat (first | (with_reducible first | exact Chg.refl _ _ | assumption) | (with_reducible refine Chg.drew ?_) | ((with_reducible refine Chg.setCell ?_ ?hs _); (case hs => first | (simp; done) | (simp; omega) | omega)) | (with_reducible refine Chg.alloc ?_ _)))) (by simp)) _ _ [.int .u8 (x.toNat : Int)] x [] rfl ⟨rfl, rfl⟩ (by simp) (box_news (by simp)) (by simp [maxLen]; omega) (by omega) ?_; intro g cap w3 fp3 hr3 hf3 hC3; have hC4 : Chg (fun q => q ∈ fp) u.w w3 := Chg.trans (by (repeat (first | (with_reducible first | exact Chg.refl _ _ | assumption) | (with_reducible refine Chg.drew ?_) | ((with_reducible refine Chg.setCell ?_ ?hs _); (case hs => first | (simp; done) | (simp; omega) | omega)) | (with_reducible refine Chg.alloc ?_ _)))) hC3; have K3 := HK.out.chg hC4 HNE.out; have d0 := K3.cell 0 rfl; have d1 := K3.frozen; have d2 := K3.lt; have HK3 := Lib.hid K3; clear K3)
        | fail)
      all_goals
        obtain ⟨hb5, hc5⟩ := HK3.out.set 0 (.slice (some ⟨g, 0, none⟩) (k + 1) cap)
        have hf5 : ∀ q ∈ fp3, w.heap.size < q := fun q hq => by
          rcases hf3 q hq with h | h | h
          · exact HF.out q h
          · simp at h
          · simp at h; omega
        have HSN := Lib.hid (show (bytes.take 4000).take (k + 1) = ys ++ [x] by rw [take_snoc (x := x) (by rw [List.getElem?_take_of_lt hk2]; exact HEX.out), HYS.out])
        have hsz := u.hb.size
        have hs3 := hC4.size
        rw [hlk] at hr3
        go_wp2
        refine ⟨⟨k + 1, _, fp3, ⟨_, u.hb.trans ((hC4.below hsz fun q hq => Nat.le_of_lt (HF.out q hq)).trans (hc5.below (by omega) fun q hq => by omega))⟩, by omega, by go_num, hb5, by rw [HSN.out]; exact hr3.chg hc5 (fun q hq e => by have := hf5 q hq; omega), hf5, rfl⟩, by simp [intOf]; omega⟩
    · have hkl : k = (bytes.take 4000).length := by omega
      have hys2 : ys = bytes.take 4000 := by rw [← HYS.out, hkl]; exact List.take_of_length_le (Nat.le_refl _)
      subst hys2
      have hm0 : ((bytes.length : Int)).tmod 1000 = (bytes.length : Int) % 1000 := Int.tmod_eq_emod_of_nonneg (by omega)
      have hcc : ¬ (k < bytes.length) ∨ (k < bytes.length ∧ ¬ k < 4000) := by
        by_cases h : k < bytes.length
        · exact .inr ⟨h, by rw [List.length_take] at hlt; omega⟩
        · exact .inl h
      have HKL := Lib.hid hkl
      clear hkl hlt hm0
      have q2 := HK.out.cell 2 (v := .int .i64 0) rfl
      have HM := Lib.hid (show wrap64 ((bytes.length : Int) % 1000 + 29) = mixL ((bytes.take 4000).take 0) ((bytes.length : Int) % 1000 + 29) by show _ = (bytes.length : Int) % 1000 + 29; unfold wrap64; omega)
      rcases hcc with hcc | ⟨hc1, hc2⟩
      all_goals
        go_wp2
        obtain ⟨hb6, hc6⟩ := HK.out.set 2 (.int .i64 ((bytes.length : Int) % 1000 + 29))
        have hr6 := HR.out.chg hc6 (fun q hq e => by have := HF.out q hq; omega)
        have hB6 : Below w.heap.size u.w _ := hc6.below (Nat.le_of_lt zS) fun q hq => by omega
        go_loopw [5] (fun t5 wr => ∃ (i : Nat) (m : Int) (u2 : Ext w), i ≤ k ∧ t5 = .int .i64 i ∧ m = mixL ((bytes.take 4000).take i) ((bytes.length : Int) % 1000 + 29) ∧ Bk w.heap.size 57 [.slice Av k cv, .int .i64 0, .int .i64 m, .int .i64 0] wr ∧ Row 5 kB wr (.slice Av k cv) (bytes.take 4000) fp ∧ wr = u2.w) (fun t5 _ => k - (intOf t5).toNat)
        case atStart => exact ⟨0, _, ⟨_, u.hb.trans hB6⟩, by omega, rfl, rfl, hb6, hr6, rfl⟩
        case round =>
          clear HK HR q0 q2 hb6 hc6 hr6 hB6 fS zS
          obtain ⟨i, m, u2, hi, rfl, hm, hb, hr, rfl⟩ := hrel
          have hmr := mixL_rg ((bytes.take 4000).take i) (m := (bytes.length : Int) % 1000 + 29) (by omega) (by omega)
          rw [← hm] at hmr
          have HM := Lib.hid hm
          have HK := Lib.hid hb
          have HR := Lib.hid hr
          have q0 := hb.cell 0 (v := .slice Av k cv) rfl
          have q2 := hb.cell 2 (v := .int .i64 m) rfl
          have zS := hb.lt
          have fS := hb.frozen
          have hk4 : k ≤ 4000 := by have := HKL.out; rw [List.length_take] at this; omega
          by_cases hlt : i < k
          · obtain ⟨x, ex⟩ := get_of_lt (xs := bytes.take 4000) (k := i) (by rw [← HKL.out]; exact hlt)
            obtain ⟨a, _, ha, rfl, hc⟩ := (row_reads hr HKL.out).at ex
            subst ha
            have v0 : u2.w.cell? (a.add i) = some (.int .u8 (x.toNat : Int)) := by have := _root_.Go.Proofs.Ytnnfjjgohhicjaa.hc1 (n := i * 1) hc; rwa [Nat.mul_one] at this
            have HEX := Lib.hid ex
            clear hb hr hm hc ex
            go_wp2
            refine wp_region_still_tail 13 (by kernel_rfl) (by kernel_rfl) ?_; simp only [List.take_succ_cons, List.take_zero, List.drop_succ_cons, List.drop_zero]; change wpStill _ _ (World.drew _) _ _ _
            repeat still_step
            refine wpStill_nil ?_
            change wpList _ _ _ _ _ (World.drew _)
            go_wp2
            have hx8 := x.toNat_lt
            have hw := mix_w hmr.1 hmr.2 hx8
            have hw2 : wrap64 ((i : Int) + 1) = (i : Int) + 1 := by unfold wrap64; omega
            rw [hw]
            (try rw [hw2])
            clear hw hw2
            obtain ⟨hb9, hc9⟩ := HK.out.set 2 (.int .i64 ((m * 257 + (x.toNat : Int) + 1) % 1000003))
            have hr9 := HR.out.chg hc9 (fun q hq e => by have := HF.out q hq; omega)
            have hB9 : Below w.heap.size u2.w _ := hc9.below u2.hb.size fun q hq => by omega
            refine ⟨⟨i + 1, (m * 257 + (x.toNat : Int) + 1) % 1000003, ⟨_, (u2.hb.trans hB9).drew⟩, hlt, ?_, ?_, bk_drew hb9, ?_, rfl⟩, ?_⟩
            · show Value.int .i64 ((i : Int) + 1) = .int .i64 ((i + 1 : Nat) : Int)
              rw [Int.natCast_add]; rfl
            · rw [take_snoc HEX.out, mixL_snoc, ← HM.out]
            · exact hr9
            · show k - ((i : Int) + 1).toNat < k - (i : Int).toNat
              omega
          · have hik : i = k := by omega
            subst hik
            have q3 := hb.cell 3 (v := .int .i64 0) rfl
            obtain ⟨z, hz⟩ : ∃ z, ((i : Int)).tdiv 50 = z := ⟨_, rfl⟩
            have hz2 : z = (i : Int) / 50 := by rw [← hz]; exact Int.tdiv_eq_ediv_of_nonneg (by omega)
            have hzr : 0 ≤ z ∧ z ≤ 80 := by omega
            have HZ := Lib.hid hz2
            obtain ⟨hzr1, hzr2⟩ := hzr
            clear hi hlt hz2
            have hqw : wrap64 (1 + z) = 1 + z := by unfold wrap64; omega
            clear hb hr hm hmr
            have HS := Lib.hid (show (srcOf bytes).size = if 1 + z > 7 then 7 else 1 + z by rw [HZ.out, HKL.out]; rfl)
            obtain ⟨hbA, hcA⟩ := HK.out.set 3 (.int .i64 (1 + z))
            have hBA : Below w.heap.size u2.w _ := hcA.below u2.hb.size fun q hq => by omega
            have hrA := HR.out.chg hcA (fun q hq e => by have := HF.out q hq; omega)
            obtain ⟨hbB, hcB⟩ := hbA.set 3 (.int .i64 7)
            have hBB := hcB.below (B := w.heap.size) (by have := hBA.size; have := u2.hb.size; omega) fun q hq => by omega
            have hrB := hrA.chg hcB (fun q hq e => by have := HF.out q hq; omega)
            by_cases h7 : 1 + z > 7
            · go_wp2
              go_ret
              exact ⟨w.heap.size, Av, cv, rfl, srcB_of hbB HKL.out HM.out (by rw [HS.out, if_pos (by omega)]) hrB HF.out, Nat.le_refl _, (u2.hb.trans hBA).trans hBB⟩
            · go_wp2
              go_ret
              exact ⟨w.heap.size, Av, cv, rfl, srcB_of hbA HKL.out HM.out (by rw [HS.out, if_neg (by omega)]) hrA HF.out, Nat.le_refl _, u2.hb.trans hBA⟩
end Go.Proofs.Ytnnfjjgohhicjaa
