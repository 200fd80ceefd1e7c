/- Contracts: spec.l1PutLine. -/
import Derived.Test.YtnnfjjgohhicjaaDoorEb
namespace Go.Proofs.YtnnfjjgohhicjaaDoor
open Go.RowKit
set_option linter.unusedSimpArgs false
set_option linter.unusedVariables false
set_option maxRecDepth 100000

theorem C_int_keep' {q : IntKind} {w w' : World} {A : Option Addr} {xs : List Int} (h : C (kInt q) w A xs) (hk : ∀ a, A = some a → a.block < w.heap.size → w'.heap[a.block]? = w.heap[a.block]?) : C (kInt q) w' A xs := by
  intro i x hx
  obtain ⟨a, cs, hA, rfl, hc⟩ := h i x hx
  refine ⟨a, _, hA, rfl, fun j u hu => ?_⟩
  have h1 := hc j u hu
  have h2 := World.block_lt_of_cell? w _ h1
  rw [add_block] at h2
  exact (World.cell?_of_block (by rw [add_block]; exact hk a hA h2)).trans h1
set_option maxHeartbeats 2000000 in
theorem putLine_c (A : Option Addr) (c : Nat) (xs word : List UInt8) (V : Option Addr) (cv : Nat) (v : List Int) (fp : List Nat) (w : World) (h : Row 5 kU8 w (.slice A xs.length c) xs fp) (hV : C kI64 w V v) (hS : Small v) (hvl : v.length ≤ 1048576) (hd : ∀ a, V = some a → a.block ∉ fp) (hl : xs.length ≤ 549755813888) (hwl : word.length ≤ 100) :
    Calls Tryd.prog 55 #[.slice A xs.length c, sv word, .slice V v.length cv] w (AppB w fp xs (lineB word v)) := by
  obtain ⟨i0, hi, hz0, hz1, hz2⟩ := info_parts info_u8
  have HV := Lib.hid (fun W (hc : Chg (fun k => k ∈ fp ∨ w.heap.size ≤ k) w W) => show C kI64 W V v from C_int_keep' hV fun a ha hlt => hc.block _ hlt fun e => e.elim (hd a ha) (by omega))
  have HPW := Lib.hid (put_c A c xs word fp w h (by omega))
  have HS := Lib.hid hS
  have HFL := Lib.hid (flat_len hS)
  clear h hV hd
  go_enter Tryd.func55, Tryd.ntmps55
  go_wp2_with (go_at_call 85; (with_reducible refine HPW.out.mono ?_); intro e w1 hp; unfold AppB at hp; obtain ⟨A1, c1, fp1, rfl, hr1, hf1, hc1⟩ := hp)
  have HR1 := Lib.hid hr1
  have HF1 := Lib.hid hf1
  have HC1 := Lib.hid hc1
  clear hr1 hf1 hc1 HPW
  go_loopw [0, 7] (fun t0 t7 wr => ∃ (k : Nat) (ys : List UInt8) (A' : Option Addr) (c' : Nat) (fp' : List Nat), k ≤ v.length ∧ ys = xs ++ (word ++ (v.take k).flatMap fun n => 32 :: Lib.itoa n) ∧ t0 = .slice A' ys.length c' ∧ t7 = .int .i64 k ∧ Row 5 kU8 wr (.slice A' ys.length c') ys fp' ∧ (∀ b ∈ fp', b ∈ fp ∨ w.heap.size ≤ b) ∧ Chg (fun q => q ∈ fp ∨ w.heap.size ≤ q) w wr) (fun _ t7 _ => v.length - (intOf t7).toNat)
  case atStart => exact ⟨0, xs ++ word, A1, c1, fp1, by omega, by simp, by simp, rfl, HR1.out, HF1.out, HC1.out⟩
  case round =>
    clear HR1 HF1 HC1
    obtain ⟨k, ys, A', c', fp', hk, hys, rfl, rfl, hr, hf, hc⟩ := hrel
    have HR := Lib.hid hr
    have HF := Lib.hid hf
    have HC := Lib.hid hc
    have HY := Lib.hid hys
    have hfl := HFL.out k
    have hyl : ys.length ≤ 549755813888 + 100 + 22 * 1048576 := by rw [hys]; simp only [List.length_append]; omega
    have hvk := HV.out wr hc
    clear hr hf hc hys hfl
    by_cases hlt : k < v.length
    · obtain ⟨n, en⟩ := get_of_lt hlt
      obtain ⟨a, _, rfl, rfl, hcc⟩ := hvk.at en
      have q0 := hc1 (n := k * 1) hcc
      rw [Nat.mul_one] at q0
      obtain ⟨hn0, hn1⟩ := HS.out n (List.mem_of_getElem? en)
      have hil := itoa_len hn0 hn1
      have HD := Lib.hid (dec_c n hn0 hn1)
      have hcat : ∀ l : List UInt8, (⟨#[32]⟩ ++ ⟨l.toArray⟩ : ByteArray) = ⟨(32 :: l).toArray⟩ := sv_append [32]
      have HSN := Lib.hid (show ys ++ (32 :: Lib.itoa n) = xs ++ (word ++ (v.take (k + 1)).flatMap fun n => 32 :: Lib.itoa n) by rw [HY.out, flat_snoc en]; simp [List.append_assoc])
      have HP := Lib.hid (fun W (hb : Below wr.heap.size wr W) => put_c A' c' ys (32 :: Lib.itoa n) fp' W (HR.out.chg (chg_of hb) (by simp)) (by simp only [List.length_cons]; omega))
      clear hcc en
      go_wp2_with (first
        | (go_at_call 86; (with_reducible refine (HD.out _).mono ?_); rintro e w2 ⟨rfl, hb2⟩)
        | (go_at_call 85; (with_reducible refine (HP.out _ hb2).mono ?_); intro e w3 hp; unfold AppB at hp; obtain ⟨A3, c3, fp3, rfl, hr3, hf3, hc3⟩ := hp))
      go_roundw
      case rel => exact ⟨k + 1, ys ++ (32 :: Lib.itoa n), A3, c3, fp3, by omega, HSN.out, by simp, by go_num, hr3, fun b hb => by
        rcases hf3 b hb with h | h
        · exact HF.out b h
        · have := HC.out.size; have := hb2.size; exact .inr (by omega), AppB.comp HF.out HC.out ((chg_of hb2).mono (T := fun q => q ∈ fp' ∨ wr.heap.size ≤ q) (fun _ _ h => h.elim) |>.trans (hc3.mono fun q _ hq => hq.imp id fun h => Nat.le_trans hb2.size h)) (fun _ h => h)⟩
      case measure => simp [intOf]; omega
    · have hke : k = v.length := by omega
      subst hke
      have HE := Lib.hid (show ys ++ [10] = xs ++ lineB word v by rw [HY.out, List.take_length, lineB]; simp [List.append_assoc])
      go_wp2_with (at_builtin; refine wpList_append_row kU8 rfl _ _ 44 rfl 5 i0 _ 1 Tryd.underlying44 hi hz0 hz1 hz2 rfl (by decide) _ ys fp' rfl (HR.out.chg (S := fun _ => False) (by (repeat (first | (with_reducible first | exact Chg.refl _ _ | assumption) | (with_reducible refine Chg.drew ?_) | ((with_reducible refine Chg.setCell ?_ ?hs _); (case hs => first | (simp; done) | (simp; omega) | omega)) | (with_reducible refine Chg.alloc ?_ _)))) (by simp)) _ _ [.int .u8 10] 10 [] rfl ⟨rfl, rfl⟩ (by simp) (box_news (by simp)) (by simp [maxLen]; omega) (by omega) ?_; intro g cap w3 fp3 hr3 hf3 hC3)
      go_ret
      refine ⟨some ⟨g, 0, none⟩, cap, fp3, ?_, ?_, fun b hb => ?_, (HC.out.trans (by (repeat (first | (with_reducible first | exact Chg.refl _ _ | assumption) | (with_reducible refine Chg.drew ?_) | ((with_reducible refine Chg.setCell ?_ ?hs _); (case hs => first | (simp; done) | (simp; omega) | omega)) | (with_reducible refine Chg.alloc ?_ _))))).trans (hC3.mono fun q _ hq => HF.out q hq)⟩
      · rw [← HE.out]; simp
      · rw [← HE.out]; simpa using hr3
      · rcases hf3 b hb with h | h | h
        · exact HF.out b h
        · simp at h
        · have := HC.out.size; simp at h; exact .inr (by omega)
end Go.Proofs.YtnnfjjgohhicjaaDoor
