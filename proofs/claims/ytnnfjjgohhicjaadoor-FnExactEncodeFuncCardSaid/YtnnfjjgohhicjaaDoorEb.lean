/- Contracts: spec.l1Put, l1PutLine. -/
import Derived.Test.YtnnfjjgohhicjaaDoorEa
import Derived.Test.YtnnfjjgohhicjaaDoorKxa
namespace Go.Proofs.YtnnfjjgohhicjaaDoor
open Go.RowKit
set_option linter.unusedSimpArgs false
set_option linter.unusedVariables false
set_option maxRecDepth 100000

abbrev kU8 : Kd UInt8 := kIso (fun c : UInt8 => (c.toNat : Int)) (kInt .u8)
theorem info_u8 : (Tryd.prog.info? 5).map (fun i => (i.zero, i.size, i.bytes)) = some (some (.int .u8 0), 1, 1) := by kernel_rfl
/-- A row that was appended to. -/
def AppB (w : World) (fp : List Nat) (xs ys : List UInt8) (e : Ending) (w' : World) : Prop :=
  ∃ A c fp', e = .returned (.slice A (xs ++ ys).length c) ∧ Row 5 kU8 w' (.slice A (xs ++ ys).length c) (xs ++ ys) fp' ∧ (∀ b ∈ fp', b ∈ fp ∨ w.heap.size ≤ b) ∧ Chg (fun k => k ∈ fp ∨ w.heap.size ≤ k) w w'
set_option maxHeartbeats 1000000 in
theorem put_c (A : Option Addr) (c : Nat) (xs s : List UInt8) (fp : List Nat) (w : World) (h : Row 5 kU8 w (.slice A xs.length c) xs fp) (hl : xs.length + s.length ≤ 1099511627776) :
    Calls Tryd.prog 85 #[.slice A xs.length c, sv s] w (AppB w fp xs s) := by
  obtain ⟨i0, hi, hz0, hz1, hz2⟩ := info_parts info_u8
  have HX := Lib.hid h
  clear h
  go_enter Tryd.func85, Tryd.ntmps85
  go_wp2
  go_loopw [0, 5] (fun t0 t5 wr => ∃ (k : Nat) (ys : List UInt8) (A' : Option Addr) (c' : Nat) (fp' : List Nat), k ≤ s.length ∧ ys = xs ++ s.take k ∧ t0 = .slice A' ys.length c' ∧ t5 = .int .i64 k ∧ Row 5 kU8 wr (.slice A' ys.length c') ys fp' ∧ (∀ b ∈ fp', b ∈ fp ∨ w.heap.size ≤ b) ∧ Chg (fun q => q ∈ fp ∨ w.heap.size ≤ q) w wr) (fun _ t5 _ => s.length - (intOf t5).toNat)
  case atStart => exact ⟨0, xs, A, c, fp, by omega, by simp, rfl, rfl, HX.out, fun b hb => .inl hb, Chg.refl _ _⟩
  case round =>
    obtain ⟨k, ys, A', c', fp', hk, hys, rfl, rfl, hr, hf, hc⟩ := hrel
    have HR := Lib.hid hr
    have HF := Lib.hid hf
    have HC := Lib.hid hc
    have HY := Lib.hid hys
    have hyl : ys.length ≤ xs.length + k := by rw [hys]; simp; omega
    clear hr hf hc hys
    by_cases hlt : k < s.length
    · have HSN := Lib.hid (show ys ++ [s[k]] = xs ++ s.take (k + 1) by rw [HY.out, List.append_assoc, take_snoc (List.getElem?_eq_getElem hlt)])
      go_wp2_with (at_builtin; refine wpList_append_row kU8 rfl _ _ 44 rfl 5 i0 _ 1 Tryd.underlying44 hi hz0 hz1 hz2 rfl (by decide) _ ys fp' rfl (HR.out.chg (S := fun _ => False) (by (repeat (first | (with_reducible first | exact Chg.refl _ _ | assumption) | (with_reducible refine Chg.drew ?_) | ((with_reducible refine Chg.setCell ?_ ?hs _); (case hs => first | (simp; done) | (simp; omega) | omega)) | (with_reducible refine Chg.alloc ?_ _)))) (by simp)) _ _ [.int .u8 (s[k].toNat : Int)] s[k] [] rfl ⟨rfl, rfl⟩ (by simp) (box_news (by simp)) (by simp [maxLen]; omega) (by omega) ?_; intro g cap w3 fp3 hr3 hf3 hC3)
      go_roundw
      case rel => exact ⟨k + 1, ys ++ [s[k]], some ⟨g, 0, none⟩, cap, fp3, by omega, HSN.out, by simp, by go_num, by simpa using hr3, fun b hb => by
        rcases hf3 b hb with h | h | h
        · exact HF.out b h
        · simp at h
        · have := HC.out.size; simp at h; omega, (HC.out.trans (by (repeat (first | (with_reducible first | exact Chg.refl _ _ | assumption) | (with_reducible refine Chg.drew ?_) | ((with_reducible refine Chg.setCell ?_ ?hs _); (case hs => first | (simp; done) | (simp; omega) | omega)) | (with_reducible refine Chg.alloc ?_ _))))).trans (hC3.mono fun q _ hq => HF.out q hq)⟩
      case measure => simp [intOf]; omega
    · have hke : k = s.length := by omega
      subst hke
      have HE := Lib.hid (show ys = xs ++ s by rw [HY.out, List.take_length])
      go_wp2
      go_ret
      have hy := HE.out
      subst hy
      exact ⟨A', c', fp', rfl, HR.out, HF.out, HC.out⟩
set_option maxHeartbeats 1000000 in
theorem AppB.comp {w w1 w2 : World} {fp fp1 : List Nat} (hf : ∀ b ∈ fp1, b ∈ fp ∨ w.heap.size ≤ b) (hc : Chg (fun k => k ∈ fp ∨ w.heap.size ≤ k) w w1) {S : Nat → Prop} (hc2 : Chg S w1 w2) (hs : ∀ k, S k → k ∈ fp1 ∨ w1.heap.size ≤ k) : Chg (fun k => k ∈ fp ∨ w.heap.size ≤ k) w w2 :=
  hc.trans (hc2.mono fun k _ hk => (hs k hk).elim (hf k) fun h => .inr (Nat.le_trans hc.size h))
def lineB (word : List UInt8) (v : List Int) : List UInt8 := word ++ (v.flatMap fun n => 32 :: Lib.itoa n) ++ [10]
theorem itoa_len {n : Int} (h0 : -4611686018427387904 ≤ n) (h1 : n ≤ 4611686018427387904) : (Lib.itoa n).length ≤ 21 := Lib.itoa_length_le n (by omega) (by omega)
/-- Numbers within reach of the text. -/
def Small (v : List Int) : Prop := ∀ n ∈ v, -4611686018427387904 ≤ n ∧ n ≤ 4611686018427387904
theorem flat_len {v : List Int} (h : Small v) : ∀ (k : Nat), ((v.take k).flatMap fun n => 32 :: Lib.itoa n).length ≤ 22 * k := by
  induction v with
  | nil => intro k; simp
  | cons n r ih =>
    intro k
    cases k with
    | zero => simp
    | succ k =>
      have h1 := itoa_len (h n (by simp)).1 (h n (by simp)).2
      have h2 := ih (fun m hm => h m (by simp [hm])) k
      simp only [List.take_succ_cons, List.flatMap_cons, List.length_append, List.length_cons]
      omega
theorem flat_snoc {v : List Int} {k : Nat} {n : Int} (h : v[k]? = some n) : ((v.take (k + 1)).flatMap fun n => 32 :: Lib.itoa n) = ((v.take k).flatMap fun n => 32 :: Lib.itoa n) ++ (32 :: Lib.itoa n) := by
  rw [take_snoc h, List.flatMap_append]; simp
end Go.Proofs.YtnnfjjgohhicjaaDoor
