/- Contracts: laws.markMBlockS, markMach. -/
import Derived.Test.YtnnfjjgohhicjaaDoorMg2
import Derived.Test.YtnnfjjgohhicjaaDoorMg4
import Derived.Test.YtnnfjjgohhicjaaDoorKxa
import Derived.Deep.AppendLies
import Derived.Test.YtnnfjjgohhicjaaDoorMg1
import Derived.Test.YtnnfjjgohhicjaaDoorKv2
import Derived.Deep.RegionHeld3
import Derived.Test.YtnnfjjgohhicjaaDoorKc
import Derived.Test.YtnnfjjgohhicjaaDoorKz
namespace Go.Proofs.YtnnfjjgohhicjaaDoor
open Go.RowKit
set_option linter.unusedSimpArgs false
set_option linter.unusedVariables false
set_option maxRecDepth 100000

theorem C_u8 {w : World} {A : Option Addr} {l : List UInt8} (h : C kU8 w A l) : C (kInt .u8) w A (ints8 l) := fun i x hx => by
  rw [List.getElem?_map] at hx
  obtain ⟨c, hc, rfl⟩ := Option.map_eq_some_iff.1 hx
  obtain ⟨a, cs, hA, hK, hcs⟩ := h i c hc
  exact ⟨a, cs, hA, hK, hcs⟩
theorem Wb.reads {g : Nat} {xs : List Int} {w : World} (h : Wb g xs w) : C (kInt .u8) w (some ⟨g, 0, none⟩) xs := fun i y hy => ⟨_, _, rfl, rfl, fun j u hu => by
  obtain ⟨rfl, hu2⟩ : j = 0 ∧ u = .int .u8 y := by
    cases j with
    | zero => simp at hu; exact ⟨rfl, hu.symm⟩
    | succ j => simp at hu
  subst hu2
  rw [show i * (kInt .u8).sz + 0 = i from by simp [kInt], add_plain, Nat.zero_add]
  exact h.cell hy⟩
/-- A row of bytes that may be written, in the blocks fp. -/
def Wv (v : Value) (xs : List Int) (fp : List Nat) (w : World) : Prop := (∃ c, v = .slice none 0 c ∧ xs = [] ∧ fp = []) ∨ ∃ g c, v = .slice (some ⟨g, 0, none⟩) xs.length c ∧ Wb g xs w ∧ fp = [g]
namespace Wv
variable {v : Value} {xs : List Int} {fp : List Nat} {w w' : World}
theorem chg {S : Nat → Prop} (h : Wv v xs fp w) (hc : Chg S w w') (hs : ∀ b ∈ fp, ¬ S b) : Wv v xs fp w' := by
  rcases h with h | ⟨g, c, h1, h2, rfl⟩
  · exact .inl h
  · exact .inr ⟨g, c, h1, h2.chg hc (hs g (by simp)), rfl⟩
theorem below (h : Wv v xs fp w) (hb : Below w.heap.size w w') : Wv v xs fp w' := h.chg (chg_of hb) (by simp)
theorem form (h : Wv v xs fp w) : ∃ A c, v = .slice A xs.length c ∧ C (kInt .u8) w A xs := by
  rcases h with ⟨c, rfl, rfl, _⟩ | ⟨g, c, rfl, h2, _⟩
  · exact ⟨none, c, rfl, C.nil _ _ _⟩
  · exact ⟨_, c, rfl, h2.reads⟩
theorem lt (h : Wv v xs fp w) : ∀ b ∈ fp, b < w.heap.size := by
  rcases h with ⟨c, _, _, rfl⟩ | ⟨g, c, _, h2, rfl⟩
  · simp
  · intro b hb; simp at hb; subst hb; exact h2.lt
end Wv
theorem RetW.wv {w w' : World} {l : List UInt8} {e : Ending} (h : RetW w l e w') : ∃ v fp, e = .returned v ∧ Wv v (ints8 l) fp w' ∧ (∀ b ∈ fp, w.heap.size ≤ b) ∧ Below w.heap.size w w' := by
  obtain ⟨hb, ⟨c, rfl, rfl⟩ | ⟨g, c, rfl, hg, hw⟩⟩ := h
  · exact ⟨_, [], rfl, .inl ⟨c, rfl, rfl, rfl⟩, by simp, hb⟩
  · exact ⟨_, [g], rfl, .inr ⟨g, c, by simp, hw, rfl⟩, fun b hb => by simp at hb; omega, hb⟩
/-- The marks of a row of bytes. -/
def mk8 (k : Int) (n : Nat) : List Int := (List.range n).map fun (i : Nat) => IntKind.u8.wrap (k + (i : Int))
theorem mk8_len (k : Int) (n : Nat) : (mk8 k n).length = n := by simp [mk8]
theorem mk8_get (k : Int) {n i : Nat} (h : i < n) : (mk8 k n)[i]? = some (IntKind.u8.wrap (k + (i : Int))) := by simp [mk8, h]
theorem mk8_snoc (k : Int) (n : Nat) : mk8 k (n + 1) = mk8 k n ++ [IntKind.u8.wrap (k + (n : Int))] := by simp [mk8, List.range_succ]
theorem mk8_set (k : Int) (xs : List Int) {j : Nat} (h : j < xs.length) : (mk8 k j ++ xs.drop j).set j (IntKind.u8.wrap (k + (j : Int))) = mk8 k (j + 1) ++ xs.drop (j + 1) := by
  rw [List.set_append_right _ _ (by rw [mk8_len]; exact Nat.le_refl _), mk8_len, Nat.sub_self, List.drop_eq_getElem_cons h, List.set_cons_zero, mk8_snoc, List.append_assoc]; rfl
set_option maxHeartbeats 2000000 in
theorem eqByteS_c (A0 A1 : Option Addr) (c0 c1 : Nat) (xs : List Int) (w : World) (hx : C (kInt .u8) w A0 xs) (hy : C (kInt .u8) w A1 xs) (hm : xs.length ≤ 140737488351232) :
    Calls Tryd.prog 21 #[.slice A0 xs.length c0, .slice A1 xs.length c1] w fun e w' => e = .returned (.bool true) ∧ Below w.heap.size w w' := by
  go_enter Tryd.func21, Tryd.ntmps21
  have hb : ((xs.length : Int) != xs.length) = false := by simp
  go_wp2
  go_loopw [5] (fun i wr => ∃ k : Nat, k ≤ xs.length ∧ i = .int .i64 k ∧ ∃ u : Ext w, wr = u.w) (fun i _ => xs.length - (intOf i).toNat)
  case atStart => exact ⟨0, by omega, rfl, Ext.self w, rfl⟩
  case round =>
    obtain ⟨k, hk, rfl, u, rfl⟩ := hrel
    by_cases hlt : k < xs.length
    · obtain ⟨x, ex⟩ := get_of_lt hlt
      obtain ⟨a0, _, rfl, rfl, hxc⟩ := hx.at ex
      have P0 := hc1E (n := k * 1) hxc
      rw [Nat.mul_one] at P0
      clear hxc
      obtain ⟨a1, _, rfl, rfl, hyc⟩ := hy.at ex
      have P1 := hc1E (n := k * 1) hyc
      rw [Nat.mul_one] at P1
      clear hyc
      have hd : (x != x) = false := by simp
      clear ex
      go_wp2
      refine wp_region_ext (W := w) (by kernel_rfl) (by kernel_rfl) ⟨_, rfl⟩ ?_
      repeat quiet_step ((fail))
      refine wpQuiet_nil ?_
      rintro _ ⟨u, rfl⟩
      go_wp2
      go_roundw
      case rel => exact ⟨k + 1, by omega, by go_num, u, rfl⟩
      case measure => simp [intOf]; omega
    · have hkn : k = xs.length := by omega
      subst hkn
      go_wp2
      go_ret
      exact ⟨rfl, u.hb⟩
set_option maxHeartbeats 2000000 in
theorem markByteS_c (v : Value) (xs : List Int) (fp : List Nat) (k : Int) (w : World) (h : Wv v xs fp w) (hk : 0 ≤ k) (hk2 : k ≤ 4611686018427387904) (hl : xs.length ≤ 1152921504606846976) :
    Calls Tryd.prog 23 #[v, .int .i64 k] w fun e w' => e = .returned (.int .i64 (k + (xs.length : Int))) ∧ Wv v (mk8 k xs.length) fp w' ∧ Chg (fun b => b ∈ fp) w w' := by
  rcases h with ⟨c, rfl, rfl, rfl⟩ | ⟨g, cap, rfl, hw, rfl⟩
  · go_enter Tryd.func23, Tryd.ntmps23
    go_wp2
    go_loopw [1, 5] (fun k1 i wr => k1 = .int .i64 k ∧ i = .int .i64 0 ∧ wr = w) (fun _ _ _ => 0)
    case atStart => exact ⟨rfl, rfl, rfl⟩
    case round =>
      obtain ⟨rfl, rfl, rfl⟩ := hrel
      go_wp2
      go_ret
      exact ⟨by simp, .inl ⟨c, rfl, rfl, rfl⟩, Chg.refl _ _⟩
  · have HX := Lib.hid hw
    clear hw
    go_enter Tryd.func23, Tryd.ntmps23
    go_wp2
    go_loopw [1, 5] (fun k1 i wr => ∃ j : Nat, j ≤ xs.length ∧ k1 = .int .i64 (k + (j : Int)) ∧ i = .int .i64 j ∧ Wb g (mk8 k j ++ xs.drop j) wr ∧ Chg (fun b => b ∈ [g]) w wr) (fun _ i _ => xs.length - (intOf i).toNat)
    case atStart => exact ⟨0, by omega, by simp, rfl, by simpa [mk8] using HX.out, Chg.refl _ _⟩
    case round =>
      obtain ⟨j, hj, rfl, rfl, hr, hc⟩ := hrel
      by_cases hlt : j < xs.length
      · have hlen : (mk8 k j ++ xs.drop j).length = xs.length := by simp [mk8_len]; omega
        obtain ⟨y, ey⟩ := get_of_lt (show j < (mk8 k j ++ xs.drop j).length by omega)
        have q0 := hr.cell ey
        have f0 := hr.frozen (i := j) (by omega)
        obtain ⟨hr2, hc2⟩ := hr.set (i := j) (by omega) (IntKind.u8.wrap (k + (j : Int)))
        rw [mk8_set k xs hlt] at hr2
        have HR := Lib.hid hr2
        have HC := Lib.hid (hc.trans (hc2.mono fun b _ e => by simp [e]))
        clear hr hr2 hc hc2 hlen ey
        go_wp2
        go_roundw
        case rel => exact ⟨j + 1, by omega, by go_num, by go_num, HR.out, HC.out⟩
        case measure => simp [intOf]; omega
      · have hjn : j = xs.length := by omega
        subst hjn
        have HR := Lib.hid hr
        have HC := Lib.hid hc
        clear hr hc
        go_wp2
        go_ret
        exact ⟨rfl, .inr ⟨g, cap, by rw [mk8_len], by simpa using HR.out, rfl⟩, HC.out⟩
set_option maxHeartbeats 2000000 in
theorem heldByteS_c (v : Value) (n : Nat) (fp : List Nat) (k : Int) (w : World) (h : Wv v (mk8 k n) fp w) (hk : 0 ≤ k) (hk2 : k ≤ 4611686018427387904) (hl : n ≤ 1152921504606846976) :
    Calls Tryd.prog 24 #[v, .int .i64 k] w fun e w' => e = .returned (.int .i64 (k + (n : Int))) ∧ w = w' := by
  have hn := mk8_len k n
  rcases h with ⟨c, rfl, h0, rfl⟩ | ⟨g, cap, rfl, hw, rfl⟩
  · obtain rfl : n = 0 := by rw [h0] at hn; simpa using hn.symm
    clear h0
    go_enter Tryd.func24, Tryd.ntmps24
    go_wp2
    go_loopw [1, 5] (fun k1 i wr => k1 = .int .i64 k ∧ i = .int .i64 0 ∧ wr = w) (fun _ _ _ => 0)
    case atStart => exact ⟨rfl, rfl, rfl⟩
    case round =>
      obtain ⟨rfl, rfl, rfl⟩ := hrel
      go_wp2
      go_ret
      exact ⟨by simp, by first | rfl | trivial⟩
  · have HX := Lib.hid hw
    rw [hn]
    clear hw
    go_enter Tryd.func24, Tryd.ntmps24
    go_wp2
    go_loopw [1, 5] (fun k1 i wr => ∃ j : Nat, j ≤ n ∧ k1 = .int .i64 (k + (j : Int)) ∧ i = .int .i64 j ∧ wr = w) (fun _ i _ => n - (intOf i).toNat)
    case atStart => exact ⟨0, by omega, by simp, rfl, rfl⟩
    case round =>
      obtain ⟨j, hj, rfl, rfl, rfl⟩ := hrel
      by_cases hlt : j < n
      · have q0 := HX.out.cell (mk8_get k hlt)
        go_wp2
        go_roundw
        case rel => exact ⟨j + 1, by omega, by go_num, by go_num, by first | rfl | trivial⟩
        case measure => simp [intOf]; omega
      · have hjn : j = n := by omega
        subst hjn
        go_wp2
        go_ret
        exact ⟨rfl, by first | rfl | trivial⟩
end Go.Proofs.YtnnfjjgohhicjaaDoor
namespace Go.Proofs.YtnnfjjgohhicjaaDoor
open Go.RowKit
set_option linter.unusedSimpArgs false
set_option linter.unusedVariables false
set_option maxRecDepth 100000

theorem step_append_flat {P : Program} {ops : Array Oper} {o : Oper} {a : Act} {K : Act → World → Prop} {Q : Exit → Act → World → Prop} {E : Prop} {w : World} {α : Type} (d : Kd α) (hfl : Flat d) (hgd : o.guard = none) (s x : Operand) (t : TypeId)
    (ho : o.op = .call { callee := .builtin .append, args := #[s, x], argTypes := #[t, t] })
    (e : TypeId) (i : TypeInfo) (z : Value) (bytes : Nat) (ht : P.underlying t = some (.slice e)) (hi : P.info? e = some i) (hz : i.zero = some z)
    (hsize : i.size = d.sz) (hby : i.bytes = bytes) (hzs : z.cells.size = d.sz) (hsz : 0 < d.sz)
    (v : Value) (xs : List α) (fp : List Nat) (hs : a.eval s = v) (hrow : Row e d w v xs fp)
    (A : Option Addr) (c : Nat) (ys : List α) (hx : a.eval x = .slice A ys.length c) (hC : C d w A ys)
    (h63 : xs.length + ys.length ≤ maxLen) (hbytes : (xs.length + ys.length) * bytes ≤ 140737488355328)
    (h : ∀ A' cap w' fp', Row e d w' (.slice A' (xs ++ ys).length cap) (xs ++ ys) fp' → (∀ b ∈ fp', b ∈ fp ∨ b = w.heap.size) → Chg (fun k => k ∈ fp) w w' → (v ≠ .slice none 0 0 → ∃ g, A' = some ⟨g, 0, none⟩) → K (a.put o.dst (.slice A' (xs ++ ys).length cap)) w') : if Region.wanted o (yielded ops a.tmps) = true then Oper.wp P o a w K Q else E := by
  have hw : Region.wanted o (yielded ops a.tmps) = true := by simp [Region.wanted, hgd]
  rw [if_pos hw]
  cases A with
  | none =>
    have h0 : ys = [] := by
      cases ys with
      | nil => rfl
      | cons y r => obtain ⟨a', _, h, _⟩ := hC 0 y rfl; cases h
    subst h0
    obtain ⟨A1, c1, hv, -⟩ := hrow.form
    obtain ⟨css, fps, how, ha, hfp, hn⟩ := id hrow
    have hrun := run_append_none' (P := P) (w := w) t o.type e i d.sz c ht hi v xs.length css.flatten how
    unfold Oper.wp
    simp only [List.length_nil] at hx
    simp [execOp, ho, resolve, invoke, builtin, hs, hx, hrun, Result.andThen]
    have := h A1 c1 w fp (by simpa [hv] using hrow) (fun b hb => .inl hb) (Chg.refl _ _) (fun hne => by
      rcases hrow.form' with ⟨h1, _⟩ | ⟨g, cap, h1, _⟩
      · exact absurd h1 hne
      · rw [hv] at h1; injection h1 with h1; exact ⟨g, h1⟩)
    rw [List.append_nil, ← hv] at this
    exact this
  | some ad =>
    obtain ⟨css2, hl2, hk2, hc2⟩ := hC.cells
    obtain ⟨css, fps, how, ha, rfl, hn⟩ := hrow
    have hs2 : ∀ cs ∈ css2, cs.length = d.sz := fun cs hcs => by
      obtain ⟨i, hi'⟩ := List.getElem?_of_mem hcs
      have hil := (List.getElem?_eq_some_iff.1 hi').1
      obtain ⟨y, hy⟩ := get_of_lt (show i < ys.length by omega)
      obtain ⟨cs', h1, hK⟩ := hk2 i y hy
      rw [hi'] at h1
      obtain rfl := Option.some.inj h1
      exact d.len hK
    have h1 : ∀ u ∈ css2.flatten, u.oneCell' = true := fun u hu => by
      obtain ⟨cs, hcs, hu⟩ := List.mem_flatten.1 hu
      obtain ⟨i, hi'⟩ := List.getElem?_of_mem hcs
      have hil := (List.getElem?_eq_some_iff.1 hi').1
      obtain ⟨y, hy⟩ := get_of_lt (show i < ys.length by omega)
      obtain ⟨cs', h1, hK⟩ := hk2 i y hy
      rw [hi'] at h1
      obtain rfl := Option.some.inj h1
      exact d.one hK u hu
    obtain ⟨v', w', hr, h2, h3, h4, h5⟩ := run_append_own_at (P := P) w 0 t o.type e i z d.sz bytes ht hi hz hsize hby hzs hsz v xs.length css.flatten how ad ys.length c css2.flatten (by rw [flatten_len hs2, hl2]) hc2 h1 h63 hbytes (Nat.zero_le _)
    have hg := Chg.of_grown h3
    have hfn : ∀ k ∈ fps.flatten, v.ownBlock ≠ some k := by
      intro k hk e
      rw [e] at hn
      simp only [Option.toList_some, List.cons_append, List.nil_append, List.nodup_cons] at hn
      exact hn.1 hk
    have hrow' : Row e d w' v' (xs ++ ys) (v'.ownBlock.toList ++ (fps ++ List.replicate ys.length []).flatten) := by
      refine ⟨css ++ css2, fps ++ List.replicate ys.length [], by simpa using h2, All3.append (ha.imp fun a b c hc h => d.okeep h fun k hk => hg.block k (ha.fps (List.mem_flatten.2 ⟨c, hc, hk⟩)) (hfn k (List.mem_flatten.2 ⟨c, hc, hk⟩))) ((All3.flat hfl hl2 hk2).imp fun a b c hc h => d.okeep h fun k hk => ?_), rfl, ?_⟩
      · rw [List.eq_of_mem_replicate hc] at hk; simp at hk
      · have hnil : (List.replicate ys.length ([] : List Nat)).flatten = [] := List.flatten_eq_nil_iff.2 fun c hc => List.eq_of_mem_replicate hc
        rw [List.flatten_append, hnil, List.append_nil]
        rcases h5 with h5 | h5
        · rw [h5]; exact hn
        · rw [h5]
          simp only [Option.toList_some, List.cons_append, List.nil_append, List.nodup_cons]
          exact ⟨fun hm => by have := ha.fps hm; omega, (List.nodup_append.1 hn).2.1⟩
    obtain ⟨A', c', rfl, -⟩ := hrow'.form
    unfold Oper.wp execOp
    simp only [ho, resolve, invoke, builtin, Sem.run_bind, Sem.run_pure, Result.andThen_ok, List.map_toArray, List.map_cons, List.map_nil, hs, hx, hr]
    refine h A' c' w' _ hrow' (fun b hb => ?_) (hg.mono fun k _ hk => by simp [hk]) (fun hne => ?_)
    rotate_left
    · rcases hrow'.form' with ⟨h1, _⟩ | ⟨g, cap, h1, _⟩
      · exact absurd (h4.1 h1).1 hne
      · injection h1 with h1; exact ⟨g, h1⟩
    have hnil : (List.replicate ys.length ([] : List Nat)).flatten = [] := List.flatten_eq_nil_iff.2 fun c hc => List.eq_of_mem_replicate hc
    rw [List.flatten_append, hnil, List.append_nil] at hb
    rcases List.mem_append.1 hb with hb | hb
    · rcases h5 with h5 | h5
      · rw [h5] at hb; exact .inl (List.mem_append_left _ hb)
      · rw [h5] at hb; simp at hb; exact .inr hb
    · exact .inl (List.mem_append_right _ hb)
end Go.Proofs.YtnnfjjgohhicjaaDoor
namespace Go.Proofs.YtnnfjjgohhicjaaDoor
open Go.RowKit
set_option linter.unusedSimpArgs false
set_option linter.unusedVariables false
set_option maxRecDepth 100000

theorem row_u8_ne {B : Nat} {T : TypeId} {cs : List Value} {v : Value} {l : List UInt8} {fp : List Nat} {w : World} (hb : Bk B T cs w) (hT : T ≠ 5) (hr : Row 5 kU8 w v l fp) : B ∉ fp := by
  intro hq
  obtain ⟨hown, rfl⟩ := row_u8 (B := 0) hr (fun _ _ => Nat.zero_le _)
  rcases hown.2 with ⟨rfl, _⟩ | ⟨g, cap, cur, rfl, _, hg, _⟩
  · simp [Value.ownBlock] at hq
  · simp [Value.ownBlock] at hq
    subst hq
    rw [show w.heap[B]? = _ from hb] at hg
    injection hg with hg
    injection hg with _ hg _
    exact hT hg
theorem AppB.bk {B : Nat} {T : TypeId} {cs : List Value} {w1 w' : World} {fp : List Nat} {xs ys : List UInt8} {e : Ending} (h : AppB w1 fp xs ys e w') (hk : Bk B T cs w1) (hn : B ∉ fp) : Bk B T cs w' := by
  obtain ⟨A, c, fp', _, _, _, hc⟩ := h
  exact hk.chg hc fun e => e.elim hn fun h => by have := hk.lt; omega
theorem AppB.chg {w w' : World} {fp : List Nat} {xs ys : List UInt8} {e : Ending} (h : AppB w fp xs ys e w') : Chg (fun k => k ∈ fp ∨ w.heap.size ≤ k) w w' := by
  obtain ⟨A, c, fp', _, _, _, hc⟩ := h
  exact hc
set_option maxHeartbeats 8000000 in
theorem raw_s (L : Option Addr) (c : Nat) (m : Func) (w : World) (hx : C (kBlock 0 0 0) w L m.blocks) (hT : FT m) :
    Calls Tryd.prog 70 #[.agg #[.int .i64 m.values, .slice L m.blocks.length c]] w (RetB w (funcL m)) := by
  obtain ⟨i0, hi, hz0, hz1, hz2⟩ := info_parts info_i64
  have HFT := Lib.hid hT
  have hml := hT.len
  clear hT
  go_enter Tryd.func70, Tryd.ntmps70
  go_upto_region 1 with (fail)
  have HB1 : Below w.heap.size w (w.alloc (.cells #[.int .i64 m.values, .slice L m.blocks.length c] 40)) := (Below.refl _ _).alloc (Nat.le_refl _) _
  have zw1 : w.heap.size < (w.alloc (.cells #[.int .i64 m.values, .slice L m.blocks.length c] 40)).heap.size := by simp
  have K0 := Lib.hid (Bk.made w 40 [.int .i64 m.values, .slice L m.blocks.length c])
  simp only [List.toArray, List.toArrayAux] at K0
  generalize w.alloc (.cells #[.int .i64 m.values, .slice L m.blocks.length c] 40) = w1 at *
  have y0 := K0.out.cell 0 (v := .int .i64 m.values) rfl
  have y1 := K0.out.cell 1 (v := .slice L m.blocks.length c) rfl
  go_upto_region 2 with (
    go_at_call 55; have hp0 : Calls Tryd.prog 55 #[.slice (some ⟨w1.heap.size, 0, none⟩) 0 0, sv funcW, .slice (some ⟨w1.heap.size + 1, 0, none⟩) 1 1] ((w1.alloc (.cells #[] 5)).alloc (.cells #[.int .i64 m.values] 2)) (AppB ((w1.alloc (.cells #[] 5)).alloc (.cells #[.int .i64 m.values] 2)) [w1.heap.size] [] (lineB funcW [m.values])) := (putLine1_c (some ⟨w1.heap.size, 0, none⟩) 0 [] funcW m.values (w1.heap.size + 1) [w1.heap.size] (w1.alloc (.cells #[] 5)) (Row.empty0 rfl) (by simp) HFT.out.vals (by simp) (by simp)); (with_reducible refine hp0.mono ?_); intro e w2 hp; obtain ⟨A2, c2, rfl⟩ := hp.ret)
  have HO2 := Lib.hid (Out.app (W := w1) (wr := w1) (w1 := (w1.alloc (.cells #[] 5)).alloc (.cells #[.int .i64 m.values] 2)) (Ext.self w1) rfl (((Below.refl _ _).alloc (Nat.le_refl _) _).alloc (by simp) _) (by simp) hp rfl)
  clear hp
  rw [List.nil_append] at HO2
  obtain ⟨HD, hHD⟩ : ∃ HD, lineB funcW [m.values] = HD := ⟨_, rfl⟩
  have HDL := Lib.hid (show HD.length ≤ 27 by rw [← hHD]; have := line_len (word := funcW) HFT.out.vals; simp at this ⊢; omega)
  have HML := Lib.hid (show funcL m = HD ++ m.blocks.flatMap blockL by rw [funcL, hHD])
  rw [hHD] at HO2
  simp only [List.nil_append, hHD]
  clear hHD y0
  go_wp2
  go_loopw [3, 4] (fun t3 t4 wr => ∃ (k : Nat), k ≤ m.blocks.length ∧ t4 = .int .i64 k ∧ Out w1 t3 (HD ++ (m.blocks.take k).flatMap blockL) wr) (fun _ t4 _ => m.blocks.length - (intOf t4).toNat)
  case atStart => exact ⟨0, by omega, rfl, by simpa using HO2.out⟩
  case round =>
    clear HO2
    obtain ⟨k, hk, rfl, ho⟩ := hrel
    have hup := HFT.out.upto k
    obtain ⟨ys, hys⟩ : ∃ ys, HD ++ (m.blocks.take k).flatMap blockL = ys := ⟨_, rfl⟩
    have hyl : ys.length ≤ 27 + 1000 * 401000000 := by rw [← hys, List.length_append]; have := HDL.out; omega
    have HYS := Lib.hid hys
    rw [hys] at ho
    clear hys hup
    obtain ⟨A, cA, fp, rfl, hr, hf, u, rfl⟩ := ho
    have HR := Lib.hid hr
    have HF := Lib.hid hf
    have HWu := Lib.hid (HB1.trans (u.hb.mono HB1.size))
    have hzu : w.heap.size < u.w.heap.size := by have := u.hb.size; omega
    have b1 := (u.hb.cell zw1).trans y1
    clear hr hf
    by_cases hlt : k < m.blocks.length
    · obtain ⟨x, ex⟩ := get_of_lt hlt
      have hil := HFT.out.il _ _ ex
      have hpl := HFT.out.pl _ _ ex
      have HIN := Lib.hid (HFT.out.ins _ _ ex)
      have HTM := Lib.hid (HFT.out.term _ _ ex)
      have HPH := Lib.hid (HFT.out.phi _ _ ex)
      have HPL := Lib.hid (HFT.out.phisL ex)
      have HSN := Lib.hid (show ys ++ blockL x = HD ++ (m.blocks.take (k + 1)).flatMap blockL by rw [flatMap_snoc ex, ← HYS.out, List.append_assoc])
      obtain ⟨a, _, rfl, ⟨_, _, rfl, ⟨A0, c0, rfl, l0, r0⟩, _, _, rfl, ⟨A', c', rfl, l', r'⟩, rfl⟩, hc⟩ := hx.at ex
      obtain ⟨p00, p0, p1, p2, p3, p4⟩ := hc6 (n := k * 6) hc
      replace p00 : w.cell? (a.add (k * 6)) = some (.slice A0 x.phis.length c0) := p00
      replace p0 : w.cell? ⟨(a.add (k * 6)).block, (a.add (k * 6)).off + 1, none⟩ = some (.slice A' x.instrs.length c') := p0
      replace p1 : w.cell? ⟨(a.add (k * 6)).block, (a.add (k * 6)).off + 2, none⟩ = some (.int .i64 x.term.kind) := p1
      replace p2 : w.cell? ⟨(a.add (k * 6)).block, (a.add (k * 6)).off + 3, none⟩ = some (.int .i64 x.term.a) := p2
      replace p3 : w.cell? ⟨(a.add (k * 6)).block, (a.add (k * 6)).off + 4, none⟩ = some (.int .i64 x.term.to) := p3
      replace p4 : w.cell? ⟨(a.add (k * 6)).block, (a.add (k * 6)).off + 5, none⟩ = some (.int .i64 x.term.els) := p4
      have v00 := (HWu.out.cell (World.block_lt_of_cell? w _ p00)).trans p00
      have v0 := (HWu.out.cell (World.block_lt_of_cell? w _ p0)).trans p0
      have v1 := (HWu.out.cell (World.block_lt_of_cell? w _ p1)).trans p1
      have v2 := (HWu.out.cell (World.block_lt_of_cell? w _ p2)).trans p2
      have v3 := (HWu.out.cell (World.block_lt_of_cell? w _ p3)).trans p3
      have v4 := (HWu.out.cell (World.block_lt_of_cell? w _ p4)).trans p4
      clear hc p00 p0 p1 p2 p3 p4 ex
      have HB5 := Lib.hid (show Below u.w.heap.size u.w (u.w.alloc (.cells #[.slice A0 x.phis.length c0, .slice A' x.instrs.length c', .int .i64 x.term.kind, .int .i64 x.term.a, .int .i64 x.term.to, .int .i64 x.term.els] 81)) from (Below.refl _ _).alloc (Nat.le_refl _) _)
      have K5 := Lib.hid (Bk.made u.w 81 [.slice A0 x.phis.length c0, .slice A' x.instrs.length c', .int .i64 x.term.kind, .int .i64 x.term.a, .int .i64 x.term.to, .int .i64 x.term.els])
      simp only [List.toArray, List.toArrayAux] at K5
      go_upto_region 6 with (fail)
      generalize u.w.alloc (.cells #[.slice A0 x.phis.length c0, .slice A' x.instrs.length c', .int .i64 x.term.kind, .int .i64 x.term.a, .int .i64 x.term.to, .int .i64 x.term.els] 81) = w5 at *
      have HR5 := Lib.hid (HR.out.chg (chg_of HB5.out) (by simp))
      have HB15 := Lib.hid (u.hb.trans (HB5.out.mono u.hb.size))
      have z5 : u.w.heap.size < w5.heap.size := K5.out.lt
      generalize u.w.heap.size = B5 at *
      go_upto_region 7 with (
        go_at_call 55; (with_reducible refine (putLine0_c _ _ ys blockW _ fp w5 HR5.out (by rfl) (by omega) (by decide)).mono ?_); intro e w6 hp; have K6 := Lib.hid (hp.bk (K5.out.below ((Below.refl _ _).alloc (Nat.le_refl _) _)) (row_u8_ne K5.out (by decide) HR5.out)); obtain ⟨A2, c2, rfl⟩ := hp.ret)
      have HO2 := Lib.hid (Out.app (W := w1) (wr := w5) ⟨w5, HB15.out⟩ rfl ((Below.refl _ _).alloc (Nat.le_refl _) _) HF.out hp rfl)
      clear hp
      have hbl : (lineB blockW []).length = 6 := by decide
      obtain ⟨zs0, hzs0⟩ : ∃ zs0, ys ++ lineB blockW [] = zs0 := ⟨_, rfl⟩
      have hz0l : zs0.length ≤ 27 + 1000 * 401000000 + 6 := by rw [← hzs0, List.length_append, hbl]; omega
      have HZ0 := Lib.hid (show zs0 ++ (x.phis.flatMap phiL ++ (x.instrs.flatMap instrL ++ termL x.term)) = ys ++ blockL x by rw [← hzs0, blockL, List.append_assoc])
      rw [hzs0] at HO2
      have hlen0 : ys.length + (lineB blockW []).length = zs0.length := by rw [← hzs0, List.length_append]
      simp only [← List.length_append, hzs0]
      clear hzs0 hbl hlen0 K5 HR5 HB5 HB15 HR HF b1 v00 v0 v1 v2 v3 v4 z5 hzu HWu
      go_wp2
      go_loopw [3, 6] (fun t3 t6 wq => ∃ (j : Nat), j ≤ x.phis.length ∧ t6 = .int .i64 j ∧ Out w1 t3 (zs0 ++ (x.phis.take j).flatMap phiL) wq ∧ Bk B5 81 [.slice A0 x.phis.length c0, .slice A' x.instrs.length c', .int .i64 x.term.kind, .int .i64 x.term.a, .int .i64 x.term.to, .int .i64 x.term.els] wq) (fun _ t6 _ => x.phis.length - (intOf t6).toNat)
      case atStart => exact ⟨0, by omega, rfl, by simpa using HO2.out, K6.out⟩
      case round =>
        clear HO2 K6
        obtain ⟨j, hj, rfl, ho, hk6⟩ := hrel
        have hfl := HPL.out j
        obtain ⟨zs, hzs⟩ : ∃ zs, zs0 ++ (x.phis.take j).flatMap phiL = zs := ⟨_, rfl⟩
        have hzl : zs.length ≤ 27 + 1000 * 401000000 + 6 + 4000 * 100000 := by rw [← hzs, List.length_append]; omega
        have HZS := Lib.hid hzs
        rw [hzs] at ho
        clear hzs hfl
        obtain ⟨A4, c4, fp4, rfl, hr4, hf4, u4, rfl⟩ := ho
        have HR4 := Lib.hid hr4
        have HF4 := Lib.hid hf4
        have HN4 := Lib.hid (row_u8_ne hk6 (by decide) hr4)
        have HW4 := Lib.hid (HB1.trans (u4.hb.mono HB1.size))
        have K4 := Lib.hid hk6
        have z5 := hk6.lt
        have s0 := hk6.cell 0 (v := .slice A0 x.phis.length c0) rfl
        have s1 := hk6.cell 1 (v := .slice A' x.instrs.length c') rfl
        have b1 := (u4.hb.cell zw1).trans y1
        clear hr4 hf4 hk6
        by_cases hlt2 : j < x.phis.length
        · obtain ⟨y, ey⟩ := get_of_lt hlt2
          have HIY := Lib.hid (HPH.out _ _ ey)
          have hal := HIY.out.2
          have HSN2 := Lib.hid (show zs ++ phiL y = zs0 ++ (x.phis.take (j + 1)).flatMap phiL by rw [flatMap_snoc ey, ← HZS.out, List.append_assoc])
          obtain ⟨a2, _, rfl, ⟨_, _, rfl, rfl, ⟨A3, c3, rfl, l3, r3⟩⟩, hc⟩ := r0.at ey
          obtain ⟨p0, p1⟩ := hc2 (n := j * 2) hc
          replace p0 : w.cell? (a2.add (j * 2)) = some (.int .i64 y.dst) := p0
          replace p1 : w.cell? ⟨(a2.add (j * 2)).block, (a2.add (j * 2)).off + 1, none⟩ = some (.slice A3 y.args.length c3) := p1
          have v0 := (HW4.out.cell (World.block_lt_of_cell? w _ p0)).trans p0
          have v1 := (HW4.out.cell (World.block_lt_of_cell? w _ p1)).trans p1
          have zw0 : (a2.add (j * 2)).block < w.heap.size := World.block_lt_of_cell? w _ p0
          have zv : (a2.add (j * 2)).block < u4.w.heap.size := Nat.lt_of_lt_of_le zw0 HW4.out.size
          have HC3 := Lib.hid (show C kI64 u4.w A3 y.args from C.below r3 HW4.out)
          clear hc p0 p1 ey
          have HLT4 := Lib.hid (fun b (hb : b ∈ fp4) => HR4.out.lt b hb)
          have HSM := Lib.hid HIY.out.1
          have HNL := Lib.hid (show ([y.dst] ++ y.args).length ≤ 4001 by simp; omega)
          have HPE := Lib.hid (show phiL y = lineB phiW ([y.dst] ++ y.args) from rfl)
          clear HIY
          go_wp2
          have HKS := Lib.hid (fun w' (hc : Chg (fun k => k ∈ fp4 ∨ u4.w.heap.size ≤ k) u4.w w') => (⟨(hc.cell (p := ⟨B5, 0, none⟩) z5 (fun h => h.elim HN4.out (by simp; omega))).trans s0, (hc.cell (p := a2.add (j * 2)) zv (fun h => h.elim (fun h => by have := HF4.out _ h; omega) (by omega))).trans v0, (hc.cell (p := ⟨(a2.add (j * 2)).block, (a2.add (j * 2)).off + 1, none⟩) zv (fun h => h.elim (fun h => by have := HF4.out _ h; simp at this; omega) (by simp; omega))).trans v1⟩ : w'.cell? ⟨B5, 0, none⟩ = some (.slice (some a2) x.phis.length c0) ∧ w'.cell? (a2.add (j * 2)) = some (.int .i64 y.dst) ∧ w'.cell? ⟨(a2.add (j * 2)).block, (a2.add (j * 2)).off + 1, none⟩ = some (.slice A3 y.args.length c3)))
          go_region_held3 (fun w' => w'.cell? ⟨B5, 0, none⟩ = some (.slice (some a2) x.phis.length c0) ∧ w'.cell? (a2.add (j * 2)) = some (.int .i64 y.dst) ∧ w'.cell? ⟨(a2.add (j * 2)).block, (a2.add (j * 2)).off + 1, none⟩ = some (.slice A3 y.args.length c3)) ((refine HKS.out _ ?_; (repeat (first | (with_reducible first | exact Chg.refl _ _ | assumption) | (with_reducible refine Chg.drew ?_) | ((with_reducible refine Chg.setCell ?_ ?hs _); (case hs => first | (simp; done) | (simp; omega) | omega)) | (with_reducible refine Chg.alloc ?_ _)))))
            (first
            | (refine step_append_flat kI64 (flat_int .i64) rfl _ _ 49 rfl 2 i0 _ 8 Tryd.underlying49 hi hz0 hz1 hz2 rfl (by decide) _ [y.dst] [u4.w.heap.size] rfl (row_of_bk (by (repeat (first | exact bk_newl (by simp) | refine bk_drew ?_ | refine bk_old ?_)); done) (by simp [maxLen])) A3 c3 y.args rfl (HC3.out.below (by (repeat (first | (with_reducible first | exact Below.refl _ _ | assumption | exact ext_box _) | (with_reducible apply Below.drew) | ((with_reducible refine Below.setCell ?_ ?hs _); (case hs => first | (simp; done) | (simp; omega) | omega)) | ((with_reducible refine Below.alloc ?_ ?hs _); (case hs => first | (simp; done) | (simp; omega) | omega)))))) (by simp [maxLen]; omega) (by simp; omega) ?_; intro A7 c7 w7 fp7 hr7 hf7 hc7 hne7
               have HG7 := Lib.hid (show ∀ a, A7 = some a → u4.w.heap.size ≤ a.block from fun a ha => by
                 obtain ⟨g, rfl⟩ := hne7 (show (Value.slice (some ⟨u4.w.heap.size, 0, none⟩) 1 1) ≠ Value.slice none 0 0 by simp)
                 obtain rfl : fp7 = [g] := row_int_fp hr7
                 injection ha with ha; subst ha
                 rcases hf7 g (by simp) with h | h <;> simp at h <;> simp <;> omega)
               have HC47 := Lib.hid (show Chg (fun q => u4.w.heap.size ≤ q) u4.w w7 from Chg.trans (by (repeat (first | (with_reducible first | exact Chg.refl _ _ | assumption) | (with_reducible refine Chg.drew ?_) | ((with_reducible refine Chg.setCell ?_ ?hs _); (case hs => first | (simp; done) | (simp; omega) | omega)) | (with_reducible refine Chg.alloc ?_ _)))) (hc7.mono fun q _ hq => by simp at hq; omega))
               have HR7 := Lib.hid (show C kI64 w7 A7 ([y.dst] ++ y.args) from hr7.reads)
               have HC7 : Chg (fun k => k ∈ fp4 ∨ u4.w.heap.size ≤ k) u4.w w7 := HC47.out.mono fun _ _ h => .inr h
               clear hr7 hf7 hc7 hne7
               generalize [y.dst] ++ y.args = ns at *)
            | (go_simp; go_at_call 55; (with_reducible refine (putLine_c A4 c4 zs phiW A7 c7 ns fp4 _ ((HR4.out.chg HC47.out (fun b hb h => by have := HLT4.out b hb; omega)).chg (S := fun _ => False) (by (repeat (first | (with_reducible first | exact Chg.refl _ _ | assumption) | (with_reducible refine Chg.drew ?_) | ((with_reducible refine Chg.setCell ?_ ?hs _); (case hs => first | (simp; done) | (simp; omega) | omega)) | (with_reducible refine Chg.alloc ?_ _)))) (by simp)) (HR7.out.below (by (repeat (first | (with_reducible first | exact Below.refl _ _ | assumption | exact ext_box _) | (with_reducible apply Below.drew) | ((with_reducible refine Below.setCell ?_ ?hs _); (case hs => first | (simp; done) | (simp; omega) | omega)) | ((with_reducible refine Below.alloc ?_ ?hs _); (case hs => first | (simp; done) | (simp; omega) | omega)))))) HSM.out (by have := HNL.out; omega) (fun a ha hm => by have := HG7.out a ha; have := HLT4.out _ hm; omega) (by omega) (by decide)).mono ?_); intro e w8 hp; have HC8 : Chg (fun k => k ∈ fp4 ∨ u4.w.heap.size ≤ k) u4.w w8 := HC7.trans (hp.chg.mono fun _ _ h => h.imp id fun h => by have := HC47.out.size; omega); obtain ⟨A5, c5, rfl⟩ := hp.ret))
          have K8 := Lib.hid (hp.bk (K4.out.chg HC47.out (by omega)) HN4.out)
          have HO5 := Lib.hid (Out.app u4 rfl (HC47.out.below (Nat.le_refl _) fun _ h => h) HF4.out hp rfl)
          rw [← HPE.out, HSN2.out] at HO5
          have hln : zs.length + (lineB phiW ns).length = (zs0 ++ (x.phis.take (j + 1)).flatMap phiL).length := by rw [← HSN2.out, HPE.out, List.length_append]
          have hln2 : (zs ++ lineB phiW ns).length = (zs0 ++ (x.phis.take (j + 1)).flatMap phiL).length := by rw [← HSN2.out, HPE.out]
          clear hp HC7 HC8 HKS
          try simp only [hln, hln2]
          go_wp2
          go_roundw
          case rel => exact ⟨j + 1, by omega, by go_num, HO5.out, K8.out⟩
          case measure => simp [intOf]; omega
        · have hje : j = x.phis.length := by omega
          subst hje
          rw [List.take_length] at HZS
          have HZP := Lib.hid (show zs ++ (x.instrs.flatMap instrL ++ termL x.term) = ys ++ blockL x by rw [← HZ0.out, ← HZS.out, List.append_assoc])
          go_wp2
          go_loopw [3, 7] (fun t3 t7 wq => ∃ (i : Nat), i ≤ x.instrs.length ∧ t7 = .int .i64 i ∧ Out w1 t3 (zs ++ (x.instrs.take i).flatMap instrL) wq ∧ Bk B5 81 [.slice A0 x.phis.length c0, .slice A' x.instrs.length c', .int .i64 x.term.kind, .int .i64 x.term.a, .int .i64 x.term.to, .int .i64 x.term.els] wq) (fun _ t7 _ => x.instrs.length - (intOf t7).toNat)
          case atStart => exact ⟨0, by omega, rfl, ⟨A4, c4, fp4, by simp, by simpa using HR4.out, HF4.out, u4, rfl⟩, K4.out⟩
          case round =>
            clear HR4 HF4 HN4 HW4 K4 z5 s0 s1 b1
            obtain ⟨i, hi', rfl, ho, hk6⟩ := hrel
            have hfl := flatMap_len (f := instrL) (L := 72) (xs := x.instrs.take i) (fun y hy => by obtain ⟨i, hi⟩ := List.getElem?_of_mem (List.mem_of_mem_take hy); exact instrL_len (HIN.out i y hi).1)
            obtain ⟨qs, hqs⟩ : ∃ qs, zs ++ (x.instrs.take i).flatMap instrL = qs := ⟨_, rfl⟩
            have hql : qs.length ≤ 27 + 1000 * 401000000 + 6 + 4000 * 100000 + 4000 * 72 := by
              rw [← hqs, List.length_append]
              have : (x.instrs.take i).length * 72 ≤ 4000 * 72 := Nat.mul_le_mul_right _ (by rw [List.length_take]; omega)
              omega
            have HQS := Lib.hid hqs
            rw [hqs] at ho
            clear hqs hfl
            obtain ⟨A6, c6, fp6, rfl, hr6, hf6, u6, rfl⟩ := ho
            have HR6 := Lib.hid hr6
            have HF6 := Lib.hid hf6
            have HN6 := Lib.hid (row_u8_ne hk6 (by decide) hr6)
            have HW6 := Lib.hid (HB1.trans (u6.hb.mono HB1.size))
            have K6 := Lib.hid hk6
            have z5 := hk6.lt
            have s1 := hk6.cell 1 (v := .slice A' x.instrs.length c') rfl
            have s2 := hk6.cell 2 (v := .int .i64 x.term.kind) rfl
            have s3 := hk6.cell 3 (v := .int .i64 x.term.a) rfl
            have s4 := hk6.cell 4 (v := .int .i64 x.term.to) rfl
            have s5 := hk6.cell 5 (v := .int .i64 x.term.els) rfl
            have b1 := (u6.hb.cell zw1).trans y1
            clear hr6 hf6 hk6
            by_cases hlt2 : i < x.instrs.length
            · obtain ⟨y, ey⟩ := get_of_lt hlt2
              have HIY := Lib.hid (HIN.out _ _ ey)
              have HSN2 := Lib.hid (show qs ++ instrL y = zs ++ (x.instrs.take (i + 1)).flatMap instrL by rw [flatMap_snoc ey, ← HQS.out, List.append_assoc])
              obtain ⟨a2, _, rfl, rfl, hc⟩ := r'.at ey
              obtain ⟨p0, p1, p2, p3, p4⟩ := hc5 (n := i * 5) hc
              have v0 := (HW6.out.cell (World.block_lt_of_cell? w _ p0)).trans p0
              have v1 := (HW6.out.cell (World.block_lt_of_cell? w _ p1)).trans p1
              have v2 := (HW6.out.cell (World.block_lt_of_cell? w _ p2)).trans p2
              have v3 := (HW6.out.cell (World.block_lt_of_cell? w _ p3)).trans p3
              have v4 := (HW6.out.cell (World.block_lt_of_cell? w _ p4)).trans p4
              have HPI := Lib.hid (putInstr_c A6 c6 qs y fp6 u6.w HR6.out HIY.out.2.1 HIY.out.2.2 HIY.out.1 (by omega))
              simp only [Instr.v] at HPI
              clear hc p0 p1 p2 p3 p4 ey
              go_wp2_with (
                go_at_call 56; (with_reducible refine HPI.out.mono ?_); intro e w8 hp; have K8 := Lib.hid (hp.bk K6.out HN6.out); obtain ⟨A5, c5, rfl⟩ := hp.ret)
              have HO5 := Lib.hid (Out.app u6 rfl (Below.refl _ _) HF6.out hp rfl)
              clear hp
              go_roundw
              case rel => exact ⟨i + 1, by omega, by go_num, by rw [← HSN2.out]; simpa using HO5.out, K8.out⟩
              case measure => simp [intOf]; omega
            · have hie : i = x.instrs.length := by omega
              subst hie
              rw [List.take_length] at HQS
              have HPT := Lib.hid (putTerm_c A6 c6 qs x.term fp6 u6.w HR6.out HTM.out.2.1 HTM.out.2.2 HTM.out.1 (by omega))
              simp only [Term.v] at HPT
              go_wp2_with (
                go_at_call 57; (with_reducible refine HPT.out.mono ?_); intro e w8 hp; obtain ⟨A5, c5, rfl⟩ := hp.ret)
              have HO5 := Lib.hid (Out.app u6 rfl (Below.refl _ _) HF6.out hp rfl)
              have HSN3 := Lib.hid (show qs ++ termL x.term = HD ++ (m.blocks.take (k + 1)).flatMap blockL by rw [← HSN.out, ← HZP.out, ← HQS.out, List.append_assoc])
              clear hp
              go_roundw
              case rel => exact ⟨k + 1, by omega, by go_num, by rw [← HSN3.out]; simpa using HO5.out⟩
              case measure => simp [intOf]; omega
    · have hke : k = m.blocks.length := by omega
      subst hke
      rw [List.take_length] at HYS
      have HE := Lib.hid (show funcL m = ys by rw [HML.out, HYS.out])
      go_wp2
      go_ret
      rw [HE.out]
      exact ⟨A, cA, fp, rfl, HR.out, fun b hb => Nat.le_trans HB1.size (HF.out b hb), HWu.out⟩
set_option maxHeartbeats 1000000 in
theorem encFunc_s (L : Option Addr) (c : Nat) (m : Func) (w : World) (hx : C (kBlock 0 0 0) w L m.blocks) (hm : m.blocks.length ≤ 1048576) (hs : ∀ (i : Nat) b, m.blocks[i]? = some b → okBlk 1048576 b) :
    Calls Tryd.prog 33 #[.agg #[.int .i64 m.values, .slice L m.blocks.length c]] w (RetB w (encFunc m)) := by
  have HIV := Lib.hid (fun W (h : Below w.heap.size w W) => validFS_c L c m W (hx.below h) hm hs)
  cases hv : validF m
  · have HR := Lib.hid (show encFunc m = [] by simp [encFunc, hv])
    have HV := Lib.hid hv
    clear hv
    go_enter Tryd.func33, Tryd.ntmps33
    go_wp2_with (go_at_call 15; have hiv := HIV.out; rw [HV.out] at hiv; refine (hiv _ (by repeat (first | (with_reducible first | exact Below.refl _ _ | assumption | exact ext_box _) | (with_reducible apply Below.drew) | ((with_reducible refine Below.setCell ?_ ?hs _); (case hs => first | (simp; done) | (simp; omega) | omega)) | ((with_reducible refine Below.alloc ?_ ?hs _); (case hs => first | (simp; done) | (simp; omega) | omega))))).mono ?_; rintro e w1 ⟨rfl, hb1⟩; have HB1 : Below w.heap.size w w1 := Below.then_ (by repeat (first | (with_reducible first | exact Below.refl _ _ | assumption | exact ext_box _) | (with_reducible apply Below.drew) | ((with_reducible refine Below.setCell ?_ ?hs _); (case hs => first | (simp; done) | (simp; omega) | omega)) | ((with_reducible refine Below.alloc ?_ ?hs _); (case hs => first | (simp; done) | (simp; omega) | omega)))) hb1)
    go_ret
    rw [HR.out]
    exact ⟨some ⟨w1.heap.size, 0, none⟩, 0, [w1.heap.size], rfl, Row.empty0 rfl, fun b hb => by simp at hb; subst hb; exact HB1.size, HB1.alloc HB1.size _⟩
  · have HR' := Lib.hid (show encFunc m = funcL m by simp [encFunc, hv])
    have HV := Lib.hid hv
    have HRW := Lib.hid (fun W (h : Below w.heap.size w W) => raw_s L c m W (hx.below h) (validF_FT HV.out))
    clear hv
    go_enter Tryd.func33, Tryd.ntmps33
    go_wp2_with (first
      | (go_at_call 15; have hiv := HIV.out; rw [HV.out] at hiv; refine (hiv _ (by repeat (first | (with_reducible first | exact Below.refl _ _ | assumption | exact ext_box _) | (with_reducible apply Below.drew) | ((with_reducible refine Below.setCell ?_ ?hs _); (case hs => first | (simp; done) | (simp; omega) | omega)) | ((with_reducible refine Below.alloc ?_ ?hs _); (case hs => first | (simp; done) | (simp; omega) | omega))))).mono ?_; rintro e w1 ⟨rfl, hb1⟩; have HB1 : Below w.heap.size w w1 := Below.then_ (by repeat (first | (with_reducible first | exact Below.refl _ _ | assumption | exact ext_box _) | (with_reducible apply Below.drew) | ((with_reducible refine Below.setCell ?_ ?hs _); (case hs => first | (simp; done) | (simp; omega) | omega)) | ((with_reducible refine Below.alloc ?_ ?hs _); (case hs => first | (simp; done) | (simp; omega) | omega)))) hb1; have zw1 : w.heap.size < w1.heap.size := (by have := hb1.size; simp at this; omega); have K0 := Lib.hid ((Bk.made w 40 [.int .i64 m.values, .slice L m.blocks.length c]).below hb1); have y0 := K0.out.cell 0 (v := .int .i64 m.values) rfl; have y1 := K0.out.cell 1 (v := .slice L m.blocks.length c) rfl)
      | (go_at_call 70; (with_reducible refine (HRW.out _ HB1).mono ?_); intro e w2 hp; unfold RetB at hp; obtain ⟨A2, c2, fp2, rfl, hr2, hf2, hb2⟩ := hp))
    go_ret
    rw [HR'.out]
    exact ⟨A2, c2, fp2, rfl, hr2, fun b hb => Nat.le_trans HB1.size (hf2 b hb), HB1.trans (hb2.mono HB1.size)⟩
end Go.Proofs.YtnnfjjgohhicjaaDoor
namespace Go.Proofs.YtnnfjjgohhicjaaDoor
open Go.RowKit
set_option linter.unusedSimpArgs false
set_option linter.unusedVariables false
set_option maxRecDepth 100000

/-- A marked row: as long as before, in the same blocks. -/
def MarkRow {α : Type} (e : TypeId) (d : Kd α) (v : Value) (n : Nat) (k : Int) (top : Int) (fp : List Nat) (w : World) (en : Ending) (w' : World) : Prop :=
  ∃ (k' : Int) (ys : List α) (fp' : List Nat), en = .returned (.int .i64 k') ∧ k ≤ k' ∧ k' ≤ k + top ∧ ys.length = n ∧ Row e d w' v ys fp' ∧ (∀ b ∈ fp', b ∈ fp) ∧ Chg (fun b => b ∈ fp) w w'
set_option maxHeartbeats 4000000 in
theorem markInstrS_c (v : Value) (xs : List Instr) (fp : List Nat) (k : Int) (w : World) (h : Row 72 kInstr w v xs fp) (hk : 0 ≤ k) (hk2 : k ≤ 4611686018427387904) (hl : xs.length ≤ 1048576) :
    Calls Tryd.prog 92 #[v, .int .i64 k] w (MarkRow 72 kInstr v xs.length k (5 * (xs.length : Int)) fp w) := by
  rcases h.form' with ⟨rfl, rfl, rfl⟩ | ⟨g, cap, rfl, hg, -⟩
  · have HH := Lib.hid h
    clear h
    go_enter Tryd.func92, Tryd.ntmps92
    go_wp2
    go_loopw [1, 5] (fun k1 i wr => k1 = .int .i64 k ∧ i = .int .i64 0 ∧ wr = w) (fun _ _ _ => 0)
    case atStart => exact ⟨rfl, rfl, rfl⟩
    case round =>
      obtain ⟨rfl, rfl, rfl⟩ := hrel
      go_wp2
      go_ret
      exact ⟨k, [], [], by simp, by omega, by simp, rfl, HH.out, fun _ h => h, Chg.refl _ _⟩
  · have HX := Lib.hid h
    have HG := Lib.hid hg
    clear h hg
    go_enter Tryd.func92, Tryd.ntmps92
    go_wp2
    go_loopw [1, 5] (fun k1 i wr => ∃ (j : Nat) (ys : List Instr) (fp' : List Nat), j ≤ xs.length ∧ k1 = .int .i64 (k + 5 * (j : Int)) ∧ i = .int .i64 j ∧ ys.length = xs.length ∧ Row 72 kInstr wr (.slice (some ⟨g, 0, none⟩) xs.length cap) ys fp' ∧ (∀ b ∈ fp', b ∈ fp) ∧ Chg (fun b => b ∈ fp) w wr) (fun _ i _ => xs.length - (intOf i).toNat)
    case atStart => exact ⟨0, xs, fp, by omega, by simp, rfl, rfl, HX.out, fun _ h => h, Chg.refl _ _⟩
    case round =>
      obtain ⟨j, ys, fp', hj, rfl, rfl, hy, hr, hf, hc⟩ := hrel
      have HF := Lib.hid hf
      have HY := Lib.hid hy
      by_cases hlt : j < xs.length
      · obtain ⟨y, ey⟩ := get_of_lt (show j < ys.length by omega)
        obtain ⟨_, rfl, hq, hfz⟩ := hr.cellsAt hy ey
        obtain ⟨q0, q1, q2, q3, q4⟩ := ha5 (n := j * 5) hq
        have f0 := hfz (j * 5)
        have f1 := hfz (j * 5 + 1)
        have f2 := hfz (j * 5 + 2)
        have f3 := hfz (j * 5 + 3)
        have f4 := hfz (j * 5 + 4)
        obtain ⟨fp2, hr2, hf2, hc2⟩ := hr.set hy (i := j) hlt (y := (⟨k + 5 * (j : Int), k + 5 * (j : Int) + 1, k + 5 * (j : Int) + 1 + 1, k + 5 * (j : Int) + 1 + 1 + 1, k + 5 * (j : Int) + 1 + 1 + 1 + 1⟩ : Instr)) ⟨rfl, rfl⟩ (by simp)
        rw [show j * kInstr.sz = j * 5 from rfl, setCells5] at hr2 hc2
        have HR := Lib.hid hr2
        have HC := Lib.hid (hc.trans (hc2.mono fun b _ e => by rw [e]; exact HG.out))
        have HF2 := Lib.hid (show ∀ b ∈ fp2, b ∈ fp from fun b hb => HF.out b ((hf2 b hb).resolve_right (by simp)))
        clear hr hr2 hc hc2 ey hq hfz hf hf2
        go_wp2
        go_roundw
        case rel => exact ⟨j + 1, _, fp2, by omega, by go_num, by go_num, by simpa using hy, HR.out, HF2.out, HC.out⟩
        case measure => simp [intOf]; omega
      · have hjn : j = xs.length := by omega
        subst hjn
        have HR := Lib.hid hr
        have HC := Lib.hid hc
        clear hr hc hf
        go_wp2
        go_ret
        exact ⟨_, ys, fp', rfl, by omega, by omega, HY.out, HR.out, HF.out, HC.out⟩
end Go.Proofs.YtnnfjjgohhicjaaDoor
namespace Go.Proofs.YtnnfjjgohhicjaaDoor
open Go.RowKit
set_option linter.unusedSimpArgs false
set_option linter.unusedVariables false
set_option maxRecDepth 100000

theorem set_self {w : World} {g o : Nat} {v : Value} (h : w.cell? ⟨g, o, none⟩ = some v) : w.setCell ⟨g, o, none⟩ v = w := by
  have hh : (w.setCell ⟨g, o, none⟩ v).heap = w.heap := by
    apply Array.ext_getElem?
    intro k
    unfold World.cell? at h
    unfold World.setCell
    simp only [Array.getElem?_modify]
    by_cases hk : g = k
    · subst hk
      simp only [if_true]
      cases hg : w.heap[g]? with
      | none => rfl
      | some ob =>
        cases ob <;> simp_all
        apply Array.ext_getElem?
        intro q
        rw [Array.getElem?_setIfInBounds]
        split
        · rename_i hq; subst hq; split
          · exact h.symm
          · rename_i hz; rw [Array.getElem?_eq_none (by omega)]
        · rfl
    · simp [hk]
  unfold World.setCell at hh ⊢
  cases w
  simp only at hh ⊢
  rw [hh]
set_option maxHeartbeats 4000000 in
theorem markMBlockS_c (v : Value) (xs : List MBlock) (fp : List Nat) (k : Int) (w : World) (h : Row 69 (kMB 72) w v xs fp) (hk : 0 ≤ k) (hk2 : k ≤ 1048576) (hl : xs.length ≤ 1048576) (hs : ∀ (i : Nat) b, xs[i]? = some b → b.instrs.length ≤ 1048576) :
    Calls Tryd.prog 62 #[v, .int .i64 k] w (MarkRow 69 (kMB 72) v xs.length k (6000000 * (xs.length : Int)) fp w) := by
  rcases h.form' with ⟨rfl, rfl, rfl⟩ | ⟨g, cap, rfl, hg, -⟩
  · have HH := Lib.hid h
    clear h hs
    go_enter Tryd.func62, Tryd.ntmps62
    go_wp2
    go_loopw [1, 5] (fun k1 i wr => k1 = .int .i64 k ∧ i = .int .i64 0 ∧ wr = w) (fun _ _ _ => 0)
    case atStart => exact ⟨rfl, rfl, rfl⟩
    case round =>
      obtain ⟨rfl, rfl, rfl⟩ := hrel
      go_wp2
      go_ret
      exact ⟨k, [], [], by simp, by omega, by simp, rfl, HH.out, fun _ h => h, Chg.refl _ _⟩
  · have HX := Lib.hid h
    have HG := Lib.hid hg
    have HS := Lib.hid hs
    clear h hg hs
    go_enter Tryd.func62, Tryd.ntmps62
    go_wp2
    go_loopw [1, 5] (fun k1 i wr => ∃ (j : Nat) (k' : Int) (ys : List MBlock) (fp' : List Nat), j ≤ xs.length ∧ k1 = .int .i64 k' ∧ k ≤ k' ∧ k' ≤ k + 6000000 * (j : Int) ∧ i = .int .i64 j ∧ ys.length = xs.length ∧ (∀ (i : Nat) b, ys[i]? = some b → b.instrs.length ≤ 1048576) ∧ Row 69 (kMB 72) wr (.slice (some ⟨g, 0, none⟩) xs.length cap) ys fp' ∧ (∀ b ∈ fp', b ∈ fp) ∧ Chg (fun b => b ∈ fp) w wr) (fun _ i _ => xs.length - (intOf i).toNat)
    case atStart => exact ⟨0, k, xs, fp, by omega, rfl, by omega, by omega, rfl, rfl, HS.out, HX.out, fun _ h => h, Chg.refl _ _⟩
    case round =>
      obtain ⟨j, k', ys, fp', hj, rfl, hk3, hk4, rfl, hy, hys, hr, hf, hc⟩ := hrel
      have HF := Lib.hid hf
      have HY := Lib.hid hy
      have HYS := Lib.hid hys
      by_cases hlt : j < xs.length
      · obtain ⟨y, ey⟩ := get_of_lt (show j < ys.length by omega)
        have hyl := hys _ _ ey
        obtain ⟨_, _, hq, hfz⟩ := hr.cellsAt hy ey
        have f0 := hfz (j * 5)
        have f1 := hfz (j * 5 + 1)
        have f2 := hfz (j * 5 + 2)
        have f3 := hfz (j * 5 + 3)
        have f4 := hfz (j * 5 + 4)
        obtain ⟨_, f9, hO, hcs, hsub, hgn, hset⟩ := hr.focus hy ey
        obtain ⟨_, _, r1, r2, rfl, rfl, hnd, ⟨v0, rfl, r0⟩, rfl, rfl⟩ := hO
        obtain ⟨A4, c4, rfl, hl4⟩ := r0.form
        obtain ⟨q0, q1, q2, q3, q4⟩ := ha5 (n := j * 5) hcs
        simp only [List.append_nil] at hsub hgn hset
        replace hset : ∀ (w' : World) (y2 : MBlock) (cs' : List Value) (f : List Nat), wr.heap.size ≤ w'.heap.size → (∀ b ∈ fp', b ∉ r1 → w'.heap[b]? = wr.heap[b]?) → (kMB 72).O w' y2 cs' f → (∀ b ∈ f, b ∈ r1 ∨ b ∉ fp') → ∃ fp'', Row 69 (kMB 72) (setCells w' g (j * 5) cs') (.slice (some ⟨g, 0, none⟩) xs.length cap) (ys.set j y2) fp'' ∧ (∀ b ∈ fp'', b ∈ fp' ∨ b ∈ f) ∧ Chg (fun k => k = g) w' (setCells w' g (j * 5) cs') := hset
        replace q0 : wr.cell? ⟨g, j * 5, none⟩ = some (.slice A4 y.instrs.length c4) := q0
        have HST := Lib.hid hset
        have HSB := Lib.hid hsub
        have HGN := Lib.hid hgn
        have HM := Lib.hid (markInstrS_c (.slice A4 y.instrs.length c4) y.instrs r1 k' wr r0 (by omega) (by omega) hyl)
        have HLT := Lib.hid (show ∀ b ∈ fp', b < wr.heap.size from fun b hb => hr.lt b hb)
        have HFZ := Lib.hid hfz
        have HC := Lib.hid hc
        have zg := World.block_lt_of_cell? wr _ q0
        clear hset hsub hgn hr hcs hq hfz hc r0 hys hf ey hl4 hnd
        go_wp2_with (
          go_at_call 92; with_reducible refine HM.out.mono ?_; intro e w1 hp1; unfold MarkRow at hp1; obtain ⟨k2, zs, r2, rfl, hk5, hk6, hzl, hr6, hr7, hc6⟩ := hp1
          have hblk : w1.heap[g]? = wr.heap[g]? := hc6.block g zg HGN.out
          have s0 := Chg.at hc6 q0 HGN.out
          have s1 := Chg.at hc6 q1 HGN.out
          have s2 := Chg.at hc6 q2 HGN.out
          have s3 := Chg.at hc6 q3 HGN.out
          have s4 := Chg.at hc6 q4 HGN.out
          have hfz1 : ∀ o, w1.frozen? ⟨g, o, none⟩ = false := fun o => by have := HFZ.out o; unfold World.frozen? at this ⊢; rw [hblk]; exact this
          have f10 := hfz1 (j * 5)
          have f11 := hfz1 (j * 5 + 1)
          have f12 := hfz1 (j * 5 + 2)
          have f13 := hfz1 (j * 5 + 3)
          have f14 := hfz1 (j * 5 + 4)
          obtain ⟨fp2, hr8, hf8, hc8⟩ := HST.out w1 ⟨zs, ⟨k2, k2 + 1, k2 + 1 + 1, k2 + 1 + 1 + 1⟩⟩ _ r2 hc6.size (fun b hb hn => hc6.block b (HLT.out b hb) hn) (kMB_O hr6) (fun b hb => .inl (hr7 b hb))
          rw [setCells5, set_self s0] at hr8 hc8
          have HR8 := Lib.hid hr8
          have HC8 := Lib.hid ((HC.out.trans (hc6.mono fun b _ hb => HF.out b (HSB.out b hb))).trans (hc8.mono fun b _ e => by rw [e]; exact HG.out))
          have HF8 := Lib.hid (show ∀ b ∈ fp2, b ∈ fp from fun b hb => HF.out b ((hf8 b hb).elim id fun h => HSB.out b (hr7 b h)))
          have HZ := Lib.hid hzl
          clear hr8 hc8 hf8 hr6 hr7 hc6 hblk hfz1 q0 q1 q2 q3 q4 f0 f1 f2 f3 f4)
        go_roundw
        case rel => exact ⟨j + 1, k2 + 1 + 1 + 1 + 1, _, fp2, by omega, by go_num, by omega, by omega, by go_num, by simpa using hy, fun i b hb => by
          by_cases hi : j = i
          · subst hi
            rw [List.getElem?_set_self (by omega)] at hb
            obtain rfl := Option.some.inj hb
            have := HZ.out
            simp only
            omega
          · rw [List.getElem?_set_ne hi] at hb
            exact HYS.out i b hb, HR8.out, HF8.out, HC8.out⟩
        case measure => simp [intOf]; omega
      · have hjn : j = xs.length := by omega
        subst hjn
        have HR := Lib.hid hr
        have HC := Lib.hid hc
        clear hr hc hf
        go_wp2
        go_ret
        exact ⟨_, ys, fp', rfl, by omega, by omega, HY.out, HR.out, HF.out, HC.out⟩
def MarkMach (n : Nat) (k : Int) (fp : List Nat) (w : World) (e : Ending) (w' : World) : Prop := ∃ k' : Int, e = .returned (.int .i64 k') ∧ k ≤ k' ∧ k' ≤ k + 6000000 * (n : Int) ∧ Chg (fun b => b ∈ fp) w w'
set_option maxHeartbeats 1000000 in
theorem markMach_c (regs : Int) (v : Value) (xs : List MBlock) (fp : List Nat) (k : Int) (w : World) (h : Row 69 (kMB 72) w v xs fp) (hk : 0 ≤ k) (hk2 : k ≤ 1048576) (hl : xs.length ≤ 1048576) (hs : ∀ (i : Nat) b, xs[i]? = some b → b.instrs.length ≤ 1048576) :
    Calls Tryd.prog 22 #[.agg #[.int .i64 regs, v], .int .i64 k] w (MarkMach xs.length k fp w) := by
  obtain ⟨A, c, rfl, -⟩ := h.form
  have HM := Lib.hid (fun W (hb : Below w.heap.size w W) => markMBlockS_c _ xs fp k W (h.chg (chg_of hb) (by simp)) hk hk2 hl hs)
  clear h hs
  go_enter Tryd.func22, Tryd.ntmps22
  go_wp2_with (
    go_at_call 62; with_reducible refine (HM.out _ (by (repeat (first | (with_reducible first | exact Below.refl _ _ | assumption | exact ext_box _) | (with_reducible apply Below.drew) | ((with_reducible refine Below.setCell ?_ ?hs _); (case hs => first | (simp; done) | (simp; omega) | omega)) | ((with_reducible refine Below.alloc ?_ ?hs _); (case hs => first | (simp; done) | (simp; omega) | omega)))))).mono ?_; intro e w1 hp1; unfold MarkRow at hp1; obtain ⟨k2, zs, r2, rfl, hk5, hk6, hzl, hr6, hr7, hc6⟩ := hp1
    have HC := Lib.hid (show Chg (fun b => b ∈ fp) w w1 from Chg.trans (by (repeat (first | (with_reducible first | exact Chg.refl _ _ | assumption) | (with_reducible refine Chg.drew ?_) | ((with_reducible refine Chg.setCell ?_ ?hs _); (case hs => first | (simp; done) | (simp; omega) | omega)) | (with_reducible refine Chg.alloc ?_ _)))) hc6)
    clear hr6 hr7 hc6)
  go_ret
  exact ⟨k2, rfl, hk5, hk6, HC.out⟩
end Go.Proofs.YtnnfjjgohhicjaaDoor
