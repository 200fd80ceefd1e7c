/- The numbering's closure in memory; contract of (*flow).number$1 by induction on the search's fuel. -/
import Derived.Test.YtnbkgaofdkkdnaaDoorHe
import Derived.StillTailTactics
namespace Go.Proofs.YtnbkgaofdkkdnaaDoor
open Go.RowKit
set_option linter.unusedSimpArgs false
set_option linter.unusedVariables false
set_option maxRecDepth 100000
open Dom

namespace Dom
theorem nodup_len : ∀ (m : Nat) (l : List Nat), l.Nodup → (∀ x ∈ l, x < m) → l.length ≤ m
  | 0, l, _, hl => by
    cases l with
    | nil => simp
    | cons a l => have := hl a (by simp); omega
  | m + 1, l, hn, hl => by
    by_cases hmem : m ∈ l
    · have h1 := nodup_len m (l.erase m) (hn.erase m) fun x hx => by
        have h2 := hl x (List.mem_of_mem_erase hx)
        have h3 : x ≠ m := fun e => by subst e; exact (List.Nodup.mem_erase_iff hn).1 hx |>.1 rfl
        omega
      have := List.length_erase_of_mem hmem
      have := List.length_pos_of_mem hmem
      omega
    · have := nodup_len m l hn fun x hx => by
        have h2 := hl x hx
        have h3 : x ≠ m := fun e => hmem (e ▸ hx)
        omega
      omega
structure StOk (m : Nat) (L : List Bool) (S : List Nat) : Prop where
  len : L.length = m
  nodup : S.Nodup
  marked : ∀ x ∈ S, Mk L x
theorem StOk.le {m : Nat} {L : List Bool} {S : List Nat} (h : StOk m L S) : S.length ≤ m := nodup_len m S h.nodup fun x hx => by have := mk_lt (h.marked x hx); rw [h.len] at this; exact this
theorem StOk.went {succ : Nat → List Nat} {m : Nat} {s s' : List Bool × List Nat} {H T : List Nat} (h : StOk m s.1 s.2) (k : Went succ H s s' T) : StOk m s'.1 s'.2 := by
  refine ⟨k.len.trans h.len, ?_, fun x hx => ?_⟩
  · rw [k.left, List.nodup_append]
    refine ⟨h.nodup, k.nodup, fun a ha b hb e => ?_⟩
    subst e
    exact k.new a hb (h.marked a ha)
  · rw [k.left] at hx
    rcases List.mem_append.1 hx with hx | hx
    · exact (k.mem x).2 (.inl (h.marked x hx))
    · exact (k.mem x).2 (.inr hx)
theorem StOk.mark {m b : Nat} {L : List Bool} {S : List Nat} (h : StOk m L S) (hb : b < m) : StOk m (L.set b true) S :=
  ⟨by simpa using h.len, h.nodup, fun x hx => (mk_set (by rw [h.len]; exact hb)).2 (.inr (h.marked x hx))⟩
def stepF (succ : Nat → List Nat) (n : Nat) (s : List Bool × List Nat) (t : Nat) : List Bool × List Nat := if s.1.getD t false then s else dfs succ n t s
theorem dfs_succ (succ : Nat → List Nat) (n b : Nat) (s : List Bool × List Nat) : dfs succ (n + 1) b s = (((succ b).foldl (stepF succ n) (s.1.set b true, s.2)).1, ((succ b).foldl (stepF succ n) (s.1.set b true, s.2)).2 ++ [b]) := rfl
theorem fold_snoc {α β : Type} {f : β → α → β} {l : List α} {j : Nat} {x : α} (h : l[j]? = some x) (s : β) : (l.take (j + 1)).foldl f s = f ((l.take j).foldl f s) x := by rw [List.take_add_one, h]; simp
/-- The followers done so far. -/
structure KidSt (succ : Nat → List Nat) (ts : List Nat) (s0 s : List Bool × List Nat) : Prop where
  went : ∃ H T, (∀ x ∈ H, x ∈ ts) ∧ Went succ H s0 s T
theorem KidSt.refl (succ : Nat → List Nat) (ts : List Nat) (s : List Bool × List Nat) : KidSt succ ts s s := ⟨[], [], by simp, Went.refl _ _⟩
theorem KidSt.step {succ : Nat → List Nat} {ts : List Nat} {m n t : Nat} {s0 s : List Bool × List Nat} (hs : ∀ x t, t ∈ succ x → t < m) (h : KidSt succ ts s0 s) (h0 : s0.1.length = m) (hu : unm s0.1 ≤ n) (ht : t ∈ ts) (htm : t < m) (hm : ¬ Mk s.1 t) : KidSt succ ts s0 (dfs succ n t s) ∧ unm s.1 ≤ n := by
  obtain ⟨H, T, h1, h2⟩ := h
  have hu2 := Nat.le_trans h2.unm hu
  obtain ⟨S0, h3⟩ := dfs_went hs n t s (h2.len.trans h0) htm hm hu2
  exact ⟨⟨H ++ [t], T ++ S0, fun x hx => by
    rcases List.mem_append.1 hx with hx | hx
    · exact h1 x hx
    · simp at hx; rw [hx]; exact ht, h2.trans h3⟩, hu2⟩
theorem KidSt.ok {succ : Nat → List Nat} {ts : List Nat} {m : Nat} {s0 s : List Bool × List Nat} (h : KidSt succ ts s0 s) (h0 : StOk m s0.1 s0.2) : StOk m s.1 s.2 := by
  obtain ⟨H, T, h1, h2⟩ := h
  exact h0.went h2
theorem KidSt.fresh {succ : Nat → List Nat} {ts : List Nat} {b : Nat} {s0 s : List Bool × List Nat} (h : KidSt succ ts s0 s) (hb : Mk s0.1 b) (hS : b ∉ s0.2) : b ∉ s.2 ∧ Mk s.1 b := by
  obtain ⟨H, T, h1, h2⟩ := h
  refine ⟨fun hx => ?_, (h2.mem b).2 (.inl hb)⟩
  rw [h2.left] at hx
  rcases List.mem_append.1 hx with hx | hx
  · exact hS hx
  · exact h2.new b hx hb
theorem PostOk.snoc {Q : List Int} {S : List Nat} {b : Nat} (h : PostOk Q S) (hb : b ∉ S) (hl : b < Q.length) : PostOk (Q.set b (S.length : Int)) (S ++ [b]) := by
  intro x hx
  rw [List.getElem?_set]
  by_cases e : b = x
  · subst e
    rw [if_pos rfl, if_pos hl, List.idxOf_append, if_neg hb]; simp
  · rw [if_neg e]
    have hxS : x ∈ S := by
      rcases List.mem_append.1 hx with hx | hx
      · exact hx
      · simp at hx; exact absurd hx.symm e
    rw [List.idxOf_append, if_pos hxS]
    exact h x hxS
theorem StOk.snoc {m b : Nat} {L : List Bool} {S : List Nat} (h : StOk m L S) (hb : b ∉ S) (hm : Mk L b) : StOk m L (S ++ [b]) :=
  ⟨h.len, by rw [List.nodup_append]; exact ⟨h.nodup, by simp, fun a ha c hc e => by simp at hc; subst hc; subst e; exact hb ha⟩, fun x hx => by
    rcases List.mem_append.1 hx with hx | hx
    · exact h.marked x hx
    · simp at hx; rw [hx]; exact hm⟩
end Dom

structure NumA where
  a : FlowA
  Bw : Nat
  Bf : Nat
  Bv : Nat
  Bl : Nat
  vals : Int
  Af : Option Addr
  cf : Nat
def NumA.Own (z : NumA) (q : Nat) : Prop := z.a.Own q ∨ q = z.Bw ∨ q = z.Bf ∨ q = z.Bv ∨ q = z.Bl
def NumA.fn (z : NumA) : Value := .func (.func 97) #[] #[.pointer (some ⟨z.Bw, 0, none⟩), .pointer (some ⟨z.Bf, 0, none⟩), .pointer (some ⟨z.Bv, 0, none⟩), .pointer (some ⟨z.Bl, 0, none⟩)]
structure NumM (z : NumA) (bs : List Block) (W0 : World) (n : Nat) (P : List (List Int)) (I D : List Int) (vo : Value) (Q : List Int) (L : List Bool) (S : List Nat) (v : Value) (fp : List Nat) (w : World) : Prop where
  flow : FlowM z.a n P I Q L D vo w
  bw : Bk z.Bw 55 [.pointer (some ⟨z.a.g, 0, none⟩)] w
  bf : Bk z.Bf 29 [.int .i64 z.vals, .slice z.Af bs.length z.cf] w
  bv : Bk z.Bv 149 [z.fn] w
  bl : Bk z.Bl 35 [v] w
  row : Row 2 kI64 w v (natI S) fp
  rown : ∀ q ∈ fp, W0.heap.size ≤ q ∧ ¬ z.Own q
  apart : ¬ z.a.Own z.Bw ∧ ¬ z.a.Own z.Bf ∧ ¬ z.a.Own z.Bv ∧ ¬ z.a.Own z.Bl ∧ z.Bw ≠ z.Bl ∧ z.Bf ≠ z.Bl ∧ z.Bv ≠ z.Bl
  low : ∀ q, z.Own q → W0.heap.size ≤ q
  ext : Below W0.heap.size W0 w
namespace NumM
variable {z : NumA} {bs : List Block} {W0 : World} {n : Nat} {P : List (List Int)} {I D : List Int} {vo : Value} {Q : List Int} {L : List Bool} {S : List Nat} {v : Value} {fp : List Nat} {w w' : World}
theorem upd {I' D' Q' : List Int} {L' : List Bool} {vo' : Value} {T : Nat → Prop} (h : NumM z bs W0 n P I D vo Q L S v fp w) (hf : FlowM z.a n P I' Q' L' D' vo' w') (hc : Chg T w w') (hT : ∀ q, T q → z.a.Own q) : NumM z bs W0 n P I' D' vo' Q' L' S v fp w' := by
  obtain ⟨a1, a2, a3, a4, a5, a6, a7⟩ := h.apart
  exact ⟨hf, h.bw.chg hc fun k => a1 (hT _ k), h.bf.chg hc fun k => a2 (hT _ k), h.bv.chg hc fun k => a3 (hT _ k), h.bl.chg hc fun k => a4 (hT _ k), h.row.chg hc fun q hq k => (h.rown q hq).2 (.inl (hT _ k)), h.rown, h.apart, h.low, h.ext.trans (hc.below h.ext.size fun q hq => h.low q (.inl (hT _ hq)))⟩
theorem below (h : NumM z bs W0 n P I D vo Q L S v fp w) (hb : Below w.heap.size w w') : NumM z bs W0 n P I D vo Q L S v fp w' := h.upd (h.flow.below hb) (chg_of hb) fun _ h => h.elim
theorem lt (h : NumM z bs W0 n P I D vo Q L S v fp w) {q : Nat} (hq : z.Own q) : q < w.heap.size := by
  rcases hq with hq | rfl | rfl | rfl | rfl
  · exact h.flow.lt hq
  · exact h.bw.lt
  · exact h.bf.lt
  · exact h.bv.lt
  · exact h.bl.lt
/-- The list's row grown, then put into its box. -/
theorem app {v' : Value} {fp' : List Nat} {S' : List Nat} {w3 : World} (h : NumM z bs W0 n P I D vo Q L S v fp w) (hc : Chg (fun q => q ∈ fp) w w3) (hr : Row 2 kI64 w3 v' (natI S') fp') (hf : ∀ q ∈ fp', q ∈ fp ∨ w.heap.size ≤ q) :
    NumM z bs W0 n P I D vo Q L S' v' fp' (w3.setCell ⟨z.Bl, 0, none⟩ v') ∧ Chg (fun q => z.Own q ∨ q ∈ fp) w (w3.setCell ⟨z.Bl, 0, none⟩ v') := by
  obtain ⟨a1, a2, a3, a4, a5, a6, a7⟩ := h.apart
  have hn : ∀ q, z.Own q → ¬ q ∈ fp := fun q hq hm => (h.rown q hm).2 hq
  obtain ⟨b1, b2⟩ := (h.bl.chg hc (hn _ (by simp [NumA.Own]))).set 0 v'
  have hfp' : ∀ q ∈ fp', W0.heap.size ≤ q ∧ ¬ z.Own q := fun q hq => by
    rcases hf q hq with k | k
    · exact h.rown q k
    · exact ⟨Nat.le_trans h.ext.size k, fun k2 => by have := h.lt k2; omega⟩
  have hlt : z.Bl < w.heap.size := h.bl.lt
  have hcc : Chg (fun q => z.Own q ∨ q ∈ fp) w (w3.setCell ⟨z.Bl, 0, none⟩ v') := (hc.mono fun q _ k => .inr k).trans (b2.mono fun q _ k => .inl (by rw [k]; simp [NumA.Own]))
  refine ⟨⟨(h.flow.chg hc fun q hq => hn q (.inl hq)).chg b2 fun q hq k => a4 (k ▸ hq), (h.bw.chg hc (hn _ (by simp [NumA.Own]))).chg b2 a5, (h.bf.chg hc (hn _ (by simp [NumA.Own]))).chg b2 a6, (h.bv.chg hc (hn _ (by simp [NumA.Own]))).chg b2 a7, b1, hr.chg b2 fun q hq k => (hfp' q hq).2 (by rw [k]; simp [NumA.Own]), hfp', h.apart, h.low, ?_⟩, hcc⟩
  exact h.ext.trans (hcc.below h.ext.size fun q hq => hq.elim (h.low q) fun k => (h.rown q k).1)
end NumM
theorem targets_nat (t : Term) (ts : List Nat) (h : targets t = natI ts) (w : World) : Calls Tryd.prog 85 #[t.v] w fun e w' => ∃ (A : Option Addr) (c : Nat), e = .returned (.slice A ts.length c) ∧ C kI64 w' A (natI ts) ∧ (∀ a, A = some a → w.heap.size ≤ a.block ∧ a.block < w'.heap.size) ∧ Below w.heap.size w w' := by
  refine (targetsI_c t w).mono ?_
  rintro e w' ⟨A, c, rfl, h1, h2, h3⟩
  rw [h] at h1
  exact ⟨A, c, by rw [h, natI_len], h1, h2, h3⟩
def RetV (z : NumA) (bs : List Block) (W0 : World) (n : Nat) (P : List (List Int)) (I D : List Int) (vo : Value) (fp : List Nat) (s : List Bool × List Nat) (w : World) (e : Ending) (w' : World) : Prop :=
  e = .returned (.tuple #[]) ∧ ∃ (Q : List Int) (v : Value) (fp' : List Nat), NumM z bs W0 n P I D vo Q s.1 s.2 v fp' w' ∧ PostOk Q s.2 ∧ (∀ q ∈ fp', q ∈ fp ∨ w.heap.size ≤ q) ∧ Chg (fun q => z.Own q ∨ q ∈ fp) w w'
set_option maxHeartbeats 4000000 in
theorem visit_c (z : NumA) (bs : List Block) (W0 : World) (n : Nat) (P : List (List Int)) (I D : List Int) (vo : Value) (hbs : bs.length = n) (hok : OkT bs) (hx : C (kBlock 0 0 0) W0 z.Af bs) (hn : n ≤ 1048576) :
    ∀ (fuel b : Nat) (Q : List Int) (L : List Bool) (S : List Nat) (v : Value) (fp : List Nat) (w : World), NumM z bs W0 n P I D vo Q L S v fp w → StOk n L S → PostOk Q S → b < n → ¬ Mk L b → unm L ≤ fuel →
      Calls Tryd.prog 97 #[.int .i64 b, .pointer (some ⟨z.Bw, 0, none⟩), .pointer (some ⟨z.Bf, 0, none⟩), .pointer (some ⟨z.Bv, 0, none⟩), .pointer (some ⟨z.Bl, 0, none⟩)] w (RetV z bs W0 n P I D vo fp (dfs (succB bs) fuel b (L, S)) w) := by
  intro fuel
  induction fuel with
  | zero =>
    intro b Q L S v fp w h hs hp hb hm hu
    exfalso
    have := unm_set (R := L) (by rw [hs.len]; exact hb) hm
    omega
  | succ fuel ih =>
    intro b Q L S v fp w h hs hp hb hm hu
    obtain ⟨i0, hi, hz0, hz1, hz2⟩ := info_parts info_i64
    have HIH := Lib.hid ih
    have HUN := Lib.hid (unm_set (R := L) (by rw [hs.len]; exact hb) hm)
    have HSU := Lib.hid (fun x t ht => show t < n from hbs ▸ succB_lt hok x t ht)
    have HBS := Lib.hid (show b ∉ S from fun k => hm (hs.marked b k))
    have HSM := Lib.hid (hs.mark hb)
    have HMB := Lib.hid (show Mk (L.set b true) b from (mk_set (by rw [hs.len]; exact hb)).2 (.inl rfl))
    obtain ⟨x, ex⟩ := get_of_lt (xs := bs) (k := b) (by omega)
    have HTC := Lib.hid (targets_nat x.term (succB bs b) (succB_cast hok ex))
    have HM := Lib.hid h
    have HPO := Lib.hid hp
    obtain ⟨a, _, hA, ⟨_, _, rfl, ⟨A1', c1', rfl, l1', r1'⟩, _, _, rfl, ⟨A2', c2', rfl, l2', r2'⟩, rfl⟩, hc⟩ := hx.at ex
    obtain ⟨p0, p1, p2, p3, p4, p5⟩ := hc6 (n := b * 6) hc
    have k2 := World.block_lt_of_cell? W0 _ p2
    have k3 := World.block_lt_of_cell? W0 _ p3
    have k4 := World.block_lt_of_cell? W0 _ p4
    have k5 := World.block_lt_of_cell? W0 _ p5
    clear ih hs hp hm hx hok r1' r2' hc
    have g0 := h.bw.cell 0 rfl
    have g1 := h.flow.cells.2.2.2.1
    obtain ⟨lb, elb⟩ := get_of_lt (xs := L) (k := b) (by rw [h.flow.reach.len]; exact hb)
    obtain ⟨gc, gf⟩ := h.flow.getL elb
    clear elb
    obtain ⟨hF1, hC1⟩ := h.flow.setL (i := b) hb true
    have h1 := h.upd hF1 hC1 fun q hq => by rw [hq]; simp [FlowA.Own]
    have HM1 := Lib.hid h1
    have HC1 := Lib.hid (hC1.mono (T := fun q => z.Own q ∨ q ∈ fp ∨ w.heap.size ≤ q) fun q _ k => .inl (.inl (by rw [k]; simp [FlowA.Own])))
    have h12 : (w.setCell ⟨z.a.gr, b, none⟩ (.bool true)).cell? ⟨z.Bf, 1, none⟩ = some (.slice (some a) bs.length z.cf) := by rw [← hA]; exact h1.bf.cell 1 rfl
    have h13 := (h1.ext.cell k2).trans p2
    have h14 := (h1.ext.cell k3).trans p3
    have h15 := (h1.ext.cell k4).trans p4
    have h16 := (h1.ext.cell k5).trans p5
    clear h h1 hF1 hC1
    go_enter Tryd.func97, Tryd.ntmps97
    go_upto_region 1 with fail
    generalize w.setCell ⟨z.a.gr, b, none⟩ (.bool true) = w1 at *
    clear g0 g1 gf gc k2 k3 k4 k5 p0 p1 p2 p3 p4 p5
    go_wp2_with (go_at_call 85; refine (HTC.out _).mono ?_; rintro e w2 ⟨A3, c3, rfl, r3, hf3, hb2⟩)
    have HDF := Lib.hid (dfs_succ (succB bs) fuel b (L, S))
    have htl : (succB bs b).length ≤ 2 := by rw [succB_at ex, List.length_map]; exact targets_len x.term
    have HSB := Lib.hid (fun t ht => HSU.out b t ht)
    clear h12 h13 h14 h15 h16 HTC
    generalize succB bs b = ts at *
    have HM2 := Lib.hid (HM1.out.below hb2)
    have HC2 := Lib.hid (HC1.out.trans ((chg_of hb2).mono fun _ _ k => k.elim))
    have HA3 : Hid (∀ a, A3 = some a → a.block ∉ fp ∧ ¬ z.Own a.block ∧ a.block < w2.heap.size) := Lib.hid fun a ha => ⟨fun k => by have := HM1.out.row.lt _ k; have := (hf3 a ha).1; omega, fun k => by have := HM1.out.lt k; have := (hf3 a ha).1; omega, (hf3 a ha).2⟩
    have HA4 : Hid (∀ a, A3 = some a → w.heap.size ≤ a.block) := Lib.hid fun a ha => Nat.le_trans HC1.out.size (hf3 a ha).1
    clear hf3
    go_loopw [22] (fun vi wr => ∃ (j : Nat) (s : List Bool × List Nat) (Q : List Int) (v : Value) (fq : List Nat), vi = .int .i64 j ∧ j ≤ ts.length ∧ s = (ts.take j).foldl (stepF (succB bs) fuel) (L.set b true, S) ∧ KidSt (succB bs) ts (L.set b true, S) s ∧ NumM z bs W0 n P I D vo Q s.1 s.2 v fq wr ∧ PostOk Q s.2 ∧ (∀ q ∈ fq, q ∈ fp ∨ w.heap.size ≤ q) ∧ (∀ a, A3 = some a → a.block ∉ fq ∧ ¬ z.Own a.block ∧ a.block < wr.heap.size) ∧ C kI64 wr A3 (natI ts) ∧ Chg (fun q => z.Own q ∨ q ∈ fp ∨ w.heap.size ≤ q) w wr) (fun vi _ => ts.length - (intOf vi).toNat)
    case atStart => exact ⟨0, (L.set b true, S), Q, v, fp, rfl, by omega, rfl, KidSt.refl _ _ _, HM2.out, HPO.out, fun q hq => .inl hq, HA3.out, r3, HC2.out⟩
    case round =>
      clear HM2 HC2 HA3 r3 hb2 HM1 HC1
      obtain ⟨j, s, Q, v, fq, rfl, hj, hs, hk, hM, hP, hfq, hA3, hC3, hCC⟩ := hrel
      have HS := Lib.hid hs
      have HK := Lib.hid hk
      have HMr := Lib.hid hM
      have HPr := Lib.hid hP
      have HFQ := Lib.hid hfq
      have HA3 := Lib.hid hA3
      have HCr := Lib.hid hC3
      have HCC := Lib.hid hCC
      clear hs hk hP hfq hA3 hC3 hCC
      by_cases hlt : j < ts.length
      · obtain ⟨t, et⟩ := get_of_lt hlt
        have htn := HSB.out t (List.mem_of_getElem? et)
        have HTM := Lib.hid (List.mem_of_getElem? et)
        have HFS := Lib.hid (fold_snoc (f := stepF (succB bs) fuel) et (L.set b true, S))
        obtain ⟨a3, _, hA, rfl, hc⟩ := HCr.out.at (natI_get et)
        subst hA
        have p0 := hc1 (n := j * 1) hc
        rw [Nat.mul_one] at p0
        clear hc et
        have g0 := hM.bw.cell 0 rfl
        have g1 := hM.flow.cells.2.2.2.1
        obtain ⟨lb, elb⟩ := get_of_lt (xs := s.1) (k := t) (by rw [hM.flow.reach.len]; exact htn)
        have g2 := (hM.flow.getL elb).1
        have g3 : _ = some (Value.func (.func 97) #[] #[.pointer (some ⟨z.Bw, 0, none⟩), .pointer (some ⟨z.Bf, 0, none⟩), .pointer (some ⟨z.Bv, 0, none⟩), .pointer (some ⟨z.Bl, 0, none⟩)]) := hM.bv.cell 0 rfl
        have hlb : s.1.getD t false = lb := by rw [List.getD_eq_getElem?_getD, elb]; rfl
        have HLB := Lib.hid hlb
        clear hM elb hlb
        cases lb
        · have HST := Lib.hid (show stepF (succB bs) fuel s t = dfs (succB bs) fuel t s by unfold stepF; rw [HLB.out]; rfl)
          have HNM := Lib.hid (show ¬ Mk s.1 t by unfold Mk; rw [HLB.out]; simp)
          have HKS := Lib.hid (HK.out.step HSU.out HSM.out.len (by have := HUN.out; show unm (L.set b true) ≤ fuel; omega) HTM.out htn HNM.out)
          have HCALL := Lib.hid (HIH.out t Q s.1 s.2 v fq _ HMr.out (HK.out.ok HSM.out) HPr.out htn HNM.out HKS.out.2)
          go_wp2_with (go_at_call 97; refine HCALL.out.mono ?_; rintro e w3 ⟨rfl, Q3, v3, fp3, hM3, hP3, hf3, hC3⟩)
          go_roundw
          case rel => exact ⟨j + 1, dfs (succB bs) fuel t s, Q3, v3, fp3, by go_num, by omega, by rw [HFS.out, ← HS.out, HST.out], HKS.out.1, hM3, hP3, fun q hq => (hf3 q hq).elim (HFQ.out q) fun k => .inr (Nat.le_trans HCC.out.size k), fun a ha => by
              obtain rfl := Option.some.inj ha
              obtain ⟨k1, k2, k3⟩ := HA3.out a3 rfl
              exact ⟨fun k => (hf3 _ k).elim k1 fun k => by omega, k2, Nat.lt_of_lt_of_le k3 hC3.size⟩, C_int_keep HCr.out fun a ha => by
              obtain rfl := Option.some.inj ha
              obtain ⟨k1, k2, k3⟩ := HA3.out a3 rfl
              exact hC3.block _ k3 fun k => k.elim k2 k1, HCC.out.trans (hC3.mono fun q _ k => k.elim .inl fun k => .inr (HFQ.out q k))⟩
          case measure => simp [intOf]; omega
        · have HST := Lib.hid (show stepF (succB bs) fuel s t = s by unfold stepF; rw [HLB.out]; rfl)
          go_wp2
          go_roundw
          case rel => exact ⟨j + 1, s, Q, v, fq, by go_num, by omega, by rw [HFS.out, ← HS.out, HST.out], HK.out, HMr.out, HPr.out, HFQ.out, HA3.out, HCr.out, HCC.out⟩
          case measure => simp [intOf]; omega
      · have HSE := Lib.hid (show s = ts.foldl (stepF (succB bs) fuel) (L.set b true, S) by rw [HS.out, List.take_of_length_le (by omega)])
        obtain ⟨Al, cl, hv, hcl⟩ := hM.row.form
        rw [natI_len] at hv
        subst hv
        have g0 := hM.bw.cell 0 rfl
        have g1 := hM.flow.cells.2.2.1
        obtain ⟨qb, eqb⟩ := get_of_lt (xs := Q) (k := b) (by rw [hM.flow.post.len]; exact hb)
        obtain ⟨g2, g3⟩ := hM.flow.getQ eqb
        have g4 := hM.bl.cell 0 rfl
        have HLE := Lib.hid (HK.out.ok HSM.out).le
        have hle := HLE.out
        clear hM eqb
        obtain ⟨hF5, hC5⟩ := HMr.out.flow.setQ (i := b) hb (s.2.length : Int)
        have HM5 := Lib.hid ((HMr.out.upd hF5 hC5 fun q hq => by rw [hq]; simp [FlowA.Own]).below ((Below.refl _ _).drew))
        have HC5 := Lib.hid ((HCC.out.trans (hC5.mono (T := fun q => z.Own q ∨ q ∈ fp ∨ w.heap.size ≤ q) fun q _ k => .inl (.inl (by rw [k]; simp [FlowA.Own])))).drew)
        clear hF5 hC5
        go_wp2
        refine wp_region_still_tail 8 (by kernel_rfl) (by kernel_rfl) ?_; simp only [List.take_succ_cons, List.take_zero, List.drop_succ_cons, List.drop_zero]; change wpStill _ _ (World.drew _) _ _ _
        repeat still_step
        refine wpStill_nil ?_
        change wpList _ _ _ _ _ (World.drew _)
        go_upto_region 8 with fail
        generalize (wr.setCell ⟨z.a.gp, b, none⟩ (.int .i64 s.2.length)).drew = w5 at *
        clear g0 g1 g2 g3 g4 HMr HCr HA3
        have g4 := HM5.out.bl.cell 0 rfl
        have HNB := Lib.hid (fun k : z.Bl ∈ fq => (HM5.out.rown _ k).2 (by simp [NumA.Own]))
        go_wp2_with (at_builtin; refine wpList_append_row (kInt .i64) rfl _ _ 35 rfl 2 i0 _ 8 Tryd.underlying35 hi hz0 hz1 hz2 rfl (by decide) _ (natI s.2) fq rfl (HM5.out.row.chg (S := fun _ => False) (by (repeat (first | (with_reducible first | exact Chg.refl _ _ | assumption) | (with_reducible refine Chg.drew ?_) | ((with_reducible refine Chg.setCell ?_ ?hs _); (case hs => first | (simp; done) | (simp; omega) | omega)) | (with_reducible refine Chg.alloc ?_ _)))) (by simp)) _ _ [.int .i64 b] (b : Int) [] rfl ⟨rfl, rfl⟩ (by simp) (box_news (by simp)) (by rw [natI_len]; simp only [maxLen]; omega) (by rw [natI_len]; omega) ?_; intro g cap w6 fp6 hr6 hf6 hC6; have HC6 : Chg (fun k => k ∈ fq) w5 w6 := Chg.trans (by (repeat (first | (with_reducible first | exact Chg.refl _ _ | assumption) | (with_reducible refine Chg.drew ?_) | ((with_reducible refine Chg.setCell ?_ ?hs _); (case hs => first | (simp; done) | (simp; omega) | omega)) | (with_reducible refine Chg.alloc ?_ _)))) hC6; have hB6 := HM5.out.bl.chg HC6 HNB.out; have q6 := hB6.cell 0 rfl; have qf6 := hB6.frozen 0)
        obtain ⟨hM7, hC7⟩ := HM5.out.app HC6 (S' := s.2 ++ [b]) (by rw [natI_snoc]; exact hr6) (fun q hq => by rcases hf6 q hq with h | h | h; exact .inl h; simp at h; simp at h; omega)
        have HD2 := Lib.hid (HDF.out.trans (show _ = (s.1, s.2 ++ [b]) by rw [HSE.out]))
        refine bodyPost_end (v := .tuple #[]) (by simp [results, Tryd.results97, go_sem]) rfl ?_
        refine ⟨rfl, Q.set b s.2.length, .slice (some ⟨g, 0, none⟩) ((natI s.2).length + 1) cap, fp6, ?_, ?_, ?_, ?_⟩
        · rw [HD2.out]; exact hM7
        · rw [HD2.out]; exact HPr.out.snoc (HK.out.fresh HMB.out HBS.out).1 (by have := HM5.out.flow.post.len; rw [List.length_set] at this; omega)
        · intro q hq
          rcases hf6 q hq with h | h | h
          · exact HFQ.out q h
          · simp at h
          · simp at h; have := HC5.out.size; right; omega
        · exact (HC5.out.trans (hC7.mono fun q _ k => k.elim .inl fun k => .inr (HFQ.out q k))).mono fun q hq k => by
            rcases k with k | k | k
            · exact .inl k
            · exact .inr k
            · omega
end Go.Proofs.YtnbkgaofdkkdnaaDoor
