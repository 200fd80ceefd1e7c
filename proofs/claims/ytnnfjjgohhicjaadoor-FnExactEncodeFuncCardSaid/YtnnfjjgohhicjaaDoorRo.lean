/- Contract: impl's (*world).do at an output node. -/
import Derived.Test.YtnnfjjgohhicjaaDoorRd
import Derived.Deep.AppendLies
import Derived.Deep.RegionHeldLaw
namespace Go.Proofs.YtnnfjjgohhicjaaDoor
open Go.RowKit
set_option linter.unusedSimpArgs false
set_option linter.unusedVariables false
set_option maxRecDepth 100000

theorem step_append_row {P : Program} {ops : Array Oper} {o : Oper} {a : Act} {K : Act → World → Prop} {Q : Exit → Act → World → Prop} {E : Prop} {w : World} {α : Type} (d : Kd α) (hgd : o.guard = none) (s x : Operand) (t : TypeId)
    (ho : o.op = .call { callee := .builtin .append, args := #[s, x], argTypes := #[t, t] })
    (e : TypeId) (i : TypeInfo) (z : Value) (bytes : Nat) (ht : P.underlying t = some (.slice e)) (hi : P.info? e = some i) (hz : i.zero = some z)
    (hsize : i.size = d.sz) (hby : i.bytes = bytes) (hzs : z.cells.size = d.sz) (hsz : 0 < d.sz)
    (v : Value) (xs : List α) (fp : List Nat) (hs : a.eval s = v) (hrow : Row e d w v xs fp)
    (ad : Addr) (c : Nat) (news : List Value) (y : α) (f : List Nat) (hx : a.eval x = .slice (some ad) 1 c) (hO : d.O w y news f) (hf : ∀ b ∈ f, b ∉ fp) (hnews : ∀ (j : Nat) u, news[j]? = some u → w.cell? (ad.add j) = some u)
    (h63 : xs.length + 1 ≤ maxLen) (hbytes : (xs.length + 1) * bytes ≤ 140737488355328)
    (h : ∀ g cap w' fp', Row e d w' (.slice (some ⟨g, 0, none⟩) (xs.length + 1) cap) (xs ++ [y]) fp' → (∀ b ∈ fp', b ∈ fp ∨ b ∈ f ∨ b = w.heap.size) → Chg (fun k => k ∈ fp) w w' → K (a.put o.dst (.slice (some ⟨g, 0, none⟩) (xs.length + 1) cap)) w') : if Region.wanted o (yielded ops a.tmps) = true then Oper.wp P o a w K Q else E := by
  obtain ⟨css, fps, how, ha, rfl, hn⟩ := hrow
  refine step_append_lies w hgd s x t ho 0 e i z d.sz bytes ht hi hz hsize hby hzs hsz v xs.length css.flatten hs how ad 1 c news hx (by rw [Nat.one_mul]; exact d.len (d.read hO)) hnews (d.one (d.read hO)) (by omega) h63 hbytes (Nat.zero_le _) w.heap.size rfl ?_
  intro g cap w' h2 h3 h4 _
  have hc := Chg.of_grown h3
  refine h g cap w' _ (Row.snoc how ha hn hO hf h2 hc h4) ?_ (hc.mono fun k _ hk => by simp [hk])
  intro b hb
  rcases List.mem_cons.1 hb with rfl | hb
  · rcases h4 with h4 | h4
    · exact .inl (by simp [h4])
    · exact .inr (.inr h4)
  · rcases List.mem_append.1 hb with hb | hb
    · exact .inl (List.mem_append_right _ hb)
    · exact .inr (.inl hb)
theorem St.app {W0 : World} {X : List Nat} {B : Nat} {T : TypeId} {ex : List Value} {A : Option Addr} {ca D cD G cG : Nat} {s : Wd} {w Wb w3 : World} {At : Option Addr} {ct : Nat} {ft : List Nat}
    (h1 : Bk B T (wl (.slice A s.args.length ca) (.slice (some ⟨G, 0, none⟩) 32 cG) (.slice At s.trace.length ct) (.slice (some ⟨D, 0, none⟩) s.cells.length cD) s ex) w) (h2 : Rws W0.heap.size X D cD G cG (.slice At s.trace.length ct) s w) (h3 : W0.heap.size ≤ B) (h4 : Below W0.heap.size W0 w) (h5 : B ∈ X) (h6 : ∀ x ∈ X, x < w.heap.size)
    (hfo : ∀ b ∈ ft, W0.heap.size ≤ b ∧ b ≠ D ∧ b ≠ G ∧ b ∉ X) (hb : Below w.heap.size w Wb) (hC : Chg (fun k => k ∈ ft) Wb w3) {x : Int} {g cap : Nat} {fp3 : List Nat} (hr3 : Row 2 kI64 w3 (.slice (some ⟨g, 0, none⟩) (s.trace.length + 1) cap) (s.trace ++ [x]) fp3)
    (hf3 : ∀ b ∈ fp3, b ∈ ft ∨ Wb.heap.size ≤ b) : St W0 X B T ex A ca D cD G cG { s with trace := s.trace ++ [x] } (w3.setCell ⟨B, 2, none⟩ (.slice (some ⟨g, 0, none⟩) (s.trace.length + 1) cap)) ∧ Chg (Tn X B) Wb (w3.setCell ⟨B, 2, none⟩ (.slice (some ⟨g, 0, none⟩) (s.trace.length + 1) cap)) := by
  have hs4 := h4.size
  have hsb := hb.size
  have hBl := h1.lt
  have nB : ¬ B ∈ ft := fun hm => (hfo B hm).2.2.2 h5
  have k1 := (h2.below hb).app (by omega) (fun x hx => by have := h6 x hx; omega) hfo hC hr3 hf3
  obtain ⟨k2, k3⟩ := ((h1.below hb).chg hC nB).set 2 (.slice (some ⟨g, 0, none⟩) (s.trace.length + 1) cap)
  refine ⟨⟨some ⟨g, 0, none⟩, cap, ?_, ?_, h3, ?_, h5, fun x hx => Nat.lt_of_lt_of_le (Nat.lt_of_lt_of_le (h6 x hx) hsb) (Nat.le_trans hC.size k3.size)⟩, (hC.mono fun k _ hm => .inr (hfo k hm).2.2.2).trans (k3.mono fun k _ e => .inl e)⟩
  · rw [List.length_append]; exact k2
  · rw [List.length_append]; exact k1.chg (k3.mono fun k _ e => e ▸ h5)
  · exact (h4.trans (hb.mono hs4)).trans ((hC.below (by omega) fun b hm => (hfo b hm).1).trans (k3.below (by have := hC.size; omega) fun k e => by subst e; exact h3))
section
variable (W0 : World) (X : List Nat) (B : Nat) (T : TypeId) (ex : List Value) (A : Option Addr) (ca D cD G cG : Nat) (s : Wd) (w : World)
set_option maxHeartbeats 4000000 in
theorem do_out (a : Int) (h : St W0 X B T ex A ca D cD G cG s w) (ha : 0 ≤ a ∧ a < s.cells.length) (hl : s.trace.length ≤ 1048576) :
    Calls Tryd.prog 99 #[.pointer (some ⟨B, 0, none⟩), (Node.out a).v] w (DoPost W0 X B T ex A ca D cD G cG s w (doP (.out a) s)) := by
  obtain ⟨At, ct, h1, h2, h3, h4, h5, h6⟩ := id h
  obtain ⟨i0, hi, hz0, hz1, hz2⟩ := info_parts info_i64
  obtain ⟨r, rfl⟩ : ∃ r : Nat, a = r := ⟨a.toNat, by omega⟩
  obtain ⟨d1, d2⟩ := ha
  have c2 := h1.cell 2 (v := .slice At s.trace.length ct) rfl
  have c5 := h1.cell 5 (v := .slice (some ⟨D, 0, none⟩) s.cells.length cD) rfl
  have f2 := h1.frozen 2
  have zB := h1.lt
  obtain ⟨q1, -⟩ := h2.reg (r := r) (by omega)
  have zD := h2.lt.1
  rw [Int.toNat_natCast] at q1
  obtain ⟨ft, hft, hfo⟩ := h2.tr
  have HR := Lib.hid hft
  have HF := Lib.hid hfo
  have HFIN := Lib.hid (fun (Wb w3 : World) (hb : Below w.heap.size w Wb) (hC : Chg (fun k => k ∈ ft) Wb w3) (g cap : Nat) (fp3 : List Nat) (hr3 : Row 2 kI64 w3 (.slice (some ⟨g, 0, none⟩) (s.trace.length + 1) cap) (s.trace ++ [getI s.cells r]) fp3) (hf3 : ∀ b ∈ fp3, b ∈ ft ∨ Wb.heap.size ≤ b) => St.app h1 h2 h3 h4 h5 h6 hfo hb hC hr3 hf3)
  have t0 := asY 186 (by simp)
  have t1 := as1 186 (by simp)
  have t2 := as2 186 (by simp)
  have t3 := as3 186 (by simp)
  obtain ⟨W1, hW1⟩ : ∃ W1, w.alloc (.cells #[.int .i64 r] 186) = W1 := ⟨_, rfl⟩
  have KS := Lib.hid (fun w' (hc : Chg (fun k => k ∈ ft) W1 w') => show w'.cell? ⟨B, 2, none⟩ = some (.slice At s.trace.length ct) ∧ w'.cell? ⟨B, 5, none⟩ = some (.slice (some ⟨D, 0, none⟩) s.cells.length cD) ∧ w'.cell? ⟨D, r, none⟩ = some (.int .i64 (getI s.cells r)) ∧ w'.cell? ⟨w.heap.size, 0, none⟩ = some (.int .i64 r) ∧ w'.frozen? ⟨B, 2, none⟩ = false by
    subst hW1
    have hb : Below w.heap.size w (w.alloc (.cells #[.int .i64 r] 186)) := (Below.refl _ _).alloc (Nat.le_refl _) _
    have nB : ¬ B ∈ ft := fun hm => (hfo B hm).2.2.2 h5
    have nD : ¬ D ∈ ft := fun hm => (hfo D hm).2.1 rfl
    have nN : ¬ w.heap.size ∈ ft := fun hm => Nat.lt_irrefl _ (hft.lt _ hm)
    exact ⟨(hc.cell (p := ⟨B, 2, none⟩) (by simp; omega) nB).trans ((hb.cell zB).trans c2), (hc.cell (p := ⟨B, 5, none⟩) (by simp; omega) nB).trans ((hb.cell zB).trans c5), (hc.cell (p := ⟨D, r, none⟩) (by simp; omega) nD).trans ((hb.cell zD).trans q1), (hc.cell (p := ⟨w.heap.size, 0, none⟩) (by simp) nN).trans (by simp), (frozen_of_block (hc.block B (by simp; omega) nB) 2).trans ((hb.frozen (p := ⟨B, 2, none⟩) zB).trans f2)⟩)
  simp only [Node.v]
  clear h1 h2 h4 hft hfo h5 h6
  go_enter Tryd.func99, Tryd.ntmps99
  go_wp2
  have HW1 := Lib.hid hW1
  clear hW1
  obtain ⟨k2, k5, kD, kN, kf⟩ := KS.out W1 (Chg.refl _ _)
  obtain ⟨zB1, zD1, zN1⟩ : B < W1.heap.size ∧ D < W1.heap.size ∧ w.heap.size < W1.heap.size := by rw [← HW1.out]; simp; omega
  have HB1 := Lib.hid (show Below w.heap.size w W1 by rw [← HW1.out]; exact (Below.refl _ _).alloc (Nat.le_refl _) _)
  have KS' := Lib.hid (fun w' (hc : Chg (fun k => k ∈ ft) W1 w') => (KS.out w' hc).2.2.2.2)
  go_region_law
    (first
      | (refine step_append_row kI64 rfl _ _ 49 rfl 2 i0 _ 8 Tryd.underlying49 hi hz0 hz1 hz2 rfl (by decide) _ s.trace ft rfl (HR.out.chg (S := fun _ => False) (Chg.drew (Chg.alloc (chg_of (HB1.out)) _)) (by simp)) _ _ [.int .i64 (getI s.cells r)] (getI s.cells r) [] rfl ⟨rfl, rfl⟩ (by simp) (box_news (by simp)) (by simp [maxLen]; omega) (by omega) ?_; intro g cap w3 fp3 hr3 hf3 hC3; have HC3 : Chg (fun k => k ∈ ft) W1 w3 := Chg.trans (by (repeat (first | (with_reducible first | exact Chg.refl _ _ | assumption) | (with_reducible refine Chg.drew ?_) | ((with_reducible refine Chg.setCell ?_ ?hs _); (case hs => first | (simp; done) | (simp; omega) | omega)) | (with_reducible refine Chg.alloc ?_ _)))) hC3; obtain ⟨y2, y5, yD, yN, yf⟩ := KS.out w3 HC3))
  all_goals
    go_wp2
    go_ret
    exact DoPost.some' rfl (HB1.out.trans ((((Below.refl _ W1).alloc (by omega) _).drew))) (HFIN.out _ _ (HB1.out.trans ((((Below.refl _ W1).alloc (by omega) _).drew))) hC3 _ _ _ hr3 (fun b hb => by rcases hf3 b hb with h | h | h; exact .inl h; simp at h; exact .inr (by rw [h]; exact Nat.le_refl _)))
end
end Go.Proofs.YtnnfjjgohhicjaaDoor
