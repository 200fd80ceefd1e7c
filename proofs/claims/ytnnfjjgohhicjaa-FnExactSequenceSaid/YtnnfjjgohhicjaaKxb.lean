/- Appending a whole row of flat elements to an owned row, as a step of a drawn region. -/
import Derived.Test.YtnnfjjgohhicjaaKxa
import Derived.Deep.AppendLies
namespace Go.Proofs.Ytnnfjjgohhicjaa
open Go.RowKit
set_option linter.unusedSimpArgs false
set_option linter.unusedVariables false
set_option maxRecDepth 100000

theorem step_append_flat {P : Program} {ops : Array Oper} {o : Oper} {a : Act} {K : Act → World → Prop} {Q : Exit → Act → World → Prop} {E : Prop} {w : World} {α : Type} (d : Kd α) (hfl : Flat d) (hgd : o.guard = none) (s x : Operand) (t : TypeId)
    (ho : o.op = .call { callee := .builtin .append, args := #[s, x], argTypes := #[t, t] })
    (e : TypeId) (i : TypeInfo) (z : Value) (bytes : Nat) (ht : P.underlying t = some (.slice e)) (hi : P.info? e = some i) (hz : i.zero = some z)
    (hsize : i.size = d.sz) (hby : i.bytes = bytes) (hzs : z.cells.size = d.sz) (hsz : 0 < d.sz)
    (v : Value) (xs : List α) (fp : List Nat) (hs : a.eval s = v) (hrow : Row e d w v xs fp)
    (A : Option Addr) (c : Nat) (ys : List α) (hx : a.eval x = .slice A ys.length c) (hC : C d w A ys)
    (h63 : xs.length + ys.length ≤ maxLen) (hbytes : (xs.length + ys.length) * bytes ≤ 140737488355328)
    (h : ∀ A' cap w' fp', Row e d w' (.slice A' (xs ++ ys).length cap) (xs ++ ys) fp' → (∀ b ∈ fp', b ∈ fp ∨ b = w.heap.size) → Chg (fun k => k ∈ fp) w w' → (v ≠ .slice none 0 0 → ∃ g, A' = some ⟨g, 0, none⟩) → K (a.put o.dst (.slice A' (xs ++ ys).length cap)) w') : if Region.wanted o (yielded ops a.tmps) = true then Oper.wp P o a w K Q else E := by
  have hw : Region.wanted o (yielded ops a.tmps) = true := by simp [Region.wanted, hgd]
  rw [if_pos hw]
  cases A with
  | none =>
    have h0 : ys = [] := by
      cases ys with
      | nil => rfl
      | cons y r => obtain ⟨a', _, h, _⟩ := hC 0 y rfl; cases h
    subst h0
    obtain ⟨A1, c1, hv, -⟩ := hrow.form
    obtain ⟨css, fps, how, ha, hfp, hn⟩ := id hrow
    have hrun := run_append_none' (P := P) (w := w) t o.type e i d.sz c ht hi v xs.length css.flatten how
    unfold Oper.wp
    simp only [List.length_nil] at hx
    simp [execOp, ho, resolve, invoke, builtin, hs, hx, hrun, Result.andThen]
    have := h A1 c1 w fp (by simpa [hv] using hrow) (fun b hb => .inl hb) (Chg.refl _ _) (fun hne => by
      rcases hrow.form' with ⟨h1, _⟩ | ⟨g, cap, h1, _⟩
      · exact absurd h1 hne
      · rw [hv] at h1; injection h1 with h1; exact ⟨g, h1⟩)
    rw [List.append_nil, ← hv] at this
    exact this
  | some ad =>
    obtain ⟨css2, hl2, hk2, hc2⟩ := hC.cells
    obtain ⟨css, fps, how, ha, rfl, hn⟩ := hrow
    have hs2 : ∀ cs ∈ css2, cs.length = d.sz := fun cs hcs => by
      obtain ⟨i, hi'⟩ := List.getElem?_of_mem hcs
      have hil := (List.getElem?_eq_some_iff.1 hi').1
      obtain ⟨y, hy⟩ := get_of_lt (show i < ys.length by omega)
      obtain ⟨cs', h1, hK⟩ := hk2 i y hy
      rw [hi'] at h1
      obtain rfl := Option.some.inj h1
      exact d.len hK
    have h1 : ∀ u ∈ css2.flatten, u.oneCell' = true := fun u hu => by
      obtain ⟨cs, hcs, hu⟩ := List.mem_flatten.1 hu
      obtain ⟨i, hi'⟩ := List.getElem?_of_mem hcs
      have hil := (List.getElem?_eq_some_iff.1 hi').1
      obtain ⟨y, hy⟩ := get_of_lt (show i < ys.length by omega)
      obtain ⟨cs', h1, hK⟩ := hk2 i y hy
      rw [hi'] at h1
      obtain rfl := Option.some.inj h1
      exact d.one hK u hu
    obtain ⟨v', w', hr, h2, h3, h4, h5⟩ := run_append_own_at (P := P) w 0 t o.type e i z d.sz bytes ht hi hz hsize hby hzs hsz v xs.length css.flatten how ad ys.length c css2.flatten (by rw [flatten_len hs2, hl2]) hc2 h1 h63 hbytes (Nat.zero_le _)
    have hg := Chg.of_grown h3
    have hfn : ∀ k ∈ fps.flatten, v.ownBlock ≠ some k := by
      intro k hk e
      rw [e] at hn
      simp only [Option.toList_some, List.cons_append, List.nil_append, List.nodup_cons] at hn
      exact hn.1 hk
    have hrow' : Row e d w' v' (xs ++ ys) (v'.ownBlock.toList ++ (fps ++ List.replicate ys.length []).flatten) := by
      refine ⟨css ++ css2, fps ++ List.replicate ys.length [], by simpa using h2, All3.append (ha.imp fun a b c hc h => d.okeep h fun k hk => hg.block k (ha.fps (List.mem_flatten.2 ⟨c, hc, hk⟩)) (hfn k (List.mem_flatten.2 ⟨c, hc, hk⟩))) ((All3.flat hfl hl2 hk2).imp fun a b c hc h => d.okeep h fun k hk => ?_), rfl, ?_⟩
      · rw [List.eq_of_mem_replicate hc] at hk; simp at hk
      · have hnil : (List.replicate ys.length ([] : List Nat)).flatten = [] := List.flatten_eq_nil_iff.2 fun c hc => List.eq_of_mem_replicate hc
        rw [List.flatten_append, hnil, List.append_nil]
        rcases h5 with h5 | h5
        · rw [h5]; exact hn
        · rw [h5]
          simp only [Option.toList_some, List.cons_append, List.nil_append, List.nodup_cons]
          exact ⟨fun hm => by have := ha.fps hm; omega, (List.nodup_append.1 hn).2.1⟩
    obtain ⟨A', c', rfl, -⟩ := hrow'.form
    unfold Oper.wp execOp
    simp only [ho, resolve, invoke, builtin, Sem.run_bind, Sem.run_pure, Result.andThen_ok, List.map_toArray, List.map_cons, List.map_nil, hs, hx, hr]
    refine h A' c' w' _ hrow' (fun b hb => ?_) (hg.mono fun k _ hk => by simp [hk]) (fun hne => ?_)
    rotate_left
    · rcases hrow'.form' with ⟨h1, _⟩ | ⟨g, cap, h1, _⟩
      · exact absurd (h4.1 h1).1 hne
      · injection h1 with h1; exact ⟨g, h1⟩
    have hnil : (List.replicate ys.length ([] : List Nat)).flatten = [] := List.flatten_eq_nil_iff.2 fun c hc => List.eq_of_mem_replicate hc
    rw [List.flatten_append, hnil, List.append_nil] at hb
    rcases List.mem_append.1 hb with hb | hb
    · rcases h5 with h5 | h5
      · rw [h5] at hb; exact .inl (List.mem_append_left _ hb)
      · rw [h5] at hb; simp at hb; exact .inr hb
    · exact .inl (List.mem_append_right _ hb)
end Go.Proofs.Ytnnfjjgohhicjaa
