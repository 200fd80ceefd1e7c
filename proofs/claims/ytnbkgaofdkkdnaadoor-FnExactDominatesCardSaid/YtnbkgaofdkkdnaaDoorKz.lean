/- One element of an owned row is replaced by what was made of it (its own blocks may be used again). -/
import Derived.Test.YtnbkgaofdkkdnaaDoorKr
namespace Go.Proofs.YtnbkgaofdkkdnaaDoor
open Go.RowKit
set_option linter.unusedSimpArgs false
set_option linter.unusedVariables false
set_option maxRecDepth 100000

theorem All3.setOf {α β γ : Type} {R R' : α → β → γ → Prop} {az : List α} {bs : List β} {cs : List γ} (h : All3 R az bs cs) : ∀ (i : Nat) {a : α} {b : β} {c : γ}, (∀ (j : Nat) x y z, j ≠ i → cs[j]? = some z → R x y z → R' x y z) → R' a b c → All3 R' (az.set i a) (bs.set i b) (cs.set i c) := by
  induction h with
  | nil => intro i a b c _ _; exact .nil
  | cons h0 h1 ih =>
    intro i a b c hk hn
    cases i with
    | zero => exact .cons hn (h1.imp fun x y z hz hR => by
        obtain ⟨j, hj⟩ := List.getElem?_of_mem hz
        exact hk (j + 1) x y z (by omega) (by simpa using hj) hR)
    | succ i => exact .cons (hk 0 _ _ _ (by omega) rfl h0) (ih i (fun j x y z hj hz hR => hk (j + 1) x y z (by omega) (by simpa using hz) hR) hn)
theorem nodup_apart : ∀ {fps : List (List Nat)} {i j : Nat} {f g : List Nat}, fps.flatten.Nodup → fps[i]? = some f → fps[j]? = some g → i ≠ j → ∀ b ∈ f, b ∉ g
  | [], i, _, _, _, _, hi, _, _ => by simp at hi
  | p :: ps, 0, 0, _, _, _, _, _, h => absurd rfl h
  | p :: ps, 0, j + 1, f, g, hn, hi, hj, _ => by
    rw [List.flatten_cons, List.nodup_append] at hn
    simp only [List.getElem?_cons_zero, Option.some.injEq] at hi
    subst hi
    intro b hb hg
    exact hn.2.2 b hb b (List.mem_flatten.2 ⟨g, List.mem_of_getElem? (by simpa using hj), hg⟩) rfl
  | p :: ps, i + 1, 0, f, g, hn, hi, hj, _ => by
    rw [List.flatten_cons, List.nodup_append] at hn
    simp only [List.getElem?_cons_zero, Option.some.injEq] at hj
    subst hj
    intro b hb hg
    exact hn.2.2 b hg b (List.mem_flatten.2 ⟨f, List.mem_of_getElem? (by simpa using hi), hb⟩) rfl
  | p :: ps, i + 1, j + 1, f, g, hn, hi, hj, h => by
    rw [List.flatten_cons, List.nodup_append] at hn
    exact nodup_apart hn.2.1 (by simpa using hi) (by simpa using hj) (by omega)
theorem nodup_set' : ∀ (fps : List (List Nat)) (i : Nat) (f0 f : List Nat), fps[i]? = some f0 → fps.flatten.Nodup → f.Nodup → (∀ b ∈ f, b ∈ f0 ∨ b ∉ fps.flatten) → (fps.set i f).flatten.Nodup
  | [], _, _, _, h, _, _, _ => by simp at h
  | p :: ps, 0, f0, f, h0, h, hf, hd => by
    simp only [List.getElem?_cons_zero, Option.some.injEq] at h0
    subst h0
    rw [List.flatten_cons, List.nodup_append] at h
    rw [List.set_cons_zero, List.flatten_cons, List.nodup_append]
    refine ⟨hf, h.2.1, fun a ha b hb e => ?_⟩
    subst e
    rcases hd a ha with h1 | h1
    · exact h.2.2 a h1 a hb rfl
    · exact h1 (by rw [List.flatten_cons]; exact List.mem_append_right _ hb)
  | p :: ps, i + 1, f0, f, h0, h, hf, hd => by
    have hfull := h
    rw [List.flatten_cons, List.nodup_append] at h
    rw [List.set_cons_succ, List.flatten_cons, List.nodup_append]
    have h0' : ps[i]? = some f0 := by simpa using h0
    refine ⟨h.1, nodup_set' ps i f0 f h0' h.2.1 hf fun b hb => (hd b hb).imp id fun hm h2 => hm (by rw [List.flatten_cons]; exact List.mem_append_right _ h2), fun a ha b hb e => ?_⟩
    subst e
    rcases mem_set hb with h1 | h1
    · exact h.2.2 a ha a h1 rfl
    · rcases hd a h1 with h2 | h2
      · exact h.2.2 a ha a (List.mem_flatten.2 ⟨f0, List.mem_of_getElem? h0', h2⟩) rfl
      · exact h2 (by rw [List.flatten_cons]; exact List.mem_append_left _ ha)
theorem Row.focus {α : Type} {e : TypeId} {d : Kd α} {w : World} {g n cap : Nat} {xs : List α} {fp : List Nat} (h : Row e d w (.slice (some ⟨g, 0, none⟩) n cap) xs fp) (hn : xs.length = n) {i : Nat} {x : α} (hx : xs[i]? = some x) :
    ∃ cs f0, d.O w x cs f0 ∧ (∀ (j : Nat) v, cs[j]? = some v → w.cell? ⟨g, i * d.sz + j, none⟩ = some v) ∧ (∀ b ∈ f0, b ∈ fp) ∧ g ∉ f0 ∧
      ∀ (w' : World) (y : α) (cs' : List Value) (f : List Nat), w.heap.size ≤ w'.heap.size → (∀ b ∈ fp, b ∉ f0 → w'.heap[b]? = w.heap[b]?) → d.O w' y cs' f → (∀ b ∈ f, b ∈ f0 ∨ b ∉ fp) →
        ∃ fp', Row e d (setCells w' g (i * d.sz) cs') (.slice (some ⟨g, 0, none⟩) n cap) (xs.set i y) fp' ∧ (∀ b ∈ fp', b ∈ fp ∨ b ∈ f) ∧ Chg (fun k => k = g) w' (setCells w' g (i * d.sz) cs') := by
  subst hn
  obtain ⟨css, fps, ho, ha, rfl, hnd⟩ := h
  have hg : (Value.slice (some ⟨g, 0, none⟩) xs.length cap).ownBlock.toList = [g] := rfl
  rw [hg] at hnd ⊢
  rw [List.singleton_append, List.nodup_cons] at hnd
  obtain ⟨cs, f0, hcs, hf0, hO⟩ := ha.get hx
  have hsub : ∀ b ∈ f0, b ∈ fps.flatten := fun b hb => List.mem_flatten.2 ⟨f0, List.mem_of_getElem? hf0, hb⟩
  have hi : i < xs.length := (List.getElem?_eq_some_iff.1 hx).1
  refine ⟨cs, f0, hO, fun j v hv => ?_, fun b hb => by simp [hsub b hb], fun hm => hnd.1 (hsub g hm), ?_⟩
  · have := ho.cells (g := g) rfl _ _ (flatten_get ha.lens hcs hv)
    rwa [add_plain, Nat.zero_add] at this
  · intro w' y cs' f hsz hk hO' hf
    have ho' := ownsRow_keep (w' := w') ho fun k hk' => by
      simp only [Value.ownBlock, Option.some.injEq] at hk'
      subst hk'
      exact hk g (by simp) fun hm => hnd.1 (hsub g hm)
    obtain ⟨h1, h2⟩ := setCells_row cs' (i * d.sz) w' _ ho'
    rw [setL_flatten ha.lens (d.len (d.read hO')) (by rw [ha.len2]; exact hi)] at h1
    have hkk : ∀ b, b < w'.heap.size → b ≠ g → (setCells w' g (i * d.sz) cs').heap[b]? = w'.heap[b]? := fun b hb hne => h2.block b hb hne
    refine ⟨[g] ++ (fps.set i f).flatten, ⟨css.set i cs', fps.set i f, by simpa using h1, ?_, by rw [hg], ?_⟩, ?_, h2⟩
    · refine ha.setOf i (R' := d.O (setCells w' g (i * d.sz) cs')) (fun j a b c hj hz hR => d.okeep hR fun k hk' => ?_) ?_
      · have hm : k ∈ fps.flatten := List.mem_flatten.2 ⟨c, List.mem_of_getElem? hz, hk'⟩
        rw [hkk k (Nat.lt_of_lt_of_le (ha.fps hm) hsz) fun e => hnd.1 (e ▸ hm)]
        exact hk k (by simp [hm]) (nodup_apart hnd.2 hz hf0 hj k hk')
      · exact d.okeep hO' fun k hk' => hkk k (d.lt hO' k hk') fun e => by
          subst e
          rcases hf k hk' with h3 | h3
          · exact hnd.1 (hsub k h3)
          · exact h3 (by simp)
    · rw [List.singleton_append, List.nodup_cons]
      refine ⟨fun hm => ?_, nodup_set' _ _ _ _ hf0 hnd.2 (d.nodup hO') fun b hb => (hf b hb).imp id fun h3 hm => h3 (by simp [hm])⟩
      rcases mem_set hm with h3 | h3
      · exact hnd.1 h3
      · rcases hf g h3 with h4 | h4
        · exact hnd.1 (hsub g h4)
        · exact h4 (by simp)
    · intro b hb
      rw [List.singleton_append, List.mem_cons] at hb
      rcases hb with hb | hb
      · exact .inl (by simp [hb])
      · rcases mem_set hb with h3 | h3
        · exact .inl (by simp [h3])
        · exact .inr h3
end Go.Proofs.YtnbkgaofdkkdnaaDoor
