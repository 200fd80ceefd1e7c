/- Appending one element to an owned row. -/
import Derived.Test.YtnbkgaofdkkdnaaDoorKr
import Derived.Deep.AppendLies
namespace Go.Proofs.YtnbkgaofdkkdnaaDoor
open Go.RowKit
set_option linter.unusedSimpArgs false
set_option linter.unusedVariables false
set_option maxRecDepth 100000

theorem Row.snoc {α : Type} {e : TypeId} {d : Kd α} {w w' : World} {v : Value} {xs : List α} {y : α} {css : List (List Value)} {fps : List (List Nat)} {news : List Value} {f : List Nat} {g cap : Nat}
    (how : w.ownsRow 0 e d.sz v xs.length css.flatten) (ha : All3 (d.O w) xs css fps) (hn : (v.ownBlock.toList ++ fps.flatten).Nodup) (hO : d.O w y news f) (hf : ∀ b ∈ f, b ∉ v.ownBlock.toList ++ fps.flatten)
    (ho : w'.ownsRow 0 e d.sz (.slice (some ⟨g, 0, none⟩) (xs.length + 1) cap) (xs.length + 1) (css.flatten ++ news)) (hg : Chg (fun k => v.ownBlock = some k) w w') (hl : v.ownBlock = some g ∨ g = w.heap.size) :
    Row e d w' (.slice (some ⟨g, 0, none⟩) (xs.length + 1) cap) (xs ++ [y]) (g :: (fps.flatten ++ f)) := by
  have keepO : ∀ (a : α) (b : List Value) (c : List Nat), (∀ k ∈ c, k < w.heap.size) → (∀ k ∈ c, v.ownBlock ≠ some k) → d.O w a b c → d.O w' a b c := fun a b c h1 h2 h => d.okeep h fun k hk => hg.block k (h1 k hk) (h2 k hk)
  have hfn : ∀ k ∈ fps.flatten, v.ownBlock ≠ some k := by
    intro k hk e
    rw [e] at hn
    simp only [Option.toList_some, List.cons_append, List.nil_append, List.nodup_cons] at hn
    exact hn.1 hk
  have hfl : ∀ k ∈ fps.flatten, k < w.heap.size := fun k hk => ha.fps hk
  refine ⟨css ++ [news], fps ++ [f], ?_, ?_, ?_, ?_⟩
  · simpa using ho
  · refine All3.append (ha.imp fun a b c hc h => keepO a b c (fun k hk => hfl k (List.mem_flatten.2 ⟨c, hc, hk⟩)) (fun k hk => hfn k (List.mem_flatten.2 ⟨c, hc, hk⟩)) h) (.cons (keepO _ _ _ (d.lt hO) (fun k hk e => hf k hk (by simp [e])) hO) .nil)
  · simp [Value.ownBlock]
  · rw [List.nodup_cons, List.nodup_append]
    refine ⟨?_, ?_, d.nodup hO, ?_⟩
    · intro hm
      rcases List.mem_append.1 hm with hm | hm
      · rcases hl with hl | hl
        · exact hfn g hm hl
        · have := hfl g hm
          omega
      · rcases hl with hl | hl
        · exact hf g hm (by simp [hl])
        · have := d.lt hO g hm
          omega
    · exact (List.nodup_append.1 hn).2.1
    · intro a h1 b h2 e
      subst e
      exact hf a h2 (List.mem_append_right _ h1)
theorem wpList_append_row {P : Program} {ops : Array Oper} {rest : List Oper} {o : Oper} {a : Act} {Q : Exit → Act → World → Prop} {w : World} {α : Type} (d : Kd α) (hgd : o.guard = none) (s x : Operand) (t : TypeId)
    (ho : o.op = .call { callee := .builtin .append, args := #[s, x], argTypes := #[t, t] })
    (e : TypeId) (i : TypeInfo) (z : Value) (bytes : Nat) (ht : P.underlying t = some (.slice e)) (hi : P.info? e = some i) (hz : i.zero = some z)
    (hsize : i.size = d.sz) (hby : i.bytes = bytes) (hzs : z.cells.size = d.sz) (hsz : 0 < d.sz)
    (v : Value) (xs : List α) (fp : List Nat) (hs : a.eval s = v) (hrow : Row e d w v xs fp)
    (ad : Addr) (c : Nat) (news : List Value) (y : α) (f : List Nat) (hx : a.eval x = .slice (some ad) 1 c) (hO : d.O w y news f) (hf : ∀ b ∈ f, b ∉ fp) (hnews : ∀ (j : Nat) u, news[j]? = some u → w.cell? (ad.add j) = some u)
    (h63 : xs.length + 1 ≤ maxLen) (hbytes : (xs.length + 1) * bytes ≤ 140737488355328)
    (h : ∀ g cap w' fp', Row e d w' (.slice (some ⟨g, 0, none⟩) (xs.length + 1) cap) (xs ++ [y]) fp' → (∀ b ∈ fp', b ∈ fp ∨ b ∈ f ∨ b = w.heap.size) → Chg (fun k => k ∈ fp) w w' → wpList P ops Q rest (a.put o.dst (.slice (some ⟨g, 0, none⟩) (xs.length + 1) cap)) w') : wpList P ops Q (o :: rest) a w := by
  obtain ⟨css, fps, how, ha, rfl, hn⟩ := hrow
  refine wpList_append_lies w hgd s x t ho 0 e i z d.sz bytes ht hi hz hsize hby hzs hsz v xs.length css.flatten hs how ad 1 c news hx (by rw [Nat.one_mul]; exact d.len (d.read hO)) hnews (d.one (d.read hO)) (by omega) h63 hbytes (Nat.zero_le _) w.heap.size rfl ?_
  intro g cap w' h2 h3 h4 _
  have hc := Chg.of_grown h3
  refine h g cap w' _ (Row.snoc how ha hn hO hf h2 hc h4) ?_ (hc.mono fun k _ hk => by simp [hk])
  intro b hb
  rcases List.mem_cons.1 hb with rfl | hb
  · rcases h4 with h4 | h4
    · exact .inl (by simp [h4])
    · exact .inr (.inr h4)
  · rcases List.mem_append.1 hb with hb | hb
    · exact .inl (List.mem_append_right _ hb)
    · exact .inr (.inl hb)
/-- A row of no elements over a fresh block. -/
theorem Row.empty {α : Type} {e : TypeId} {d : Kd α} {w : World} {g : Nat} (hg : w.heap[g]? = some (.cells #[] e (0, 0))) : Row e d w (.slice (some ⟨g, 0, none⟩) 0 0) ([] : List α) [g] :=
  ⟨[], [], ⟨by simp, .inr ⟨g, 0, #[], rfl, Nat.zero_le _, hg, Nat.le_refl _, Nat.zero_le _, by simp, by simp⟩⟩, .nil, rfl, by simp⟩
end Go.Proofs.YtnbkgaofdkkdnaaDoor
