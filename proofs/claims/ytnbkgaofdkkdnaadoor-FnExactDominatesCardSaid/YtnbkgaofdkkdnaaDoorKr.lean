/- Rows that are owned: made, stored into, appended to. -/
import Derived.Test.YtnbkgaofdkkdnaaDoorKf
namespace Go.Proofs.YtnbkgaofdkkdnaaDoor
open Go.RowKit
set_option linter.unusedSimpArgs false
set_option linter.unusedVariables false
set_option maxRecDepth 100000

def setCells (w : World) (g : Nat) : Nat → List Value → World
  | _, [] => w
  | o, v :: r => setCells (w.setCell ⟨g, o, none⟩ v) g (o + 1) r
def setL : List Value → Nat → List Value → List Value
  | l, _, [] => l
  | l, o, v :: r => setL (l.set o v) (o + 1) r
theorem setL_len : ∀ (cs l : List Value) (o : Nat), (setL l o cs).length = l.length
  | [], _, _ => rfl
  | v :: r, l, o => by simp [setL, setL_len r]
theorem setL_get : ∀ (cs l : List Value) (o j : Nat), o + cs.length ≤ l.length → (setL l o cs)[j]? = if o ≤ j ∧ j < o + cs.length then cs[j - o]? else l[j]?
  | [], l, o, j, _ => by simp [setL]; omega
  | v :: r, l, o, j, h => by
    simp only [List.length_cons] at h
    rw [setL, setL_get r _ _ _ (by simp; omega)]
    simp only [List.length_cons, List.getElem?_set]
    by_cases h1 : o + 1 ≤ j ∧ j < o + 1 + r.length
    · rw [if_pos h1, if_pos (by omega), show j - o = (j - (o + 1)) + 1 by omega]; rfl
    · rw [if_neg h1]
      by_cases h2 : o = j
      · subst h2; rw [if_pos rfl, if_pos (by omega), if_pos (by omega)]; simp
      · rw [if_neg h2, if_neg (by omega)]
theorem flatten_split {css : List (List Value)} {s : Nat} (hs : ∀ c ∈ css, c.length = s) (h0 : 0 < s) (j : Nat) : css.flatten[j]? = (css[j / s]?).bind (·[j % s]?) := by
  induction css generalizing j with
  | nil => simp
  | cons d ds ih =>
    have hd := hs d (by simp)
    rw [List.flatten_cons]
    by_cases hj : j < s
    · rw [List.getElem?_append_left (by omega), Nat.div_eq_of_lt hj, Nat.mod_eq_of_lt hj]; rfl
    · rw [List.getElem?_append_right (by omega), hd, ih (fun c hc => hs c (by simp [hc]))]
      have h1 : j / s = (j - s) / s + 1 := by rw [← Nat.add_div_right _ h0]; congr 1; omega
      have h2 : (j - s) % s = j % s := by rw [← Nat.add_mod_right, Nat.sub_add_cancel (by omega)]
      rw [h1, h2]; rfl
theorem setL_flatten {css : List (List Value)} {s i : Nat} {cs : List Value} (hs : ∀ c ∈ css, c.length = s) (hc : cs.length = s) (hi : i < css.length) : setL css.flatten (i * s) cs = (css.set i cs).flatten := by
  rcases Nat.eq_zero_or_pos s with rfl | h0
  · have : cs = [] := List.eq_nil_of_length_eq_zero hc
    subst this
    rw [setL]
    have h1 : ∀ (l : List (List Value)), (∀ c ∈ l, c.length = 0) → l.flatten = [] := fun l hl => List.flatten_eq_nil_iff.2 fun c hc => List.eq_nil_of_length_eq_zero (hl c hc)
    rw [h1 _ hs, h1 _ (fun c hc' => by rcases List.mem_or_eq_of_mem_set hc' with h | h; exact hs c h; rw [h]; rfl)]
  · have hl := flatten_len hs
    have hs2 : ∀ c ∈ css.set i cs, c.length = s := fun c hc' => by rcases List.mem_or_eq_of_mem_set hc' with h | h; exact hs c h; rw [h]; exact hc
    have hb : i * s + s ≤ css.length * s := by have := Nat.mul_le_mul_right s (show i + 1 ≤ css.length from hi); rw [Nat.succ_mul] at this; exact this
    apply List.ext_getElem?
    intro j
    rw [setL_get _ _ _ _ (by omega), flatten_split hs2 h0, flatten_split hs h0, List.getElem?_set]
    by_cases hj : i * s ≤ j ∧ j < i * s + cs.length
    · rw [if_pos hj]
      have e1 : j / s = i := Nat.div_eq_of_lt_le (by omega) (by have := Nat.succ_mul i s; simp only [Nat.succ_eq_add_one] at this ⊢; omega)
      have e2 : j % s = j - i * s := by have := Nat.div_add_mod j s; rw [e1, Nat.mul_comm] at this; omega
      rw [if_pos e1.symm, if_pos hi, e2]; rfl
    · rw [if_neg hj, if_neg]
      intro e
      apply hj
      have := Nat.div_add_mod j s
      have hm := Nat.mod_lt j h0
      rw [← e, Nat.mul_comm] at this
      omega
theorem setCells_row {e : TypeId} {s g n cap : Nat} : ∀ (cs : List Value) (o : Nat) (w : World) (xs : List Value), w.ownsRow 0 e s (.slice (some ⟨g, 0, none⟩) n cap) n xs →
    (setCells w g o cs).ownsRow 0 e s (.slice (some ⟨g, 0, none⟩) n cap) n (setL xs o cs) ∧ Chg (fun k => k = g) w (setCells w g o cs)
  | [], o, w, xs, h => ⟨h, Chg.refl _ _⟩
  | v :: r, o, w, xs, h => by
    obtain ⟨h1, h2⟩ := setCells_row r (o + 1) _ _ (h.stored o v).1
    exact ⟨h1, ((Chg.refl (fun k => k = g) w).setCell (p := ⟨g, o, none⟩) (.inl rfl) v).trans h2⟩
theorem nodup_set : ∀ (fps : List (List Nat)) (i : Nat) (f : List Nat), fps.flatten.Nodup → f.Nodup → (∀ b ∈ f, b ∉ fps.flatten) → (fps.set i f).flatten.Nodup
  | [], _, _, _, _, _ => by simp
  | p :: ps, 0, f, h, hf, hd => by
    rw [List.flatten_cons, List.nodup_append] at h
    rw [List.set_cons_zero, List.flatten_cons, List.nodup_append]
    exact ⟨hf, h.2.1, fun a ha b hb e => hd a ha (by rw [e]; simp [List.mem_flatten] at hb ⊢; exact .inr hb)⟩
  | p :: ps, i + 1, f, h, hf, hd => by
    rw [List.flatten_cons, List.nodup_append] at h
    rw [List.set_cons_succ, List.flatten_cons, List.nodup_append]
    refine ⟨h.1, nodup_set ps i f h.2.1 hf fun b hb hm => hd b hb (by rw [List.flatten_cons]; exact List.mem_append_right _ hm), fun a ha b hb e => ?_⟩
    subst e
    obtain ⟨l, hl, hal⟩ := List.mem_flatten.1 hb
    rcases List.mem_or_eq_of_mem_set hl with h1 | h1
    · exact h.2.2 a ha a (List.mem_flatten.2 ⟨l, h1, hal⟩) rfl
    · subst h1; exact hd a hal (by rw [List.flatten_cons]; exact List.mem_append_left _ ha)
theorem mem_set {fps : List (List Nat)} {i : Nat} {f : List Nat} {b : Nat} (h : b ∈ (fps.set i f).flatten) : b ∈ fps.flatten ∨ b ∈ f := by
  obtain ⟨l, hl, hb⟩ := List.mem_flatten.1 h
  rcases List.mem_or_eq_of_mem_set hl with h1 | h1
  · exact .inl (List.mem_flatten.2 ⟨l, h1, hb⟩)
  · exact .inr (h1 ▸ hb)
/-- One element of an owned row is stored into. -/
theorem Row.set {α : Type} {e : TypeId} {d : Kd α} {w : World} {g n cap : Nat} {xs : List α} {fp : List Nat} (h : Row e d w (.slice (some ⟨g, 0, none⟩) n cap) xs fp) (hn : xs.length = n) {i : Nat} (hi : i < n) {y : α} {cs : List Value} {f : List Nat}
    (hO : d.O w y cs f) (hf : ∀ b ∈ f, b ∉ fp) : ∃ fp', Row e d (setCells w g (i * d.sz) cs) (.slice (some ⟨g, 0, none⟩) n cap) (xs.set i y) fp' ∧ (∀ b ∈ fp', b ∈ fp ∨ b ∈ f) ∧ Chg (fun k => k = g) w (setCells w g (i * d.sz) cs) := by
  obtain ⟨css, fps, ho, ha, rfl, hnd⟩ := h
  subst hn
  obtain ⟨h1, h2⟩ := setCells_row cs (i * d.sz) w _ ho
  rw [setL_flatten ha.lens (d.len (d.read hO)) (by rw [ha.len2]; exact hi)] at h1
  have hg : (Value.slice (some ⟨g, 0, none⟩) xs.length cap).ownBlock.toList = [g] := rfl
  rw [hg] at hnd hf ⊢
  rw [List.singleton_append, List.nodup_cons] at hnd
  have hk : ∀ b, b < w.heap.size → b ≠ g → (setCells w g (i * d.sz) cs).heap[b]? = w.heap[b]? := fun b hb hne => h2.block b hb hne
  refine ⟨[g] ++ (fps.set i f).flatten, ⟨css.set i cs, fps.set i f, by simpa using h1, ?_, by rw [hg], ?_⟩, ?_, h2⟩
  · refine (ha.imp (R' := d.O (setCells w g (i * d.sz) cs)) fun a b c hc hO' => d.okeep hO' fun k hk' => hk k (d.lt hO' k hk') fun e => hnd.1 (by rw [← e]; exact List.mem_flatten.2 ⟨c, hc, hk'⟩)).set i ?_
    exact d.okeep hO fun k hk' => hk k (d.lt hO k hk') fun e => hf k hk' (by simp [e])
  · rw [List.singleton_append, List.nodup_cons]
    refine ⟨fun hm => ?_, nodup_set _ _ _ hnd.2 (d.nodup hO) fun b hb hm => hf b hb (by simp [hm])⟩
    rcases mem_set hm with h3 | h3
    · exact hnd.1 h3
    · exact hf g h3 (by simp)
  · intro b hb
    rw [List.singleton_append, List.mem_cons] at hb
    rcases hb with hb | hb
    · exact .inl (by simp [hb])
    · rcases mem_set hb with h3 | h3
      · exact .inl (by simp [h3])
      · exact .inr h3
theorem replicate_flatten {zc : List Value} {s n : Nat} (hz : zc.length = s) (h0 : 0 < s) : (madeCells zc.toArray (n * s)).toList = (List.replicate n zc).flatten := by
  apply List.ext_getElem?
  intro j
  rw [flatten_split (s := s) (fun c hc => by rw [List.eq_of_mem_replicate hc]; exact hz) h0]
  by_cases hj : j < n * s
  · have h1 : j / s < n := Nat.div_lt_of_lt_mul (by rw [Nat.mul_comm]; exact hj)
    rw [List.getElem?_replicate, if_pos h1]
    simp [madeCells, hj, hz]
    rw [List.getElem?_eq_getElem (by rw [hz]; exact Nat.mod_lt _ h0)]
    simp [Array.getD, Nat.mod_lt _ h0, hz]
  · have h1 : ¬ j / s < n := fun h => hj (Nat.lt_of_div_lt_div (by rw [Nat.mul_div_cancel _ h0]; exact h))
    rw [List.getElem?_replicate, if_neg h1]
    simp [madeCells, hj]
theorem Row.chg {α : Type} {e : TypeId} {d : Kd α} {w w' : World} {v : Value} {xs : List α} {fp : List Nat} {S : Nat → Prop} (h : Row e d w v xs fp) (hc : Chg S w w') (hs : ∀ b ∈ fp, ¬ S b) : Row e d w' v xs fp := h.keep fun b hb => hc.block b (h.lt b hb) (hs b hb)
/-- What 'make([]T, n)' gives. -/
theorem Row.made {α : Type} {e : TypeId} {d : Kd α} {w' : World} {g n : Nat} {z : α} {zc : List Value} (h : w'.ownsRow 0 e d.sz (.slice (some ⟨g, 0, none⟩) n n) n (madeCells zc.toArray (n * d.sz)).toList) (h0 : 0 < d.sz) (hz : d.O w' z zc []) :
    Row e d w' (.slice (some ⟨g, 0, none⟩) n n) (List.replicate n z) [g] := by
  rw [replicate_flatten (d.len (d.read hz)) h0] at h
  refine ⟨List.replicate n zc, List.replicate n [], by simpa using h, All3.replicate n hz, ?_, by simp⟩
  have : (List.replicate n ([] : List Nat)).flatten = [] := List.flatten_eq_nil_iff.2 fun c hc => List.eq_of_mem_replicate hc
  rw [this]; rfl
/-- A row of the call's own is the answer. -/
def RetRow {α : Type} (e : TypeId) (d : Kd α) (w : World) (xs : List α) (en : Ending) (w' : World) : Prop := ∃ v fp, en = .returned v ∧ Row e d w' v xs fp ∧ (∀ b ∈ fp, w.heap.size ≤ b) ∧ Below w.heap.size w w'
theorem Row.form' {α : Type} {e : TypeId} {d : Kd α} {w : World} {v : Value} {xs : List α} {fp : List Nat} (h : Row e d w v xs fp) : (v = .slice none 0 0 ∧ xs = [] ∧ fp = []) ∨ ∃ g cap, v = .slice (some ⟨g, 0, none⟩) xs.length cap ∧ g ∈ fp ∧ xs.length ≤ cap ∧ cap ≤ maxLen := by
  obtain ⟨css, fps, ho, ha, rfl, _⟩ := h
  rcases ho.2 with ⟨rfl, h0⟩ | ⟨g, cap, cur, rfl, _, _, hn, hm, _⟩
  · have hx := List.eq_nil_of_length_eq_zero h0
    subst hx
    cases ha
    exact .inl ⟨rfl, rfl, rfl⟩
  · exact .inr ⟨g, cap, rfl, by simp [Value.ownBlock], hn, hm⟩
theorem setCells1 (w : World) (g o : Nat) (c0 : Value) : setCells w g o [c0] = (w.setCell ⟨g, o, none⟩ c0) := by simp only [setCells, Nat.add_assoc, Nat.reduceAdd]
theorem setCells2 (w : World) (g o : Nat) (c0 c1 : Value) : setCells w g o [c0, c1] = ((w.setCell ⟨g, o, none⟩ c0).setCell ⟨g, o + 1, none⟩ c1) := by simp only [setCells, Nat.add_assoc, Nat.reduceAdd]
theorem setCells3 (w : World) (g o : Nat) (c0 c1 c2 : Value) : setCells w g o [c0, c1, c2] = (((w.setCell ⟨g, o, none⟩ c0).setCell ⟨g, o + 1, none⟩ c1).setCell ⟨g, o + 2, none⟩ c2) := by simp only [setCells, Nat.add_assoc, Nat.reduceAdd]
theorem setCells4 (w : World) (g o : Nat) (c0 c1 c2 c3 : Value) : setCells w g o [c0, c1, c2, c3] = ((((w.setCell ⟨g, o, none⟩ c0).setCell ⟨g, o + 1, none⟩ c1).setCell ⟨g, o + 2, none⟩ c2).setCell ⟨g, o + 3, none⟩ c3) := by simp only [setCells, Nat.add_assoc, Nat.reduceAdd]
theorem setCells5 (w : World) (g o : Nat) (c0 c1 c2 c3 c4 : Value) : setCells w g o [c0, c1, c2, c3, c4] = (((((w.setCell ⟨g, o, none⟩ c0).setCell ⟨g, o + 1, none⟩ c1).setCell ⟨g, o + 2, none⟩ c2).setCell ⟨g, o + 3, none⟩ c3).setCell ⟨g, o + 4, none⟩ c4) := by simp only [setCells, Nat.add_assoc, Nat.reduceAdd]
theorem setCells6 (w : World) (g o : Nat) (c0 c1 c2 c3 c4 c5 : Value) : setCells w g o [c0, c1, c2, c3, c4, c5] = ((((((w.setCell ⟨g, o, none⟩ c0).setCell ⟨g, o + 1, none⟩ c1).setCell ⟨g, o + 2, none⟩ c2).setCell ⟨g, o + 3, none⟩ c3).setCell ⟨g, o + 4, none⟩ c4).setCell ⟨g, o + 5, none⟩ c5) := by simp only [setCells, Nat.add_assoc, Nat.reduceAdd]
theorem Row.cellsAt {α : Type} {e : TypeId} {d : Kd α} {w : World} {g n cap : Nat} {xs : List α} {fp : List Nat} (h : Row e d w (.slice (some ⟨g, 0, none⟩) n cap) xs fp) (hn : xs.length = n) {i : Nat} {x : α} (hx : xs[i]? = some x) :
    ∃ cs, d.K w x cs ∧ (∀ (j : Nat) v, cs[j]? = some v → w.cell? ⟨g, i * d.sz + j, none⟩ = some v) ∧ ∀ o, w.frozen? ⟨g, o, none⟩ = false := by
  subst hn
  obtain ⟨a, cs, ha, hK, hc⟩ := h.reads i x hx
  injection ha with ha
  subst ha
  obtain ⟨css, fps, ho, _⟩ := h
  exact ⟨cs, hK, fun j v hv => by have := hc j v hv; rwa [add_plain, Nat.zero_add] at this, fun o => ho.frozenAt o⟩
section
variable {w : World} {g n : Nat} {c0 c1 c2 c3 c4 c5 : Value}
theorem ha1 (hc : ∀ (j : Nat) v, [c0][j]? = some v → w.cell? ⟨g, n + j, none⟩ = some v) : w.cell? ⟨g, n, none⟩ = some c0 := hc 0 _ rfl
theorem ha2 (hc : ∀ (j : Nat) v, [c0, c1][j]? = some v → w.cell? ⟨g, n + j, none⟩ = some v) : w.cell? ⟨g, n, none⟩ = some c0 ∧ w.cell? ⟨g, n + 1, none⟩ = some c1 := ⟨hc 0 _ rfl, hc 1 _ rfl⟩
theorem ha3 (hc : ∀ (j : Nat) v, [c0, c1, c2][j]? = some v → w.cell? ⟨g, n + j, none⟩ = some v) : w.cell? ⟨g, n, none⟩ = some c0 ∧ w.cell? ⟨g, n + 1, none⟩ = some c1 ∧ w.cell? ⟨g, n + 2, none⟩ = some c2 := ⟨hc 0 _ rfl, hc 1 _ rfl, hc 2 _ rfl⟩
theorem ha4 (hc : ∀ (j : Nat) v, [c0, c1, c2, c3][j]? = some v → w.cell? ⟨g, n + j, none⟩ = some v) : w.cell? ⟨g, n, none⟩ = some c0 ∧ w.cell? ⟨g, n + 1, none⟩ = some c1 ∧ w.cell? ⟨g, n + 2, none⟩ = some c2 ∧ w.cell? ⟨g, n + 3, none⟩ = some c3 := ⟨hc 0 _ rfl, hc 1 _ rfl, hc 2 _ rfl, hc 3 _ rfl⟩
theorem ha5 (hc : ∀ (j : Nat) v, [c0, c1, c2, c3, c4][j]? = some v → w.cell? ⟨g, n + j, none⟩ = some v) : w.cell? ⟨g, n, none⟩ = some c0 ∧ w.cell? ⟨g, n + 1, none⟩ = some c1 ∧ w.cell? ⟨g, n + 2, none⟩ = some c2 ∧ w.cell? ⟨g, n + 3, none⟩ = some c3 ∧ w.cell? ⟨g, n + 4, none⟩ = some c4 := ⟨hc 0 _ rfl, hc 1 _ rfl, hc 2 _ rfl, hc 3 _ rfl, hc 4 _ rfl⟩
theorem ha6 (hc : ∀ (j : Nat) v, [c0, c1, c2, c3, c4, c5][j]? = some v → w.cell? ⟨g, n + j, none⟩ = some v) : w.cell? ⟨g, n, none⟩ = some c0 ∧ w.cell? ⟨g, n + 1, none⟩ = some c1 ∧ w.cell? ⟨g, n + 2, none⟩ = some c2 ∧ w.cell? ⟨g, n + 3, none⟩ = some c3 ∧ w.cell? ⟨g, n + 4, none⟩ = some c4 ∧ w.cell? ⟨g, n + 5, none⟩ = some c5 := ⟨hc 0 _ rfl, hc 1 _ rfl, hc 2 _ rfl, hc 3 _ rfl, hc 4 _ rfl, hc 5 _ rfl⟩
end
end Go.Proofs.YtnbkgaofdkkdnaaDoor
