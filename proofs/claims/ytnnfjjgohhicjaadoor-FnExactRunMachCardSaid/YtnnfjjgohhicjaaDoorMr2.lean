/- One element of an owned row is replaced by what was made of it (its own blocks may be used again). -/
import Derived.Test.YtnnfjjgohhicjaaDoorMr1
import Derived.Deep.AppendLies
namespace Go.Proofs.YtnnfjjgohhicjaaDoor
open Go.RowKit
set_option linter.unusedSimpArgs false
set_option linter.unusedVariables false
set_option maxRecDepth 100000

def setCells (w : World) (g : Nat) : Nat → List Value → World
  | _, [] => w
  | o, v :: r => setCells (w.setCell ⟨g, o, none⟩ v) g (o + 1) r
def setL : List Value → Nat → List Value → List Value
  | l, _, [] => l
  | l, o, v :: r => setL (l.set o v) (o + 1) r
theorem setL_len : ∀ (cs l : List Value) (o : Nat), (setL l o cs).length = l.length
  | [], _, _ => rfl
  | v :: r, l, o => by simp [setL, setL_len r]
theorem setL_get : ∀ (cs l : List Value) (o j : Nat), o + cs.length ≤ l.length → (setL l o cs)[j]? = if o ≤ j ∧ j < o + cs.length then cs[j - o]? else l[j]?
  | [], l, o, j, _ => by simp [setL]; omega
  | v :: r, l, o, j, h => by
    simp only [List.length_cons] at h
    rw [setL, setL_get r _ _ _ (by simp; omega)]
    simp only [List.length_cons, List.getElem?_set]
    by_cases h1 : o + 1 ≤ j ∧ j < o + 1 + r.length
    · rw [if_pos h1, if_pos (by omega), show j - o = (j - (o + 1)) + 1 by omega]; rfl
    · rw [if_neg h1]
      by_cases h2 : o = j
      · subst h2; rw [if_pos rfl, if_pos (by omega), if_pos (by omega)]; simp
      · rw [if_neg h2, if_neg (by omega)]
theorem flatten_split {css : List (List Value)} {s : Nat} (hs : ∀ c ∈ css, c.length = s) (h0 : 0 < s) (j : Nat) : css.flatten[j]? = (css[j / s]?).bind (·[j % s]?) := by
  induction css generalizing j with
  | nil => simp
  | cons d ds ih =>
    have hd := hs d (by simp)
    rw [List.flatten_cons]
    by_cases hj : j < s
    · rw [List.getElem?_append_left (by omega), Nat.div_eq_of_lt hj, Nat.mod_eq_of_lt hj]; rfl
    · rw [List.getElem?_append_right (by omega), hd, ih (fun c hc => hs c (by simp [hc]))]
      have h1 : j / s = (j - s) / s + 1 := by rw [← Nat.add_div_right _ h0]; congr 1; omega
      have h2 : (j - s) % s = j % s := by rw [← Nat.add_mod_right, Nat.sub_add_cancel (by omega)]
      rw [h1, h2]; rfl
theorem setL_flatten {css : List (List Value)} {s i : Nat} {cs : List Value} (hs : ∀ c ∈ css, c.length = s) (hc : cs.length = s) (hi : i < css.length) : setL css.flatten (i * s) cs = (css.set i cs).flatten := by
  rcases Nat.eq_zero_or_pos s with rfl | h0
  · have : cs = [] := List.eq_nil_of_length_eq_zero hc
    subst this
    rw [setL]
    have h1 : ∀ (l : List (List Value)), (∀ c ∈ l, c.length = 0) → l.flatten = [] := fun l hl => List.flatten_eq_nil_iff.2 fun c hc => List.eq_nil_of_length_eq_zero (hl c hc)
    rw [h1 _ hs, h1 _ (fun c hc' => by rcases List.mem_or_eq_of_mem_set hc' with h | h; exact hs c h; rw [h]; rfl)]
  · have hl := flatten_len hs
    have hs2 : ∀ c ∈ css.set i cs, c.length = s := fun c hc' => by rcases List.mem_or_eq_of_mem_set hc' with h | h; exact hs c h; rw [h]; exact hc
    have hb : i * s + s ≤ css.length * s := by have := Nat.mul_le_mul_right s (show i + 1 ≤ css.length from hi); rw [Nat.succ_mul] at this; exact this
    apply List.ext_getElem?
    intro j
    rw [setL_get _ _ _ _ (by omega), flatten_split hs2 h0, flatten_split hs h0, List.getElem?_set]
    by_cases hj : i * s ≤ j ∧ j < i * s + cs.length
    · rw [if_pos hj]
      have e1 : j / s = i := Nat.div_eq_of_lt_le (by omega) (by have := Nat.succ_mul i s; simp only [Nat.succ_eq_add_one] at this ⊢; omega)
      have e2 : j % s = j - i * s := by have := Nat.div_add_mod j s; rw [e1, Nat.mul_comm] at this; omega
      rw [if_pos e1.symm, if_pos hi, e2]; rfl
    · rw [if_neg hj, if_neg]
      intro e
      apply hj
      have := Nat.div_add_mod j s
      have hm := Nat.mod_lt j h0
      rw [← e, Nat.mul_comm] at this
      omega
theorem setCells_row {e : TypeId} {s g n cap : Nat} : ∀ (cs : List Value) (o : Nat) (w : World) (xs : List Value), w.ownsRow 0 e s (.slice (some ⟨g, 0, none⟩) n cap) n xs →
    (setCells w g o cs).ownsRow 0 e s (.slice (some ⟨g, 0, none⟩) n cap) n (setL xs o cs) ∧ Chg (fun k => k = g) w (setCells w g o cs)
  | [], o, w, xs, h => ⟨h, Chg.refl _ _⟩
  | v :: r, o, w, xs, h => by
    obtain ⟨h1, h2⟩ := setCells_row r (o + 1) _ _ (h.stored o v).1
    exact ⟨h1, ((Chg.refl (fun k => k = g) w).setCell (p := ⟨g, o, none⟩) (.inl rfl) v).trans h2⟩
theorem nodup_set : ∀ (fps : List (List Nat)) (i : Nat) (f : List Nat), fps.flatten.Nodup → f.Nodup → (∀ b ∈ f, b ∉ fps.flatten) → (fps.set i f).flatten.Nodup
  | [], _, _, _, _, _ => by simp
  | p :: ps, 0, f, h, hf, hd => by
    rw [List.flatten_cons, List.nodup_append] at h
    rw [List.set_cons_zero, List.flatten_cons, List.nodup_append]
    exact ⟨hf, h.2.1, fun a ha b hb e => hd a ha (by rw [e]; simp [List.mem_flatten] at hb ⊢; exact .inr hb)⟩
  | p :: ps, i + 1, f, h, hf, hd => by
    rw [List.flatten_cons, List.nodup_append] at h
    rw [List.set_cons_succ, List.flatten_cons, List.nodup_append]
    refine ⟨h.1, nodup_set ps i f h.2.1 hf fun b hb hm => hd b hb (by rw [List.flatten_cons]; exact List.mem_append_right _ hm), fun a ha b hb e => ?_⟩
    subst e
    obtain ⟨l, hl, hal⟩ := List.mem_flatten.1 hb
    rcases List.mem_or_eq_of_mem_set hl with h1 | h1
    · exact h.2.2 a ha a (List.mem_flatten.2 ⟨l, h1, hal⟩) rfl
    · subst h1; exact hd a hal (by rw [List.flatten_cons]; exact List.mem_append_left _ ha)
theorem mem_set {fps : List (List Nat)} {i : Nat} {f : List Nat} {b : Nat} (h : b ∈ (fps.set i f).flatten) : b ∈ fps.flatten ∨ b ∈ f := by
  obtain ⟨l, hl, hb⟩ := List.mem_flatten.1 h
  rcases List.mem_or_eq_of_mem_set hl with h1 | h1
  · exact .inl (List.mem_flatten.2 ⟨l, h1, hb⟩)
  · exact .inr (h1 ▸ hb)
/-- One element of an owned row is stored into. -/
theorem Row.set {α : Type} {e : TypeId} {d : Kd α} {w : World} {g n cap : Nat} {xs : List α} {fp : List Nat} (h : Row e d w (.slice (some ⟨g, 0, none⟩) n cap) xs fp) (hn : xs.length = n) {i : Nat} (hi : i < n) {y : α} {cs : List Value} {f : List Nat}
    (hO : d.O w y cs f) (hf : ∀ b ∈ f, b ∉ fp) : ∃ fp', Row e d (setCells w g (i * d.sz) cs) (.slice (some ⟨g, 0, none⟩) n cap) (xs.set i y) fp' ∧ (∀ b ∈ fp', b ∈ fp ∨ b ∈ f) ∧ Chg (fun k => k = g) w (setCells w g (i * d.sz) cs) := by
  obtain ⟨css, fps, ho, ha, rfl, hnd⟩ := h
  subst hn
  obtain ⟨h1, h2⟩ := setCells_row cs (i * d.sz) w _ ho
  rw [setL_flatten ha.lens (d.len (d.read hO)) (by rw [ha.len2]; exact hi)] at h1
  have hg : (Value.slice (some ⟨g, 0, none⟩) xs.length cap).ownBlock.toList = [g] := rfl
  rw [hg] at hnd hf ⊢
  rw [List.singleton_append, List.nodup_cons] at hnd
  have hk : ∀ b, b < w.heap.size → b ≠ g → (setCells w g (i * d.sz) cs).heap[b]? = w.heap[b]? := fun b hb hne => h2.block b hb hne
  refine ⟨[g] ++ (fps.set i f).flatten, ⟨css.set i cs, fps.set i f, by simpa using h1, ?_, by rw [hg], ?_⟩, ?_, h2⟩
  · refine (ha.imp (R' := d.O (setCells w g (i * d.sz) cs)) fun a b c hc hO' => d.okeep hO' fun k hk' => hk k (d.lt hO' k hk') fun e => hnd.1 (by rw [← e]; exact List.mem_flatten.2 ⟨c, hc, hk'⟩)).set i ?_
    exact d.okeep hO fun k hk' => hk k (d.lt hO k hk') fun e => hf k hk' (by simp [e])
  · rw [List.singleton_append, List.nodup_cons]
    refine ⟨fun hm => ?_, nodup_set _ _ _ hnd.2 (d.nodup hO) fun b hb hm => hf b hb (by simp [hm])⟩
    rcases mem_set hm with h3 | h3
    · exact hnd.1 h3
    · exact hf g h3 (by simp)
  · intro b hb
    rw [List.singleton_append, List.mem_cons] at hb
    rcases hb with hb | hb
    · exact .inl (by simp [hb])
    · rcases mem_set hb with h3 | h3
      · exact .inl (by simp [h3])
      · exact .inr h3
theorem replicate_flatten {zc : List Value} {s n : Nat} (hz : zc.length = s) (h0 : 0 < s) : (madeCells zc.toArray (n * s)).toList = (List.replicate n zc).flatten := by
  apply List.ext_getElem?
  intro j
  rw [flatten_split (s := s) (fun c hc => by rw [List.eq_of_mem_replicate hc]; exact hz) h0]
  by_cases hj : j < n * s
  · have h1 : j / s < n := Nat.div_lt_of_lt_mul (by rw [Nat.mul_comm]; exact hj)
    rw [List.getElem?_replicate, if_pos h1]
    simp [madeCells, hj, hz]
    rw [List.getElem?_eq_getElem (by rw [hz]; exact Nat.mod_lt _ h0)]
    simp [Array.getD, Nat.mod_lt _ h0, hz]
  · have h1 : ¬ j / s < n := fun h => hj (Nat.lt_of_div_lt_div (by rw [Nat.mul_div_cancel _ h0]; exact h))
    rw [List.getElem?_replicate, if_neg h1]
    simp [madeCells, hj]
theorem Row.chg {α : Type} {e : TypeId} {d : Kd α} {w w' : World} {v : Value} {xs : List α} {fp : List Nat} {S : Nat → Prop} (h : Row e d w v xs fp) (hc : Chg S w w') (hs : ∀ b ∈ fp, ¬ S b) : Row e d w' v xs fp := h.keep fun b hb => hc.block b (h.lt b hb) (hs b hb)
/-- What 'make([]T, n)' gives. -/
theorem Row.made {α : Type} {e : TypeId} {d : Kd α} {w' : World} {g n : Nat} {z : α} {zc : List Value} (h : w'.ownsRow 0 e d.sz (.slice (some ⟨g, 0, none⟩) n n) n (madeCells zc.toArray (n * d.sz)).toList) (h0 : 0 < d.sz) (hz : d.O w' z zc []) :
    Row e d w' (.slice (some ⟨g, 0, none⟩) n n) (List.replicate n z) [g] := by
  rw [replicate_flatten (d.len (d.read hz)) h0] at h
  refine ⟨List.replicate n zc, List.replicate n [], by simpa using h, All3.replicate n hz, ?_, by simp⟩
  have : (List.replicate n ([] : List Nat)).flatten = [] := List.flatten_eq_nil_iff.2 fun c hc => List.eq_of_mem_replicate hc
  rw [this]; rfl
/-- A row of the call's own is the answer. -/
def RetRow {α : Type} (e : TypeId) (d : Kd α) (w : World) (xs : List α) (en : Ending) (w' : World) : Prop := ∃ v fp, en = .returned v ∧ Row e d w' v xs fp ∧ (∀ b ∈ fp, w.heap.size ≤ b) ∧ Below w.heap.size w w'
theorem Row.form' {α : Type} {e : TypeId} {d : Kd α} {w : World} {v : Value} {xs : List α} {fp : List Nat} (h : Row e d w v xs fp) : (v = .slice none 0 0 ∧ xs = [] ∧ fp = []) ∨ ∃ g cap, v = .slice (some ⟨g, 0, none⟩) xs.length cap ∧ g ∈ fp ∧ xs.length ≤ cap ∧ cap ≤ maxLen := by
  obtain ⟨css, fps, ho, ha, rfl, _⟩ := h
  rcases ho.2 with ⟨rfl, h0⟩ | ⟨g, cap, cur, rfl, _, _, hn, hm, _⟩
  · have hx := List.eq_nil_of_length_eq_zero h0
    subst hx
    cases ha
    exact .inl ⟨rfl, rfl, rfl⟩
  · exact .inr ⟨g, cap, rfl, by simp [Value.ownBlock], hn, hm⟩
theorem setCells1 (w : World) (g o : Nat) (c0 : Value) : setCells w g o [c0] = (w.setCell ⟨g, o, none⟩ c0) := by simp only [setCells, Nat.add_assoc, Nat.reduceAdd]
theorem setCells2 (w : World) (g o : Nat) (c0 c1 : Value) : setCells w g o [c0, c1] = ((w.setCell ⟨g, o, none⟩ c0).setCell ⟨g, o + 1, none⟩ c1) := by simp only [setCells, Nat.add_assoc, Nat.reduceAdd]
theorem setCells3 (w : World) (g o : Nat) (c0 c1 c2 : Value) : setCells w g o [c0, c1, c2] = (((w.setCell ⟨g, o, none⟩ c0).setCell ⟨g, o + 1, none⟩ c1).setCell ⟨g, o + 2, none⟩ c2) := by simp only [setCells, Nat.add_assoc, Nat.reduceAdd]
theorem setCells4 (w : World) (g o : Nat) (c0 c1 c2 c3 : Value) : setCells w g o [c0, c1, c2, c3] = ((((w.setCell ⟨g, o, none⟩ c0).setCell ⟨g, o + 1, none⟩ c1).setCell ⟨g, o + 2, none⟩ c2).setCell ⟨g, o + 3, none⟩ c3) := by simp only [setCells, Nat.add_assoc, Nat.reduceAdd]
theorem setCells5 (w : World) (g o : Nat) (c0 c1 c2 c3 c4 : Value) : setCells w g o [c0, c1, c2, c3, c4] = (((((w.setCell ⟨g, o, none⟩ c0).setCell ⟨g, o + 1, none⟩ c1).setCell ⟨g, o + 2, none⟩ c2).setCell ⟨g, o + 3, none⟩ c3).setCell ⟨g, o + 4, none⟩ c4) := by simp only [setCells, Nat.add_assoc, Nat.reduceAdd]
theorem setCells6 (w : World) (g o : Nat) (c0 c1 c2 c3 c4 c5 : Value) : setCells w g o [c0, c1, c2, c3, c4, c5] = ((((((w.setCell ⟨g, o, none⟩ c0).setCell ⟨g, o + 1, none⟩ c1).setCell ⟨g, o + 2, none⟩ c2).setCell ⟨g, o + 3, none⟩ c3).setCell ⟨g, o + 4, none⟩ c4).setCell ⟨g, o + 5, none⟩ c5) := by simp only [setCells, Nat.add_assoc, Nat.reduceAdd]
theorem Row.cellsAt {α : Type} {e : TypeId} {d : Kd α} {w : World} {g n cap : Nat} {xs : List α} {fp : List Nat} (h : Row e d w (.slice (some ⟨g, 0, none⟩) n cap) xs fp) (hn : xs.length = n) {i : Nat} {x : α} (hx : xs[i]? = some x) :
    ∃ cs, d.K w x cs ∧ (∀ (j : Nat) v, cs[j]? = some v → w.cell? ⟨g, i * d.sz + j, none⟩ = some v) ∧ ∀ o, w.frozen? ⟨g, o, none⟩ = false := by
  subst hn
  obtain ⟨a, cs, ha, hK, hc⟩ := h.reads i x hx
  injection ha with ha
  subst ha
  obtain ⟨css, fps, ho, _⟩ := h
  exact ⟨cs, hK, fun j v hv => by have := hc j v hv; rwa [add_plain, Nat.zero_add] at this, fun o => ho.frozenAt o⟩
section
variable {w : World} {g n : Nat} {c0 c1 c2 c3 c4 c5 : Value}
theorem ha1 (hc : ∀ (j : Nat) v, [c0][j]? = some v → w.cell? ⟨g, n + j, none⟩ = some v) : w.cell? ⟨g, n, none⟩ = some c0 := hc 0 _ rfl
theorem ha2 (hc : ∀ (j : Nat) v, [c0, c1][j]? = some v → w.cell? ⟨g, n + j, none⟩ = some v) : w.cell? ⟨g, n, none⟩ = some c0 ∧ w.cell? ⟨g, n + 1, none⟩ = some c1 := ⟨hc 0 _ rfl, hc 1 _ rfl⟩
theorem ha3 (hc : ∀ (j : Nat) v, [c0, c1, c2][j]? = some v → w.cell? ⟨g, n + j, none⟩ = some v) : w.cell? ⟨g, n, none⟩ = some c0 ∧ w.cell? ⟨g, n + 1, none⟩ = some c1 ∧ w.cell? ⟨g, n + 2, none⟩ = some c2 := ⟨hc 0 _ rfl, hc 1 _ rfl, hc 2 _ rfl⟩
theorem ha4 (hc : ∀ (j : Nat) v, [c0, c1, c2, c3][j]? = some v → w.cell? ⟨g, n + j, none⟩ = some v) : w.cell? ⟨g, n, none⟩ = some c0 ∧ w.cell? ⟨g, n + 1, none⟩ = some c1 ∧ w.cell? ⟨g, n + 2, none⟩ = some c2 ∧ w.cell? ⟨g, n + 3, none⟩ = some c3 := ⟨hc 0 _ rfl, hc 1 _ rfl, hc 2 _ rfl, hc 3 _ rfl⟩
theorem ha5 (hc : ∀ (j : Nat) v, [c0, c1, c2, c3, c4][j]? = some v → w.cell? ⟨g, n + j, none⟩ = some v) : w.cell? ⟨g, n, none⟩ = some c0 ∧ w.cell? ⟨g, n + 1, none⟩ = some c1 ∧ w.cell? ⟨g, n + 2, none⟩ = some c2 ∧ w.cell? ⟨g, n + 3, none⟩ = some c3 ∧ w.cell? ⟨g, n + 4, none⟩ = some c4 := ⟨hc 0 _ rfl, hc 1 _ rfl, hc 2 _ rfl, hc 3 _ rfl, hc 4 _ rfl⟩
theorem ha6 (hc : ∀ (j : Nat) v, [c0, c1, c2, c3, c4, c5][j]? = some v → w.cell? ⟨g, n + j, none⟩ = some v) : w.cell? ⟨g, n, none⟩ = some c0 ∧ w.cell? ⟨g, n + 1, none⟩ = some c1 ∧ w.cell? ⟨g, n + 2, none⟩ = some c2 ∧ w.cell? ⟨g, n + 3, none⟩ = some c3 ∧ w.cell? ⟨g, n + 4, none⟩ = some c4 ∧ w.cell? ⟨g, n + 5, none⟩ = some c5 := ⟨hc 0 _ rfl, hc 1 _ rfl, hc 2 _ rfl, hc 3 _ rfl, hc 4 _ rfl, hc 5 _ rfl⟩
end
end Go.Proofs.YtnnfjjgohhicjaaDoor
namespace Go.Proofs.YtnnfjjgohhicjaaDoor
open Go.RowKit
set_option linter.unusedSimpArgs false
set_option linter.unusedVariables false
set_option maxRecDepth 100000

theorem info_instr : (Tryd.prog.info? 72).map (fun i => (i.zero, i.size, i.bytes)) = some (some (.agg #[.int .i64 0, .int .i64 0, .int .i64 0, .int .i64 0, .int .i64 0]), 5, 40) := by kernel_rfl
theorem toInstr_c (x : Instr) (w : World) : Calls Tryd.prog 114 #[x.v] w fun e w' => e = .returned (.agg #[.int .i64 x.op, .int .i64 x.dst, .int .i64 x.a, .int .i64 x.b, .int .i64 x.imm]) ∧ Below w.heap.size w w' := by
  obtain ⟨a0, a1, a2, a3, a4⟩ := x
  simp only [Instr.v]
  go_enter Tryd.func114, Tryd.ntmps114
  go_wp2
  exact bodyPost_ret (v := .agg #[.int .i64 a0, .int .i64 a1, .int .i64 a2, .int .i64 a3, .int .i64 a4]) (by simp [results, Tryd.results114, go_sem]) rfl ⟨rfl, (by repeat (first | (with_reducible first | exact Below.refl _ _ | assumption | exact ext_box _) | (with_reducible apply Below.drew) | ((with_reducible refine Below.setCell ?_ ?hs _); (case hs => first | (simp; done) | (simp; omega) | omega)) | ((with_reducible refine Below.alloc ?_ ?hs _); (case hs => first | (simp; done) | (simp; omega) | omega))))⟩

theorem slot_k {α β : Type} {xs : List α} {ys : List β} {k : Nat} {z : β} (h : k < xs.length) (hy : ys.length = k) : (ys ++ List.replicate (xs.length - k) z)[k]? = some z := by
  rw [List.getElem?_append_right (by omega), List.getElem?_replicate, if_pos (by omega)]
theorem slot_set {α : Type} {xs : List α} {k : Nat} {z x : α} (h : k < xs.length) (hx : xs[k]? = some x) : (xs.take k ++ List.replicate (xs.length - k) z).set k x = xs.take (k + 1) ++ List.replicate (xs.length - (k + 1)) z := by
  have hl : (xs.take k).length = k := List.length_take_of_le (by omega)
  rw [List.set_append_right _ _ (by omega), hl, Nat.sub_self, show xs.length - k = (xs.length - (k + 1)) + 1 by omega, List.replicate_succ, List.set_cons_zero, take_snoc hx]
  simp
theorem slot_len {α : Type} {xs : List α} {k : Nat} {z : α} (h : k ≤ xs.length) : (xs.take k ++ List.replicate (xs.length - k) z).length = xs.length := by simp; omega
set_option maxHeartbeats 1000000 in
theorem toInstrS_c (A : Option Addr) (c : Nat) (xs : List Instr) (w : World) (hx : C kInstr w A xs) (hm : xs.length ≤ 1048576) :
    Calls Tryd.prog 103 #[.slice A xs.length c] w (RetRow 72 kInstr w xs) := by
  obtain ⟨i0, hi, hz0, hz1, hz2⟩ := info_parts info_instr
  go_enter Tryd.func103, Tryd.ntmps103
  go_wp2_with (at_make; refine wpList_make_full _ rfl _ _ 65 rfl 0 72 i0 _ 5 Tryd.underlying65 hi hz0 hz1 _ _ _ _ xs.length rfl rfl rfl rfl (by rw [hz2]; omega) (by simp [maxLen]; omega) (Nat.zero_le _) ?_; intro w1 ho hg)
  have hR := Lib.hid (Row.made (d := kInstr) (z := ⟨0, 0, 0, 0, 0⟩) (zc := [.int .i64 0, .int .i64 0, .int .i64 0, .int .i64 0, .int .i64 0]) ho (by decide) ⟨rfl, rfl⟩)
  have hB : Below w.heap.size w w1 := (Below.refl _ _).grown hg (Nat.le_refl _) (by simp)
  go_loopw [4] (fun i wr => ∃ (k : Nat) (fp : List Nat), k ≤ xs.length ∧ i = .int .i64 k ∧ Row 72 kInstr wr (.slice (some ⟨w.heap.size, 0, none⟩) xs.length xs.length) (xs.take k ++ List.replicate (xs.length - k) ⟨0, 0, 0, 0, 0⟩) fp ∧ (∀ b ∈ fp, w.heap.size ≤ b) ∧ ∃ u : Ext w, wr = u.w) (fun i _ => xs.length - (intOf i).toNat)
  case atStart => exact ⟨0, _, by omega, rfl, hR.out, by simp, ⟨w1, hB⟩, rfl⟩
  case round =>
    obtain ⟨k, fp, hk, rfl, hr, hfp, u, rfl⟩ := hrel
    have HR := Lib.hid hr
    have HF := Lib.hid hfp
    clear hr hfp ho hR
    by_cases hlt : k < xs.length
    · obtain ⟨x, ex⟩ := get_of_lt hlt
      obtain ⟨a, _, rfl, rfl, hc⟩ := (hx.ext u).at ex
      obtain ⟨p0, p1, p2, p3, p4⟩ := hc5 (n := k * 5) hc
      clear hc
      have EX := Lib.hid ex
      clear ex
      go_wp2_with (go_at_call 114; refine (toInstr_c x _).mono ?_; rintro e w2 ⟨rfl, hb⟩; have HR2 := Lib.hid (HR.out.keep fun b hb' => hb.block b (HR.out.lt b hb')); obtain ⟨_, rfl, hq, hfz⟩ := HR2.out.cellsAt (slot_len hk) (i := k) (x := ⟨0, 0, 0, 0, 0⟩) (slot_k hlt (by simp; omega)); obtain ⟨q0, q1, q2, q3, q4⟩ := ha5 (n := k * 5) hq; have f0 := hfz (k * 5); have f1 := hfz (k * 5 + 1); have f2 := hfz (k * 5 + 2); have f3 := hfz (k * 5 + 3); have f4 := hfz (k * 5 + 4); clear hq hfz)
      obtain ⟨fp', hr', hf', hC⟩ := HR2.out.set (slot_len hk) (i := k) hlt (y := x) ⟨rfl, rfl⟩ (by simp)
      rw [show k * kInstr.sz = k * 5 from rfl, setCells5] at hr' hC
      rw [slot_set hlt EX.out] at hr'
      go_roundw
      case rel => exact ⟨k + 1, fp', by omega, by go_num, hr', fun b hb' => HF.out b ((hf' b hb').resolve_right (by simp)), ⟨_, (Below.then_ u.hb hb).trans (hC.below (by have := u.hb.size; have := hb.size; omega) fun b hb' => by omega)⟩, rfl⟩
      case measure => simp [intOf]; omega
    · go_wp2
      go_ret
      refine ⟨_, fp, rfl, ?_, HF.out, u.hb⟩
      have := HR.out
      rwa [List.take_of_length_le (by omega), show xs.length - k = 0 by omega, List.replicate_zero, List.append_nil] at this

theorem toTerm_c (t : Term) (w : World) : Calls Tryd.prog 104 #[t.v] w fun e w' => e = .returned (.agg #[.int .i64 t.kind, .int .i64 t.a, .int .i64 t.to, .int .i64 t.els]) ∧ Below w.heap.size w w' := by
  obtain ⟨a0, a1, a2, a3⟩ := t
  simp only [Term.v]
  go_enter Tryd.func104, Tryd.ntmps104
  go_wp2
  exact bodyPost_ret (v := .agg #[.int .i64 a0, .int .i64 a1, .int .i64 a2, .int .i64 a3]) (by simp [results, Tryd.results104, go_sem]) rfl ⟨rfl, (by repeat (first | (with_reducible first | exact Below.refl _ _ | assumption | exact ext_box _) | (with_reducible apply Below.drew) | ((with_reducible refine Below.setCell ?_ ?hs _); (case hs => first | (simp; done) | (simp; omega) | omega)) | ((with_reducible refine Below.alloc ?_ ?hs _); (case hs => first | (simp; done) | (simp; omega) | omega))))⟩
def RetMB (w : World) (b : MBlock) (en : Ending) (w' : World) : Prop := ∃ v fp, en = .returned (.agg #[v, .int .i64 b.term.kind, .int .i64 b.term.a, .int .i64 b.term.to, .int .i64 b.term.els]) ∧ Row 72 kInstr w' v b.instrs fp ∧ (∀ b ∈ fp, w.heap.size ≤ b) ∧ Below w.heap.size w w'
set_option maxHeartbeats 1000000 in
theorem toMBlock_c (A : Option Addr) (c : Nat) (b : MBlock) (w : World) (hx : C kInstr w A b.instrs) (hm : b.instrs.length ≤ 1048576) :
    Calls Tryd.prog 77 #[.agg #[.slice A b.instrs.length c, .int .i64 b.term.kind, .int .i64 b.term.a, .int .i64 b.term.to, .int .i64 b.term.els]] w (RetMB w b) := by
  obtain ⟨xs, a0, a1, a2, a3⟩ := b
  dsimp only at *
  go_enter Tryd.func77, Tryd.ntmps77
  go_wp2_with (first | (go_at_call 103; refine (toInstrS_c _ _ xs _ (hx.below (by repeat (first | (with_reducible first | exact Below.refl _ _ | assumption | exact ext_box _) | (with_reducible apply Below.drew) | ((with_reducible refine Below.setCell ?_ ?hs _); (case hs => first | (simp; done) | (simp; omega) | omega)) | ((with_reducible refine Below.alloc ?_ ?hs _); (case hs => first | (simp; done) | (simp; omega) | omega))))) hm).mono ?_; rintro e w1 ⟨v, fp, rfl, hr, hf, hb⟩; have HR := Lib.hid hr; have HF := Lib.hid hf; clear hr hf; obtain ⟨A1, c1, rfl, hl1⟩ := HR.out.form; have HB1 : Below w.heap.size w w1 := Below.then_ (by repeat (first | (with_reducible first | exact Below.refl _ _ | assumption | exact ext_box _) | (with_reducible apply Below.drew) | ((with_reducible refine Below.setCell ?_ ?hs _); (case hs => first | (simp; done) | (simp; omega) | omega)) | ((with_reducible refine Below.alloc ?_ ?hs _); (case hs => first | (simp; done) | (simp; omega) | omega)))) hb; obtain ⟨hc1, hf1⟩ := bcell hb; obtain ⟨zw10, zw11, zw12⟩ : w.heap.size < w1.heap.size ∧ w.heap.size + 1 < w1.heap.size ∧ w.heap.size + 1 + 1 < w1.heap.size := (by have := hb.size; simp at this; omega)) | (go_at_call 104; refine (toTerm_c ⟨a0, a1, a2, a3⟩ _).mono ?_; rintro e w2 ⟨rfl, hb2⟩; have HC2 : Chg (fun k => k = w.heap.size + 1 ∨ k = w.heap.size + 1 + 1) w1 w2 := Chg.call (by (repeat (first | (with_reducible first | exact Chg.refl _ _ | assumption) | (with_reducible refine Chg.drew ?_) | ((with_reducible refine Chg.setCell ?_ ?hs _); (case hs => first | (simp; done) | (simp; omega) | omega)) | (with_reducible refine Chg.alloc ?_ _)))) hb2; have HB2 : Below w.heap.size w w2 := Below.then_ (by first | exact HB1 | (repeat (first | (with_reducible first | exact Below.refl _ _ | assumption | exact ext_box _) | (with_reducible apply Below.drew) | ((with_reducible refine Below.setCell ?_ ?hs _); (case hs => first | (simp; done) | (simp; omega) | omega)) | ((with_reducible refine Below.alloc ?_ ?hs _); (case hs => first | (simp; done) | (simp; omega) | omega))))) hb2; obtain ⟨hc2, hf2⟩ := bcell hb2; obtain ⟨zw20, zw21, zw22⟩ : w.heap.size < w2.heap.size ∧ w.heap.size + 1 < w2.heap.size ∧ w.heap.size + 1 + 1 < w2.heap.size := (by have := hb2.size; simp at this; omega)))
  refine bodyPost_ret (v := .agg #[.slice A1 xs.length c1, .int .i64 a0, .int .i64 a1, .int .i64 a2, .int .i64 a3]) (by simp [results, Tryd.results77, go_sem, hc1, hc2, zw10, zw11, zw12, zw20, zw21, zw22]) rfl ⟨_, fp, rfl, HR.out.chg (S := fun k => k = w.heap.size + 1 ∨ k = w.heap.size + 1 + 1) (by (repeat (first | (with_reducible first | exact Chg.refl _ _ | assumption) | (with_reducible refine Chg.drew ?_) | ((with_reducible refine Chg.setCell ?_ ?hs _); (case hs => first | (simp; done) | (simp; omega) | omega)) | (with_reducible refine Chg.alloc ?_ _)))) fun b hb => ?_, fun b hb => ?_, ?_⟩
  · have := HF.out b hb; simp at this; omega
  · have := HF.out b hb; simp at this; omega
  · (repeat (first | (with_reducible first | exact Below.refl _ _ | assumption | exact ext_box _) | (with_reducible apply Below.drew) | ((with_reducible refine Below.setCell ?_ ?hs _); (case hs => first | (simp; done) | (simp; omega) | omega)) | ((with_reducible refine Below.alloc ?_ ?hs _); (case hs => first | (simp; done) | (simp; omega) | omega))))

theorem kMB_O {e : TypeId} {w : World} {v : Value} {b : MBlock} {fp : List Nat} (h : Row e kInstr w v b.instrs fp) : (kMB e).O w b [v, .int .i64 b.term.kind, .int .i64 b.term.a, .int .i64 b.term.to, .int .i64 b.term.els] fp := by
  have hn : fp.Nodup := by obtain ⟨_, _, _, _, _, hn⟩ := h; exact hn
  exact ⟨[v], _, fp, [], rfl, by simp, hn, ⟨v, rfl, h⟩, rfl, rfl⟩
def zMB : MBlock := ⟨[], ⟨0, 0, 0, 0⟩⟩
theorem info_mb : (Tryd.prog.info? 69).map (fun i => (i.zero, i.size, i.bytes)) = some (some (.agg #[.slice none 0 0, .int .i64 0, .int .i64 0, .int .i64 0, .int .i64 0]), 5, 56) := by kernel_rfl
set_option maxHeartbeats 1000000 in
theorem toMBlockS_c (A : Option Addr) (c : Nat) (xs : List MBlock) (w : World) (hx : C (kMB 0) w A xs) (hm : xs.length ≤ 1048576) (hs : ∀ (i : Nat) b, xs[i]? = some b → b.instrs.length ≤ 1048576) :
    Calls Tryd.prog 42 #[.slice A xs.length c] w (RetRow 69 (kMB 72) w xs) := by
  obtain ⟨i0, hi, hz0, hz1, hz2⟩ := info_parts info_mb
  go_enter Tryd.func42, Tryd.ntmps42
  go_wp2_with (at_make; refine wpList_make_full _ rfl _ _ 27 rfl 0 69 i0 _ 5 Tryd.underlying27 hi hz0 hz1 _ _ _ _ xs.length rfl rfl rfl rfl (by rw [hz2]; omega) (by simp [maxLen]; omega) (Nat.zero_le _) ?_; intro w1 ho hg)
  have hR := Lib.hid (Row.made (d := kMB 72) (z := zMB) (zc := [.slice none 0 0, .int .i64 0, .int .i64 0, .int .i64 0, .int .i64 0]) ho (by decide) (kMB_O (b := zMB) (Row.nil _ _ _)))
  have hB : Below w.heap.size w w1 := (Below.refl _ _).grown hg (Nat.le_refl _) (by simp)
  go_loopw [4] (fun i wr => ∃ (k : Nat) (fp : List Nat), k ≤ xs.length ∧ i = .int .i64 k ∧ Row 69 (kMB 72) wr (.slice (some ⟨w.heap.size, 0, none⟩) xs.length xs.length) (xs.take k ++ List.replicate (xs.length - k) zMB) fp ∧ (∀ b ∈ fp, w.heap.size ≤ b) ∧ ∃ u : Ext w, wr = u.w) (fun i _ => xs.length - (intOf i).toNat)
  case atStart => exact ⟨0, _, by omega, rfl, hR.out, by simp, ⟨w1, hB⟩, rfl⟩
  case round =>
    obtain ⟨k, fp, hk, rfl, hr, hfp, u, rfl⟩ := hrel
    have HR := Lib.hid hr
    have HF := Lib.hid hfp
    clear hr hfp ho hR
    by_cases hlt : k < xs.length
    · obtain ⟨x, ex⟩ := get_of_lt hlt
      obtain ⟨a, _, rfl, ⟨_, _, rfl, ⟨A', c', rfl, l', r'⟩, rfl⟩, hc⟩ := (hx.ext u).at ex
      obtain ⟨p0, p1, p2, p3, p4⟩ := hc5 (n := k * 5) hc
      clear hc
      have hxl := hs _ _ ex
      have EX := Lib.hid ex
      clear ex
      go_wp2_with (go_at_call 77; refine (toMBlock_c _ _ x _ r' hxl).mono ?_; rintro e w2 ⟨v, f, rfl, hr2, hf2, hb⟩; have HX := Lib.hid hr2; have HX2 := Lib.hid hf2; clear hr2 hf2; obtain ⟨A2, c2, rfl, _⟩ := HX.out.form; have HR2 := Lib.hid (HR.out.keep fun b hb' => hb.block b (HR.out.lt b hb')); obtain ⟨_, ⟨_, _, rfl, ⟨_, _, rfl, _⟩, rfl⟩, hq, hfz⟩ := HR2.out.cellsAt (slot_len hk) (i := k) (x := zMB) (slot_k hlt (by simp; omega)); obtain ⟨q0, q1, q2, q3, q4⟩ := ha5 (n := k * 5) hq; have f0 := hfz (k * 5); have f1 := hfz (k * 5 + 1); have f2 := hfz (k * 5 + 2); have f3 := hfz (k * 5 + 3); have f4 := hfz (k * 5 + 4); clear hq hfz)
      obtain ⟨fp', hr', hf', hC⟩ := HR2.out.set (slot_len hk) (i := k) hlt (kMB_O HX.out) (fun b hb1 hb2 => by have := HR.out.lt b hb2; have := HX2.out b hb1; omega)
      rw [show k * (kMB 72).sz = k * 5 from rfl, setCells5] at hr' hC
      rw [slot_set hlt EX.out] at hr'
      go_roundw
      case rel => exact ⟨k + 1, fp', by omega, by go_num, hr', fun b hb' => (hf' b hb').elim (HF.out b) (fun h => Nat.le_trans u.hb.size (HX2.out b h)), ⟨_, (Below.then_ u.hb hb).trans (hC.below (by have := u.hb.size; have := hb.size; omega) fun b hb' => by omega)⟩, rfl⟩
      case measure => simp [intOf]; omega
    · go_wp2
      go_ret
      refine ⟨_, fp, rfl, ?_, HF.out, u.hb⟩
      have := HR.out
      rwa [List.take_of_length_le (by omega), show xs.length - k = 0 by omega, List.replicate_zero, List.append_nil] at this
def RetMach (w : World) (m : Mach) (en : Ending) (w' : World) : Prop := ∃ v fp, en = .returned (.agg #[.int .i64 m.regs, v]) ∧ Row 69 (kMB 72) w' v m.blocks fp ∧ (∀ b ∈ fp, w.heap.size ≤ b) ∧ Below w.heap.size w w'
set_option maxHeartbeats 1000000 in
theorem toMach_c (A : Option Addr) (c : Nat) (m : Mach) (w : World) (hx : C (kMB 0) w A m.blocks) (hm : m.blocks.length ≤ 1048576) (hs : ∀ (i : Nat) b, m.blocks[i]? = some b → b.instrs.length ≤ 1048576) :
    Calls Tryd.prog 11 #[.agg #[.int .i64 m.regs, .slice A m.blocks.length c]] w (RetMach w m) := by
  obtain ⟨r0, xs⟩ := m
  dsimp only at *
  go_enter Tryd.func11, Tryd.ntmps11
  go_wp2_with (first | (go_at_call 42; refine (toMBlockS_c _ _ xs _ (hx.below (by repeat (first | (with_reducible first | exact Below.refl _ _ | assumption | exact ext_box _) | (with_reducible apply Below.drew) | ((with_reducible refine Below.setCell ?_ ?hs _); (case hs => first | (simp; done) | (simp; omega) | omega)) | ((with_reducible refine Below.alloc ?_ ?hs _); (case hs => first | (simp; done) | (simp; omega) | omega))))) hm hs).mono ?_; rintro e w1 ⟨v, fp, rfl, hr, hf, hb⟩; have HR := Lib.hid hr; have HF := Lib.hid hf; clear hr hf; obtain ⟨A1, c1, rfl, hl1⟩ := HR.out.form; have HB1 : Below w.heap.size w w1 := Below.then_ (by repeat (first | (with_reducible first | exact Below.refl _ _ | assumption | exact ext_box _) | (with_reducible apply Below.drew) | ((with_reducible refine Below.setCell ?_ ?hs _); (case hs => first | (simp; done) | (simp; omega) | omega)) | ((with_reducible refine Below.alloc ?_ ?hs _); (case hs => first | (simp; done) | (simp; omega) | omega)))) hb; obtain ⟨hc1, hf1⟩ := bcell hb; obtain ⟨zw10, zw11, zw12⟩ : w.heap.size < w1.heap.size ∧ w.heap.size + 1 < w1.heap.size ∧ w.heap.size + 1 + 1 < w1.heap.size := (by have := hb.size; simp at this; omega)))
  refine bodyPost_ret (v := .agg #[.int .i64 r0, .slice A1 xs.length c1]) (by simp [results, Tryd.results11, go_sem, hc1, zw10, zw11, zw12]) rfl ⟨_, fp, rfl, HR.out.chg (S := fun k => k = w.heap.size + 1 ∨ k = w.heap.size + 1 + 1) (by (repeat (first | (with_reducible first | exact Chg.refl _ _ | assumption) | (with_reducible refine Chg.drew ?_) | ((with_reducible refine Chg.setCell ?_ ?hs _); (case hs => first | (simp; done) | (simp; omega) | omega)) | (with_reducible refine Chg.alloc ?_ _)))) fun b hb => ?_, fun b hb => ?_, ?_⟩
  · have := HF.out b hb; simp at this; omega
  · have := HF.out b hb; simp at this; omega
  · (repeat (first | (with_reducible first | exact Below.refl _ _ | assumption | exact ext_box _) | (with_reducible apply Below.drew) | ((with_reducible refine Below.setCell ?_ ?hs _); (case hs => first | (simp; done) | (simp; omega) | omega)) | ((with_reducible refine Below.alloc ?_ ?hs _); (case hs => first | (simp; done) | (simp; omega) | omega))))
end Go.Proofs.YtnnfjjgohhicjaaDoor
namespace Go.Proofs.YtnnfjjgohhicjaaDoor
open Go.RowKit
set_option linter.unusedSimpArgs false
set_option linter.unusedVariables false
set_option maxRecDepth 100000

theorem info_i64 : (Tryd.prog.info? 2).map (fun i => (i.zero, i.size, i.bytes)) = some (some (.int .i64 0), 1, 8) := by kernel_rfl
set_option maxHeartbeats 1000000 in
theorem toInt64S_c (A : Option Addr) (c : Nat) (xs : List Int) (w : World) (hx : C (kInt .i64) w A xs) (hm : xs.length ≤ 1048576) :
    Calls Tryd.prog 26 #[.slice A xs.length c] w (RetRow 2 (kInt .i64) w xs) := by
  obtain ⟨i0, hi, hz0, hz1, hz2⟩ := info_parts info_i64
  go_enter Tryd.func26, Tryd.ntmps26
  go_wp2_with (at_make; refine wpList_make_full _ rfl _ _ 49 rfl 0 2 i0 _ 1 Tryd.underlying49 hi hz0 hz1 _ _ _ _ xs.length rfl rfl rfl rfl (by rw [hz2]; omega) (by simp [maxLen]; omega) (Nat.zero_le _) ?_; intro w1 ho hg)
  have hR := Lib.hid (Row.made (d := kInt .i64) (z := 0) (zc := [.int .i64 0]) ho (by decide) ⟨rfl, rfl⟩)
  have hB : Below w.heap.size w w1 := (Below.refl _ _).grown hg (Nat.le_refl _) (by simp)
  go_loopw [4] (fun i wr => ∃ (k : Nat) (fp : List Nat), k ≤ xs.length ∧ i = .int .i64 k ∧ Row 2 (kInt .i64) wr (.slice (some ⟨w.heap.size, 0, none⟩) xs.length xs.length) (xs.take k ++ List.replicate (xs.length - k) 0) fp ∧ (∀ b ∈ fp, w.heap.size ≤ b) ∧ ∃ u : Ext w, wr = u.w) (fun i _ => xs.length - (intOf i).toNat)
  case atStart => exact ⟨0, _, by omega, rfl, hR.out, by simp, ⟨w1, hB⟩, rfl⟩
  case round =>
    obtain ⟨k, fp, hk, rfl, hr, hfp, u, rfl⟩ := hrel
    have HR := Lib.hid hr
    have HF := Lib.hid hfp
    clear hr hfp ho hR
    by_cases hlt : k < xs.length
    · obtain ⟨x, ex⟩ := get_of_lt hlt
      obtain ⟨a, _, rfl, rfl, hc⟩ := (hx.ext u).at ex
      have p0 := hc1 (n := k * 1) hc
      rw [Nat.mul_one] at p0
      clear hc
      have EX := Lib.hid ex
      clear ex
      obtain ⟨_, rfl, hq, hfz⟩ := HR.out.cellsAt (slot_len hk) (i := k) (x := 0) (slot_k hlt (by simp; omega))
      have q0 := ha1 (n := k * 1) hq
      have f0 := hfz (k * 1)
      rw [Nat.mul_one] at q0 f0
      clear hq hfz
      go_wp2
      obtain ⟨fp', hr', hf', hC⟩ := HR.out.set (slot_len hk) (i := k) hlt (y := x) (cs := [.int .i64 x]) (f := []) ⟨rfl, rfl⟩ (by simp)
      rw [show k * (kInt .i64).sz = k from Nat.mul_one k, setCells1] at hr' hC
      rw [slot_set hlt EX.out] at hr'
      go_roundw
      case rel => exact ⟨k + 1, fp', by omega, by go_num, hr', fun b hb' => HF.out b ((hf' b hb').resolve_right (by simp)), ⟨_, u.hb.trans (hC.below u.hb.size fun b hb' => by omega)⟩, rfl⟩
      case measure => simp [intOf]; omega
    · go_wp2
      go_ret
      refine ⟨_, fp, rfl, ?_, HF.out, u.hb⟩
      have := HR.out
      rwa [List.take_of_length_le (by omega), show xs.length - k = 0 by omega, List.replicate_zero, List.append_nil] at this
def RetPhi (w : World) (p : Phi) (en : Ending) (w' : World) : Prop := ∃ v fp, en = .returned (.agg #[.int .i64 p.dst, v]) ∧ Row 2 (kInt .i64) w' v p.args fp ∧ (∀ b ∈ fp, w.heap.size ≤ b) ∧ Below w.heap.size w w'
set_option maxHeartbeats 1000000 in
theorem toPhi_c (A : Option Addr) (c : Nat) (p : Phi) (w : World) (hx : C (kInt .i64) w A p.args) (hm : p.args.length ≤ 1048576) :
    Calls Tryd.prog 117 #[.agg #[.int .i64 p.dst, .slice A p.args.length c]] w (RetPhi w p) := by
  obtain ⟨r0, xs⟩ := p
  dsimp only at *
  go_enter Tryd.func117, Tryd.ntmps117
  go_wp2_with (go_at_call 26; refine (toInt64S_c _ _ xs _ (hx.below (by repeat (first | (with_reducible first | exact Below.refl _ _ | assumption | exact ext_box _) | (with_reducible apply Below.drew) | ((with_reducible refine Below.setCell ?_ ?hs _); (case hs => first | (simp; done) | (simp; omega) | omega)) | ((with_reducible refine Below.alloc ?_ ?hs _); (case hs => first | (simp; done) | (simp; omega) | omega))))) hm).mono ?_; rintro e w1 ⟨v, fp, rfl, hr, hf, hb⟩; have HR := Lib.hid hr; have HF := Lib.hid hf; clear hr hf; obtain ⟨A1, c1, rfl, hl1⟩ := HR.out.form; have HB1 : Below w.heap.size w w1 := Below.then_ (by repeat (first | (with_reducible first | exact Below.refl _ _ | assumption | exact ext_box _) | (with_reducible apply Below.drew) | ((with_reducible refine Below.setCell ?_ ?hs _); (case hs => first | (simp; done) | (simp; omega) | omega)) | ((with_reducible refine Below.alloc ?_ ?hs _); (case hs => first | (simp; done) | (simp; omega) | omega)))) hb; obtain ⟨hc1, hf1⟩ := bcell hb; obtain ⟨zw10, zw11, zw12⟩ : w.heap.size < w1.heap.size ∧ w.heap.size + 1 < w1.heap.size ∧ w.heap.size + 1 + 1 < w1.heap.size := (by have := hb.size; simp at this; omega))
  refine bodyPost_ret (v := .agg #[.int .i64 r0, .slice A1 xs.length c1]) (by simp [results, Tryd.results117, go_sem, hc1, zw10, zw11, zw12]) rfl ⟨_, fp, rfl, HR.out.chg (S := fun k => k = w.heap.size + 1 ∨ k = w.heap.size + 1 + 1) (by (repeat (first | (with_reducible first | exact Chg.refl _ _ | assumption) | (with_reducible refine Chg.drew ?_) | ((with_reducible refine Chg.setCell ?_ ?hs _); (case hs => first | (simp; done) | (simp; omega) | omega)) | (with_reducible refine Chg.alloc ?_ _)))) fun b hb => ?_, fun b hb => ?_, ?_⟩
  · have := HF.out b hb; simp at this; omega
  · have := HF.out b hb; simp at this; omega
  · (repeat (first | (with_reducible first | exact Below.refl _ _ | assumption | exact ext_box _) | (with_reducible apply Below.drew) | ((with_reducible refine Below.setCell ?_ ?hs _); (case hs => first | (simp; done) | (simp; omega) | omega)) | ((with_reducible refine Below.alloc ?_ ?hs _); (case hs => first | (simp; done) | (simp; omega) | omega))))
theorem kPhi_O {e : TypeId} {w : World} {v : Value} {p : Phi} {fp : List Nat} (h : Row e (kInt .i64) w v p.args fp) : (kPhi e).O w p [.int .i64 p.dst, v] fp := by
  have hn : fp.Nodup := by obtain ⟨_, _, _, _, _, hn⟩ := h; exact hn
  exact ⟨[.int .i64 p.dst], [v], [], fp, rfl, by simp, hn, ⟨rfl, rfl⟩, ⟨v, rfl, h⟩⟩
theorem kBlock_O {e f g : TypeId} {w : World} {v1 v2 : Value} {b : Block} {fp1 fp2 : List Nat} (h1 : Row f (kPhi e) w v1 b.phis fp1) (h2 : Row g kInstr w v2 b.instrs fp2) (hn : (fp1 ++ fp2).Nodup) : (kBlock e f g).O w b [v1, v2, .int .i64 b.term.kind, .int .i64 b.term.a, .int .i64 b.term.to, .int .i64 b.term.els] (fp1 ++ fp2) := by
  have hn2 : fp2.Nodup := by obtain ⟨_, _, _, _, _, hn⟩ := h2; exact hn
  exact ⟨[v1], _, fp1, fp2, rfl, rfl, hn, ⟨v1, rfl, h1⟩, [v2], _, fp2, [], rfl, by simp, hn2, ⟨v2, rfl, h2⟩, rfl, rfl⟩
def zPhi : Phi := ⟨0, []⟩
def zBlk : Block := ⟨[], [], ⟨0, 0, 0, 0⟩⟩
theorem zPhi_info : (Tryd.prog.info? 84).map (fun i => (i.zero, i.size, i.bytes)) = some (some (.agg #[.int .i64 0, .slice none 0 0]), 2, 32) := by kernel_rfl
theorem zBlk_info : (Tryd.prog.info? 81).map (fun i => (i.zero, i.size, i.bytes)) = some (some (.agg #[.slice none 0 0, .slice none 0 0, .int .i64 0, .int .i64 0, .int .i64 0, .int .i64 0]), 6, 80) := by kernel_rfl
set_option maxHeartbeats 1000000 in
theorem toPhiS_c (A : Option Addr) (c : Nat) (xs : List Phi) (w : World) (hx : C (kPhi 0) w A xs) (hm : xs.length ≤ 1048576) (hs : ∀ (i : Nat) b, xs[i]? = some b → okPhi 1048576 b) :
    Calls Tryd.prog 108 #[.slice A xs.length c] w (RetRow 84 (kPhi 2) w xs) := by
  obtain ⟨i0, hi, hz0, hz1, hz2⟩ := info_parts zPhi_info
  go_enter Tryd.func108, Tryd.ntmps108
  go_wp2_with (at_make; refine wpList_make_full _ rfl _ _ 79 rfl 0 84 i0 _ 2 Tryd.underlying79 hi hz0 hz1 _ _ _ _ xs.length rfl rfl rfl rfl (by rw [hz2]; omega) (by simp [maxLen]; omega) (Nat.zero_le _) ?_; intro w1 ho hg)
  have hR := Lib.hid (Row.made (d := (kPhi 2)) (z := zPhi) (zc := [.int .i64 0, .slice none 0 0]) ho (by decide) (kPhi_O (p := zPhi) (Row.nil _ _ _)))
  have hB : Below w.heap.size w w1 := (Below.refl _ _).grown hg (Nat.le_refl _) (by simp)
  go_loopw [4] (fun i wr => ∃ (k : Nat) (fp : List Nat), k ≤ xs.length ∧ i = .int .i64 k ∧ Row 84 (kPhi 2) wr (.slice (some ⟨w.heap.size, 0, none⟩) xs.length xs.length) (xs.take k ++ List.replicate (xs.length - k) zPhi) fp ∧ (∀ b ∈ fp, w.heap.size ≤ b) ∧ ∃ u : Ext w, wr = u.w) (fun i _ => xs.length - (intOf i).toNat)
  case atStart => exact ⟨0, _, by omega, rfl, hR.out, by simp, ⟨w1, hB⟩, rfl⟩
  case round =>
    obtain ⟨k, fp, hk, rfl, hr, hfp, u, rfl⟩ := hrel
    have HR := Lib.hid hr
    have HF := Lib.hid hfp
    clear hr hfp ho hR
    by_cases hlt : k < xs.length
    · obtain ⟨x, ex⟩ := get_of_lt hlt
      obtain ⟨a, _, rfl, ⟨_, _, rfl, rfl, ⟨A', c', rfl, l', r'⟩⟩, hc⟩ := (hx.ext u).at ex
      have hP := hc2 (n := k * 2) hc
      obtain ⟨p0, p1⟩ := hP
      clear hc
      have hxl := hs _ _ ex
      have EX := Lib.hid ex
      clear ex
      go_wp2_with (go_at_call 117; refine (toPhi_c _ _ x _ r' hxl).mono ?_; rintro e w2 ⟨v, f, rfl, hr2, hf2, hb⟩; have HX := Lib.hid hr2; have HX2 := Lib.hid hf2; clear hr2 hf2; obtain ⟨A2, c2, rfl, _⟩ := HX.out.form; have HR2 := Lib.hid (HR.out.keep fun b hb' => hb.block b (HR.out.lt b hb')); obtain ⟨_, ⟨_, _, rfl, rfl, ⟨_, _, rfl, _⟩⟩, hq, hfz⟩ := HR2.out.cellsAt (slot_len hk) (i := k) (x := zPhi) (slot_k hlt (by simp; omega)); obtain ⟨q0, q1⟩ := ha2 (n := k * 2) hq; have f0 := hfz (k * 2); have f1 := hfz (k * 2 + 1); clear hq hfz)
      obtain ⟨fp', hr', hf', hC⟩ := HR2.out.set (slot_len hk) (i := k) hlt (kPhi_O HX.out) (fun b hb1 hb2 => by have := HR.out.lt b hb2; have := HX2.out b hb1; omega)
      rw [show k * ((kPhi 2)).sz = k * 2 from rfl, setCells2] at hr' hC
      rw [slot_set hlt EX.out] at hr'
      go_roundw
      case rel => exact ⟨k + 1, fp', by omega, by go_num, hr', fun b hb' => (hf' b hb').elim (HF.out b) (fun h => Nat.le_trans u.hb.size (HX2.out b h)), ⟨_, (Below.then_ u.hb hb).trans (hC.below (by have := u.hb.size; have := hb.size; omega) fun b hb' => by omega)⟩, rfl⟩
      case measure => simp [intOf]; omega
    · go_wp2
      go_ret
      refine ⟨_, fp, rfl, ?_, HF.out, u.hb⟩
      have := HR.out
      rwa [List.take_of_length_le (by omega), show xs.length - k = 0 by omega, List.replicate_zero, List.append_nil] at this
def RetBlk (w : World) (b : Block) (en : Ending) (w' : World) : Prop := ∃ v1 v2 fp1 fp2, en = .returned (.agg #[v1, v2, .int .i64 b.term.kind, .int .i64 b.term.a, .int .i64 b.term.to, .int .i64 b.term.els]) ∧ Row 84 (kPhi 2) w' v1 b.phis fp1 ∧ Row 72 kInstr w' v2 b.instrs fp2 ∧ (fp1 ++ fp2).Nodup ∧ (∀ b ∈ fp1 ++ fp2, w.heap.size ≤ b) ∧ Below w.heap.size w w'
set_option maxHeartbeats 2000000 in
theorem toBlock_c (A B : Option Addr) (c d : Nat) (b : Block) (w : World) (hx : C (kPhi 0) w A b.phis) (hy : C kInstr w B b.instrs) (hm : okBlk 1048576 b) :
    Calls Tryd.prog 82 #[.agg #[.slice A b.phis.length c, .slice B b.instrs.length d, .int .i64 b.term.kind, .int .i64 b.term.a, .int .i64 b.term.to, .int .i64 b.term.els]] w (RetBlk w b) := by
  obtain ⟨ps, xs, a0, a1, a2, a3⟩ := b
  obtain ⟨m1, m2, m3⟩ := hm
  dsimp only at *
  have M2 := Lib.hid m2
  clear m2
  go_enter Tryd.func82, Tryd.ntmps82
  go_wp2_with (first | (go_at_call 108; refine (toPhiS_c _ _ ps _ (hx.below (by repeat (first | (with_reducible first | exact Below.refl _ _ | assumption | exact ext_box _) | (with_reducible apply Below.drew) | ((with_reducible refine Below.setCell ?_ ?hs _); (case hs => first | (simp; done) | (simp; omega) | omega)) | ((with_reducible refine Below.alloc ?_ ?hs _); (case hs => first | (simp; done) | (simp; omega) | omega))))) m1 M2.out).mono ?_; rintro e w1 ⟨v, fp, rfl, hr, hf, hb⟩; have HR := Lib.hid hr; have HF := Lib.hid hf; clear hr hf; obtain ⟨A1, c1, rfl, hl1⟩ := HR.out.form; have HB1 : Below w.heap.size w w1 := Below.then_ (by repeat (first | (with_reducible first | exact Below.refl _ _ | assumption | exact ext_box _) | (with_reducible apply Below.drew) | ((with_reducible refine Below.setCell ?_ ?hs _); (case hs => first | (simp; done) | (simp; omega) | omega)) | ((with_reducible refine Below.alloc ?_ ?hs _); (case hs => first | (simp; done) | (simp; omega) | omega)))) hb; obtain ⟨hc1, hf1⟩ := bcell hb; obtain ⟨zw10, zw11, zw12⟩ : w.heap.size < w1.heap.size ∧ w.heap.size + 1 < w1.heap.size ∧ w.heap.size + 1 + 1 < w1.heap.size := (by have := hb.size; simp at this; omega)) | (go_at_call 103; refine (toInstrS_c _ _ xs _ (hy.below (by repeat (first | (with_reducible first | exact Below.refl _ _ | assumption | exact ext_box _) | (with_reducible apply Below.drew) | ((with_reducible refine Below.setCell ?_ ?hs _); (case hs => first | (simp; done) | (simp; omega) | omega)) | ((with_reducible refine Below.alloc ?_ ?hs _); (case hs => first | (simp; done) | (simp; omega) | omega))))) m3).mono ?_; rintro e w2 ⟨v, fq, rfl, hr, hf, hb2⟩; have HS := Lib.hid hr; have HG := Lib.hid hf; clear hr hf; obtain ⟨A2, c2, rfl, hl2⟩ := HS.out.form; have HC2 : Chg (fun k => k = w.heap.size + 1 ∨ k = w.heap.size + 1 + 1) w1 w2 := Chg.call (by (repeat (first | (with_reducible first | exact Chg.refl _ _ | assumption) | (with_reducible refine Chg.drew ?_) | ((with_reducible refine Chg.setCell ?_ ?hs _); (case hs => first | (simp; done) | (simp; omega) | omega)) | (with_reducible refine Chg.alloc ?_ _)))) hb2; have HB2 : Below w.heap.size w w2 := Below.then_ (by first | exact HB1 | (repeat (first | (with_reducible first | exact Below.refl _ _ | assumption | exact ext_box _) | (with_reducible apply Below.drew) | ((with_reducible refine Below.setCell ?_ ?hs _); (case hs => first | (simp; done) | (simp; omega) | omega)) | ((with_reducible refine Below.alloc ?_ ?hs _); (case hs => first | (simp; done) | (simp; omega) | omega))))) hb2; obtain ⟨hc2, hf2⟩ := bcell hb2; obtain ⟨zw20, zw21, zw22⟩ : w.heap.size < w2.heap.size ∧ w.heap.size + 1 < w2.heap.size ∧ w.heap.size + 1 + 1 < w2.heap.size := (by have := hb2.size; simp at this; omega)) | (go_at_call 104; refine (toTerm_c ⟨a0, a1, a2, a3⟩ _).mono ?_; rintro e w3 ⟨rfl, hb3⟩; have HC3 : Chg (fun k => k = w.heap.size + 1 ∨ k = w.heap.size + 1 + 1) w2 w3 := Chg.call (by (repeat (first | (with_reducible first | exact Chg.refl _ _ | assumption) | (with_reducible refine Chg.drew ?_) | ((with_reducible refine Chg.setCell ?_ ?hs _); (case hs => first | (simp; done) | (simp; omega) | omega)) | (with_reducible refine Chg.alloc ?_ _)))) hb3; have HB3 : Below w.heap.size w w3 := Below.then_ (by first | exact HB2 | (repeat (first | (with_reducible first | exact Below.refl _ _ | assumption | exact ext_box _) | (with_reducible apply Below.drew) | ((with_reducible refine Below.setCell ?_ ?hs _); (case hs => first | (simp; done) | (simp; omega) | omega)) | ((with_reducible refine Below.alloc ?_ ?hs _); (case hs => first | (simp; done) | (simp; omega) | omega))))) hb3; obtain ⟨hc3, hf3⟩ := bcell hb3; obtain ⟨zw30, zw31, zw32⟩ : w.heap.size < w3.heap.size ∧ w.heap.size + 1 < w3.heap.size ∧ w.heap.size + 1 + 1 < w3.heap.size := (by have := hb3.size; simp at this; omega)))
  have HC13 := HC2.trans HC3
  have hr13 := HR.out.chg HC13 (fun b hb' => by have := HF.out b hb'; simp at this; omega)
  have hlt1 := HR.out.lt
  have hn1 : fp.Nodup := by obtain ⟨_, _, _, _, _, hn⟩ := HR.out; exact hn
  have hn2 : fq.Nodup := by obtain ⟨_, _, _, _, _, hn⟩ := HS.out; exact hn
  refine bodyPost_ret (v := .agg #[.slice A1 ps.length c1, .slice A2 xs.length c2, .int .i64 a0, .int .i64 a1, .int .i64 a2, .int .i64 a3]) (by simp [results, Tryd.results82, go_sem, hc1, hc2, hc3, zw10, zw11, zw12, zw20, zw21, zw22, zw30, zw31, zw32]) rfl ⟨_, _, fp, fq, rfl, HR.out.chg (S := fun k => k = w.heap.size + 1 ∨ k = w.heap.size + 1 + 1) (by (repeat (first | (with_reducible first | exact Chg.refl _ _ | assumption) | (with_reducible refine Chg.drew ?_) | ((with_reducible refine Chg.setCell ?_ ?hs _); (case hs => first | (simp; done) | (simp; omega) | omega)) | (with_reducible refine Chg.alloc ?_ _)))) fun b hb => ?_, HS.out.chg (S := fun k => k = w.heap.size + 1 ∨ k = w.heap.size + 1 + 1) (by (repeat (first | (with_reducible first | exact Chg.refl _ _ | assumption) | (with_reducible refine Chg.drew ?_) | ((with_reducible refine Chg.setCell ?_ ?hs _); (case hs => first | (simp; done) | (simp; omega) | omega)) | (with_reducible refine Chg.alloc ?_ _)))) fun b hb => ?_, ?_, fun b hb => ?_, ?_⟩
  · have := HF.out b hb; simp at this; omega
  · have := HG.out b hb; simp at this; omega
  · refine List.nodup_append.2 ⟨hn1, hn2, fun x hx1 y hy1 => ?_⟩
    have h1 := hlt1 x hx1
    have h2 := HG.out y hy1
    simp at h2
    omega
  · rcases List.mem_append.1 hb with h | h
    · have := HF.out b h; simp at this; omega
    · have := HG.out b h; simp at this; omega
  · (repeat (first | (with_reducible first | exact Below.refl _ _ | assumption | exact ext_box _) | (with_reducible apply Below.drew) | ((with_reducible refine Below.setCell ?_ ?hs _); (case hs => first | (simp; done) | (simp; omega) | omega)) | ((with_reducible refine Below.alloc ?_ ?hs _); (case hs => first | (simp; done) | (simp; omega) | omega))))
set_option maxHeartbeats 1000000 in
theorem toBlockS_c (A : Option Addr) (c : Nat) (xs : List Block) (w : World) (hx : C (kBlock 0 0 0) w A xs) (hm : xs.length ≤ 1048576) (hs : ∀ (i : Nat) b, xs[i]? = some b → okBlk 1048576 b) :
    Calls Tryd.prog 52 #[.slice A xs.length c] w (RetRow 81 (kBlock 2 84 72) w xs) := by
  obtain ⟨i0, hi, hz0, hz1, hz2⟩ := info_parts zBlk_info
  go_enter Tryd.func52, Tryd.ntmps52
  go_wp2_with (at_make; refine wpList_make_full _ rfl _ _ 38 rfl 0 81 i0 _ 6 Tryd.underlying38 hi hz0 hz1 _ _ _ _ xs.length rfl rfl rfl rfl (by rw [hz2]; omega) (by simp [maxLen]; omega) (Nat.zero_le _) ?_; intro w1 ho hg)
  have hR := Lib.hid (Row.made (d := (kBlock 2 84 72)) (z := zBlk) (zc := [.slice none 0 0, .slice none 0 0, .int .i64 0, .int .i64 0, .int .i64 0, .int .i64 0]) ho (by decide) (kBlock_O (b := zBlk) (Row.nil _ _ _) (Row.nil _ _ _) (by simp)))
  have hB : Below w.heap.size w w1 := (Below.refl _ _).grown hg (Nat.le_refl _) (by simp)
  go_loopw [4] (fun i wr => ∃ (k : Nat) (fp : List Nat), k ≤ xs.length ∧ i = .int .i64 k ∧ Row 81 (kBlock 2 84 72) wr (.slice (some ⟨w.heap.size, 0, none⟩) xs.length xs.length) (xs.take k ++ List.replicate (xs.length - k) zBlk) fp ∧ (∀ b ∈ fp, w.heap.size ≤ b) ∧ ∃ u : Ext w, wr = u.w) (fun i _ => xs.length - (intOf i).toNat)
  case atStart => exact ⟨0, _, by omega, rfl, hR.out, by simp, ⟨w1, hB⟩, rfl⟩
  case round =>
    obtain ⟨k, fp, hk, rfl, hr, hfp, u, rfl⟩ := hrel
    have HR := Lib.hid hr
    have HF := Lib.hid hfp
    clear hr hfp ho hR
    by_cases hlt : k < xs.length
    · obtain ⟨x, ex⟩ := get_of_lt hlt
      obtain ⟨a, _, rfl, ⟨_, _, rfl, ⟨A1', c1', rfl, l1', r1'⟩, _, _, rfl, ⟨A2', c2', rfl, l2', r2'⟩, rfl⟩, hc⟩ := (hx.ext u).at ex
      have hP := hc6 (n := k * 6) hc
      obtain ⟨p0, p1, p2, p3, p4, p5⟩ := hP
      clear hc
      have hxl := hs _ _ ex
      have EX := Lib.hid ex
      clear ex
      go_wp2_with (go_at_call 82; refine (toBlock_c _ _ _ _ x _ r1' r2' hxl).mono ?_; rintro e w2 ⟨v, v', f, f', rfl, hr2, hr3, hn2, hf2, hb⟩; have HX := Lib.hid hr2; have HY := Lib.hid hr3; have HN2 := Lib.hid hn2; have HX2 := Lib.hid hf2; clear hr2 hr3 hn2 hf2; obtain ⟨A2, c2, rfl, _⟩ := HX.out.form; obtain ⟨A3, c3, rfl, _⟩ := HY.out.form; have HR2 := Lib.hid (HR.out.keep fun b hb' => hb.block b (HR.out.lt b hb')); obtain ⟨_, ⟨_, _, rfl, ⟨_, _, rfl, _⟩, _, _, rfl, ⟨_, _, rfl, _⟩, rfl⟩, hq, hfz⟩ := HR2.out.cellsAt (slot_len hk) (i := k) (x := zBlk) (slot_k hlt (by simp; omega)); obtain ⟨q0, q1, q2, q3, q4, q5⟩ := ha6 (n := k * 6) hq; have f0 := hfz (k * 6); have f1 := hfz (k * 6 + 1); have f2 := hfz (k * 6 + 2); have f3 := hfz (k * 6 + 3); have f4 := hfz (k * 6 + 4); have f5 := hfz (k * 6 + 5); clear hq hfz)
      obtain ⟨fp', hr', hf', hC⟩ := HR2.out.set (slot_len hk) (i := k) hlt (kBlock_O HX.out HY.out HN2.out) (fun b hb1 hb2 => by have := HR.out.lt b hb2; have := HX2.out b hb1; omega)
      rw [show k * ((kBlock 2 84 72)).sz = k * 6 from rfl, setCells6] at hr' hC
      rw [slot_set hlt EX.out] at hr'
      go_roundw
      case rel => exact ⟨k + 1, fp', by omega, by go_num, hr', fun b hb' => (hf' b hb').elim (HF.out b) (fun h => Nat.le_trans u.hb.size (HX2.out b h)), ⟨_, (Below.then_ u.hb hb).trans (hC.below (by have := u.hb.size; have := hb.size; omega) fun b hb' => by omega)⟩, rfl⟩
      case measure => simp [intOf]; omega
    · go_wp2
      go_ret
      refine ⟨_, fp, rfl, ?_, HF.out, u.hb⟩
      have := HR.out
      rwa [List.take_of_length_le (by omega), show xs.length - k = 0 by omega, List.replicate_zero, List.append_nil] at this
def RetFunc (w : World) (m : Func) (en : Ending) (w' : World) : Prop := ∃ v fp, en = .returned (.agg #[.int .i64 m.values, v]) ∧ Row 81 (kBlock 2 84 72) w' v m.blocks fp ∧ (∀ b ∈ fp, w.heap.size ≤ b) ∧ Below w.heap.size w w'
set_option maxHeartbeats 1000000 in
theorem toFunc_c (A : Option Addr) (c : Nat) (m : Func) (w : World) (hx : C (kBlock 0 0 0) w A m.blocks) (hm : m.blocks.length ≤ 1048576) (hs : ∀ (i : Nat) b, m.blocks[i]? = some b → okBlk 1048576 b) :
    Calls Tryd.prog 16 #[.agg #[.int .i64 m.values, .slice A m.blocks.length c]] w (RetFunc w m) := by
  obtain ⟨r0, xs⟩ := m
  dsimp only at *
  go_enter Tryd.func16, Tryd.ntmps16
  go_wp2_with (first | (go_at_call 52; refine (toBlockS_c _ _ xs _ (hx.below (by repeat (first | (with_reducible first | exact Below.refl _ _ | assumption | exact ext_box _) | (with_reducible apply Below.drew) | ((with_reducible refine Below.setCell ?_ ?hs _); (case hs => first | (simp; done) | (simp; omega) | omega)) | ((with_reducible refine Below.alloc ?_ ?hs _); (case hs => first | (simp; done) | (simp; omega) | omega))))) hm hs).mono ?_; rintro e w1 ⟨v, fp, rfl, hr, hf, hb⟩; have HR := Lib.hid hr; have HF := Lib.hid hf; clear hr hf; obtain ⟨A1, c1, rfl, hl1⟩ := HR.out.form; have HB1 : Below w.heap.size w w1 := Below.then_ (by repeat (first | (with_reducible first | exact Below.refl _ _ | assumption | exact ext_box _) | (with_reducible apply Below.drew) | ((with_reducible refine Below.setCell ?_ ?hs _); (case hs => first | (simp; done) | (simp; omega) | omega)) | ((with_reducible refine Below.alloc ?_ ?hs _); (case hs => first | (simp; done) | (simp; omega) | omega)))) hb; obtain ⟨hc1, hf1⟩ := bcell hb; obtain ⟨zw10, zw11, zw12⟩ : w.heap.size < w1.heap.size ∧ w.heap.size + 1 < w1.heap.size ∧ w.heap.size + 1 + 1 < w1.heap.size := (by have := hb.size; simp at this; omega)))
  refine bodyPost_ret (v := .agg #[.int .i64 r0, .slice A1 xs.length c1]) (by simp [results, Tryd.results16, go_sem, hc1, zw10, zw11, zw12]) rfl ⟨_, fp, rfl, HR.out.chg (S := fun k => k = w.heap.size + 1 ∨ k = w.heap.size + 1 + 1) (by (repeat (first | (with_reducible first | exact Chg.refl _ _ | assumption) | (with_reducible refine Chg.drew ?_) | ((with_reducible refine Chg.setCell ?_ ?hs _); (case hs => first | (simp; done) | (simp; omega) | omega)) | (with_reducible refine Chg.alloc ?_ _)))) fun b hb => ?_, fun b hb => ?_, ?_⟩
  · have := HF.out b hb; simp at this; omega
  · have := HF.out b hb; simp at this; omega
  · (repeat (first | (with_reducible first | exact Below.refl _ _ | assumption | exact ext_box _) | (with_reducible apply Below.drew) | ((with_reducible refine Below.setCell ?_ ?hs _); (case hs => first | (simp; done) | (simp; omega) | omega)) | ((with_reducible refine Below.alloc ?_ ?hs _); (case hs => first | (simp; done) | (simp; omega) | omega))))
end Go.Proofs.YtnnfjjgohhicjaaDoor
namespace Go.Proofs.YtnnfjjgohhicjaaDoor
open Go.RowKit
set_option linter.unusedSimpArgs false
set_option linter.unusedVariables false
set_option maxRecDepth 100000

theorem Row.snoc {α : Type} {e : TypeId} {d : Kd α} {w w' : World} {v : Value} {xs : List α} {y : α} {css : List (List Value)} {fps : List (List Nat)} {news : List Value} {f : List Nat} {g cap : Nat}
    (how : w.ownsRow 0 e d.sz v xs.length css.flatten) (ha : All3 (d.O w) xs css fps) (hn : (v.ownBlock.toList ++ fps.flatten).Nodup) (hO : d.O w y news f) (hf : ∀ b ∈ f, b ∉ v.ownBlock.toList ++ fps.flatten)
    (ho : w'.ownsRow 0 e d.sz (.slice (some ⟨g, 0, none⟩) (xs.length + 1) cap) (xs.length + 1) (css.flatten ++ news)) (hg : Chg (fun k => v.ownBlock = some k) w w') (hl : v.ownBlock = some g ∨ g = w.heap.size) :
    Row e d w' (.slice (some ⟨g, 0, none⟩) (xs.length + 1) cap) (xs ++ [y]) (g :: (fps.flatten ++ f)) := by
  have keepO : ∀ (a : α) (b : List Value) (c : List Nat), (∀ k ∈ c, k < w.heap.size) → (∀ k ∈ c, v.ownBlock ≠ some k) → d.O w a b c → d.O w' a b c := fun a b c h1 h2 h => d.okeep h fun k hk => hg.block k (h1 k hk) (h2 k hk)
  have hfn : ∀ k ∈ fps.flatten, v.ownBlock ≠ some k := by
    intro k hk e
    rw [e] at hn
    simp only [Option.toList_some, List.cons_append, List.nil_append, List.nodup_cons] at hn
    exact hn.1 hk
  have hfl : ∀ k ∈ fps.flatten, k < w.heap.size := fun k hk => ha.fps hk
  refine ⟨css ++ [news], fps ++ [f], ?_, ?_, ?_, ?_⟩
  · simpa using ho
  · refine All3.append (ha.imp fun a b c hc h => keepO a b c (fun k hk => hfl k (List.mem_flatten.2 ⟨c, hc, hk⟩)) (fun k hk => hfn k (List.mem_flatten.2 ⟨c, hc, hk⟩)) h) (.cons (keepO _ _ _ (d.lt hO) (fun k hk e => hf k hk (by simp [e])) hO) .nil)
  · simp [Value.ownBlock]
  · rw [List.nodup_cons, List.nodup_append]
    refine ⟨?_, ?_, d.nodup hO, ?_⟩
    · intro hm
      rcases List.mem_append.1 hm with hm | hm
      · rcases hl with hl | hl
        · exact hfn g hm hl
        · have := hfl g hm
          omega
      · rcases hl with hl | hl
        · exact hf g hm (by simp [hl])
        · have := d.lt hO g hm
          omega
    · exact (List.nodup_append.1 hn).2.1
    · intro a h1 b h2 e
      subst e
      exact hf a h2 (List.mem_append_right _ h1)
theorem wpList_append_row {P : Program} {ops : Array Oper} {rest : List Oper} {o : Oper} {a : Act} {Q : Exit → Act → World → Prop} {w : World} {α : Type} (d : Kd α) (hgd : o.guard = none) (s x : Operand) (t : TypeId)
    (ho : o.op = .call { callee := .builtin .append, args := #[s, x], argTypes := #[t, t] })
    (e : TypeId) (i : TypeInfo) (z : Value) (bytes : Nat) (ht : P.underlying t = some (.slice e)) (hi : P.info? e = some i) (hz : i.zero = some z)
    (hsize : i.size = d.sz) (hby : i.bytes = bytes) (hzs : z.cells.size = d.sz) (hsz : 0 < d.sz)
    (v : Value) (xs : List α) (fp : List Nat) (hs : a.eval s = v) (hrow : Row e d w v xs fp)
    (ad : Addr) (c : Nat) (news : List Value) (y : α) (f : List Nat) (hx : a.eval x = .slice (some ad) 1 c) (hO : d.O w y news f) (hf : ∀ b ∈ f, b ∉ fp) (hnews : ∀ (j : Nat) u, news[j]? = some u → w.cell? (ad.add j) = some u)
    (h63 : xs.length + 1 ≤ maxLen) (hbytes : (xs.length + 1) * bytes ≤ 140737488355328)
    (h : ∀ g cap w' fp', Row e d w' (.slice (some ⟨g, 0, none⟩) (xs.length + 1) cap) (xs ++ [y]) fp' → (∀ b ∈ fp', b ∈ fp ∨ b ∈ f ∨ b = w.heap.size) → Chg (fun k => k ∈ fp) w w' → wpList P ops Q rest (a.put o.dst (.slice (some ⟨g, 0, none⟩) (xs.length + 1) cap)) w') : wpList P ops Q (o :: rest) a w := by
  obtain ⟨css, fps, how, ha, rfl, hn⟩ := hrow
  refine wpList_append_lies w hgd s x t ho 0 e i z d.sz bytes ht hi hz hsize hby hzs hsz v xs.length css.flatten hs how ad 1 c news hx (by rw [Nat.one_mul]; exact d.len (d.read hO)) hnews (d.one (d.read hO)) (by omega) h63 hbytes (Nat.zero_le _) w.heap.size rfl ?_
  intro g cap w' h2 h3 h4 _
  have hc := Chg.of_grown h3
  refine h g cap w' _ (Row.snoc how ha hn hO hf h2 hc h4) ?_ (hc.mono fun k _ hk => by simp [hk])
  intro b hb
  rcases List.mem_cons.1 hb with rfl | hb
  · rcases h4 with h4 | h4
    · exact .inl (by simp [h4])
    · exact .inr (.inr h4)
  · rcases List.mem_append.1 hb with hb | hb
    · exact .inl (List.mem_append_right _ hb)
    · exact .inr (.inl hb)
/-- A row of no elements over a fresh block. -/
theorem Row.empty {α : Type} {e : TypeId} {d : Kd α} {w : World} {g : Nat} (hg : w.heap[g]? = some (.cells #[] e (0, 0))) : Row e d w (.slice (some ⟨g, 0, none⟩) 0 0) ([] : List α) [g] :=
  ⟨[], [], ⟨by simp, .inr ⟨g, 0, #[], rfl, Nat.zero_le _, hg, Nat.le_refl _, Nat.zero_le _, by simp, by simp⟩⟩, .nil, rfl, by simp⟩
end Go.Proofs.YtnnfjjgohhicjaaDoor
namespace Go.Proofs.YtnnfjjgohhicjaaDoor
open Go.RowKit
set_option linter.unusedSimpArgs false
set_option linter.unusedVariables false
set_option maxRecDepth 100000

theorem All3.setOf {α β γ : Type} {R R' : α → β → γ → Prop} {az : List α} {bs : List β} {cs : List γ} (h : All3 R az bs cs) : ∀ (i : Nat) {a : α} {b : β} {c : γ}, (∀ (j : Nat) x y z, j ≠ i → cs[j]? = some z → R x y z → R' x y z) → R' a b c → All3 R' (az.set i a) (bs.set i b) (cs.set i c) := by
  induction h with
  | nil => intro i a b c _ _; exact .nil
  | cons h0 h1 ih =>
    intro i a b c hk hn
    cases i with
    | zero => exact .cons hn (h1.imp fun x y z hz hR => by
        obtain ⟨j, hj⟩ := List.getElem?_of_mem hz
        exact hk (j + 1) x y z (by omega) (by simpa using hj) hR)
    | succ i => exact .cons (hk 0 _ _ _ (by omega) rfl h0) (ih i (fun j x y z hj hz hR => hk (j + 1) x y z (by omega) (by simpa using hz) hR) hn)
theorem nodup_apart : ∀ {fps : List (List Nat)} {i j : Nat} {f g : List Nat}, fps.flatten.Nodup → fps[i]? = some f → fps[j]? = some g → i ≠ j → ∀ b ∈ f, b ∉ g
  | [], i, _, _, _, _, hi, _, _ => by simp at hi
  | p :: ps, 0, 0, _, _, _, _, _, h => absurd rfl h
  | p :: ps, 0, j + 1, f, g, hn, hi, hj, _ => by
    rw [List.flatten_cons, List.nodup_append] at hn
    simp only [List.getElem?_cons_zero, Option.some.injEq] at hi
    subst hi
    intro b hb hg
    exact hn.2.2 b hb b (List.mem_flatten.2 ⟨g, List.mem_of_getElem? (by simpa using hj), hg⟩) rfl
  | p :: ps, i + 1, 0, f, g, hn, hi, hj, _ => by
    rw [List.flatten_cons, List.nodup_append] at hn
    simp only [List.getElem?_cons_zero, Option.some.injEq] at hj
    subst hj
    intro b hb hg
    exact hn.2.2 b hg b (List.mem_flatten.2 ⟨f, List.mem_of_getElem? (by simpa using hi), hb⟩) rfl
  | p :: ps, i + 1, j + 1, f, g, hn, hi, hj, h => by
    rw [List.flatten_cons, List.nodup_append] at hn
    exact nodup_apart hn.2.1 (by simpa using hi) (by simpa using hj) (by omega)
theorem nodup_set' : ∀ (fps : List (List Nat)) (i : Nat) (f0 f : List Nat), fps[i]? = some f0 → fps.flatten.Nodup → f.Nodup → (∀ b ∈ f, b ∈ f0 ∨ b ∉ fps.flatten) → (fps.set i f).flatten.Nodup
  | [], _, _, _, h, _, _, _ => by simp at h
  | p :: ps, 0, f0, f, h0, h, hf, hd => by
    simp only [List.getElem?_cons_zero, Option.some.injEq] at h0
    subst h0
    rw [List.flatten_cons, List.nodup_append] at h
    rw [List.set_cons_zero, List.flatten_cons, List.nodup_append]
    refine ⟨hf, h.2.1, fun a ha b hb e => ?_⟩
    subst e
    rcases hd a ha with h1 | h1
    · exact h.2.2 a h1 a hb rfl
    · exact h1 (by rw [List.flatten_cons]; exact List.mem_append_right _ hb)
  | p :: ps, i + 1, f0, f, h0, h, hf, hd => by
    have hfull := h
    rw [List.flatten_cons, List.nodup_append] at h
    rw [List.set_cons_succ, List.flatten_cons, List.nodup_append]
    have h0' : ps[i]? = some f0 := by simpa using h0
    refine ⟨h.1, nodup_set' ps i f0 f h0' h.2.1 hf fun b hb => (hd b hb).imp id fun hm h2 => hm (by rw [List.flatten_cons]; exact List.mem_append_right _ h2), fun a ha b hb e => ?_⟩
    subst e
    rcases mem_set hb with h1 | h1
    · exact h.2.2 a ha a h1 rfl
    · rcases hd a h1 with h2 | h2
      · exact h.2.2 a ha a (List.mem_flatten.2 ⟨f0, List.mem_of_getElem? h0', h2⟩) rfl
      · exact h2 (by rw [List.flatten_cons]; exact List.mem_append_left _ ha)
theorem Row.focus {α : Type} {e : TypeId} {d : Kd α} {w : World} {g n cap : Nat} {xs : List α} {fp : List Nat} (h : Row e d w (.slice (some ⟨g, 0, none⟩) n cap) xs fp) (hn : xs.length = n) {i : Nat} {x : α} (hx : xs[i]? = some x) :
    ∃ cs f0, d.O w x cs f0 ∧ (∀ (j : Nat) v, cs[j]? = some v → w.cell? ⟨g, i * d.sz + j, none⟩ = some v) ∧ (∀ b ∈ f0, b ∈ fp) ∧ g ∉ f0 ∧
      ∀ (w' : World) (y : α) (cs' : List Value) (f : List Nat), w.heap.size ≤ w'.heap.size → (∀ b ∈ fp, b ∉ f0 → w'.heap[b]? = w.heap[b]?) → d.O w' y cs' f → (∀ b ∈ f, b ∈ f0 ∨ b ∉ fp) →
        ∃ fp', Row e d (setCells w' g (i * d.sz) cs') (.slice (some ⟨g, 0, none⟩) n cap) (xs.set i y) fp' ∧ (∀ b ∈ fp', b ∈ fp ∨ b ∈ f) ∧ Chg (fun k => k = g) w' (setCells w' g (i * d.sz) cs') := by
  subst hn
  obtain ⟨css, fps, ho, ha, rfl, hnd⟩ := h
  have hg : (Value.slice (some ⟨g, 0, none⟩) xs.length cap).ownBlock.toList = [g] := rfl
  rw [hg] at hnd ⊢
  rw [List.singleton_append, List.nodup_cons] at hnd
  obtain ⟨cs, f0, hcs, hf0, hO⟩ := ha.get hx
  have hsub : ∀ b ∈ f0, b ∈ fps.flatten := fun b hb => List.mem_flatten.2 ⟨f0, List.mem_of_getElem? hf0, hb⟩
  have hi : i < xs.length := (List.getElem?_eq_some_iff.1 hx).1
  refine ⟨cs, f0, hO, fun j v hv => ?_, fun b hb => by simp [hsub b hb], fun hm => hnd.1 (hsub g hm), ?_⟩
  · have := ho.cells (g := g) rfl _ _ (flatten_get ha.lens hcs hv)
    rwa [add_plain, Nat.zero_add] at this
  · intro w' y cs' f hsz hk hO' hf
    have ho' := ownsRow_keep (w' := w') ho fun k hk' => by
      simp only [Value.ownBlock, Option.some.injEq] at hk'
      subst hk'
      exact hk g (by simp) fun hm => hnd.1 (hsub g hm)
    obtain ⟨h1, h2⟩ := setCells_row cs' (i * d.sz) w' _ ho'
    rw [setL_flatten ha.lens (d.len (d.read hO')) (by rw [ha.len2]; exact hi)] at h1
    have hkk : ∀ b, b < w'.heap.size → b ≠ g → (setCells w' g (i * d.sz) cs').heap[b]? = w'.heap[b]? := fun b hb hne => h2.block b hb hne
    refine ⟨[g] ++ (fps.set i f).flatten, ⟨css.set i cs', fps.set i f, by simpa using h1, ?_, by rw [hg], ?_⟩, ?_, h2⟩
    · refine ha.setOf i (R' := d.O (setCells w' g (i * d.sz) cs')) (fun j a b c hj hz hR => d.okeep hR fun k hk' => ?_) ?_
      · have hm : k ∈ fps.flatten := List.mem_flatten.2 ⟨c, List.mem_of_getElem? hz, hk'⟩
        rw [hkk k (Nat.lt_of_lt_of_le (ha.fps hm) hsz) fun e => hnd.1 (e ▸ hm)]
        exact hk k (by simp [hm]) (nodup_apart hnd.2 hz hf0 hj k hk')
      · exact d.okeep hO' fun k hk' => hkk k (d.lt hO' k hk') fun e => by
          subst e
          rcases hf k hk' with h3 | h3
          · exact hnd.1 (hsub k h3)
          · exact h3 (by simp)
    · rw [List.singleton_append, List.nodup_cons]
      refine ⟨fun hm => ?_, nodup_set' _ _ _ _ hf0 hnd.2 (d.nodup hO') fun b hb => (hf b hb).imp id fun h3 hm => h3 (by simp [hm])⟩
      rcases mem_set hm with h3 | h3
      · exact hnd.1 h3
      · rcases hf g h3 with h4 | h4
        · exact hnd.1 (hsub g h4)
        · exact h4 (by simp)
    · intro b hb
      rw [List.singleton_append, List.mem_cons] at hb
      rcases hb with hb | hb
      · exact .inl (by simp [hb])
      · rcases mem_set hb with h3 | h3
        · exact .inl (by simp [h3])
        · exact .inr h3
end Go.Proofs.YtnnfjjgohhicjaaDoor
