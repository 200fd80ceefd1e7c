/- Plain and memory facts: a map of integers as a sorted list of moves; a store at a key that is there, in the round of a range. No condition. -/
import Derived.Test.YtnnfjjgohhicjaaPq
import Derived.Maps.RangeWalk
import Derived.Maps.Ext
namespace Go.Proofs.Ytnnfjjgohhicjaa
open Go.Maps (Keyed)
open Go.ChangeMaps Go.MapKept Go.WideShapes
open Go.WideElems (Fit rd rg pl rd_key rd_val rd_mk rg_of other_key)
set_option linter.unusedVariables false
set_option linter.unusedSimpArgs false

abbrev li (x : Int) : Lit := .int .i64 x
def entM (m : Move) : Lit × DataW Unit := (li m.to, .lit (li m.src))
def mapD (L : List Move) : DataW Unit := .map (L.map entM)
theorem sameKey_li (x y : Int) : (li x).sameKey (li y) = decide (x = y) := by simp [Lit.sameKey]
theorem del_mapD (L : List Move) (t : Int) : (mapD L).del (li t) = mapD (L.filter fun m => decide (m.to ≠ t)) := by
  simp only [mapD, DataW.del, List.filter_map]
  refine congrArg (fun l => DataW.map (l.map entM)) (List.filter_congr fun m _ => ?_)
  simp [entM, sameKey_li]
theorem has_mapD (L : List Move) (t : Int) : Maps.has (mapD L) (li t) = L.any fun m => decide (m.to = t) := by
  rw [mapD, Maps.has_eq, List.any_map]
  congr 1
  funext m
  simp [entM, sameKey_li]
theorem size_mapD (L : List Move) : Maps.size (mapD L) = L.length := by rw [mapD, Maps.size_eq, List.length_map]
theorem find_to {L : List Move} (hs : DistTo L) {m : Move} (hm : m ∈ L) : L.find? (fun x => decide (x.to = m.to)) = some m := by
  induction L with
  | nil => cases hm
  | cons y r ih =>
    unfold DistTo at hs
    rw [List.pairwise_cons] at hs
    rcases List.mem_cons.1 hm with rfl | h
    · simp
    · rw [List.find?_cons_of_neg (by simpa using hs.1 m h)]
      exact ih hs.2 h
theorem srt_dist {L : List Move} (h : Srt L) : DistTo L := List.Pairwise.imp (fun h => by omega) h
theorem atKey_mapD {L : List Move} (hs : Srt L) {m : Move} (hm : m ∈ L) (z : DataW Unit) : (mapD L).atKey (li m.to) z = .lit (li m.src) := by
  have h := find_to (srt_dist hs) hm
  have h2 : (L.map entM).find? (fun p => p.1.sameKey (li m.to)) = some (entM m) := by
    rw [List.find?_map]
    rw [show ((fun p : Lit × DataW Unit => p.1.sameKey (li m.to)) ∘ entM) = (fun x => decide (x.to = m.to)) from by funext x; simp [entM, sameKey_li], h]
    rfl
  simp only [mapD, DataW.atKey, h2]
  rfl
/-- What a map holds at a key: some number, and it is the member's source. -/
theorem atKey_mem {L : List Move} (hs : Srt L) {x c : Int} (h : ∀ z, (mapD L).atKey (li x) z = .lit (li c)) : (⟨x, c⟩ : Move) ∈ L := by
  have h1 := Maps.has_true_of_atKey h
  rw [has_mapD, List.any_eq_true] at h1
  obtain ⟨m, hm, he⟩ := h1
  have he : m.to = x := by simpa using he
  have h2 := atKey_mapD hs hm .nil
  rw [he, h] at h2
  injection h2 with h2
  injection h2 with _ h2
  rw [show (⟨x, c⟩ : Move) = m by cases m; simp_all]
  exact hm
def insM (m : Move) : List Move → List Move
  | [] => [m]
  | y :: r => if m.to < y.to then m :: y :: r else y :: insM m r
theorem insM_perm (m : Move) : ∀ L : List Move, (insM m L).Perm (m :: L)
  | [] => .refl _
  | y :: r => by
    unfold insM
    split
    · exact .refl _
    · exact ((insM_perm m r).cons y).trans (.swap m y r)
theorem insM_srt {m : Move} : ∀ {L : List Move}, Srt L → (∀ x ∈ L, x.to ≠ m.to) → Srt (insM m L)
  | [], _, _ => by simp [insM, Srt]
  | y :: r, hs, hn => by
    unfold Srt at hs
    rw [List.pairwise_cons] at hs
    unfold insM
    split
    · unfold Srt
      rw [List.pairwise_cons]
      refine ⟨fun x hx => ?_, List.pairwise_cons.2 hs⟩
      rcases List.mem_cons.1 hx with rfl | hx
      · assumption
      · have := hs.1 x hx; omega
    · have hy := hn y (by simp)
      unfold Srt
      rw [List.pairwise_cons]
      refine ⟨fun x hx => ?_, insM_srt hs.2 fun x hx => hn x (by simp [hx])⟩
      rcases List.mem_cons.1 ((insM_perm m r).mem_iff.1 hx) with rfl | hx
      · omega
      · exact hs.1 x hx
theorem put_mapD (L : List Move) (t s : Int) : (mapD L).put (li t) (.lit (li s)) = mapD (insM ⟨t, s⟩ (L.filter fun m => decide (m.to ≠ t))) := by
  have hi : ∀ (m : Move) (l : List Move), DataW.insert (entM m) (l.map entM) = (insM m l).map entM := fun m l => by
    induction l with
    | nil => rfl
    | cons y r ih =>
      rw [List.map_cons, DataW.insert, insM, show (entM m).1.before (entM y).1 = decide (m.to < y.to) from rfl]
      by_cases h : m.to < y.to
      · simp [h]
      · simp [h, ih]
  simp only [mapD, DataW.put, List.filter_map]
  rw [show (fun p : Lit × DataW Unit => !p.1.sameKey (li t)) ∘ entM = fun m => decide (m.to ≠ t) from by funext m; simp [entM, sameKey_li]]
  rw [show ((li t, DataW.lit (li s)) : Lit × DataW Unit) = entM ⟨t, s⟩ from rfl, hi]
theorem filter_same {L : List Move} {t : Int} (h : ∀ x ∈ L, x.to ≠ t) : L.filter (fun m => decide (m.to ≠ t)) = L := List.filter_eq_self.2 fun x hx => by simpa using h x hx
theorem insM_same : ∀ {L : List Move}, Srt L → ∀ {m : Move}, m ∈ L → ∀ s : Int, insM ⟨m.to, s⟩ (L.filter fun x => decide (x.to ≠ m.to)) = L.map fun x => if x.to = m.to then ⟨m.to, s⟩ else x
  | [], _, m, hm, _ => by cases hm
  | y :: r, hs, m, hm, s => by
    unfold Srt at hs
    rw [List.pairwise_cons] at hs
    rcases List.mem_cons.1 hm with rfl | h
    · have hr : ∀ x ∈ r, x.to ≠ m.to := fun x hx => by have := hs.1 x hx; omega
      rw [List.filter_cons_of_neg (by simp), filter_same hr, List.map_cons, if_pos rfl]
      rw [show r.map (fun x => if x.to = m.to then (⟨m.to, s⟩ : Move) else x) = r from by
        conv => rhs; rw [← List.map_id r]
        exact List.map_congr_left fun x hx => by rw [if_neg (hr x hx)]; rfl]
      cases r with
      | nil => rfl
      | cons z q => rw [insM, if_pos (hs.1 z (by simp))]
    · have hne := hs.1 m h
      rw [List.filter_cons_of_pos (by simp; omega), insM, if_neg (by show ¬ m.to < y.to; omega), insM_same hs.2 h s, List.map_cons, if_neg (by omega)]
/-- A store at a key that is there. -/
theorem put_there {L : List Move} (hs : Srt L) {m : Move} (hm : m ∈ L) (s : Int) : (mapD L).put (li m.to) (.lit (li s)) = mapD (L.map fun x => if x.to = m.to then ⟨m.to, s⟩ else x) := by
  rw [put_mapD, insM_same hs hm]

/-! ### memory -/
theorem result_map {w : World} {b : Nat} {es es' es0 : Array MapEntry} {c c' c0 : Nat} (hb : w.heap[b]? = some (.map es0 c0)) (h : (Result.ok () (setBlock w b (.map es c)) : Result Unit) = .ok () (setBlock w b (.map es' c'))) : es = es' ∧ c = c' := by
  injection h with _ h
  have h1 := heap_setBlock_same hb (.map es c)
  rw [h, heap_setBlock_same hb] at h1
  injection h1 with h1
  injection h1 with h1 h2
  exact ⟨h1.symm, h2.symm⟩
/-- 'm[k] = v' IN THE ROUND, at a key that is there. -/
theorem ranges_store {H : Type} {P : Program} {k t e : TypeId} {R : Value → Option (DataW H × List MemPlace)} {w : World} {b r n : Nat} {D : DataW H} {left : Lit → Bool} {cnt : Nat} (h : w.ranges P k R b r n D left cnt) (K : Keyed P k) (ht : P.underlying t = some (.map k e)) (hn : n < maxLen)
    {key val : Value} {kl : Lit} {d : DataW H} {ps : List MemPlace} (hkey : keyOf P k key = some kl) (hv : R val = some (d, ps)) (hhas : Maps.has D kl = true) :
    ∃ w', (Instr.mapUpdate t (.map (some b)) key val).run P w = .ok () w' ∧ w'.ranges P k R b r n (D.put kl d) left cnt ∧ w.grownBy w' (some b) ∧ w'.heap.size = w.heap.size := by
  have hne := h.ne
  obtain ⟨es, clock, since, seen, c0, hb, F, hs, rfl, hr, hold, rfl, hl1, hl2, hsc, hsk⟩ := h
  obtain ⟨es1, clock1, hrun1, F1, hput, -⟩ := Maps.fit_store (R' := R) K ht hb F (Nat.lt_of_le_of_lt hs hn) (fun _ _ _ _ hz => hz) hkey hv
  rcases K.find w hkey es.toList F.keys with ⟨h1, h2⟩ | ⟨j, e0, h1, h2, h3⟩
  · exfalso
    obtain ⟨p, hp, hpk⟩ := List.any_eq_true.1 hhas
    obtain ⟨x, hx, rfl⟩ := List.mem_map.1 (mem_sorted.1 hp)
    obtain ⟨y, hy⟩ := F.reads x hx
    have e1 := WideAt.sameKey_eq hpk
    rw [rg_of hy] at e1
    exact h2 x hx (K.inj (e1 ▸ rd_key hy) hkey)
  · have hj : es[j]? = some e0 := by simpa using h2
    have hlist : (es.modify j (fun e' => { e' with key := key, val := val })).toList = es.toList.set j { e0 with key := key, val := val } := by rw [Array.toList_modify, modify_eq_set _ _ _ _ h2]
    have hrun : (Instr.mapUpdate t (.map (some b)) key val).run P w = .ok () (setBlock w b (.map (es.modify j (fun e' => { e' with key := key, val := val })) clock)) := by
      simp [Instr.mapUpdate, run_underlying ht, MapKept.run_getObj_map hb, K.check w false hkey, h1, hj, h3, K.stays w hkey, MapKept.run_setObj_map _ hb, Result.andThen, setBlock]
    obtain ⟨rfl, rfl⟩ := result_map hb (hrun.symm.trans hrun1)
    have he0 : e0 ∈ es.toList := List.mem_of_getElem? h2
    obtain ⟨y0, hy0⟩ := F.reads e0 he0
    have hk0 : (rg P k R e0).1 = kl := by
      have m0 := rd_key hy0
      rw [h3, hkey] at m0
      rw [rg_of hy0, ← Option.some.inj m0]
    have hkn : (rg P k R { e0 with key := key, val := val }).1 = kl := by rw [rg_of (rd_mk hkey hv)]
    have who : ∀ x ∈ es.toList.set j { e0 with key := key, val := val }, ∃ x0 ∈ es.toList, x0.born = x.born ∧ (rg P k R x0).1 = (rg P k R x).1 := by
      intro x hx
      obtain ⟨i, hi, ex⟩ := List.getElem_of_mem hx
      rw [List.getElem_set] at ex
      split at ex
      · exact ⟨e0, he0, by rw [← ex], by rw [← ex, hk0, hkn]⟩
      · exact ⟨x, by rw [← ex]; exact List.getElem_mem _, rfl, rfl⟩
    refine ⟨_, hrun, ⟨_, clock, since, seen, c0, heap_setBlock_same hb _, F1, by simpa using hs, by rw [DataW.put_eq, hput], (heap_setBlock_other hb _ hne).trans hr, fun x hx => ?_, ?_, fun x hx => ?_, fun kx hkx => ?_, hsc, hsk⟩, ⟨rfl, rfl, rfl, by simp [setBlock], fun i _ hi => heap_setBlock_other hb _ (fun e => hi (by rw [e]))⟩, by simp [setBlock]⟩
    · rw [hlist] at hx
      obtain ⟨x0, hx0, e1, _⟩ := who x hx
      rw [← e1]; exact hold x0 hx0
    · have e1 : ∀ a : Array MapEntry, (leftOf a seen).size = ((a.toList.map (·.born)).filter fun c => !seen.contains c).length := fun a => by
        unfold leftOf
        rw [← Array.length_toList, Array.toList_filter, List.filter_map, List.length_map]
        rfl
      rw [e1, e1, hlist, List.map_set]
      congr 2
      have hjl : j < es.toList.length := (List.getElem?_eq_some_iff.1 h2).1
      apply List.ext_getElem?
      intro i
      rw [List.getElem?_set]
      split
      · rename_i he
        subst he
        rw [if_pos (by simpa using hjl), List.getElem?_map, h2]; rfl
      · rfl
    · rw [hlist] at hx
      obtain ⟨x0, hx0, e1, e2⟩ := who x hx
      rw [← e1, ← e2]; exact hl1 x0 hx0
    · obtain ⟨x, hx, rfl⟩ := hl2 kx hkx
      obtain ⟨i, hi⟩ := List.getElem?_of_mem hx
      rw [hlist]
      by_cases hij : j = i
      · subst hij
        rw [h2] at hi
        obtain rfl := Option.some.inj hi
        refine ⟨{ e0 with key := key, val := val }, ?_, by rw [hk0, hkn]⟩
        have hjl : j < es.toList.length := (List.getElem?_eq_some_iff.1 h2).1
        exact List.mem_of_getElem? (i := j) (by rw [List.getElem?_set_self (by simpa using hjl)])
      · exact ⟨x, List.mem_of_getElem? (i := i) (by rw [List.getElem?_set_ne hij]; exact hi), rfl⟩
/-- 'm[k] = v' IN THE ROUND, at the operation. -/
theorem wpList_store_ranges {H : Type} {P : Program} (w : World) {ops : Array Oper} {rest : List Oper} {o : Oper} {a : Act} {Q : Exit → Act → World → Prop}
    (hg : o.guard = none) (m x v : Operand) (t : TypeId) (hop : o.op = Op.mapUpdate t m x v)
    (k e : TypeId) (K : Keyed P k) (ht : P.underlying t = some (.map k e)) (R : Value → Option (DataW H × List MemPlace)) (b r n : Nat) (D : DataW H) (left : Lit → Bool) (cnt : Nat)
    (hm : a.eval m = .map (some b)) (hown : w.ranges P k R b r n D left cnt) (hn : n < maxLen) (key val : Value) (kl : Lit) (hx : a.eval x = key) (hv : a.eval v = val) (hkey : keyOf P k key = some kl)
    (d : DataW H) (ps : List MemPlace) (hval : R val = some (d, ps)) (hhas : Maps.has D kl = true)
    (hK : ∀ w', w'.ranges P k R b r n (D.put kl d) left cnt → w.grownBy w' (some b) → w'.heap.size = w.heap.size → wpList P ops Q rest (a.put o.dst undef) w') :
    wpList P ops Q (o :: rest) a w := by
  refine wpList_plain hg fun K' hK' => ?_
  obtain ⟨w', hrun, r1, r2, r3⟩ := ranges_store hown K ht hn hkey hval hhas
  unfold Oper.wp
  simp [execOp, hop, hm, hx, hv, hrun, Result.andThen]
  exact hK' _ _ (hK w' r1 r2 r3)
end Go.Proofs.Ytnnfjjgohhicjaa
