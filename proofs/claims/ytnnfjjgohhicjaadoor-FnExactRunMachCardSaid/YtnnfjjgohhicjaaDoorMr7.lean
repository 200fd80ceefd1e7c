/- Contract: impl.ValidMach -/
import Derived.Test.YtnnfjjgohhicjaaDoorMr6
import Derived.Laws.CopyOwn
import Derived.Deep.OwnRows
import Derived.Test.YtnnfjjgohhicjaaDoorMr1
import Derived.Test.YtnnfjjgohhicjaaDoorMr3
namespace Go.Proofs.YtnnfjjgohhicjaaDoor
open Go.RowKit
set_option linter.unusedSimpArgs false
set_option linter.unusedVariables false
set_option maxRecDepth 100000

theorem wpList_copy_bk {P : Program} {w : World} {ops : Array Oper} {rest : List Oper} {o : Oper} {a : Act} {Q : Exit → Act → World → Prop} (hgd : o.guard = none) (d s : Operand) (dT sT : TypeId)
    (ho : o.op = .call { callee := .builtin .copy, args := #[d, s], argTypes := #[dT, sT] }) (elem : TypeId) (hu : P.underlying dT = some (.slice elem)) (hsz : (P.info? elem).map (·.size) = some 1)
    (dp sp : Option Addr) (dLen dCap sLen sCap : Nat) (hd : a.eval d = .slice dp dLen dCap) (hs : a.eval s = .slice sp sLen sCap)
    (g : Nat) (cur : List Value) (t : TypeId) (hg : Bk g t cur w) (cs : List Value) (hn : cs.length = Nat.min sLen dLen)
    (hpos : 0 < cs.length → dp = some ⟨g, 0, none⟩ ∧ ∃ ad, sp = some ad ∧ ∀ j v, cs[j]? = some v → w.cell? (ad.add j) = some v)
    (hfit : cs.length ≤ cur.length) (h1 : ∀ v ∈ cs, v.oneCell' = true)
    (h : ∀ w', Bk g t (cs ++ cur.drop cs.length) w' → Chg (fun k => k = g) w w' → wpList P ops Q rest (a.put o.dst (goInt cs.length)) w') :
    wpList P ops Q (o :: rest) a w := by
  by_cases h0 : cs.length = 0
  · obtain rfl : cs = [] := List.eq_nil_of_length_eq_zero h0
    refine wpList_copy_nothing hgd d s dT sT ho elem hu hsz dp sp dLen dCap sLen sCap hd hs (by simpa using hn.symm) ?_
    exact h w (by simpa using hg) (Chg.refl _ _)
  · obtain ⟨rfl, ad, rfl, hsrc⟩ := hpos (by omega)
    refine wpList_copy_own hgd d s dT sT ho elem hu hsz g 0 dLen dCap ad sLen sCap hd hs cur.toArray t hg cs hn hsrc (by simpa using hfit) h1 ?_
    refine h _ ?_ ⟨rfl, rfl, rfl, by simp [World.setRow], fun k hk hne => setRow_other w g k _ (fun e => hne e)⟩
    have := setRow_heap w g cur.toArray (cs ++ cur.drop cs.length).toArray t (0, 0) hg
    simpa [Bk] using this
theorem row_of_bk {e : TypeId} {q : IntKind} {g : Nat} {xs : List Int} {w : World} (h : Bk g e (xs.map (Value.int q)) w) (hl : xs.length ≤ maxLen) : Row e (kInt q) w (.slice (some ⟨g, 0, none⟩) xs.length xs.length) xs [g] := by
  have hf : ∀ ys : List Int, (ys.map fun x => [Value.int q x]).flatten = ys.map (Value.int q) := fun ys => by induction ys with
    | nil => rfl
    | cons y ys ih => simp [ih]
  refine ⟨xs.map fun x => [.int q x], xs.map fun _ => [], ?_, ?_, ?_, by simp⟩
  · rw [hf]
    exact ⟨by simp [kInt], .inr ⟨g, xs.length, (xs.map (Value.int q)).toArray, rfl, Nat.zero_le _, h, Nat.le_refl _, hl, by simp [kInt], by rw [show xs.length * (kInt q).sz = (xs.map (Value.int q)).length by simp [kInt]]; exact List.take_length⟩⟩
  · clear h hl
    induction xs with
    | nil => exact .nil
    | cons x xs ih => exact .cons ⟨rfl, rfl⟩ ih
  · have : (xs.map fun _ => ([] : List Nat)).flatten = [] := List.flatten_eq_nil_iff.2 fun c hc => by simp at hc; exact hc.2
    rw [this]; rfl
theorem heap32_map (hp : List Int) (hh : hp.length ≤ 32) : hp.map (Value.int .i64) ++ ((madeCells #[Value.int .i64 0] 32).toList).drop hp.length = (heap32 hp).map (Value.int .i64) := by
  apply List.ext_getElem?
  intro i
  by_cases hi : i < hp.length
  · rw [List.getElem?_append_left (by simpa using hi)]
    simp [heap32, hi, show i < 32 by omega, List.getD_eq_getElem?_getD]
  · rw [List.getElem?_append_right (by simp; omega)]
    by_cases h32 : i < 32
    · simp [heap32, madeCells, h32, List.getD_eq_getElem?_getD, hi, show hp.length + (i - hp.length) = i by omega, Nat.mod_one]
    · simp [heap32, madeCells, h32, show ¬ i - hp.length + hp.length < 32 by omega]
      omega
theorem made_map (n : Nat) : (madeCells #[Value.int .i64 0] n).toList = (List.replicate n (0 : Int)).map (Value.int .i64) := by
  apply List.ext_getElem?
  intro i
  by_cases hi : i < n <;> simp [madeCells, hi, Nat.mod_one, List.getElem?_replicate]
theorem bk_old {g : Nat} {T : TypeId} {l : List Value} {w : World} {o : Obj} (h : Bk g T l w) : Bk g T l (w.alloc o) := h.below ((Below.refl _ _).alloc (Nat.le_refl _) _)
theorem bk_drew {g : Nat} {T : TypeId} {l : List Value} {w : World} (h : Bk g T l w) : Bk g T l w.drew := h
theorem bk_new {g : Nat} {T : TypeId} {M : Array Value} {w : World} (h : g = w.heap.size) : Bk g T M.toList (w.alloc (.cells M T)) := by subst h; exact heap_alloc_new w _
theorem bk_newl {g : Nat} {T : TypeId} {l : List Value} {w : World} (h : g = w.heap.size) : Bk g T l (w.alloc (.cells l.toArray T)) := by subst h; exact heap_alloc_new w _
theorem chcell {g : Nat} {w w' : World} (hc : Chg (fun k => k = g) w w') : (∀ b o, b < w.heap.size → b ≠ g → w'.cell? ⟨b, o, none⟩ = w.cell? ⟨b, o, none⟩) ∧ (∀ b o, b < w.heap.size → b ≠ g → w'.frozen? ⟨b, o, none⟩ = w.frozen? ⟨b, o, none⟩) :=
  ⟨fun b o h1 h2 => hc.cell (p := ⟨b, o, none⟩) h1 h2, fun b o h1 h2 => frozen_of_block (hc.block b h1 h2) o⟩
theorem rowG_of {hp : List Int} {M : Array Value} {g k : Nat} {w3 wf : World} (hb : Bk g 2 (hp.map (Value.int .i64) ++ M.toList.drop (hp.map (Value.int .i64)).length) w3) (hM : madeCells #[Value.int .i64 0] 32 = M) (hh : hp.length ≤ 32) (hc : Chg (fun b => b = k) w3 wf) (hne : g ≠ k) :
    Row 2 kI64 wf (.slice (some ⟨g, 0, none⟩) 32 32) (heap32 hp) [g] := by
  subst hM
  have h1 := row_of_bk (e := 2) (xs := heap32 hp) (by rw [← heap32_map hp hh]; rw [List.length_map] at hb; exact hb.chg hc hne) (by rw [heap32_len]; simp [maxLen])
  rw [heap32_len] at h1
  exact h1
theorem rowD_of {n : Nat} {M : Array Value} {g k : Nat} {w3 wf : World} (hb : Bk g 2 M.toList w3) (hM : madeCells #[Value.int .i64 0] n = M) (hn : n ≤ 2000) (hc : Chg (fun b => b = k) w3 wf) (hne : g ≠ k) :
    Row 2 kI64 wf (.slice (some ⟨g, 0, none⟩) n n) (List.replicate n 0) [g] := by
  subst hM
  have h1 := row_of_bk (e := 2) (xs := List.replicate n 0) (by rw [← made_map n]; exact hb.chg hc hne) (by simp [maxLen]; omega)
  rw [List.length_replicate] at h1
  exact h1
def NewW (w : World) (va : Value) (hp : List Int) (fuel : Int) (n : Nat) (e : Ending) (w' : World) : Prop :=
  ∃ G D, e = .returned (.agg #[va, .slice (some ⟨G, 0, none⟩) 32 32, .slice none 0 0, .int .i64 fuel, .int .i64 0, .slice (some ⟨D, 0, none⟩) n n, .int .i64 0]) ∧ Row 2 kI64 w' (.slice (some ⟨G, 0, none⟩) 32 32) (heap32 hp) [G] ∧ Row 2 kI64 w' (.slice (some ⟨D, 0, none⟩) n n) (List.replicate n 0) [D] ∧ D ≠ G ∧ w.heap.size ≤ G ∧ w.heap.size ≤ D ∧ Below w.heap.size w w'
set_option maxHeartbeats 4000000 in
theorem newWorld_c (A H : Option Addr) (na ca ch : Nat) (hp : List Int) (fuel : Int) (n : Nat) (w : World) (hH : C kI64 w H hp) (hh : hp.length ≤ 32) (hn : n ≤ 2000) :
    Calls Tryd.prog 67 #[.int .i64 n, .slice A na ca, .slice H hp.length ch, .int .i64 fuel] w (NewW w (.slice A na ca) hp fuel n) := by
  have hmn := run_make_row' (P := Tryd.prog) 49 2 (.int .i64 0) 8 Tryd.underlying49 info_i64 rfl .i64 .i64 n (by omega) (by omega)
  have hm32 := run_make_row' (P := Tryd.prog) 49 2 (.int .i64 0) 8 Tryd.underlying49 info_i64 rfl .i64 .i64 32 (by omega) (by omega)
  simp only [Int.cast_ofNat_Int] at hm32
  obtain ⟨M, hM⟩ : ∃ M, madeCells #[Value.int .i64 0] 32 = M := ⟨_, rfl⟩
  obtain ⟨M2, hM2⟩ : ∃ M2, madeCells #[Value.int .i64 0] n = M2 := ⟨_, rfl⟩
  simp only [hM] at hm32
  simp only [hM2] at hmn
  have HM := Lib.hid hM
  have HM2 := Lib.hid hM2
  have hml : M.size = 32 := by rw [← hM]; simp [madeCells]
  have HML := Lib.hid hml
  clear hM hM2 hml
  have HSRC := Lib.hid (fun W (hb : Below w.heap.size w W) (h0 : 0 < (hp.map (Value.int .i64)).length) => show ∃ ad, H = some ad ∧ ∀ (j : Nat) v, (hp.map (Value.int .i64))[j]? = some v → W.cell? (ad.add j) = some v by
    obtain ⟨a, _, hA, _, _⟩ := hH.get (i := 0) (by simpa using h0)
    refine ⟨a, hA, fun j v hv => ?_⟩
    rw [List.getElem?_map] at hv
    obtain ⟨x, hx, rfl⟩ := Option.map_eq_some_iff.1 hv
    obtain ⟨a', _, hA', rfl, hc⟩ := (hH.below hb).at hx
    obtain rfl := Option.some.inj (hA.symm.trans hA')
    have := hc1 (n := j * 1) hc
    rwa [Nat.mul_one] at this)
  go_enter Tryd.func67, Tryd.ntmps67
  go_wp2
  go_region
  · have n20 : w.heap.size + 1 + 1 ≠ w.heap.size := by omega
    go_wp2_with (with_reducible refine wpList_copy_bk rfl (.tmp 17) (.tmp 18) _ _ rfl 2 Tryd.underlying49 (by kernel_rfl) _ H 32 32 hp.length ch rfl rfl _ M.toList 2 (by (repeat (first | exact bk_new (by simp) | refine bk_drew ?_ | refine bk_old ?_)); done) (hp.map (Value.int .i64)) (by rw [List.length_map]; exact (Nat.min_eq_left hh).symm) (fun h0 => ⟨rfl, HSRC.out _ (by repeat (first | (with_reducible first | exact Below.refl _ _ | assumption | exact ext_box _) | (with_reducible apply Below.drew) | ((with_reducible refine Below.setCell ?_ ?hs _); (case hs => first | (simp; done) | (simp; omega) | omega)) | ((with_reducible refine Below.alloc ?_ ?hs _); (case hs => first | (simp; done) | (simp; omega) | omega)))) h0⟩) (by have := HML.out; simp; omega) (by simp [Value.oneCell']) ?_; intro w3 hb3 hc3; obtain ⟨hcc, hff⟩ := chcell hc3; have K8 := Bk.chg (B := w.heap.size) (T := 113) (l := [.slice none 0 0, .slice none 0 0, .slice none 0 0, .int .i64 0, .int .i64 0, .slice none 0 0, .int .i64 0]) (by (repeat (first | exact bk_newl rfl | refine bk_drew ?_ | refine bk_old ?_)); done) hc3 (by omega); have e0 := K8.cell 0 rfl; have e1 := K8.cell 1 rfl; have e2 := K8.cell 2 rfl; have e3 := K8.cell 3 rfl; have e4 := K8.cell 4 rfl; have e5 := K8.cell 5 rfl; have e6 := K8.cell 6 rfl; have f8 := K8.frozen; clear K8; have HB3 : Below w.heap.size w w3 := Below.trans (by repeat (first | (with_reducible first | exact Below.refl _ _ | assumption | exact ext_box _) | (with_reducible apply Below.drew) | ((with_reducible refine Below.setCell ?_ ?hs _); (case hs => first | (simp; done) | (simp; omega) | omega)) | ((with_reducible refine Below.alloc ?_ ?hs _); (case hs => first | (simp; done) | (simp; omega) | omega)))) (hc3.below (by first | (simp; done) | (simp; omega)) (fun k hk => by subst hk; first | (simp; done) | (simp; omega) | omega)))
    exact bodyPost_ret (v := .agg #[.slice A na ca, .slice (some ⟨w.heap.size + 1, 0, none⟩) 32 32, .slice none 0 0, .int .i64 fuel, .int .i64 0, .slice (some ⟨w.heap.size + 1 + 1, 0, none⟩) n n, .int .i64 0]) (by simp [results, Tryd.results67, go_sem, e0, e1, e2, e3, e4, e5, e6]; done) rfl ⟨w.heap.size + 1, w.heap.size + 1 + 1, rfl, rowG_of hb3 HM.out hh (k := w.heap.size) (by (repeat (first | (with_reducible first | exact Chg.refl _ _ | assumption) | (with_reducible refine Chg.drew ?_) | ((with_reducible refine Chg.setCell ?_ ?hs _); (case hs => first | (simp; done) | (simp; omega) | omega)) | (with_reducible refine Chg.alloc ?_ _)))) (by omega), rowD_of (Bk.chg (B := w.heap.size + 1 + 1) (T := 2) (l := M2.toList) (by (repeat (first | exact bk_new (by simp) | refine bk_drew ?_ | refine bk_old ?_)); done) hc3 (by omega)) HM2.out hn (k := w.heap.size) (by (repeat (first | (with_reducible first | exact Chg.refl _ _ | assumption) | (with_reducible refine Chg.drew ?_) | ((with_reducible refine Chg.setCell ?_ ?hs _); (case hs => first | (simp; done) | (simp; omega) | omega)) | (with_reducible refine Chg.alloc ?_ _)))) (by omega), by omega, by omega, by omega, by (repeat (first | (with_reducible first | exact Below.refl _ _ | assumption | exact ext_box _) | (with_reducible apply Below.drew) | ((with_reducible refine Below.setCell ?_ ?hs _); (case hs => first | (simp; done) | (simp; omega) | omega)) | ((with_reducible refine Below.alloc ?_ ?hs _); (case hs => first | (simp; done) | (simp; omega) | omega))))⟩
  · go_wp2_with (with_reducible refine wpList_copy_bk rfl (.tmp 17) (.tmp 18) _ _ rfl 2 Tryd.underlying49 (by kernel_rfl) _ H 32 32 hp.length ch rfl rfl _ M.toList 2 (by (repeat (first | exact bk_new (by simp) | refine bk_drew ?_ | refine bk_old ?_)); done) (hp.map (Value.int .i64)) (by rw [List.length_map]; exact (Nat.min_eq_left hh).symm) (fun h0 => ⟨rfl, HSRC.out _ (by repeat (first | (with_reducible first | exact Below.refl _ _ | assumption | exact ext_box _) | (with_reducible apply Below.drew) | ((with_reducible refine Below.setCell ?_ ?hs _); (case hs => first | (simp; done) | (simp; omega) | omega)) | ((with_reducible refine Below.alloc ?_ ?hs _); (case hs => first | (simp; done) | (simp; omega) | omega)))) h0⟩) (by have := HML.out; simp; omega) (by simp [Value.oneCell']) ?_; intro w3 hb3 hc3; obtain ⟨hcc, hff⟩ := chcell hc3; have K8 := Bk.chg (B := w.heap.size) (T := 113) (l := [.slice none 0 0, .slice none 0 0, .slice none 0 0, .int .i64 0, .int .i64 0, .slice none 0 0, .int .i64 0]) (by (repeat (first | exact bk_newl rfl | refine bk_drew ?_ | refine bk_old ?_)); done) hc3 (by omega); have e0 := K8.cell 0 rfl; have e1 := K8.cell 1 rfl; have e2 := K8.cell 2 rfl; have e3 := K8.cell 3 rfl; have e4 := K8.cell 4 rfl; have e5 := K8.cell 5 rfl; have e6 := K8.cell 6 rfl; have f8 := K8.frozen; clear K8; have HB3 : Below w.heap.size w w3 := Below.trans (by repeat (first | (with_reducible first | exact Below.refl _ _ | assumption | exact ext_box _) | (with_reducible apply Below.drew) | ((with_reducible refine Below.setCell ?_ ?hs _); (case hs => first | (simp; done) | (simp; omega) | omega)) | ((with_reducible refine Below.alloc ?_ ?hs _); (case hs => first | (simp; done) | (simp; omega) | omega)))) (hc3.below (by first | (simp; done) | (simp; omega)) (fun k hk => by subst hk; first | (simp; done) | (simp; omega) | omega)))
    exact bodyPost_ret (v := .agg #[.slice A na ca, .slice (some ⟨w.heap.size + 1, 0, none⟩) 32 32, .slice none 0 0, .int .i64 fuel, .int .i64 0, .slice (some ⟨w.heap.size + 1 + 1 + 1, 0, none⟩) n n, .int .i64 0]) (by simp [results, Tryd.results67, go_sem, e0, e1, e2, e3, e4, e5, e6]; done) rfl ⟨w.heap.size + 1, w.heap.size + 1 + 1 + 1, rfl, rowG_of hb3 HM.out hh (k := w.heap.size) (by (repeat (first | (with_reducible first | exact Chg.refl _ _ | assumption) | (with_reducible refine Chg.drew ?_) | ((with_reducible refine Chg.setCell ?_ ?hs _); (case hs => first | (simp; done) | (simp; omega) | omega)) | (with_reducible refine Chg.alloc ?_ _)))) (by omega), rowD_of (Bk.chg (B := w.heap.size + 1 + 1 + 1) (T := 2) (l := M2.toList) (by (repeat (first | exact bk_new (by simp) | refine bk_drew ?_ | refine bk_old ?_)); done) hc3 (by omega)) HM2.out hn (k := w.heap.size) (by (repeat (first | (with_reducible first | exact Chg.refl _ _ | assumption) | (with_reducible refine Chg.drew ?_) | ((with_reducible refine Chg.setCell ?_ ?hs _); (case hs => first | (simp; done) | (simp; omega) | omega)) | (with_reducible refine Chg.alloc ?_ _)))) (by omega), by omega, by omega, by omega, by (repeat (first | (with_reducible first | exact Below.refl _ _ | assumption | exact ext_box _) | (with_reducible apply Below.drew) | ((with_reducible refine Below.setCell ?_ ?hs _); (case hs => first | (simp; done) | (simp; omega) | omega)) | ((with_reducible refine Below.alloc ?_ ?hs _); (case hs => first | (simp; done) | (simp; omega) | omega))))⟩
  · go_wp2_with (with_reducible refine wpList_copy_bk rfl (.tmp 17) (.tmp 18) _ _ rfl 2 Tryd.underlying49 (by kernel_rfl) _ H 32 32 hp.length ch rfl rfl _ M.toList 2 (by (repeat (first | exact bk_new (by simp) | refine bk_drew ?_ | refine bk_old ?_)); done) (hp.map (Value.int .i64)) (by rw [List.length_map]; exact (Nat.min_eq_left hh).symm) (fun h0 => ⟨rfl, HSRC.out _ (by repeat (first | (with_reducible first | exact Below.refl _ _ | assumption | exact ext_box _) | (with_reducible apply Below.drew) | ((with_reducible refine Below.setCell ?_ ?hs _); (case hs => first | (simp; done) | (simp; omega) | omega)) | ((with_reducible refine Below.alloc ?_ ?hs _); (case hs => first | (simp; done) | (simp; omega) | omega)))) h0⟩) (by have := HML.out; simp; omega) (by simp [Value.oneCell']) ?_; intro w3 hb3 hc3; obtain ⟨hcc, hff⟩ := chcell hc3; have K8 := Bk.chg (B := w.heap.size) (T := 113) (l := [.slice none 0 0, .slice none 0 0, .slice none 0 0, .int .i64 0, .int .i64 0, .slice none 0 0, .int .i64 0]) (by (repeat (first | exact bk_newl rfl | refine bk_drew ?_ | refine bk_old ?_)); done) hc3 (by omega); have e0 := K8.cell 0 rfl; have e1 := K8.cell 1 rfl; have e2 := K8.cell 2 rfl; have e3 := K8.cell 3 rfl; have e4 := K8.cell 4 rfl; have e5 := K8.cell 5 rfl; have e6 := K8.cell 6 rfl; have f8 := K8.frozen; clear K8; have HB3 : Below w.heap.size w w3 := Below.trans (by repeat (first | (with_reducible first | exact Below.refl _ _ | assumption | exact ext_box _) | (with_reducible apply Below.drew) | ((with_reducible refine Below.setCell ?_ ?hs _); (case hs => first | (simp; done) | (simp; omega) | omega)) | ((with_reducible refine Below.alloc ?_ ?hs _); (case hs => first | (simp; done) | (simp; omega) | omega)))) (hc3.below (by first | (simp; done) | (simp; omega)) (fun k hk => by subst hk; first | (simp; done) | (simp; omega) | omega)))
    exact bodyPost_ret (v := .agg #[.slice A na ca, .slice (some ⟨w.heap.size + 1 + 1, 0, none⟩) 32 32, .slice none 0 0, .int .i64 fuel, .int .i64 0, .slice (some ⟨w.heap.size + 1, 0, none⟩) n n, .int .i64 0]) (by simp [results, Tryd.results67, go_sem, e0, e1, e2, e3, e4, e5, e6]; done) rfl ⟨w.heap.size + 1 + 1, w.heap.size + 1, rfl, rowG_of hb3 HM.out hh (k := w.heap.size) (by (repeat (first | (with_reducible first | exact Chg.refl _ _ | assumption) | (with_reducible refine Chg.drew ?_) | ((with_reducible refine Chg.setCell ?_ ?hs _); (case hs => first | (simp; done) | (simp; omega) | omega)) | (with_reducible refine Chg.alloc ?_ _)))) (by omega), rowD_of (Bk.chg (B := w.heap.size + 1) (T := 2) (l := M2.toList) (by (repeat (first | exact bk_new (by simp) | refine bk_drew ?_ | refine bk_old ?_)); done) hc3 (by omega)) HM2.out hn (k := w.heap.size) (by (repeat (first | (with_reducible first | exact Chg.refl _ _ | assumption) | (with_reducible refine Chg.drew ?_) | ((with_reducible refine Chg.setCell ?_ ?hs _); (case hs => first | (simp; done) | (simp; omega) | omega)) | (with_reducible refine Chg.alloc ?_ _)))) (by omega), by omega, by omega, by omega, by (repeat (first | (with_reducible first | exact Below.refl _ _ | assumption | exact ext_box _) | (with_reducible apply Below.drew) | ((with_reducible refine Below.setCell ?_ ?hs _); (case hs => first | (simp; done) | (simp; omega) | omega)) | ((with_reducible refine Below.alloc ?_ ?hs _); (case hs => first | (simp; done) | (simp; omega) | omega))))⟩
  · go_wp2_with (with_reducible refine wpList_copy_bk rfl (.tmp 17) (.tmp 18) _ _ rfl 2 Tryd.underlying49 (by kernel_rfl) _ H 32 32 hp.length ch rfl rfl _ M.toList 2 (by (repeat (first | exact bk_new (by simp) | refine bk_drew ?_ | refine bk_old ?_)); done) (hp.map (Value.int .i64)) (by rw [List.length_map]; exact (Nat.min_eq_left hh).symm) (fun h0 => ⟨rfl, HSRC.out _ (by repeat (first | (with_reducible first | exact Below.refl _ _ | assumption | exact ext_box _) | (with_reducible apply Below.drew) | ((with_reducible refine Below.setCell ?_ ?hs _); (case hs => first | (simp; done) | (simp; omega) | omega)) | ((with_reducible refine Below.alloc ?_ ?hs _); (case hs => first | (simp; done) | (simp; omega) | omega)))) h0⟩) (by have := HML.out; simp; omega) (by simp [Value.oneCell']) ?_; intro w3 hb3 hc3; obtain ⟨hcc, hff⟩ := chcell hc3; have K8 := Bk.chg (B := w.heap.size) (T := 113) (l := [.slice none 0 0, .slice none 0 0, .slice none 0 0, .int .i64 0, .int .i64 0, .slice none 0 0, .int .i64 0]) (by (repeat (first | exact bk_newl rfl | refine bk_drew ?_ | refine bk_old ?_)); done) hc3 (by omega); have e0 := K8.cell 0 rfl; have e1 := K8.cell 1 rfl; have e2 := K8.cell 2 rfl; have e3 := K8.cell 3 rfl; have e4 := K8.cell 4 rfl; have e5 := K8.cell 5 rfl; have e6 := K8.cell 6 rfl; have f8 := K8.frozen; clear K8; have HB3 : Below w.heap.size w w3 := Below.trans (by repeat (first | (with_reducible first | exact Below.refl _ _ | assumption | exact ext_box _) | (with_reducible apply Below.drew) | ((with_reducible refine Below.setCell ?_ ?hs _); (case hs => first | (simp; done) | (simp; omega) | omega)) | ((with_reducible refine Below.alloc ?_ ?hs _); (case hs => first | (simp; done) | (simp; omega) | omega)))) (hc3.below (by first | (simp; done) | (simp; omega)) (fun k hk => by subst hk; first | (simp; done) | (simp; omega) | omega)))
    exact bodyPost_ret (v := .agg #[.slice A na ca, .slice (some ⟨w.heap.size + 1 + 1 + 1, 0, none⟩) 32 32, .slice none 0 0, .int .i64 fuel, .int .i64 0, .slice (some ⟨w.heap.size + 1, 0, none⟩) n n, .int .i64 0]) (by simp [results, Tryd.results67, go_sem, e0, e1, e2, e3, e4, e5, e6]; done) rfl ⟨w.heap.size + 1 + 1 + 1, w.heap.size + 1, rfl, rowG_of hb3 HM.out hh (k := w.heap.size) (by (repeat (first | (with_reducible first | exact Chg.refl _ _ | assumption) | (with_reducible refine Chg.drew ?_) | ((with_reducible refine Chg.setCell ?_ ?hs _); (case hs => first | (simp; done) | (simp; omega) | omega)) | (with_reducible refine Chg.alloc ?_ _)))) (by omega), rowD_of (Bk.chg (B := w.heap.size + 1) (T := 2) (l := M2.toList) (by (repeat (first | exact bk_new (by simp) | refine bk_drew ?_ | refine bk_old ?_)); done) hc3 (by omega)) HM2.out hn (k := w.heap.size) (by (repeat (first | (with_reducible first | exact Chg.refl _ _ | assumption) | (with_reducible refine Chg.drew ?_) | ((with_reducible refine Chg.setCell ?_ ?hs _); (case hs => first | (simp; done) | (simp; omega) | omega)) | (with_reducible refine Chg.alloc ?_ _)))) (by omega), by omega, by omega, by omega, by (repeat (first | (with_reducible first | exact Below.refl _ _ | assumption | exact ext_box _) | (with_reducible apply Below.drew) | ((with_reducible refine Below.setCell ?_ ?hs _); (case hs => first | (simp; done) | (simp; omega) | omega)) | ((with_reducible refine Below.alloc ?_ ?hs _); (case hs => first | (simp; done) | (simp; omega) | omega))))⟩
  · go_wp2_with (with_reducible refine wpList_copy_bk rfl (.tmp 17) (.tmp 18) _ _ rfl 2 Tryd.underlying49 (by kernel_rfl) _ H 32 32 hp.length ch rfl rfl _ M.toList 2 (by (repeat (first | exact bk_new (by simp) | refine bk_drew ?_ | refine bk_old ?_)); done) (hp.map (Value.int .i64)) (by rw [List.length_map]; exact (Nat.min_eq_left hh).symm) (fun h0 => ⟨rfl, HSRC.out _ (by repeat (first | (with_reducible first | exact Below.refl _ _ | assumption | exact ext_box _) | (with_reducible apply Below.drew) | ((with_reducible refine Below.setCell ?_ ?hs _); (case hs => first | (simp; done) | (simp; omega) | omega)) | ((with_reducible refine Below.alloc ?_ ?hs _); (case hs => first | (simp; done) | (simp; omega) | omega)))) h0⟩) (by have := HML.out; simp; omega) (by simp [Value.oneCell']) ?_; intro w3 hb3 hc3; obtain ⟨hcc, hff⟩ := chcell hc3; have K8 := Bk.chg (B := w.heap.size) (T := 113) (l := [.slice none 0 0, .slice none 0 0, .slice none 0 0, .int .i64 0, .int .i64 0, .slice none 0 0, .int .i64 0]) (by (repeat (first | exact bk_newl rfl | refine bk_drew ?_ | refine bk_old ?_)); done) hc3 (by omega); have e0 := K8.cell 0 rfl; have e1 := K8.cell 1 rfl; have e2 := K8.cell 2 rfl; have e3 := K8.cell 3 rfl; have e4 := K8.cell 4 rfl; have e5 := K8.cell 5 rfl; have e6 := K8.cell 6 rfl; have f8 := K8.frozen; clear K8; have HB3 : Below w.heap.size w w3 := Below.trans (by repeat (first | (with_reducible first | exact Below.refl _ _ | assumption | exact ext_box _) | (with_reducible apply Below.drew) | ((with_reducible refine Below.setCell ?_ ?hs _); (case hs => first | (simp; done) | (simp; omega) | omega)) | ((with_reducible refine Below.alloc ?_ ?hs _); (case hs => first | (simp; done) | (simp; omega) | omega)))) (hc3.below (by first | (simp; done) | (simp; omega)) (fun k hk => by subst hk; first | (simp; done) | (simp; omega) | omega)))
    exact bodyPost_ret (v := .agg #[.slice A na ca, .slice (some ⟨w.heap.size + 1 + 1, 0, none⟩) 32 32, .slice none 0 0, .int .i64 fuel, .int .i64 0, .slice (some ⟨w.heap.size + 1 + 1 + 1, 0, none⟩) n n, .int .i64 0]) (by simp [results, Tryd.results67, go_sem, e0, e1, e2, e3, e4, e5, e6]; done) rfl ⟨w.heap.size + 1 + 1, w.heap.size + 1 + 1 + 1, rfl, rowG_of hb3 HM.out hh (k := w.heap.size) (by (repeat (first | (with_reducible first | exact Chg.refl _ _ | assumption) | (with_reducible refine Chg.drew ?_) | ((with_reducible refine Chg.setCell ?_ ?hs _); (case hs => first | (simp; done) | (simp; omega) | omega)) | (with_reducible refine Chg.alloc ?_ _)))) (by omega), rowD_of (Bk.chg (B := w.heap.size + 1 + 1 + 1) (T := 2) (l := M2.toList) (by (repeat (first | exact bk_new (by simp) | refine bk_drew ?_ | refine bk_old ?_)); done) hc3 (by omega)) HM2.out hn (k := w.heap.size) (by (repeat (first | (with_reducible first | exact Chg.refl _ _ | assumption) | (with_reducible refine Chg.drew ?_) | ((with_reducible refine Chg.setCell ?_ ?hs _); (case hs => first | (simp; done) | (simp; omega) | omega)) | (with_reducible refine Chg.alloc ?_ _)))) (by omega), by omega, by omega, by omega, by (repeat (first | (with_reducible first | exact Below.refl _ _ | assumption | exact ext_box _) | (with_reducible apply Below.drew) | ((with_reducible refine Below.setCell ?_ ?hs _); (case hs => first | (simp; done) | (simp; omega) | omega)) | ((with_reducible refine Below.alloc ?_ ?hs _); (case hs => first | (simp; done) | (simp; omega) | omega))))⟩
  · go_wp2_with (with_reducible refine wpList_copy_bk rfl (.tmp 17) (.tmp 18) _ _ rfl 2 Tryd.underlying49 (by kernel_rfl) _ H 32 32 hp.length ch rfl rfl _ M.toList 2 (by (repeat (first | exact bk_new (by simp) | refine bk_drew ?_ | refine bk_old ?_)); done) (hp.map (Value.int .i64)) (by rw [List.length_map]; exact (Nat.min_eq_left hh).symm) (fun h0 => ⟨rfl, HSRC.out _ (by repeat (first | (with_reducible first | exact Below.refl _ _ | assumption | exact ext_box _) | (with_reducible apply Below.drew) | ((with_reducible refine Below.setCell ?_ ?hs _); (case hs => first | (simp; done) | (simp; omega) | omega)) | ((with_reducible refine Below.alloc ?_ ?hs _); (case hs => first | (simp; done) | (simp; omega) | omega)))) h0⟩) (by have := HML.out; simp; omega) (by simp [Value.oneCell']) ?_; intro w3 hb3 hc3; obtain ⟨hcc, hff⟩ := chcell hc3; have K8 := Bk.chg (B := w.heap.size) (T := 113) (l := [.slice none 0 0, .slice none 0 0, .slice none 0 0, .int .i64 0, .int .i64 0, .slice none 0 0, .int .i64 0]) (by (repeat (first | exact bk_newl rfl | refine bk_drew ?_ | refine bk_old ?_)); done) hc3 (by omega); have e0 := K8.cell 0 rfl; have e1 := K8.cell 1 rfl; have e2 := K8.cell 2 rfl; have e3 := K8.cell 3 rfl; have e4 := K8.cell 4 rfl; have e5 := K8.cell 5 rfl; have e6 := K8.cell 6 rfl; have f8 := K8.frozen; clear K8; have HB3 : Below w.heap.size w w3 := Below.trans (by repeat (first | (with_reducible first | exact Below.refl _ _ | assumption | exact ext_box _) | (with_reducible apply Below.drew) | ((with_reducible refine Below.setCell ?_ ?hs _); (case hs => first | (simp; done) | (simp; omega) | omega)) | ((with_reducible refine Below.alloc ?_ ?hs _); (case hs => first | (simp; done) | (simp; omega) | omega)))) (hc3.below (by first | (simp; done) | (simp; omega)) (fun k hk => by subst hk; first | (simp; done) | (simp; omega) | omega)))
    exact bodyPost_ret (v := .agg #[.slice A na ca, .slice (some ⟨w.heap.size + 1 + 1 + 1, 0, none⟩) 32 32, .slice none 0 0, .int .i64 fuel, .int .i64 0, .slice (some ⟨w.heap.size + 1 + 1, 0, none⟩) n n, .int .i64 0]) (by simp [results, Tryd.results67, go_sem, e0, e1, e2, e3, e4, e5, e6]; done) rfl ⟨w.heap.size + 1 + 1 + 1, w.heap.size + 1 + 1, rfl, rowG_of hb3 HM.out hh (k := w.heap.size) (by (repeat (first | (with_reducible first | exact Chg.refl _ _ | assumption) | (with_reducible refine Chg.drew ?_) | ((with_reducible refine Chg.setCell ?_ ?hs _); (case hs => first | (simp; done) | (simp; omega) | omega)) | (with_reducible refine Chg.alloc ?_ _)))) (by omega), rowD_of (Bk.chg (B := w.heap.size + 1 + 1) (T := 2) (l := M2.toList) (by (repeat (first | exact bk_new (by simp) | refine bk_drew ?_ | refine bk_old ?_)); done) hc3 (by omega)) HM2.out hn (k := w.heap.size) (by (repeat (first | (with_reducible first | exact Chg.refl _ _ | assumption) | (with_reducible refine Chg.drew ?_) | ((with_reducible refine Chg.setCell ?_ ?hs _); (case hs => first | (simp; done) | (simp; omega) | omega)) | (with_reducible refine Chg.alloc ?_ _)))) (by omega), by omega, by omega, by omega, by (repeat (first | (with_reducible first | exact Below.refl _ _ | assumption | exact ext_box _) | (with_reducible apply Below.drew) | ((with_reducible refine Below.setCell ?_ ?hs _); (case hs => first | (simp; done) | (simp; omega) | omega)) | ((with_reducible refine Below.alloc ?_ ?hs _); (case hs => first | (simp; done) | (simp; omega) | omega))))⟩
end Go.Proofs.YtnnfjjgohhicjaaDoor
namespace Go.Proofs.YtnnfjjgohhicjaaDoor
open Go.RowKit
set_option linter.unusedSimpArgs false
set_option linter.unusedVariables false
set_option maxRecDepth 100000

section
variable (N : Nat) (X : List Nat) (D cD G cG : Nat) (s : Wd) (w : World) (A : Option Addr) (ca : Nat) (At : Option Addr) (ct : Nat) (code value : Int)
theorem exOut {N : Nat} {X : List Nat} {D cD G cG : Nat} {s : Wd} {w w3 wf : World} {vt : Value} {code value x : Int} {e : Ending} {ft fp3 : List Nat} {g cap : Nat} (h : Rws N X D cD G cG vt s w) (hN : N ≤ w.heap.size) (hX : ∀ x ∈ X, x < w.heap.size)
    (hfo : ∀ b ∈ ft, N ≤ b ∧ b ≠ D ∧ b ≠ G ∧ b ∉ X) (hr3 : Row 2 kI64 w3 (.slice (some ⟨g, 0, none⟩) (s.trace.length + 1) cap) (s.trace ++ [x]) fp3) (hf3 : ∀ b ∈ fp3, b ∈ ft ∨ w.heap.size + 3 ≤ b) (hft : ∀ b ∈ ft, b < w.heap.size)
    (c0 : Chg (fun b => b ∈ ft) w wf) (c3 : Chg (fun b => b = w.heap.size + 1 ∨ b = w.heap.size + 1 + 1) w3 wf)
    (he : e = .returned (.tuple #[.slice (some ⟨D, 0, none⟩) s.cells.length cD, .agg #[.int .i64 code, .int .i64 value, .int .i64 s.steps, .slice (some ⟨g, 0, none⟩) (s.trace.length + 1) cap, .slice (some ⟨G, 0, none⟩) 32 cG]])) : ExecPost N X D cD G cG code value { s with trace := s.trace ++ [x] } w e wf := by
  have hl := h.lt
  obtain ⟨h1, h2, h3, h4, h5, h6, h7, h8, _⟩ := h
  refine ⟨some ⟨g, 0, none⟩, cap, by rw [he]; simp, ⟨h1.chg c0 (by simp; exact fun hm => (hfo _ hm).2.1 rfl), h2.chg c0 (by simp; exact fun hm => (hfo _ hm).2.2.1 rfl), h3, h4, h5, h6, h7, h8, fp3, ?_, fun b hb => ?_⟩, c0.mono fun b _ hm => ⟨(hfo b hm).1, (hfo b hm).2.2.2⟩⟩
  · rw [List.length_append]
    exact hr3.chg c3 (fun b hb e => by rcases hf3 b hb with h | h; have := hft b h; omega; omega)
  · rcases hf3 b hb with h | h
    · exact hfo b h
    · exact ⟨by omega, by omega, by omega, fun hm => by have := hX b hm; omega⟩
set_option maxHeartbeats 4000000 in
theorem ex_out (dst a b imm : Int) (h : Rws N X D cD G cG (.slice At s.trace.length ct) s w) (ha : 0 ≤ a ∧ a < s.cells.length) (hl : s.trace.length ≤ 1048576) (hN : N ≤ w.heap.size) (hX : ∀ x ∈ X, x < w.heap.size) :
    Calls Tryd.prog 65 (exArgs D cD G cG s A ca At ct code value ⟨10, dst, a, b, imm⟩) w (ExecPost N X D cD G cG code value { s with trace := s.trace ++ [getI s.cells a] } w) := by
  obtain ⟨i0, hi, hz0, hz1, hz2⟩ := info_parts info_i64
  obtain ⟨k, rfl⟩ : ∃ k : Nat, a = k := ⟨a.toNat, by omega⟩
  obtain ⟨a1, a2⟩ := ha
  obtain ⟨qa, pa⟩ := h.reg (r := k) (by omega)
  obtain ⟨zD, zG⟩ := h.lt
  have zD1 : D < w.heap.size + 1 := by omega
  have zD2 : D < w.heap.size + 1 + 1 := by omega
  rw [Int.toNat_natCast] at qa pa
  obtain ⟨ft, hft, hfo⟩ := h.tr
  have HR := Lib.hid hft
  have HF := Lib.hid hfo
  have HH := Lib.hid h
  have HX := Lib.hid hX
  have HFT := Lib.hid (show ∀ b ∈ ft, b < w.heap.size from fun b hb => hft.lt b hb)
  have HN0 := Lib.hid (show ∀ j, w.heap.size + j ∉ ft from fun j hm => by have := hft.lt _ hm; omega)
  clear hft hfo h hX
  simp only [exArgs, Instr.v]
  go_enter Tryd.func65, Tryd.ntmps65
  go_wp2
  go_region_law
    (first
      | (refine step_append_row kI64 rfl _ _ 49 rfl 2 i0 _ 8 Tryd.underlying49 hi hz0 hz1 hz2 rfl (by decide) _ s.trace ft rfl (HR.out.chg (S := fun _ => False) (by (repeat (first | (with_reducible first | exact Chg.refl _ _ | assumption) | (with_reducible refine Chg.drew ?_) | ((with_reducible refine Chg.setCell ?_ ?hs _); (case hs => first | (simp; done) | (simp; omega) | omega)) | (with_reducible refine Chg.alloc ?_ _)))) (by simp)) _ _ [.int .i64 (getI s.cells k)] (getI s.cells k) [] rfl ⟨rfl, rfl⟩ (by simp) (box_news (by simp)) (by simp [maxLen]; omega) (by omega) ?_; intro g cap w3 fp3 hr3 hf3 hC3
         have K7 := Bk.chg (B := w.heap.size + 1) (T := 51) (l := [.int .i64 code, .int .i64 value, .int .i64 s.steps, .slice At s.trace.length ct, .slice (some ⟨G, 0, none⟩) 32 cG]) (by (repeat (first | exact bk_newl (by simp) | refine bk_drew ?_ | refine bk_old ?_)); done) hC3 (HN0.out 1)
         have K9 := Bk.chg (B := w.heap.size + 1 + 1) (T := 51) (l := [.int .i64 0, .int .i64 0, .int .i64 0, .slice none 0 0, .slice none 0 0]) (by (repeat (first | exact bk_newl (by simp) | refine bk_drew ?_ | refine bk_old ?_)); done) hC3 (HN0.out 2)
         have e0 := K7.cell 0 rfl
         have e1 := K7.cell 1 rfl
         have e2 := K7.cell 2 rfl
         have e3 := K7.cell 3 rfl
         have e4 := K7.cell 4 rfl
         have f7 := K7.frozen
         have d0 := K9.cell 0 rfl
         have d1 := K9.cell 1 rfl
         have d2 := K9.cell 2 rfl
         have d3 := K9.cell 3 rfl
         have d4 := K9.cell 4 rfl
         have f9 := K9.frozen
         have C3 : Chg (fun b => b ∈ ft) w w3 := Chg.trans (by (repeat (first | (with_reducible first | exact Chg.refl _ _ | assumption) | (with_reducible refine Chg.drew ?_) | ((with_reducible refine Chg.setCell ?_ ?hs _); (case hs => first | (simp; done) | (simp; omega) | omega)) | (with_reducible refine Chg.alloc ?_ _)))) hC3
         clear K7 K9))
  all_goals
    go_wp2
    refine wp_region_still_tail 3 (by kernel_rfl) (by kernel_rfl) ?_; simp only [List.take_succ_cons, List.take_zero, List.drop_succ_cons, List.drop_zero]; change wpStill _ _ (World.drew _) _ _ _
    repeat still_step
    refine wpStill_nil ?_
    change wpList _ _ _ _ _ (World.drew _)
    go_wp2
    exact bodyPost_ret (v := .tuple #[.slice (some ⟨D, 0, none⟩) s.cells.length cD, .agg #[.int .i64 code, .int .i64 value, .int .i64 s.steps, .slice (some ⟨g, 0, none⟩) (s.trace.length + 1) cap, .slice (some ⟨G, 0, none⟩) 32 cG]]) (by simp [results, Tryd.results65, go_sem, d0, d1, d2, d3, d4]) rfl
      (exOut HH.out hN HX.out HF.out hr3 (fun b hb => by rcases hf3 b hb with h | h | h; exact .inl h; simp at h; simp at h; exact .inr (by omega)) HFT.out (by (repeat (first | (with_reducible first | exact Chg.refl _ _ | assumption) | (with_reducible refine Chg.drew ?_) | ((with_reducible refine Chg.setCell ?_ ?hs _); (case hs => first | (simp; done) | (simp; omega) | omega)) | (with_reducible refine Chg.alloc ?_ _)))) (by (repeat (first | (with_reducible first | exact Chg.refl _ _ | assumption) | (with_reducible refine Chg.drew ?_) | ((with_reducible refine Chg.setCell ?_ ?hs _); (case hs => first | (simp; done) | (simp; omega) | omega)) | (with_reducible refine Chg.alloc ?_ _)))) rfl)
end
end Go.Proofs.YtnnfjjgohhicjaaDoor
namespace Go.Proofs.YtnnfjjgohhicjaaDoor
open Go.RowKit
set_option linter.unusedSimpArgs false
set_option linter.unusedVariables false
set_option maxRecDepth 100000

set_option maxHeartbeats 4000000 in
theorem validMach_i (A : Option Addr) (c : Nat) (m : Mach) (w : World) (hx : C (kMB 0) w A m.blocks) (hS : Shapes w) (hm : m.blocks.length ≤ 1048576) (hs : ∀ (i : Nat) b, m.blocks[i]? = some b → b.instrs.length ≤ 1048576) :
    Calls Tryd.prog 12 #[.agg #[.int .i64 m.regs, .slice A m.blocks.length c]] w fun e w' => e = .returned (.bool (validMach m)) ∧ Below w.heap.size w w' := by
  by_cases hr : 1 ≤ m.regs ∧ m.regs ≤ 64
  · have hd1 : decide (1 ≤ m.regs ∧ m.regs ≤ 64) = true := by simpa using hr
    by_cases hn : 1 ≤ m.blocks.length ∧ m.blocks.length ≤ 3000
    · have hd2 : decide (1 ≤ (m.blocks.length : Int) ∧ (m.blocks.length : Int) ≤ 3000) = true := by simp; omega
      go_enter Tryd.func12, Tryd.ntmps12
      go_wp2_with (go_at_call 43; (with_reducible refine (within_c _ _ _ _).mono ?_); rintro e w1 ⟨rfl, rfl⟩)
      have HN := Lib.hid hn
      have HRR := Lib.hid hr
      obtain ⟨n1, n2⟩ := hn
      clear hd1 hd2
      go_loopw [4, 29] (fun t i wr => ∃ (k : Nat) (u : Ext (w.alloc (.cells #[.int .i64 m.regs, .slice A m.blocks.length c] 29))), k ≤ m.blocks.length ∧ i = .int .i64 k ∧ t = .int .i64 ((m.blocks.length : Int) + (lens (m.blocks.take k) : Int)) ∧ m.blocks.length + lens (m.blocks.take k) ≤ 20000 ∧ (m.blocks.take k).all (fun b => goodTerm b.term m.regs 0 m.blocks.length) = true ∧ wr = u.w) (fun _ i _ => m.blocks.length - (intOf i).toNat)
      case atStart => exact ⟨0, Ext.self _, by omega, rfl, rfl, by simp [lens]; omega, by simp, rfl⟩
      case round =>
        obtain ⟨k, u, hk, rfl, rfl, hz, hall, rfl⟩ := hrel
        have HA := Lib.hid hall
        clear hall
        obtain ⟨b0, b1, -⟩ := box_at u
        have hzu : w.heap.size < u.w.heap.size := by have := u.hb.size; simp at this; omega
        have hxu := (hx.below (ext_box u))
        by_cases hlt : k < m.blocks.length
        · obtain ⟨b, eb⟩ := get_of_lt hlt
          obtain ⟨a, _, rfl, ⟨_, _, rfl, ⟨A', c', rfl, l', r'⟩, rfl⟩, hc⟩ := hxu.at eb
          obtain ⟨p0, p1, p2, p3, p4⟩ := hc5 (n := k * 5) hc
          clear hc
          have hb := hs _ _ eb
          have HZ := Lib.hid (lens_snoc eb)
          have HE := Lib.hid eb
          clear eb
          by_cases hsz : m.blocks.length + lens (m.blocks.take k) + b.instrs.length ≤ 20000
          · cases hg : goodTerm b.term m.regs 0 m.blocks.length
            all_goals
              have HG := Lib.hid hg
              clear hg
              go_wp2_with (first | (go_at_call 44; refine (termOK_c b.term m.regs 0 m.blocks.length _ (by omega) (by omega) (by omega) (by omega)).mono ?_; rw [HG.out]; rintro e w1 ⟨rfl, hb1⟩; have HB1 := Below.then_ (w := u.w) (by repeat (first | (with_reducible first | exact Below.refl _ _ | assumption | exact ext_box _) | (with_reducible apply Below.drew) | ((with_reducible refine Below.setCell ?_ ?hs _); (case hs => first | (simp; done) | (simp; omega) | omega)) | ((with_reducible refine Below.alloc ?_ ?hs _); (case hs => first | (simp; done) | (simp; omega) | omega)))) hb1))
            · go_ret
              exact ⟨ret_bool (vm_term HE.out HG.out).symm, Below.trans (ext_box u) (HB1.mono (by omega))⟩
            · obtain ⟨u1, rfl⟩ := u.more HB1
              go_roundw
              case rel => exact ⟨k + 1, u1, by omega, by go_num, by rw [HZ.out]; go_num, by rw [HZ.out]; omega, all_snoc HE.out HA.out HG.out, rfl⟩
              case measure => simp [intOf]; omega
          · have HV := Lib.hid (vm_size (m := m) (by rw [machSize_eq]; have := lens_le m.blocks (k + 1); rw [HZ.out] at this; omega))
            go_wp2
            go_ret
            exact ⟨ret_bool HV.out.symm, Below.trans (ext_box u) (Below.mono (by (repeat (first | (with_reducible first | exact Below.refl _ _ | assumption | exact ext_box _) | (with_reducible apply Below.drew) | ((with_reducible refine Below.setCell ?_ ?hs _); (case hs => first | (simp; done) | (simp; omega) | omega)) | ((with_reducible refine Below.alloc ?_ ?hs _); (case hs => first | (simp; done) | (simp; omega) | omega))))) (show w.heap.size ≤ u.w.heap.size by omega))⟩
        · have hkn : k = m.blocks.length := by omega
          have HS := Lib.hid (show machSize m ≤ 20000 by rw [machSize_eq]; rw [List.take_of_length_le (by omega)] at hz; exact hz)
          have HA2 := Lib.hid (show m.blocks.all (fun b => goodTerm b.term m.regs 0 m.blocks.length) = true by have := HA.out; rwa [List.take_of_length_le (by omega)] at this)
          clear hz HA hkn
          go_wp2
          go_loopw [53] (fun i wr => ∃ (k : Nat) (u : Ext (w.alloc (.cells #[.int .i64 m.regs, .slice A m.blocks.length c] 29))), k ≤ m.blocks.length ∧ i = .int .i64 k ∧ (m.blocks.take k).all (fun b => b.instrs.all fun x => goodInstr x m.regs 13) = true ∧ wr = u.w) (fun i _ => m.blocks.length - (intOf i).toNat)
          case atStart => exact ⟨0, u, by omega, rfl, by simp, rfl⟩
          case round =>
            obtain ⟨k, u, hk, rfl, hall, rfl⟩ := hrel
            have HA := Lib.hid hall
            clear hall b0 b1 hzu hxu
            obtain ⟨b0, b1, -⟩ := box_at u
            have hzu : w.heap.size < u.w.heap.size := by have := u.hb.size; simp at this; omega
            have hxu := (hx.below (ext_box u))
            by_cases hlt : k < m.blocks.length
            · obtain ⟨b, eb⟩ := get_of_lt hlt
              obtain ⟨a, _, rfl, ⟨_, _, rfl, ⟨A', c', rfl, l', r'⟩, rfl⟩, hc⟩ := hxu.at eb
              obtain ⟨p0, p1, p2, p3, p4⟩ := hc5 (n := k * 5) hc
              clear hc
              have hb := hs _ _ eb
              have HE := Lib.hid eb
              clear eb
              go_wp2
              go_loopw [60] (fun i wr => ∃ (j : Nat) (v : Ext u.w), j ≤ b.instrs.length ∧ i = .int .i64 j ∧ (b.instrs.take j).all (fun x => goodInstr x m.regs 13) = true ∧ wr = v.w) (fun i _ => b.instrs.length - (intOf i).toNat)
              case atStart => exact ⟨0, ⟨u.w.alloc (.cells #[.slice A' b.instrs.length c', .int .i64 b.term.kind, .int .i64 b.term.a, .int .i64 b.term.to, .int .i64 b.term.els] 69), by (repeat (first | (with_reducible first | exact Below.refl _ _ | assumption | exact ext_box _) | (with_reducible apply Below.drew) | ((with_reducible refine Below.setCell ?_ ?hs _); (case hs => first | (simp; done) | (simp; omega) | omega)) | ((with_reducible refine Below.alloc ?_ ?hs _); (case hs => first | (simp; done) | (simp; omega) | omega))))⟩, by omega, rfl, by simp, rfl⟩
              case round =>
                obtain ⟨j, v, hj, rfl, hall2, rfl⟩ := hrel
                have HA3 := Lib.hid hall2
                clear hall2
                have d1 := Ext.cell b0 v
                have hzv : w.heap.size < v.w.heap.size := by have := v.hb.size; omega
                by_cases hlj : j < b.instrs.length
                · obtain ⟨x, ex⟩ := get_of_lt hlj
                  obtain ⟨a', _, rfl, rfl, hc⟩ := (r'.ext v).at ex
                  obtain ⟨q0, q1, q2, q3, q4⟩ := hc5 (n := j * 5) hc
                  clear hc
                  have EX := Lib.hid ex
                  clear ex
                  cases hg : goodInstr x m.regs 13
                  all_goals
                    have HG := Lib.hid hg
                    clear hg
                    go_wp2_with (first | (go_at_call 45; refine (instrOK_c x 13 m.regs _ (hS.below (B := w.heap.size) (Below.trans (Below.trans (ext_box u) (v.hb.mono (by omega))) (Below.mono (B := v.w.heap.size) (by (repeat (first | (with_reducible first | exact Below.refl _ _ | assumption | exact ext_box _) | (with_reducible apply Below.drew) | ((with_reducible refine Below.setCell ?_ ?hs _); (case hs => first | (simp; done) | (simp; omega) | omega)) | ((with_reducible refine Below.alloc ?_ ?hs _); (case hs => first | (simp; done) | (simp; omega) | omega))))) (by omega))) hS.pos) (by omega) (by omega) (by omega)).mono ?_; rw [HG.out]; rintro e w1 ⟨rfl, hb1⟩; have HB1 := Below.then_ (w := v.w) (by repeat (first | (with_reducible first | exact Below.refl _ _ | assumption | exact ext_box _) | (with_reducible apply Below.drew) | ((with_reducible refine Below.setCell ?_ ?hs _); (case hs => first | (simp; done) | (simp; omega) | omega)) | ((with_reducible refine Below.alloc ?_ ?hs _); (case hs => first | (simp; done) | (simp; omega) | omega)))) hb1))
                  · go_ret
                    exact ⟨ret_bool (vm_instr HE.out EX.out HG.out).symm, Below.trans (Below.trans (ext_box u) (v.hb.mono (by omega))) (HB1.mono (by omega))⟩
                  · obtain ⟨v1, rfl⟩ := v.more HB1
                    go_roundw
                    case rel => exact ⟨j + 1, v1, by omega, by go_num, all_snoc EX.out HA3.out HG.out, rfl⟩
                    case measure => simp [intOf]; omega
                · have HA4 := Lib.hid (show (b.instrs.all fun x => goodInstr x m.regs 13) = true by have := HA3.out; rwa [List.take_of_length_le (by omega)] at this)
                  obtain ⟨u1, hu1⟩ := u.more v.hb
                  have HU := Lib.hid hu1
                  clear hu1
                  go_wp2
                  go_roundw
                  case rel => exact ⟨k + 1, u1, by omega, by go_num, all_snoc HE.out HA.out HA4.out, HU.out⟩
                  case measure => simp [intOf]; omega
            · have HV := Lib.hid (vm_true HRR.out HN.out HS.out (by have := HA.out; rwa [List.take_of_length_le (by omega)] at this) HA2.out)
              go_wp2
              go_ret
              exact ⟨ret_bool HV.out.symm, ext_box u⟩
    · have hd2 : decide (1 ≤ (m.blocks.length : Int) ∧ (m.blocks.length : Int) ≤ 3000) = false := by simp; omega
      have HV := Lib.hid (vm_n hn)
      go_enter Tryd.func12, Tryd.ntmps12
      go_wp2_with (go_at_call 43; (with_reducible refine (within_c _ _ _ _).mono ?_); rintro e w1 ⟨rfl, rfl⟩)
      go_ret
      exact ⟨ret_bool HV.out.symm, by repeat (first | (with_reducible first | exact Below.refl _ _ | assumption | exact ext_box _) | (with_reducible apply Below.drew) | ((with_reducible refine Below.setCell ?_ ?hs _); (case hs => first | (simp; done) | (simp; omega) | omega)) | ((with_reducible refine Below.alloc ?_ ?hs _); (case hs => first | (simp; done) | (simp; omega) | omega)))⟩
  · have hd1 : decide (1 ≤ m.regs ∧ m.regs ≤ 64) = false := by simpa using hr
    have HV := Lib.hid (vm_regs hr)
    clear hr
    go_enter Tryd.func12, Tryd.ntmps12
    go_wp2_with (go_at_call 43; (with_reducible refine (within_c _ _ _ _).mono ?_); rintro e w1 ⟨rfl, rfl⟩)
    go_ret
    exact ⟨ret_bool HV.out.symm, by repeat (first | (with_reducible first | exact Below.refl _ _ | assumption | exact ext_box _) | (with_reducible apply Below.drew) | ((with_reducible refine Below.setCell ?_ ?hs _); (case hs => first | (simp; done) | (simp; omega) | omega)) | ((with_reducible refine Below.alloc ?_ ?hs _); (case hs => first | (simp; done) | (simp; omega) | omega)))⟩
end Go.Proofs.YtnnfjjgohhicjaaDoor
