/- Contracts: slices.Sort on a row of the call's own, impl.inOrder. -/
import Derived.Test.YtnnfjjgohhicjaaQa
import Derived.Test.YtnnfjjgohhicjaaQm
import Derived.Test.YtnnfjjgohhicjaaSf
import Derived.Sort.OwnSortedInts
import Derived.Maps.OwnSet
namespace Go.Proofs.Ytnnfjjgohhicjaa
open Go.RowKit
set_option linter.unusedSimpArgs false
set_option linter.unusedVariables false
set_option maxRecDepth 100000
open Go.Maps (Keyed)

theorem int_flat {q : IntKind} {w : World} {xs : List Int} {css : List (List Value)} {fps : List (List Nat)} (h : All3 ((kInt q).O w) xs css fps) : css.flatten = xs.map (Value.int q) ∧ fps.flatten = [] := by
  induction h with
  | nil => exact ⟨rfl, rfl⟩
  | cons h0 _ ih =>
    obtain ⟨rfl, rfl⟩ := h0
    exact ⟨by simp [ih.1], by simp [ih.2]⟩
theorem int_all {q : IntKind} (w : World) : ∀ xs : List Int, All3 ((kInt q).O w) xs (xs.map fun x => [.int q x]) (xs.map fun _ => [])
  | [] => .nil
  | x :: xs => .cons ⟨rfl, rfl⟩ (int_all w xs)
theorem row_int_own {e : TypeId} {q : IntKind} {w : World} {v : Value} {xs : List Int} {fp : List Nat} (h : Row e (kInt q) w v xs fp) : w.ownsRow 0 e 1 v xs.length (xs.map (Value.int q)) ∧ fp = v.ownBlock.toList := by
  obtain ⟨css, fps, how, ha, rfl, hn⟩ := h
  obtain ⟨h1, h2⟩ := int_flat ha
  rw [h1] at how
  exact ⟨how, by rw [h2, List.append_nil]⟩
theorem own_row_int {e : TypeId} {q : IntKind} {w : World} {v : Value} {xs : List Int} (h : w.ownsRow 0 e 1 v xs.length (xs.map (Value.int q))) : Row e (kInt q) w v xs v.ownBlock.toList := by
  have h1 := int_flat (int_all (q := q) w xs)
  refine ⟨_, _, by rw [h1.1]; exact h, int_all w xs, by rw [h1.2, List.append_nil], ?_⟩
  cases v.ownBlock <;> simp
theorem sort_c (g cap : Nat) (zs : List Int) (fp : List Nat) (w : World) (h : Row 2 (kInt .i64) w (.slice (some ⟨g, 0, none⟩) zs.length cap) zs fp) (hsz : zs.length < 4611686018427387904) :
    Calls Try.prog 28 #[.slice (some ⟨g, 0, none⟩) zs.length cap] w fun e w' => e = .returned (.tuple #[]) ∧ Row 2 (kInt .i64) w' (.slice (some ⟨g, 0, none⟩) zs.length cap) (zs.mergeSort fun x y => decide (x ≤ y)) [g] ∧ Chg (fun b => b = g) w w' := by
  obtain ⟨hown, -⟩ := row_int_own h
  have hl : (zs.mergeSort fun x y => decide (x ≤ y)).length = zs.length := List.length_mergeSort _
  rcases hown.2 with ⟨h0, _⟩ | ⟨g', cap', cur, hv, hg, hb, hn, hcap, hc, ht⟩
  · cases h0
  cases hv
  have hH : Go.Sort.Holds (Value.int .i64) w g 0 zs.toArray := holds_of_blockI hb (by rw [Nat.mul_one] at ht; exact ht)
  refine (Try.slices_Sort_int g 0 cap zs w hH (Array.getElem?_eq_some_iff.1 hb).1 hsz).mono fun e w' hp => ?_
  obtain ⟨rfl, n, os, rfl⟩ := hp
  refine ⟨rfl, ?_, ?_⟩
  · have := ownsRow_sortedI (n := n) (os := os) hl (Nat.zero_le g) hb hn hcap hc
    rw [← hl] at this
    have hr := own_row_int this
    rw [hl] at hr
    exact hr
  · exact (Chg.of_grown (grownBy_sortedI _)).mono fun k _ hk => by simpa [eq_comm] using hk
section
variable {H : Type} {P : Program} {k : TypeId} {R : Value → Option (DataW H × List MemPlace)} {w w' : World} {b r n : Nat} {D : DataW H} {left : Lit → Bool} {cnt : Nat}
theorem ownsMap_chg {S : Nat → Prop} (h : w.ownsMap P k R b n D) (hc : Chg S w w') (hb : ¬ S b) : w'.ownsMap P k R b n D := by
  have hlt := h.lt
  obtain ⟨es, clock, h1, F, hs, hD⟩ := h
  exact ⟨es, clock, (hc.block b hlt hb).trans h1, F, hs, hD⟩
theorem ownsMap_below (h : w.ownsMap P k R b n D) (hb : Below w.heap.size w w') : w'.ownsMap P k R b n D := ownsMap_chg h (chg_of hb) (by simp)
theorem ranges_chg {S : Nat → Prop} (h : w.ranges P k R b r n D left cnt) (hc : Chg S w w') (hb : ¬ S b) (hr : ¬ S r) : w'.ranges P k R b r n D left cnt := by
  have h1 := h.owns.lt
  have h2 := h.lt
  obtain ⟨es, clock, since, seen, c0, e1, F, hs, hD, e2, rest⟩ := h
  exact ⟨es, clock, since, seen, c0, (hc.block b h1 hb).trans e1, F, hs, hD, (hc.block r h2 hr).trans e2, rest⟩
/-- An iterator's block is no row's. -/
theorem row_no_iter {e : TypeId} {q : IntKind} {v : Value} {xs : List Int} {fp : List Nat} (h : Row e (kInt q) w v xs fp) (hr : w.ranges P k R b r n D left cnt) : r ∉ fp := by
  obtain ⟨hown, rfl⟩ := row_int_own h
  have := row_ne_iter hown hr
  intro hm
  exact this (by cases hv : v.ownBlock <;> simp_all)
end
/-- The keys met so far. -/
def Coll (L : List Move) (left : Lit → Bool) (ks : List Int) : Prop := ks.Perm ((L.filter fun m => !left (li m.to)).map (·.to))
theorem coll_start (L : List Move) : Coll L (Maps.has (mapD L)) [] := by
  unfold Coll
  rw [show L.filter (fun m => !Maps.has (mapD L) (li m.to)) = [] from List.filter_eq_nil_iff.2 fun m hm => by
    rw [has_mapD]; simp; exact ⟨m, hm, rfl⟩]
  exact .refl _
theorem coll_len {L : List Move} {left : Lit → Bool} {ks : List Int} (h : Coll L left ks) : ks.length ≤ L.length := by
  have := h.length_eq
  rw [List.length_map] at this
  exact this ▸ List.length_filter_le _ _
theorem coll_step {L : List Move} (hs : Srt L) {left : Lit → Bool} {ks : List Int} {x c : Int} (h : Coll L left ks) (hl : left (li x) = true) (hm : (⟨x, c⟩ : Move) ∈ L) : Coll L (fun z => left z && !z.sameKey (li x)) (ks ++ [x]) := by
  unfold Coll at *
  refine (h.append_right [x]).trans ?_
  have hd := srt_dist hs
  clear h hs
  induction L with
  | nil => cases hm
  | cons y r ih =>
    unfold DistTo at hd
    rw [List.pairwise_cons] at hd
    rcases List.mem_cons.1 hm with rfl | hm
    · have h1 : r.filter (fun m => !(left (li m.to) && !(li m.to).sameKey (li x))) = r.filter fun m => !left (li m.to) := List.filter_congr fun m hm => by
        rw [sameKey_li]; have := hd.1 m hm; simp at this; simp; intro h; exact absurd h.symm this
      rw [List.filter_cons_of_neg (by simp [hl]), List.filter_cons_of_pos (by simp [sameKey_li]), h1, List.map_cons]
      exact List.perm_append_singleton _ _
    · have hne : y.to ≠ x := hd.1 _ hm
      have ih' := ih hm hd.2
      have e1 : (!(left (li y.to) && !(li y.to).sameKey (li x))) = !left (li y.to) := by rw [sameKey_li]; simp [hne]
      cases hy : left (li y.to)
      · rw [List.filter_cons_of_pos (by simp [hy]), List.filter_cons_of_pos (by rw [e1]; simp [hy]), List.map_cons, List.map_cons, List.cons_append]
        exact ih'.cons _
      · rw [List.filter_cons_of_neg (by simp [hy]), List.filter_cons_of_neg (by rw [e1]; simp [hy])]
        exact ih'
theorem coll_end {L : List Move} (hs : Srt L) {left : Lit → Bool} {ks : List Int} (h : Coll L left ks) (hl : ∀ kl, left kl = false) : (ks.mergeSort fun x y => decide (x ≤ y)) = L.map (·.to) := by
  unfold Coll at h
  rw [show L.filter (fun m => !left (li m.to)) = L from List.filter_eq_self.2 fun m _ => by simp [hl]] at h
  have h1 : (ks.mergeSort fun x y => decide (x ≤ y)).Perm (L.map (·.to)) := (List.mergeSort_perm _ _).trans h
  have h2 : (ks.mergeSort fun x y => decide (x ≤ y)).Pairwise (fun a b => decide (a ≤ b) = true) := List.pairwise_mergeSort (fun a b c h1 h2 => by simp at *; omega) (fun a b => by simp; omega) ks
  have h3 : (L.map (·.to)).Pairwise (fun a b => decide (a ≤ b) = true) := by
    rw [List.pairwise_map]
    exact List.Pairwise.imp (fun h => by simp; omega) hs
  exact List.Perm.eq_of_pairwise (fun a b _ _ h1 h2 => by simp at h1 h2; omega) h2 h3 h1
theorem law64 : Keyed Try.prog 2 := Maps.int_keyed Try.underlying2
end Go.Proofs.Ytnnfjjgohhicjaa
