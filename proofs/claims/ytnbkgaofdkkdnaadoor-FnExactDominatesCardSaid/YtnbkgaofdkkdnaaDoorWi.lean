/- A region that draws its order, by an invariant over what has been done (operations that make memory and do not hang on one another). No program is named here. -/
import Derived.WalkKit
import Derived.Orders
namespace Go.Proofs.YtnbkgaofdkkdnaaDoor
open Go
set_option linter.unusedSimpArgs false
set_option linter.unusedVariables false

def allBools : Nat → List (List Bool)
  | 0 => [[]]
  | k + 1 => (allBools k).flatMap fun l => [true :: l, false :: l]
theorem mem_allBools : ∀ (bs : List Bool), bs ∈ allBools bs.length
  | [] => by simp [allBools]
  | b :: bs => by
    rw [List.length_cons, allBools, List.mem_flatMap]
    exact ⟨bs, mem_allBools bs, by cases b <;> simp⟩
def listedOf (bs : List Bool) (m : Nat) : Array Bool := (bs ++ List.replicate m false).toArray
/-- What is done has its deps done. -/
def consOk (deps : List (List Nat)) (bs : List Bool) : Bool := (List.range bs.length).all fun i => !(bs.getD i false) || (deps.getD i []).all fun j => bs.getD j false
theorem consOk_spec {deps : List (List Nat)} {bs : List Bool} : consOk deps bs = true ↔ ∀ i, bs.getD i false = true → ∀ j ∈ deps.getD i [], bs.getD j false = true := by
  unfold consOk
  rw [List.all_eq_true]
  constructor
  · intro h i hi j hj
    have hl : i < bs.length := by
      rw [List.getD_eq_getElem?_getD] at hi
      by_cases hx : i < bs.length
      · exact hx
      · rw [List.getElem?_eq_none (by omega)] at hi; simp at hi
    have := h i (List.mem_range.2 hl)
    rw [hi] at this
    simp only [Bool.not_true, Bool.false_or, List.all_eq_true] at this
    exact this j hj
  · intro h i _
    cases hb : bs.getD i false with
    | false => rfl
    | true =>
      simp only [Bool.not_true, Bool.false_or, List.all_eq_true]
      exact h i hb
theorem getD_set_mono {bs : List Bool} {i j : Nat} (h : bs.getD j false = true) : (bs.set i true).getD j false = true := by
  rw [List.getD_eq_getElem?_getD] at h ⊢
  rw [List.getElem?_set]
  split
  · rename_i e
    subst e
    by_cases hx : i < bs.length
    · rw [if_pos hx]; rfl
    · rw [List.getElem?_eq_none (by omega)] at h; simp at h
  · exact h
theorem consOk_set {deps : List (List Nat)} {bs : List Bool} {i : Nat} (h : consOk deps bs = true) (hd : ∀ j ∈ deps.getD i [], bs.getD j false = true) : consOk deps (bs.set i true) = true := by
  rw [consOk_spec] at h ⊢
  intro k hk j hj
  by_cases e : k = i
  · subst e; exact getD_set_mono (hd j hj)
  · refine getD_set_mono (h k ?_ j hj)
    rw [List.getD_eq_getElem?_getD, List.getElem?_set, if_neg (fun x => e x.symm)] at hk
    rw [List.getD_eq_getElem?_getD]; exact hk
/-- Checked by the kernel: while one of the first k is not done, something may come up, and only such of the first k as are not done and whose deps are. -/
def readyOk (md : Region.Mode) (ops : Array Oper) (k m : Nat) (deps : List (List Nat)) : Bool :=
  (allBools k).all fun bs => bs.all id || !consOk deps bs || (let r := Region.ready md ops (listedOf bs m); !r.isEmpty && r.all fun i => decide (i < k) && !(bs.getD i true) && (deps.getD i []).all fun j => bs.getD j false)
theorem wpOp_of_list {P : Program} {ops : Array Oper} {Q : Exit → Act → World → Prop} {i : Nat} {o : Oper} {K : Act → World → Prop} {a : Act} {w : World} (ho : ops[i]? = some o)
    (h : wpList P ops (fun e a w => match e with | .normal => K a w | e => Q e a w) [o] a w) : wpOp P ops Q i K a w := by
  unfold wpOp
  simp only [ho]
  unfold wpList at h
  split
  · rename_i hw
    simp only [hw, if_true] at h
    rcases h with h | ⟨h1, a', w', h2⟩
    · left
      unfold Oper.wp at *
      generalize (execOp a.eval o).run P w = r at *
      cases r with
      | ok n w' =>
        cases n <;> simp only [Oper.upon] at h ⊢
        case value u => exact h
        case skip => exact h
        case defer d => exact h
        case enter f args =>
          refine Calls.mono h fun e w'' he => ?_
          cases e with
          | returned u => exact he
          | panicked c => exact he
          | outgrown =>
            obtain ⟨a2, w2, h2⟩ := he
            exact ⟨a2, w2, h2⟩
        case row row args => exact Rows.mono h fun u w'' he => he
      | halt x w' =>
        cases x <;> simp only [Oper.upon] at h ⊢
        case panic u => exact h
    · exact .inr ⟨h1, a', w', h2⟩
  · rename_i hw
    rw [if_neg hw] at h
    exact h
theorem set_listedOf (bs : List Bool) (m i : Nat) (hi : i < bs.length) : (listedOf bs m).setIfInBounds i true = listedOf (bs.set i true) m := by
  unfold listedOf
  rw [List.setIfInBounds_toArray, List.set_append_left _ _ hi]
theorem count_set : ∀ (bs : List Bool) (i : Nat), bs.getD i true = false → (bs.set i true).count false + 1 = bs.count false
  | [], i, h => by simp at h
  | b :: bs, 0, h => by
    have : b = false := by simpa using h
    subst this
    simp
  | b :: bs, i + 1, h => by
    have := count_set bs i (by simpa using h)
    rw [List.set_cons_succ, List.count_cons, List.count_cons]
    omega
theorem all_of_count (bs : List Bool) (h : bs.count false = 0) : bs = List.replicate bs.length true := by
  induction bs with
  | nil => rfl
  | cons b bs ih =>
    rw [List.count_cons] at h
    cases b with
    | true =>
      have := ih (by omega)
      rw [List.length_cons, List.replicate_succ, ← this]
    | false => simp at h
theorem count_of_all (bs : List Bool) (h : bs.all id = true) : bs.count false = 0 := by
  induction bs with
  | nil => rfl
  | cons b bs ih =>
    simp at h
    rw [List.count_cons, ih (by simpa using h.2), h.1]
    rfl
theorem wpAny_inv {P : Program} {ops : Array Oper} {Q : Exit → Act → World → Prop} {k m : Nat} {deps : List (List Nat)} (J : List Bool → Act → World → Prop) (hc : readyOk .any ops k m deps = true)
    (hstep : ∀ bs a w, bs.length = k → J bs a w → ∀ i o, i < k → ops[i]? = some o → bs.getD i true = false → (∀ j ∈ deps.getD i [], bs.getD j false = true) → ∀ Q' : Exit → Act → World → Prop, (∀ a' w', J (bs.set i true) a' w' → Q' .normal a' w') → wpList P ops Q' [o] a w)
    (hend : ∀ a w, J (List.replicate k true) a w → wpAny P .any ops Q m (listedOf (List.replicate k true) m) a w) : ∀ (c : Nat) (bs : List Bool) (a : Act) (w : World), bs.length = k → bs.count false = c → consOk deps bs = true → J bs a w → wpAny P .any ops Q (c + m) (listedOf bs m) a w := by
  intro c
  induction c with
  | zero =>
    intro bs a w hl hcnt hco hJ
    have h1 := all_of_count bs hcnt
    rw [hl] at h1
    rw [h1] at hJ ⊢
    rw [Nat.zero_add]
    exact hend a w hJ
  | succ c ih =>
    intro bs a w hl hcnt hco hJ
    rw [show c + 1 + m = (c + m) + 1 by omega]
    have h1 := List.all_eq_true.1 hc bs (by rw [← hl]; exact mem_allBools bs)
    have h2 : ¬ bs.all id = true := fun h => by have := count_of_all bs h; omega
    rw [Bool.or_eq_true, Bool.or_eq_true] at h1
    have h3 := h1.resolve_left fun h => h.elim h2 fun h => by rw [hco] at h; simp at h
    simp only [Bool.and_eq_true, List.all_eq_true] at h3
    obtain ⟨h4, h5⟩ := h3
    refine ⟨fun h => by rw [h] at h4; simp at h4, fun i hi => ?_⟩
    obtain ⟨⟨h6, h7⟩, h8⟩ := h5 i hi
    have hik : i < k := by simpa using h6
    have hbi : bs.getD i true = false := by simpa using h7
    obtain ⟨_, o, ho, _⟩ := mem_ready.1 hi
    have hdi : ∀ j ∈ deps.getD i [], bs.getD j false = true := fun j hj => by simpa using h8 j hj
    refine wpOp_of_list ho (hstep bs a w hl hJ i o hik ho hbi hdi _ fun a' w' hJ' => ?_)
    show wpAny P .any ops Q (c + m) ((listedOf bs m).setIfInBounds i true) a' w'
    rw [set_listedOf bs m i (by omega)]
    exact ih _ a' w' (by simpa using hl) (by have := count_set bs i hbi; omega) (consOk_set hco hdi) hJ'
/-- The region, by an invariant: the first k operations in whatever order; then the rest. -/
theorem wp_region_inv {P : Program} {id : Nat} {l : List Oper} {Q : Exit → Act → World → Prop} {a : Act} {w : World} (k m : Nat) (deps : List (List Nat)) (J : List Bool → Act → World → Prop) (hm : P.follows .mixedOrders = true) (hsz : l.length = k + m) (hc : readyOk .any l.toArray k m deps = true)
    (h0 : J (List.replicate k false) a w.drew)
    (hstep : ∀ bs a w, bs.length = k → J bs a w → ∀ i o, i < k → l[i]? = some o → bs.getD i true = false → (∀ j ∈ deps.getD i [], bs.getD j false = true) → ∀ Q' : Exit → Act → World → Prop, (∀ a' w', J (bs.set i true) a' w' → Q' .normal a' w') → wpList P l.toArray Q' [o] a w)
    (hend : ∀ a w, J (List.replicate k true) a w → wpAny P .any l.toArray Q m (listedOf (List.replicate k true) m) a w) : (Code.region id l.toArray true).wp P Q a w := by
  refine wp_region_any hm ?_
  have := wpAny_inv (P := P) (Q := Q) J hc (fun bs a w hl hJ i o hik ho => hstep bs a w hl hJ i o hik (by simpa using ho)) hend k (List.replicate k false) a w.drew (by simp) (by simp) (consOk_spec.2 fun i hi => by rw [List.getD_eq_getElem?_getD, List.getElem?_replicate] at hi; split at hi <;> simp at hi) h0
  rw [show (Array.replicate l.toArray.size false) = listedOf (List.replicate k false) m by unfold listedOf; rw [List.replicate_append_replicate]; simp [hsz], show l.toArray.size = k + m by simpa using hsz]
  exact this
/-- What is left comes up in one order. -/
theorem wpAny_one {P : Program} {ops : Array Oper} {Q : Exit → Act → World → Prop} {i fuel : Nat} {o : Oper} {listed : Array Bool} {a : Act} {w : World} (hr : Region.ready .any ops listed = [i]) (ho : ops[i]? = some o)
    (h : ∀ Q' : Exit → Act → World → Prop, (∀ a' w', wpAny P .any ops Q fuel (listed.setIfInBounds i true) a' w' → Q' .normal a' w') → wpList P ops Q' [o] a w) : wpAny P .any ops Q (fuel + 1) listed a w := by
  refine ⟨fun h => by rw [hr] at h; simp at h, fun j hj => ?_⟩
  rw [hr] at hj
  simp at hj
  subst hj
  exact wpOp_of_list ho (h _ fun a' w' h => h)
end Go.Proofs.YtnbkgaofdkkdnaaDoor
