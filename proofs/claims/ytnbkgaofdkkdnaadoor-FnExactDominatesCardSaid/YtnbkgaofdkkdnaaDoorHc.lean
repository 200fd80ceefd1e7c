/- Plain: the meet's steps, nearest's steps, the preorder's marks. -/
import Derived.Test.YtnbkgaofdkkdnaaDoorHa
namespace Go.Proofs.YtnbkgaofdkkdnaaDoor
set_option linter.unusedVariables false
set_option linter.unusedSectionVars false

namespace Dom
/-! ### The meet. -/
structure MtOk (post : Nat → Nat) (par : Nat → Option Nat) (P : Nat) : Prop where
  tree : Tree post par
  inj : ∀ x y, (par x).isSome → (par y).isSome → post x = post y → x = y
  top : ∀ x, (par x).isSome → post x ≤ P
  top0 : post 0 = P
structure MeetSt (par : Nat → Option Nat) (a b a' b' : Nat) : Prop where
  ka : (par a').isSome
  kb : (par b').isSome
  same : ∀ y, (Anc par a' y ∧ Anc par b' y) ↔ (Anc par a y ∧ Anc par b y)
variable {post : Nat → Nat} {par : Nat → Option Nat} {P : Nat}
theorem MtOk.ne0 (h : MtOk post par P) {x y : Nat} (hy : (par y).isSome) (hl : post x < post y) : x ≠ 0 := fun e => by
  subst e
  have := h.top y hy
  have := h.top0
  omega
theorem MeetSt.stepA (h : MtOk post par P) {a b a' b' : Nat} (hs : MeetSt par a b a' b') (hl : post a' < post b') : ∃ p, par a' = some p ∧ post a' < post p ∧ MeetSt par a b p b' := by
  obtain ⟨p, hp⟩ := Option.isSome_iff_exists.1 hs.ka
  have h0 := h.ne0 hs.kb hl
  have hu := h.tree.up a' p h0 hp
  exact ⟨p, hp, hu.1, hu.2, hs.kb, fun y => (meet_step h.tree h0 hp hl).symm.trans (hs.same y)⟩
theorem MeetSt.stepB (h : MtOk post par P) {a b a' b' : Nat} (hs : MeetSt par a b a' b') (hl : post b' < post a') : ∃ p, par b' = some p ∧ post b' < post p ∧ MeetSt par a b a' p := by
  obtain ⟨p, hp⟩ := Option.isSome_iff_exists.1 hs.kb
  have h0 := h.ne0 hs.ka hl
  have hu := h.tree.up b' p h0 hp
  exact ⟨p, hp, hu.1, hs.ka, hu.2, fun y => by rw [← hs.same y, and_comm, and_comm (a := Anc par a' y)]; exact (meet_step h.tree h0 hp hl).symm⟩
theorem MeetSt.fin {a b a' : Nat} (hs : MeetSt par a b a' a') : (par a').isSome ∧ ∀ y, Anc par a' y ↔ Anc par a y ∧ Anc par b y := ⟨hs.ka, fun y => and_self_iff.symm.trans (hs.same y)⟩
/-! ### Nearest: after some of the predecessors. -/
def NearL (par : Nat → Option Nat) (ps : List Nat) (d : Int) : Prop :=
  (d = -1 ∧ ∀ p ∈ ps, par p = none) ∨ ∃ N : Nat, d = (N : Int) ∧ (par N).isSome ∧ ∀ y, Anc par N y ↔ ∀ p ∈ ps, (par p).isSome → Anc par p y
theorem NearL.begin (par : Nat → Option Nat) : NearL par [] (-1) := .inl ⟨rfl, by simp⟩
theorem NearL.skip {ps : List Nat} {d : Int} {p : Nat} (h : NearL par ps d) (hp : par p = none) : NearL par (ps ++ [p]) d := by
  rcases h with ⟨h1, h2⟩ | ⟨N, h1, h2, h3⟩
  · refine .inl ⟨h1, fun q hq => ?_⟩
    rcases List.mem_append.1 hq with hq | hq
    · exact h2 q hq
    · simp at hq; rw [hq]; exact hp
  · refine .inr ⟨N, h1, h2, fun y => (h3 y).trans ⟨fun h q hq hk => ?_, fun h q hq hk => h q (List.mem_append_left _ hq) hk⟩⟩
    rcases List.mem_append.1 hq with hq | hq
    · exact h q hq hk
    · simp at hq; rw [hq, hp] at hk; cases hk
theorem NearL.first {ps : List Nat} {d : Int} {p : Nat} (h : NearL par ps d) (hd : d < 0) (hp : (par p).isSome) : NearL par (ps ++ [p]) (p : Int) := by
  rcases h with ⟨h1, h2⟩ | ⟨N, h1, h2, h3⟩
  · refine .inr ⟨p, rfl, hp, fun y => ⟨fun h q hq hk => ?_, fun h => h p (by simp) hp⟩⟩
    rcases List.mem_append.1 hq with hq | hq
    · rw [h2 q hq] at hk; cases hk
    · simp at hq; rw [hq]; exact h
  · omega
theorem NearL.join {ps : List Nat} {N M p : Nat} (h : NearL par ps (N : Int)) (hM : (par M).isSome ∧ ∀ y, Anc par M y ↔ Anc par N y ∧ Anc par p y) (hp : (par p).isSome) : NearL par (ps ++ [p]) (M : Int) := by
  rcases h with ⟨h1, h2⟩ | ⟨N', h1, h2, h3⟩
  · omega
  · obtain rfl : N = N' := by omega
    refine .inr ⟨M, rfl, hM.1, fun y => ?_⟩
    rw [hM.2 y, h3 y]
    constructor
    · rintro ⟨k1, k2⟩ q hq hk
      rcases List.mem_append.1 hq with hq | hq
      · exact k1 q hq hk
      · simp at hq; rw [hq]; exact k2
    · intro h
      exact ⟨fun q hq hk => h q (List.mem_append_left _ hq) hk, h p (by simp) hp⟩
theorem NearL.known {ps : List Nat} {N : Nat} (h : NearL par ps (N : Int)) : (par N).isSome := by
  rcases h with ⟨h1, _⟩ | ⟨N', h1, h2, _⟩
  · omega
  · obtain rfl : N = N' := by omega
    exact h2
theorem NearL.cases {ps : List Nat} {d : Int} (h : NearL par ps d) : d = -1 ∨ ∃ N : Nat, d = (N : Int) := by
  rcases h with ⟨h1, _⟩ | ⟨N, h1, _⟩
  · exact .inl h1
  · exact .inr ⟨N, h1⟩
theorem NearL.fin {bs : List Block} {L : List Bool} {b : Nat} {d : Int} (h : NearL par (rpB bs L b) d) (hk : ∃ p ∈ rpB bs L b, (par p).isSome) : ∃ N : Nat, d = (N : Int) ∧ Near (rpB bs L) par b N := by
  rcases h with ⟨_, h2⟩ | ⟨N, h1, h2, h3⟩
  · obtain ⟨p, hp, hpk⟩ := hk
    rw [h2 p hp] at hpk; cases hpk
  · exact ⟨N, h1, h2, h3⟩
theorem filt_snoc {α : Type} {q : α → Bool} {xs : List α} {k : Nat} {x : α} (h : xs[k]? = some x) : (xs.take (k + 1)).filter q = (xs.take k).filter q ++ if q x then [x] else [] := by
  rw [List.take_add_one, h, List.filter_append]
  cases hq : q x <;> simp [hq]
/-! ### idom as a list. -/
theorem parL_some {l : List Int} {x : Nat} {v : Int} (h : l[x]? = some v) (hv : 0 ≤ v) : parL l x = some v.toNat := by unfold parL; rw [h]; simp; omega
theorem parL_none {l : List Int} {x : Nat} {v : Int} (h : l[x]? = some v) (hv : v < 0) : parL l x = none := by unfold parL; rw [h]; simp [hv]
theorem parL_get {l : List Int} {x p : Nat} (h : parL l x = some p) : l[x]? = some (p : Int) := by
  unfold parL at h
  split at h
  · rename_i v hv
    split at h
    · cases h
    · rw [hv]
      have := Option.some.inj h
      congr 1
      omega
  · cases h
theorem parL_lt {l : List Int} {x : Nat} (h : (parL l x).isSome) : x < l.length := by
  obtain ⟨p, hp⟩ := Option.isSome_iff_exists.1 h
  exact (List.getElem?_eq_some_iff.1 (parL_get hp)).1
/-! ### The preorder reaches all. -/
theorem pre_self (kids : Nat → List Nat) (n b : Nat) : b ∈ pre kids n b := by cases n <;> simp [pre]
theorem pre_closed {kids : Nat → List Nat} {p c : Nat} (hc : c ∈ kids p) : ∀ (n b : Nat), p ∈ pre kids n b → c ∈ pre kids (n + 1) b
  | 0, b, h => by
    simp [pre] at h
    subst h
    simp [pre, hc]
  | n + 1, b, h => by
    rw [pre] at h
    rw [pre]
    rcases List.mem_cons.1 h with h | h
    · subst h
      exact List.mem_cons_of_mem _ (List.mem_flatMap.2 ⟨c, hc, pre_self kids _ c⟩)
    · obtain ⟨d, hd, hp⟩ := List.mem_flatMap.1 h
      exact List.mem_cons_of_mem _ (List.mem_flatMap.2 ⟨d, hd, pre_closed hc n d hp⟩)
theorem pre_all {par : Nat → Option Nat} {dep : Nat → Nat} {m : Nat} (hd : Dep par dep) (ht : Tree post par) (hm : ∀ c, (par c).isSome → dep c < m ∧ c < m) : ∀ (n c : Nat), dep c ≤ n → (par c).isSome → c ∈ pre (kidsOf m par) m 0
  | 0, c, hn, hc => by
    have hc0 : c = 0 := by
      by_cases e : c = 0
      · exact e
      · obtain ⟨p, hp⟩ := Option.isSome_iff_exists.1 hc
        have := hd.up c p e hp
        omega
    rw [hc0]; exact pre_self _ _ _
  | n + 1, c, hn, hc => by
    by_cases hc0 : c = 0
    · rw [hc0]; exact pre_self _ _ _
    · obtain ⟨p, hp⟩ := Option.isSome_iff_exists.1 hc
      have h1 := hd.up c p hc0 hp
      have h2 := ht.up c p hc0 hp
      have h3 := pre_all hd ht hm n p (by omega) h2.2
      have hk : c ∈ kidsOf m par p := List.mem_filter.2 ⟨List.mem_range.2 (hm c hc).2, by simp [hc0, hp]⟩
      have h4 := pre_closed hk m 0 h3
      rwa [pre_enough (fun b c hbc => kids_dep hd (fun c hc => (hm c hc).1) b c hbc) 0 m (by rw [hd.zero]; omega) 1] at h4
end Dom
end Go.Proofs.YtnbkgaofdkkdnaaDoor
