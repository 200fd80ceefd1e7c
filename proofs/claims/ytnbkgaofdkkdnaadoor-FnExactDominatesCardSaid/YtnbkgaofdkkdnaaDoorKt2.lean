/- Contract: impl's (Term).targets. -/
import Derived.Test.YtnbkgaofdkkdnaaDoorKn
namespace Go.Proofs.YtnbkgaofdkkdnaaDoor
open Go.RowKit
set_option linter.unusedSimpArgs false
set_option linter.unusedVariables false
set_option maxRecDepth 100000

/-- As RetC, and the row is fresh. -/
def RetCF {α : Type} (d : Kd α) (w : World) (xs : List α) (e : Ending) (w' : World) : Prop := ∃ A c, e = .returned (.slice A xs.length c) ∧ C d w' A xs ∧ (∀ a, A = some a → w.heap.size ≤ a.block ∧ a.block < w'.heap.size) ∧ Below w.heap.size w w'
theorem targetsI_c (t : Term) (w : World) : Calls Tryd.prog 85 #[t.v] w (RetCF (kInt .i64) w (targets t)) := by
  obtain ⟨k, a, to, els⟩ := t
  by_cases h1 : k = 1
  · subst h1
    simp only [Term.v]
    go_enter Tryd.func85, Tryd.ntmps85
    go_wp2
    go_ret
    rw [show targets ⟨1, a, to, els⟩ = [to] from rfl]
    exact ⟨_, _, rfl, box_ints (W := w.alloc (.cells #[.int .i64 1, .int .i64 a, .int .i64 to, .int .i64 els] 102)) [to] (by simp), (by intro a h; cases h; simp), by repeat (first | (with_reducible first | exact Below.refl _ _ | assumption | exact ext_box _) | (with_reducible apply Below.drew) | ((with_reducible refine Below.setCell ?_ ?hs _); (case hs => first | (simp; done) | (simp; omega) | omega)) | ((with_reducible refine Below.alloc ?_ ?hs _); (case hs => first | (simp; done) | (simp; omega) | omega)))⟩
  · by_cases h2 : k = 2
    · subst h2
      simp only [Term.v]
      go_enter Tryd.func85, Tryd.ntmps85
      go_wp2
      go_ret
      rw [show targets ⟨2, a, to, els⟩ = [to, els] from rfl]
      exact ⟨_, _, rfl, box_ints (W := w.alloc (.cells #[.int .i64 2, .int .i64 a, .int .i64 to, .int .i64 els] 102)) [to, els] (by simp), (by intro a h; cases h; simp), by repeat (first | (with_reducible first | exact Below.refl _ _ | assumption | exact ext_box _) | (with_reducible apply Below.drew) | ((with_reducible refine Below.setCell ?_ ?hs _); (case hs => first | (simp; done) | (simp; omega) | omega)) | ((with_reducible refine Below.alloc ?_ ?hs _); (case hs => first | (simp; done) | (simp; omega) | omega)))⟩
    · simp only [Term.v]
      go_enter Tryd.func85, Tryd.ntmps85
      go_wp2
      go_ret
      exact ⟨none, _, by simp only [targets, h1, h2, if_false]; rfl, by simp only [targets, h1, h2, if_false]; exact C.nil _ _ _, (by intro a h; cases h), by repeat (first | (with_reducible first | exact Below.refl _ _ | assumption | exact ext_box _) | (with_reducible apply Below.drew) | ((with_reducible refine Below.setCell ?_ ?hs _); (case hs => first | (simp; done) | (simp; omega) | omega)) | ((with_reducible refine Below.alloc ?_ ?hs _); (case hs => first | (simp; done) | (simp; omega) | omega)))⟩
end Go.Proofs.YtnbkgaofdkkdnaaDoor
