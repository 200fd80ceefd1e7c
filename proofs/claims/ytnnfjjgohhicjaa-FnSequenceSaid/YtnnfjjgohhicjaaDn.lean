/- Contract: spec.l2Next. -/
import Derived.Test.YtnnfjjgohhicjaaQa
import Derived.Test.YtnnfjjgohhicjaaDp
namespace Go.Proofs.Ytnnfjjgohhicjaa
open Go.RowKit
set_option linter.unusedSimpArgs false
set_option linter.unusedVariables false
set_option maxRecDepth 100000

def kB : Kd UInt8 := kFlat 1 (fun c => [.int .u8 (c.toNat : Int)]) (fun _ => rfl) (by intro x u hu; simp at hu; subst hu; rfl)
theorem C_kB_keep {w w' : World} {A : Option Addr} {xs : List UInt8} (h : C kB w A xs) (hk : ∀ a, A = some a → a.block < w.heap.size → w'.heap[a.block]? = w.heap[a.block]?) : C kB w' A xs := by
  intro i x hx
  obtain ⟨a, cs, hA, rfl, hc⟩ := h i x hx
  refine ⟨a, _, hA, rfl, fun j u hu => ?_⟩
  have h1 := hc j u hu
  have h2 := World.block_lt_of_cell? w _ h1
  rw [add_block] at h2
  exact (World.cell?_of_block (by rw [add_block]; exact hk a hA h2)).trans h1
/-- A source of draws in memory. -/
structure SrcB (S : Nat) (s : Src) (Ac : Option Addr) (cc : Nat) (w : World) : Prop where
  box : Bk S 57 [.slice Ac s.code.length cc, .int .i64 s.at_, .int .i64 s.mix, .int .i64 s.size] w
  code : C kB w Ac s.code
  ne : ∀ a, Ac = some a → a.block ≠ S
  lt : ∀ a, Ac = some a → a.block < w.heap.size
theorem SrcB.chg {Q : Nat → Prop} {S : Nat} {s : Src} {Ac : Option Addr} {cc : Nat} {w w' : World} (h : SrcB S s Ac cc w) (hc : Chg Q w w') (hS : ¬ Q S) (hA : ∀ a, Ac = some a → ¬ Q a.block) : SrcB S s Ac cc w' :=
  ⟨h.box.chg hc hS, C_kB_keep h.code fun a ha hl => hc.block _ hl (hA a ha), h.ne, fun a ha => Nat.lt_of_lt_of_le (h.lt a ha) hc.size⟩
/-- A source lies below N. -/
def SrcLow (S : Nat) (Ac : Option Addr) (N : Nat) : Prop := S < N ∧ ∀ a, Ac = some a → a.block < N
theorem SrcB.low {S : Nat} {s : Src} {Ac : Option Addr} {cc : Nat} {w : World} (h : SrcB S s Ac cc w) : SrcLow S Ac w.heap.size := ⟨h.box.lt, h.lt⟩
theorem SrcB.up {N : Nat} {Q : Nat → Prop} {S : Nat} {s : Src} {Ac : Option Addr} {cc : Nat} {w w' : World} (h : SrcB S s Ac cc w) (hl : SrcLow S Ac N) (hc : Chg Q w w') (hQ : ∀ q, Q q → N ≤ q) : SrcB S s Ac cc w' :=
  h.chg hc (fun hq => by have := hQ _ hq; have := hl.1; omega) fun a ha hq => by have := hQ _ hq; have := hl.2 a ha; omega
set_option maxHeartbeats 2000000 in
theorem next_c (S : Nat) (s : Src) (Ac : Option Addr) (cc : Nat) (n : Int) (w : World) (h : SrcB S s Ac cc w) (hok : s.ok) (hn : n ≤ 1000000) :
    Calls Try.prog 24 #[.pointer (some ⟨S, 0, none⟩), .int .i64 n] w fun e w' => e = .returned (.int .i64 (nextV s n)) ∧ SrcB S (nextS s n) Ac cc w' ∧ Chg (fun q => q = S) w w' := by
  by_cases h1 : n ≤ 1
  · have HV := Lib.hid (show nextV s n = 0 by simp [nextV, h1])
    have HS := Lib.hid (show nextS s n = s by simp [nextS, h1])
    have HH := Lib.hid h
    clear h
    go_enter Try.func24, Try.ntmps24
    go_wp2
    go_ret
    exact ⟨by rw [HV.out]; rfl, by rw [HS.out]; exact HH.out, Chg.refl _ _⟩
  · have HH := Lib.hid h
    have HOK := Lib.hid hok
    have k0 := h.box.cell 0 (v := .slice Ac s.code.length cc) rfl
    have k1 := h.box.cell 1 (v := .int .i64 s.at_) rfl
    have k2 := h.box.cell 2 (v := .int .i64 s.mix) rfl
    have zS := h.box.lt
    have fS := h.box.frozen
    clear h hok
    by_cases hc : s.at_ < s.code.length ∧ n ≤ 256
    · obtain ⟨hc1, hc2⟩ := hc
      obtain ⟨x, ex⟩ := get_of_lt hc1
      obtain ⟨a, _, rfl, rfl, hca⟩ := HH.out.code.at ex
      have v0 : w.cell? (a.add s.at_) = some (.int .u8 (x.toNat : Int)) := by have := _root_.Go.Proofs.Ytnnfjjgohhicjaa.hc1 (n := s.at_ * 1) hca; rwa [Nat.mul_one] at this
      go_enter Try.func24, Try.ntmps24
      have K0 := fun u : Ext w => (u.hb.cell (p := ⟨S, 0, none⟩) zS).trans k0
      have K1 := fun u : Ext w => (u.hb.cell (p := ⟨S, 1, none⟩) zS).trans k1
      have zv : (a.add s.at_).block < w.heap.size := World.block_lt_of_cell? w _ v0
      have V0 := fun u : Ext w => (u.hb.cell (p := a.add s.at_) zv).trans v0
      go_wp2
      refine wp_region_ext (W := w) (by kernel_rfl) (by kernel_rfl) ⟨Ext.self w, rfl⟩ ?_
      (repeat (rw [wpQuiet_cons]; go_simp)); rw [wpQuiet_nil']
      intro u
      go_wp2
      refine wp_region_ext (W := w) (by kernel_rfl) (by kernel_rfl) ⟨_, rfl⟩ ?_
      (repeat (rw [wpQuiet_cons]; go_simp)); rw [wpQuiet_nil']
      intro u2
      have hw1 : wrap64 (x.toNat : Int) = x.toNat := by have := x.toNat_lt; unfold wrap64; omega
      have hw2 : wrap64 ((s.at_ : Int) + 1) = (s.at_ : Int) + 1 := by have := HOK.out.len; unfold wrap64; omega
      have hB := HH.out.box.below u2.hb
      have fS2 := hB.frozen
      have HB := Lib.hid hB
      have hD : s.code.getD s.at_ 0 = x := by rw [List.getD_eq_getElem?_getD, ex]; rfl
      have HV := Lib.hid (show nextV s n = (x.toNat : Int) % n by rw [nextV, if_neg (by omega), if_pos ⟨hc1, hc2⟩, hD])
      have HS := Lib.hid (show nextS s n = { s with at_ := s.at_ + 1 } by rw [nextS, if_neg (by omega), if_pos ⟨hc1, hc2⟩])
      have hw3 : IntKind.i64.wrap (x.toNat : Int) = x.toNat := by have := x.toNat_lt; exact wi64 (by omega) (by omega)
      clear hB hD
      go_wp2
      go_ret
      obtain ⟨hb1, hc3⟩ := HB.out.set 1 (.int .i64 ((s.at_ : Int) + 1))
      refine ⟨by rw [HV.out]; rfl, ?_, ((chg_of u2.hb).mono fun _ _ h => h.elim).trans hc3⟩
      rw [HS.out]
      exact ⟨hb1, C_kB_keep (HH.out.code.below u2.hb) fun a ha hl => hc3.block _ hl (HH.out.ne a ha), HH.out.ne, fun a ha => Nat.lt_of_lt_of_le (HH.out.lt a ha) (Nat.le_trans u2.hb.size hc3.size)⟩
    · have hcc : ¬ (s.at_ < s.code.length) ∨ (s.at_ < s.code.length ∧ ¬ n ≤ 256) := by
        by_cases h : s.at_ < s.code.length
        · exact .inr ⟨h, fun h2 => hc ⟨h, h2⟩⟩
        · exact .inl h
      have hm0 := HOK.out.mix0
      have hm1 := HOK.out.mix1
      have K0 := fun u : Ext w => (u.hb.cell (p := ⟨S, 0, none⟩) zS).trans k0
      have K1 := fun u : Ext w => (u.hb.cell (p := ⟨S, 1, none⟩) zS).trans k1
      have HV := Lib.hid (show nextV s n = (mix2 s / 3) % n by rw [nextV, if_neg (by omega), if_neg hc])
      have HS := Lib.hid (show nextS s n = { s with mix := mix2 s } by rw [nextS, if_neg (by omega), if_neg hc])
      have HM := Lib.hid (show mix2 s = (s.mix * 1103 + 12347) % 1000003 from rfl)
      clear hc
      rcases hcc with hcc | ⟨hc1, hc2⟩
      all_goals
        go_enter Try.func24, Try.ntmps24
        go_wp2
        refine wp_region_ext (W := w) (by kernel_rfl) (by kernel_rfl) ⟨Ext.self w, rfl⟩ ?_
        (repeat (rw [wpQuiet_cons]; go_simp)); rw [wpQuiet_nil']
        intro u2
        have hB := HH.out.box.below u2.hb
        have q2 := hB.cell 2 (v := .int .i64 s.mix) rfl
        have fS2 := hB.frozen
        have HB := Lib.hid hB
        clear hB
        go_wp2
        go_ret
        obtain ⟨hb1, hc3⟩ := HB.out.set 2 (.int .i64 ((s.mix * 1103 + 12347) % 1000003))
        refine ⟨by rw [HV.out, HM.out]; rfl, ?_, ((chg_of u2.hb).mono fun _ _ h => h.elim).trans hc3⟩
        rw [HS.out, HM.out]
        exact ⟨hb1, C_kB_keep (HH.out.code.below u2.hb) fun a ha hl => hc3.block _ hl (HH.out.ne a ha), HH.out.ne, fun a ha => Nat.lt_of_lt_of_le (HH.out.lt a ha) (Nat.le_trans u2.hb.size hc3.size)⟩
end Go.Proofs.Ytnnfjjgohhicjaa
