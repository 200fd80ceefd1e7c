/- Contract: impl.predecessors. -/
import Derived.Test.YtnbkgaofdkkdnaaDoorKy
import Derived.Test.YtnbkgaofdkkdnaaDoorKx
import Derived.Test.YtnbkgaofdkkdnaaDoorKz
import Derived.Test.YtnbkgaofdkkdnaaDoorKt2
import Derived.Test.YtnbkgaofdkkdnaaDoorKp
import Derived.Test.YtnbkgaofdkkdnaaDoorPg
namespace Go.Proofs.YtnbkgaofdkkdnaaDoor
open Go.RowKit
set_option linter.unusedSimpArgs false
set_option linter.unusedVariables false
set_option maxRecDepth 100000

theorem Chg.cell {S : Nat → Prop} {w w' : World} (h : Chg S w w') {p : Addr} (hp : p.block < w.heap.size) (hS : ¬ S p.block) : w'.cell? p = w.cell? p := World.cell?_of_block (h.block p.block hp hS)
theorem frozen_of_block {w w' : World} {b : Nat} (h : w'.heap[b]? = w.heap[b]?) (o : Nat) : w'.frozen? ⟨b, o, none⟩ = w.frozen? ⟨b, o, none⟩ := by unfold World.frozen?; simp only [h]
theorem C_int_keep {q : IntKind} {w w' : World} {A : Option Addr} {xs : List Int} (h : C (kInt q) w A xs) (hk : ∀ a, A = some a → w'.heap[a.block]? = w.heap[a.block]?) : C (kInt q) w' A xs := by
  intro i x hx
  obtain ⟨a, cs, hA, rfl, hc⟩ := h i x hx
  exact ⟨a, _, hA, rfl, fun j u hu => (World.cell?_of_block (by rw [add_block]; exact hk a hA)).trans (hc j u hu)⟩
theorem info_i64s : (Tryd.prog.info? 35).map (fun i => (i.zero, i.size, i.bytes)) = some (some (.slice none 0 0), 1, 24) := by kernel_rfl
abbrev kI64 : Kd Int := kInt .i64
abbrev kI64s : Kd (List Int) := kSlice 2 (kInt .i64)
set_option maxHeartbeats 4000000 in
theorem predecessors_c (A : Option Addr) (c : Nat) (m : Func) (w : World) (hx : C (kBlock 0 0 0) w A m.blocks) (hm : m.blocks.length ≤ 1048576) (ht : ∀ (i : Nat) b, m.blocks[i]? = some b → ∀ q ∈ targets b.term, 0 ≤ q ∧ q < m.blocks.length) :
    Calls Tryd.prog 64 #[.agg #[.int .i64 m.values, .slice A m.blocks.length c]] w (RetRow 35 kI64s w (tab m.blocks.length fun t => predM t m.blocks 0)) := by
  obtain ⟨i0, hi, hz0, hz1, hz2⟩ := info_parts info_i64s
  obtain ⟨j0, hj', hy0, hy1, hy2⟩ := info_parts info_i64
  have HTG := Lib.hid ht
  clear ht
  go_enter Tryd.func64, Tryd.ntmps64
  go_wp2_with (at_make; refine wpList_make_full _ rfl _ _ 57 rfl 0 35 i0 _ 1 Tryd.underlying57 hi hz0 hz1 _ _ _ _ m.blocks.length rfl rfl rfl rfl (by rw [hz2]; omega) (by simp [maxLen]; omega) (Nat.zero_le _) ?_; intro w1 ho hg; have hB1 := (Below.refl _ (w.alloc (.cells #[.int .i64 m.values, .slice A m.blocks.length c] 29))).grown hg (Nat.le_refl _) (by simp); obtain ⟨hc1, hf1⟩ := bcell hB1; have zw1 : w.heap.size < w1.heap.size := (by have := hB1.size; (try simp at this); omega))
  have hR := Lib.hid (Row.made (d := kI64s) (z := []) (zc := [.slice none 0 0]) ho (by decide) ⟨_, rfl, Row.nil _ _ _⟩)
  clear ho hc1 hf1
  go_loopw [15] (fun i wr => ∃ (k : Nat) (fp : List Nat) (u : Ext (w.alloc (.cells #[.int .i64 m.values, .slice A m.blocks.length c] 29))), k ≤ m.blocks.length ∧ i = .int .i64 k ∧ Row 35 kI64s wr (.slice (some ⟨w.heap.size + 1, 0, none⟩) m.blocks.length m.blocks.length) (tab m.blocks.length fun t => predM t (m.blocks.take k) 0) fp ∧ (∀ q ∈ fp, w.heap.size < q) ∧ wr = u.w) (fun i _ => m.blocks.length - (intOf i).toNat)
  case atStart =>
    refine ⟨0, [w.heap.size + 1], ⟨w1, hB1⟩, by omega, rfl, ?_, ?_, rfl⟩
    · have := hR.out
      simp only [World.size_alloc] at this
      rw [show (tab m.blocks.length fun t => predM t (m.blocks.take 0) 0) = List.replicate m.blocks.length [] by simp [predM, tab_nil]]
      exact this
    · simp
  case round =>
    obtain ⟨k, fp, u, hk, rfl, hr, hfp, rfl⟩ := hrel
    have HR := Lib.hid hr
    have HF := Lib.hid hfp
    clear hr hfp hR
    obtain ⟨b0, b1, -⟩ := box_at u
    have hzu : w.heap.size < u.w.heap.size := by have := u.hb.size; simp at this; omega
    have hxu := (hx.below (ext_box u))
    by_cases hlt : k < m.blocks.length
    · obtain ⟨x, ex⟩ := get_of_lt hlt
      have HEX := Lib.hid (fun t => predM_snoc t ex)
      have HTX := Lib.hid (HTG.out _ _ ex)
      have hts := targets_len x.term
      have HTC := Lib.hid (targetsI_c x.term)
      obtain ⟨a, _, rfl, ⟨_, _, rfl, ⟨A1', c1', rfl, l1', r1'⟩, _, _, rfl, ⟨A2', c2', rfl, l2', r2'⟩, rfl⟩, hc⟩ := hxu.at ex
      obtain ⟨p0, p1, p2, p3, p4, p5⟩ := hc6 (n := k * 6) hc
      clear hc ex
      generalize targets x.term = ts at *
      go_wp2_with (go_at_call 85; refine (HTC.out _).mono ?_; rintro e w2 ⟨A3, c3, rfl, r3, hf3, hb2⟩; have HB2 : Below u.w.heap.size u.w w2 := Below.then_ (by repeat (first | (with_reducible first | exact Below.refl _ _ | assumption | exact ext_box _) | (with_reducible apply Below.drew) | ((with_reducible refine Below.setCell ?_ ?hs _); (case hs => first | (simp; done) | (simp; omega) | omega)) | ((with_reducible refine Below.alloc ?_ ?hs _); (case hs => first | (simp; done) | (simp; omega) | omega)))) hb2)
      obtain ⟨u2, rfl⟩ := u.more HB2
      have HR2 := Lib.hid (HR.out.chg (chg_of HB2) (by simp))
      have HFR := Lib.hid (fun a (ha : A3 = some a) => show a.block ∉ fp from fun hm => by have h1 := (hf3 a ha).1; have h2 := HR.out.lt _ hm; simp at h1; omega)
      clear hf3 hb2 HB2 b0 b1 hzu hxu HR HTC p0 p1 p2 p3 p4 p5
      go_loopw [24] (fun i wr => ∃ (j : Nat) (fp : List Nat) (u : Ext (w.alloc (.cells #[.int .i64 m.values, .slice (some a) m.blocks.length c] 29))), j ≤ ts.length ∧ i = .int .i64 j ∧ Row 35 kI64s wr (.slice (some ⟨w.heap.size + 1, 0, none⟩) m.blocks.length m.blocks.length) (tab m.blocks.length fun t => predM t (m.blocks.take k) 0 ++ rep (ts.take j) t (k : Int)) fp ∧ (∀ q ∈ fp, w.heap.size < q) ∧ C kI64 wr A3 ts ∧ (∀ a, A3 = some a → a.block ∉ fp) ∧ wr = u.w) (fun i _ => ts.length - (intOf i).toNat)
      case atStart => exact ⟨0, fp, u2, by omega, rfl, by simpa [rep] using HR2.out, HF.out, r3, HFR.out, rfl⟩
      case round =>
        clear HR2 HFR HF r3
        obtain ⟨j, fp, u, hj, rfl, hr, hfp, hC, hfr, rfl⟩ := hrel
        have HR := Lib.hid hr
        have HF := Lib.hid hfp
        have HFR := Lib.hid hfr
        have HCC := Lib.hid hC
        clear hr hfp hfr
        by_cases hlj : j < ts.length
        · obtain ⟨q, eq⟩ := get_of_lt hlj
          obtain ⟨hq0, hq1⟩ := HTX.out q (List.mem_of_getElem? eq)
          obtain ⟨t, rfl⟩ : ∃ t : Nat, q = t := ⟨q.toNat, by omega⟩
          have ht : t < m.blocks.length := by omega
          obtain ⟨a3, _, rfl, rfl, hc⟩ := hC.at eq
          have p0 := hc1 (n := j * 1) hc
          rw [Nat.mul_one] at p0
          clear hc hC
          have HRS := Lib.hid (fun s => rep_snoc eq s (k : Int))
          clear eq
          obtain ⟨_, f0, ⟨v0, rfl, r0⟩, hcs, hsub, hgn, hset⟩ := HR.out.focus (tab_len _ _) (tab_get _ ht)
          have q0 := ha1 (n := t * 1) hcs
          have z0 := (HR.out.cellsAt (tab_len _ _) (tab_get _ ht))
          obtain ⟨_, _, _, hfz⟩ := z0
          have qf := hfz (t * 1)
          rw [Nat.mul_one] at q0 qf
          clear hcs hfz
          have hgu : w.heap.size + 1 < u.w.heap.size := HR.out.lt _ (by obtain ⟨_, _, _, _, rfl, _⟩ := HR.out; simp [Value.ownBlock])
          have HS := Lib.hid hset
          have HSB := Lib.hid hsub
          have HGN := Lib.hid hgn
          obtain ⟨ys, hys⟩ : ∃ ys, ys = predM t (m.blocks.take k) 0 ++ rep (ts.take j) t (k : Int) := ⟨_, rfl⟩
          replace r0 : Row 2 kI64 u.w v0 ys f0 := by rw [hys]; exact r0
          have HR0 := Lib.hid r0
          have hpl := predM_len t (m.blocks.take k) 0
          have hrl := rep_len (ts.take j) t (k : Int)
          rw [List.length_take_of_le hk] at hpl
          rw [List.length_take_of_le hj] at hrl
          have hyl : ys.length ≤ 2097154 := by rw [hys, List.length_append]; omega
          have HYS := Lib.hid hys
          obtain ⟨A4, c4, rfl, hl4⟩ := r0.form
          clear hpl hrl hys
          clear hset hsub hgn r0
          go_wp2_with (at_builtin; refine wpList_append_row kI64 rfl _ _ 35 rfl 2 j0 _ 8 Tryd.underlying35 hj' hy0 hy1 hy2 rfl (by decide) _ ys f0 rfl (HR0.out.chg (S := fun _ => False) (by (repeat (first | (with_reducible first | exact Chg.refl _ _ | assumption) | (with_reducible refine Chg.drew ?_) | ((with_reducible refine Chg.setCell ?_ ?hs _); (case hs => first | (simp; done) | (simp; omega) | omega)) | (with_reducible refine Chg.alloc ?_ _)))) (by simp)) _ _ [.int .i64 k] (k : Int) [] rfl ⟨rfl, rfl⟩ (by simp) (box_news (by simp)) (by simp only [maxLen]; omega) (by omega) ?_; intro g cap w3 fp3 hr3 hf3 hC3; have HC0 : Chg (fun k => k ∈ f0) u.w w3 := Chg.trans (by (repeat (first | (with_reducible first | exact Chg.refl _ _ | assumption) | (with_reducible refine Chg.drew ?_) | ((with_reducible refine Chg.setCell ?_ ?hs _); (case hs => first | (simp; done) | (simp; omega) | omega)) | (with_reducible refine Chg.alloc ?_ _)))) hC3; have q3 := (HC0.cell (p := ⟨w.heap.size + 1, t, none⟩) hgu HGN.out).trans q0; have qf3 := (frozen_of_block (HC0.block (w.heap.size + 1) hgu HGN.out) t).trans qf)
          obtain ⟨fp', hr', hf', hC'⟩ := HS.out w3 (ys ++ [(k : Int)]) _ fp3 HC0.size (fun b hb hn => HC0.block b (HR.out.lt b hb) hn) ⟨_, rfl, hr3⟩ (fun b hb => by rcases hf3 b hb with h | h | h; exact .inl h; simp at h; exact .inr fun hm => by have := HR.out.lt b hm; simp at h; omega)
          rw [show t * kI64s.sz = t from Nat.mul_one t, setCells1] at hr' hC'
          have htab : (tab m.blocks.length fun s => predM s (m.blocks.take k) 0 ++ rep (ts.take j) s (k : Int)).set t (ys ++ [(k : Int)]) = tab m.blocks.length fun s => predM s (m.blocks.take k) 0 ++ rep (ts.take (j + 1)) s (k : Int) := by
            rw [HYS.out, List.append_assoc, show rep (ts.take j) t (k : Int) ++ [(k : Int)] = rep (ts.take (j + 1)) t (k : Int) by rw [HRS.out t]; simp]
            exact tab_set (F' := fun s => predM s (m.blocks.take k) 0 ++ rep (ts.take (j + 1)) s (k : Int)) ht (fun s hs => by rw [HRS.out s, if_neg (by omega), List.append_nil])
          rw [htab] at hr'
          clear htab
          have ha3 : a3.block < u.w.heap.size := by have := World.block_lt_of_cell? u.w _ p0; rwa [add_block] at this
          have hn3 := HFR.out a3 rfl
          have hgf : w.heap.size + 1 ∈ fp := by obtain ⟨_, _, _, _, rfl, _⟩ := HR.out; simp [Value.ownBlock]
          have HC3 := Lib.hid (C_int_keep HCC.out (w' := w3.setCell ⟨w.heap.size + 1, t, none⟩ (.slice (some ⟨g, 0, none⟩) (ys.length + 1) cap)) fun b hb => by
            obtain rfl := Option.some.inj hb
            exact (hC'.block a3.block (Nat.lt_of_lt_of_le ha3 HC0.size) fun e => hn3 (e ▸ hgf)).trans (HC0.block a3.block ha3 fun h => hn3 (HSB.out _ h)))
          have hB3 : Below (w.alloc (.cells #[.int .i64 m.values, .slice (some a) m.blocks.length c] 29)).heap.size (w.alloc (.cells #[.int .i64 m.values, .slice (some a) m.blocks.length c] 29)) (w3.setCell ⟨w.heap.size + 1, t, none⟩ (.slice (some ⟨g, 0, none⟩) (ys.length + 1) cap)) := u.hb.trans ((HC0.below u.hb.size fun b hb => by have := HF.out b (HSB.out b hb); simp; omega).trans (hC'.below (Nat.le_trans u.hb.size HC0.size) fun b hb => by subst hb; simp))
          have HFP : Hid (∀ b ∈ fp', b ∈ fp ∨ b = u.w.heap.size + 1) := Lib.hid fun b hb => by
            rcases hf' b hb with h | h
            · exact .inl h
            · rcases hf3 b h with h | h | h
              · exact .inl (HSB.out b h)
              · simp at h
              · simp at h; exact .inr h
          have HR' := Lib.hid hr'
          clear hr' hf' hC' hf3 hC3 hr3
          go_roundw
          case rel => exact ⟨j + 1, fp', ⟨_, hB3⟩, by omega, by go_num, HR'.out, fun b hb => by rcases HFP.out b hb with h | h; exact HF.out b h; omega, HC3.out, fun b hb hm => by (obtain rfl := Option.some.inj hb); rcases HFP.out _ hm with h | h; exact hn3 h; omega, rfl⟩
          case measure => simp [intOf]; omega
        · have hjn : j = ts.length := by omega
          subst hjn
          have HRX := Lib.hid (show (tab m.blocks.length fun t => predM t (m.blocks.take k) 0 ++ rep (ts.take ts.length) t (k : Int)) = tab m.blocks.length fun t => predM t (m.blocks.take (k + 1)) 0 by congr 1; funext s; rw [HEX.out s, List.take_length])
          go_wp2
          go_roundw
          case rel => exact ⟨k + 1, fp, u, by omega, by go_num, by rw [← HRX.out]; exact HR.out, HF.out, rfl⟩
          case measure => simp [intOf]; omega
    · have hkn : k = m.blocks.length := by omega
      go_wp2
      go_ret
      refine ⟨_, fp, rfl, ?_, fun q hq => Nat.le_of_lt (HF.out q hq), ext_box u⟩
      have := HR.out
      rwa [List.take_of_length_le (show m.blocks.length ≤ k by omega)] at this
end Go.Proofs.YtnbkgaofdkkdnaaDoor
