/- Contract: impl's (*world).block. -/
import Derived.Test.YtnnfjjgohhicjaaDoorRe
namespace Go.Proofs.YtnnfjjgohhicjaaDoor
open Go.RowKit
set_option linter.unusedSimpArgs false
set_option linter.unusedVariables false
set_option maxRecDepth 100000

theorem Bk.tn {X : List Nat} {B k : Nat} {T : TypeId} {l : List Value} {w w' : World} (h : Bk k T l w) (hc : Chg (Tn X B) w w') (hk : k ∈ X) (hne : k ≠ B) : Bk k T l w' := h.chg hc fun e => by rcases e with e | e; exact hne e; exact e hk
theorem Tn.less {X Y : List Nat} {B k : Nat} (h : Tn (Y ++ X) B k) : Tn X B k := h.imp id fun h hm => h (List.mem_append_right _ hm)
theorem at_term (t : Term) : Term.v t = .agg #[.int .i64 t.kind, .int .i64 t.a, .int .i64 t.to, .int .i64 t.els] := rfl
def tl (t : Term) : List Value := [.int .i64 t.kind, .int .i64 t.a, .int .i64 t.to, .int .i64 t.els]
def il (x : Instr) : List Value := [.int .i64 x.op, .int .i64 x.dst, .int .i64 x.a, .int .i64 x.b, .int .i64 x.imm]
theorem bk_eq {B : Nat} {T : TypeId} {va vh vc : Value} {At At' : Option Addr} {n ct ct' : Nat} {s : Wd} {ex : List Value} {w : World} (h : Bk B T (wl va vh (.slice At n ct) vc s ex) w) (h' : Bk B T (wl va vh (.slice At' n ct') vc s ex) w) : At = At' ∧ ct = ct' := by
  have := Option.some.inj (h.symm.trans h')
  simp [wl] at this
  exact this
theorem blk_end {W0 : World} {Y X : List Nat} {B : Nat} {T : TypeId} {ex : List Value} {A : Option Addr} {ca D cD G cG : Nat} {Bf : Int → List Instr × Term} {E : Int → Int → Wd → Wd} {b : Int} {s0 s : Wd} {R : Outc} {e : Ending} {wA wr w' : World} {vt : Value} {code value : Int} {o : Nat}
    (h2 : Rws W0.heap.size Y D cD G cG vt s wr) (hW : Below W0.heap.size W0 wr) (hb : Below wr.heap.size wr w') (hbk : Bk o 51 (wol code value s (.slice (some ⟨G, 0, none⟩) 32 cG) vt) w') (ho : wr.heap.size ≤ o) (hR : R = fin code value s) (he : e = .returned (.tuple #[.int .i64 0, .pointer (some ⟨o, 0, none⟩)])) :
    BlkPost W0 X B T ex A ca D cD G cG Bf E b s0 R wA e w' := by
  subst hR
  exact .inr ⟨o, _, _, he, hbk, (St.out code value h2).below hb, hW.trans (hb.mono hW.size), Nat.le_trans hW.size ho⟩
set_option maxHeartbeats 8000000 in
theorem block_c (W0 : World) (X : List Nat) (B : Nat) (T : TypeId) (ex : List Value) (A : Option Addr) (ca D cD G cG : Nat) (L : Option Addr) (cl : Nat) (xs : List Instr) (t : Term) (n : Int) (Bf : Int → List Instr × Term) (E : Int → Int → Wd → Wd) (b : Int) (s0 : Wd) (w : World)
    (hA : C kI64 W0 A s0.args) (hL : C kInstr W0 L xs) (hxl : xs.length ≤ 1048576) (hg : ∀ (i : Nat) x, xs[i]? = some x → GoodInstr x n 13) (ht : GoodTerm t n (-1) 4000) (hn : (s0.cells.length : Int) = n) (hB : Bf b = (xs, t)) (h : St W0 X B T ex A ca D cD G cG s0 w) (hok : Ok s0 s0) :
    Calls Tryd.prog 68 #[.pointer (some ⟨B, 0, none⟩), .slice L xs.length cl, t.v] w (BlkPost W0 X B T ex A ca D cD G cG Bf E b s0 (runS Bf E (lft s0) b 0 s0) w) := by
  have hmf : ∀ (fn : Fn) (first cap : Array Value) (w : World), (Go.Instr.makeFunc fn first cap).run Tryd.prog w = .ok (.func fn first cap) w := fun _ _ _ _ => rfl
  obtain ⟨R, hR⟩ : ∃ R, runS Bf E (lft s0) b 0 s0 = R := ⟨_, rfl⟩
  rw [hR]
  have HST := Lib.hid h
  have HRR := Lib.hid hR
  have HG := Lib.hid hg
  have HT := Lib.hid ht
  have HBB := Lib.hid hB
  have hBw : B < w.heap.size := by obtain ⟨_, _, h1, _⟩ := h; exact h1.lt
  have HIT := Lib.hid (show ∀ (i : Nat), xs[i]? = (Bf b).1[i]? from fun i => by rw [hB])
  clear hR hg ht hB h
  rw [at_term]
  go_enter Tryd.func68, Tryd.ntmps68
  go_wp2
  have K3 := Lib.hid ((Bk.made w 161 [.pointer (some ⟨B, 0, none⟩)]).below ((Below.refl _ _).alloc (Nat.le_refl _) (.cells #[.int .i64 t.kind, .int .i64 t.a, .int .i64 t.to, .int .i64 t.els] 67)))
  have K5 := Lib.hid (Bk.made (w.alloc (.cells #[.pointer (some ⟨B, 0, none⟩)] 161)) 67 (tl t))
  have HSM := Lib.hid (HST.out.more (((Below.refl _ w).alloc (Nat.le_refl _) (.cells #[.pointer (some ⟨B, 0, none⟩)] 161)).alloc (by simp) (.cells #[.int .i64 t.kind, .int .i64 t.a, .int .i64 t.to, .int .i64 t.els] 67)) [w.heap.size, w.heap.size + 1] (fun y hy => by simp at hy; simp; omega))
  obtain ⟨Y, hY⟩ : ∃ Y, [w.heap.size, w.heap.size + 1] ++ X = Y := ⟨_, rfl⟩
  rw [hY] at HSM
  have HX := Lib.hid (show ∀ x ∈ X, x ∈ Y from fun x hx => by rw [← hY]; exact List.mem_append_right _ hx)
  have HY3 := Lib.hid (show w.heap.size ∈ Y by rw [← hY]; simp)
  have HY5 := Lib.hid (show w.heap.size + 1 ∈ Y by rw [← hY]; simp)
  have HBX := Lib.hid (show B ∈ X by obtain ⟨_, _, _, _, _, _, h5, _⟩ := HST.out; exact h5)
  clear hY
  go_loopw [14] (fun i wr => ∃ (j : Nat) (s : Wd), j ≤ xs.length ∧ i = .int .i64 j ∧ St W0 Y B T ex A ca D cD G cG s wr ∧ Ok s0 s ∧ R = runS Bf E (lft s) b j s ∧ Bk w.heap.size 161 [.pointer (some ⟨B, 0, none⟩)] wr ∧ Bk (w.heap.size + 1) 67 (tl t) wr ∧ Chg (Tn X B) w wr) (fun i _ => xs.length - (intOf i).toNat)
  case atStart => exact ⟨0, s0, by omega, rfl, HSM.out, hok, HRR.out.symm, K3.out, by have := K5.out; simp only [World.size_alloc] at this; exact this, ((Chg.refl _ _).alloc _).alloc _⟩
  case round =>
    clear K3 K5 HSM
    obtain ⟨j, s, hj, rfl, hst, hok1, hrn, k3, k5, hch⟩ := hrel
    have HCH := Lib.hid hch
    clear hch
    have HS := Lib.hid hst
    have HO := Lib.hid hok1
    have HN := Lib.hid hrn
    have H3 := Lib.hid k3
    have H5 := Lib.hid k5
    obtain ⟨At, ct, h1, h2, h3, h4, h5, h6⟩ := id hst
    have c3 := k3.cell 0 (v := .pointer (some ⟨B, 0, none⟩)) rfl
    have z3 := k3.lt
    have zB := h1.lt
    have HB := Lib.hid h1
    have HW := Lib.hid h2
    have H4 := Lib.hid h4
    have hs0 : 0 ≤ s.steps := Int.le_trans hok1.pos hok1.lo
    have hsf := hok1.hi
    have hmx := hok1.max
    have htr := hok1.tr
    clear hst hok1 hrn k3 k5 h1 h2 h4 h5 h6
    by_cases hlt : j < xs.length
    · obtain ⟨x, exx⟩ := get_of_lt hlt
      obtain ⟨a, _, rfl, rfl, hc⟩ := (hL.keep (w' := wr) (fun k hk => H4.out.block k hk)).at exx
      obtain ⟨p0, p1, p2, p3, p4⟩ := hc5 (n := j * 5) hc
      clear hc
      have HE := Lib.hid exx
      clear exx
      by_cases hsteps : s.steps = s.fuel
      · have HF := Lib.hid hsteps
        clear hsteps
        go_wp2_with (first
          | (go_at_call 98; refine (step_no B T _ _ _ _ s ex _ (HB.out.below (by repeat (first | (with_reducible first | exact Below.refl _ _ | assumption | exact ext_box _) | (with_reducible apply Below.drew) | ((with_reducible refine Below.setCell ?_ ?hs _); (case hs => first | (simp; done) | (simp; omega) | omega)) | ((with_reducible refine Below.alloc ?_ ?hs _); (case hs => first | (simp; done) | (simp; omega) | omega))))) HF.out).mono ?_; rintro e w1 ⟨rfl, hb1⟩; have HB1 := Below.then_ (w := wr) (by repeat (first | (with_reducible first | exact Below.refl _ _ | assumption | exact ext_box _) | (with_reducible apply Below.drew) | ((with_reducible refine Below.setCell ?_ ?hs _); (case hs => first | (simp; done) | (simp; omega) | omega)) | ((with_reducible refine Below.alloc ?_ ?hs _); (case hs => first | (simp; done) | (simp; omega) | omega)))) hb1)
          | (go_at_call 96; refine (end_c B T _ _ At (some ⟨G, 0, none⟩) s.trace.length ct 32 cG s ex _ 3 0 ⟨w.heap.size, 0, none⟩ (HB.out.below HB1) ((HB1.cell z3).trans c3)).mono ?_; rintro e w2 ⟨o, rfl, ho1, ho2, hb2⟩; have HB2 := Below.then_ (w := wr) HB1 hb2))
        refine bodyPost_ret (v := .tuple #[.int .i64 0, .pointer (some ⟨o, 0, none⟩)]) (by simp [results, Tryd.results68, go_sem]) rfl (blk_end HW.out H4.out HB2 ho1 (Nat.le_trans HB1.size ho2) (HN.out.trans (runS_no HF.out)) rfl)
      · have hlt2 : s.steps < s.fuel := by omega
        have HL2 := Lib.hid hlt2
        have hargs := HO.out.args
        have HAR := Lib.hid hargs
        clear hargs
        have HG1 := Lib.hid (HG.out j x HE.out)
        have HNC := Lib.hid (HO.out.cells)
        clear hsteps
        go_wp2_with (
          (go_at_call 98; refine (step_yes B T _ _ _ _ s ex _ (HB.out.below (by repeat (first | (with_reducible first | exact Below.refl _ _ | assumption | exact ext_box _) | (with_reducible apply Below.drew) | ((with_reducible refine Below.setCell ?_ ?hs _); (case hs => first | (simp; done) | (simp; omega) | omega)) | ((with_reducible refine Below.alloc ?_ ?hs _); (case hs => first | (simp; done) | (simp; omega) | omega))))) hs0 hlt2 hmx).mono ?_; rintro e w1 ⟨rfl, hk1, hcg1⟩))
        have HWI : Hid (Below wr.heap.size wr (wr.alloc (.cells #[.int .i64 x.op, .int .i64 x.dst, .int .i64 x.a, .int .i64 x.b, .int .i64 x.imm] 72))) := Lib.hid ((Below.refl _ _).alloc (Nat.le_refl _) _)
        have HS1 := Lib.hid ((HS.out.more HWI.out [wr.heap.size] (fun y hy => by simp at hy; subst hy; simp)).step (w' := w1) (fun At' ct' hk' => by obtain ⟨rfl, rfl⟩ := bk_eq (HB.out.below HWI.out) hk'; exact hk1) hcg1)
        have KI := Lib.hid ((Bk.made wr 72 (il x)).chg hcg1 (by intro e; omega))
        have K3' := Lib.hid ((H3.out.below HWI.out).chg hcg1 (by intro e; exact absurd e (by omega)))
        have K5' := Lib.hid ((H5.out.below HWI.out).chg hcg1 (by intro e; have := H5.out.lt; omega))
        have zw1 : wr.heap.size < w1.heap.size := by have := hcg1.size; simp at this; omega
        have HW01 := Lib.hid (show Below W0.heap.size W0 w1 by obtain ⟨_, _, _, _, _, hb, _⟩ := HS1.out; exact hb)
        have HCI := Lib.hid (((HCH.out.alloc (.cells #[.int .i64 x.op, .int .i64 x.dst, .int .i64 x.a, .int .i64 x.b, .int .i64 x.imm] 72)).trans (hcg1.mono (T := Tn X B) fun k _ e => .inl e)))
        have HND := Lib.hid (fun W (hb : Below w1.heap.size w1 W) => nodeOf_c B A ca (step s) x W ((hb.cell (p := ⟨B, 0, none⟩) (by show B < _; omega)).trans (hk1.cell 0 rfl)) (by have := hb.size; omega) (by rw [show (step s).args = s0.args from HAR.out]; exact hA.keep (fun k hk => (HW01.out.trans (hb.mono HW01.out.size)).block k hk)) HO.out.nargs HG1.out.1 HG1.out.2.1 (fun e => by rcases HG1.out.2.2.2.2.2 with h | h | h <;> omega))
        have HDO := Lib.hid (fun W (hb : Below w1.heap.size w1 W) => do_any W0 ([wr.heap.size] ++ Y) B T ex A ca D cD G cG (step s) W x n (HS1.out.below hb) HG1.out (by rw [show (step s).cells.length = s0.cells.length from HNC.out]; exact hn) (by show s.trace.length ≤ _; omega))
        have KS := Lib.hid (fun w' (hc : Chg (Tn ([wr.heap.size] ++ Y) B) w1 w') => show w'.cell? ⟨w.heap.size, 0, none⟩ = some (.pointer (some ⟨B, 0, none⟩)) ∧ w'.cell? ⟨wr.heap.size, 0, none⟩ = some (.int .i64 x.op) ∧ w'.cell? ⟨wr.heap.size, 1, none⟩ = some (.int .i64 x.dst) ∧ w'.cell? ⟨wr.heap.size, 2, none⟩ = some (.int .i64 x.a) ∧ w'.cell? ⟨wr.heap.size, 3, none⟩ = some (.int .i64 x.b) ∧ w'.cell? ⟨wr.heap.size, 4, none⟩ = some (.int .i64 x.imm) by
          have b3 := K3'.out.tn hc (by simp [HY3.out]) (by omega)
          have bI := KI.out.tn hc (by simp) (by omega)
          exact ⟨b3.cell 0 rfl, bI.cell 0 rfl, bI.cell 1 rfl, bI.cell 2 rfl, bI.cell 3 rfl, bI.cell 4 rfl⟩)
        obtain ⟨y0, y1, y2, y3, y4, y5⟩ := KS.out w1 (Chg.refl _ _)
        clear hcg1 hk1 p0 p1 p2 p3 p4 c3
        cases hx : exec x (step s) with
        | none =>
          have HX2 := Lib.hid hx
          clear hx
          go_region_held3 (fun w' => w'.cell? ⟨w.heap.size, 0, none⟩ = some (.pointer (some ⟨B, 0, none⟩)) ∧ w'.cell? ⟨wr.heap.size, 0, none⟩ = some (.int .i64 x.op) ∧ w'.cell? ⟨wr.heap.size, 1, none⟩ = some (.int .i64 x.dst) ∧ w'.cell? ⟨wr.heap.size, 2, none⟩ = some (.int .i64 x.a) ∧ w'.cell? ⟨wr.heap.size, 3, none⟩ = some (.int .i64 x.b) ∧ w'.cell? ⟨wr.heap.size, 4, none⟩ = some (.int .i64 x.imm)) ((refine KS.out _ ?_; (repeat (first | (with_reducible first | exact Chg.refl _ _ | assumption) | (with_reducible refine Chg.drew ?_) | ((with_reducible refine Chg.setCell ?_ ?hs _); (case hs => first | (simp; done) | (simp; omega) | omega)) | (with_reducible refine Chg.alloc ?_ _)))))
            (first
            | (go_at_call 100; refine (HND.out _ (by (repeat (first | (with_reducible first | exact Below.refl _ _ | assumption | exact ext_box _) | (with_reducible apply Below.drew) | ((with_reducible refine Below.setCell ?_ ?hs _); (case hs => first | (simp; done) | (simp; omega) | omega)) | ((with_reducible refine Below.alloc ?_ ?hs _); (case hs => first | (simp; done) | (simp; omega) | omega)))))).mono ?_; rintro e w2 ⟨rfl, hb2⟩; have HB2 : Below w1.heap.size w1 w2 := Below.then_ (by (repeat (first | (with_reducible first | exact Below.refl _ _ | assumption | exact ext_box _) | (with_reducible apply Below.drew) | ((with_reducible refine Below.setCell ?_ ?hs _); (case hs => first | (simp; done) | (simp; omega) | omega)) | ((with_reducible refine Below.alloc ?_ ?hs _); (case hs => first | (simp; done) | (simp; omega) | omega))))) hb2; have HC2 : Chg (Tn ([wr.heap.size] ++ Y) B) w1 w2 := (Chg.refl _ _).call HB2)
            | (go_at_call 99; have hdo := HDO.out; rw [HX2.out] at hdo; refine (hdo _ (by (repeat (first | (with_reducible first | exact Below.refl _ _ | assumption | exact ext_box _) | (with_reducible apply Below.drew) | ((with_reducible refine Below.setCell ?_ ?hs _); (case hs => first | (simp; done) | (simp; omega) | omega)) | ((with_reducible refine Below.alloc ?_ ?hs _); (case hs => first | (simp; done) | (simp; omega) | omega)))))).mono ?_; rintro e w3 ⟨hc3, rfl, hst3⟩; have HC3 : Chg (Tn ([wr.heap.size] ++ Y) B) w1 w3 := Chg.trans (by (repeat (first | (with_reducible first | exact Chg.refl _ _ | assumption) | (with_reducible refine Chg.drew ?_) | ((with_reducible refine Chg.setCell ?_ ?hs _); (case hs => first | (simp; done) | (simp; omega) | omega)) | (with_reducible refine Chg.alloc ?_ _)))) hc3))
          all_goals
            obtain ⟨At2, ct2, g1, g2, g3, g4, g5, g6⟩ := hst3
            obtain ⟨j3, -⟩ := KS.out w3 HC3
            go_wp2_with (
              (go_at_call 96; refine (end_c B T _ _ At2 (some ⟨G, 0, none⟩) (step s).trace.length ct2 32 cG (step s) ex _ 2 0 ⟨w.heap.size, 0, none⟩ g1 j3).mono ?_; rintro e w4 ⟨o, rfl, ho1, ho2, hb4⟩))
            refine bodyPost_ret (v := .tuple #[.int .i64 0, .pointer (some ⟨o, 0, none⟩)]) (by simp [results, Tryd.results68, go_sem]) rfl (blk_end g2 g4 hb4 ho1 ho2 (HN.out.trans (runS_trap HL2.out ((HIT.out j).symm.trans HE.out) HX2.out)) rfl)
        | some s' =>
          have HX2 := Lib.hid hx
          clear hx
          go_region_held3 (fun w' => w'.cell? ⟨w.heap.size, 0, none⟩ = some (.pointer (some ⟨B, 0, none⟩)) ∧ w'.cell? ⟨wr.heap.size, 0, none⟩ = some (.int .i64 x.op) ∧ w'.cell? ⟨wr.heap.size, 1, none⟩ = some (.int .i64 x.dst) ∧ w'.cell? ⟨wr.heap.size, 2, none⟩ = some (.int .i64 x.a) ∧ w'.cell? ⟨wr.heap.size, 3, none⟩ = some (.int .i64 x.b) ∧ w'.cell? ⟨wr.heap.size, 4, none⟩ = some (.int .i64 x.imm)) ((refine KS.out _ ?_; (repeat (first | (with_reducible first | exact Chg.refl _ _ | assumption) | (with_reducible refine Chg.drew ?_) | ((with_reducible refine Chg.setCell ?_ ?hs _); (case hs => first | (simp; done) | (simp; omega) | omega)) | (with_reducible refine Chg.alloc ?_ _)))))
            (first
            | (go_at_call 100; refine (HND.out _ (by (repeat (first | (with_reducible first | exact Below.refl _ _ | assumption | exact ext_box _) | (with_reducible apply Below.drew) | ((with_reducible refine Below.setCell ?_ ?hs _); (case hs => first | (simp; done) | (simp; omega) | omega)) | ((with_reducible refine Below.alloc ?_ ?hs _); (case hs => first | (simp; done) | (simp; omega) | omega)))))).mono ?_; rintro e w2 ⟨rfl, hb2⟩; have HB2 : Below w1.heap.size w1 w2 := Below.then_ (by (repeat (first | (with_reducible first | exact Below.refl _ _ | assumption | exact ext_box _) | (with_reducible apply Below.drew) | ((with_reducible refine Below.setCell ?_ ?hs _); (case hs => first | (simp; done) | (simp; omega) | omega)) | ((with_reducible refine Below.alloc ?_ ?hs _); (case hs => first | (simp; done) | (simp; omega) | omega))))) hb2; have HC2 : Chg (Tn ([wr.heap.size] ++ Y) B) w1 w2 := (Chg.refl _ _).call HB2)
            | (go_at_call 99; have hdo := HDO.out; rw [HX2.out] at hdo; refine (hdo _ (by (repeat (first | (with_reducible first | exact Below.refl _ _ | assumption | exact ext_box _) | (with_reducible apply Below.drew) | ((with_reducible refine Below.setCell ?_ ?hs _); (case hs => first | (simp; done) | (simp; omega) | omega)) | ((with_reducible refine Below.alloc ?_ ?hs _); (case hs => first | (simp; done) | (simp; omega) | omega)))))).mono ?_; rintro e w3 ⟨hc3, rfl, hst3⟩; have HC3 : Chg (Tn ([wr.heap.size] ++ Y) B) w1 w3 := Chg.trans (by (repeat (first | (with_reducible first | exact Chg.refl _ _ | assumption) | (with_reducible refine Chg.drew ?_) | ((with_reducible refine Chg.setCell ?_ ?hs _); (case hs => first | (simp; done) | (simp; omega) | omega)) | (with_reducible refine Chg.alloc ?_ _)))) hc3))
          all_goals
            have HS3 := Lib.hid (hst3.less (X' := Y) (fun x hx => List.mem_append_right _ hx) (HX.out _ HBX.out))
            have HK3 := Lib.hid (K3'.out.tn HC3 (List.mem_append_right _ HY3.out) (by omega))
            have HK5 := Lib.hid (K5'.out.tn HC3 (List.mem_append_right _ HY5.out) (by have := H5.out.lt; omega))
            clear hst3
            go_wp2
            go_roundw
            case rel => exact ⟨j + 1, s', by omega, by go_num, HS3.out, HO.out.go HL2.out HX2.out, HN.out.trans (runS_go HL2.out ((HIT.out j).symm.trans HE.out) HX2.out), HK3.out, HK5.out, HCI.out.trans (HC3.mono fun k _ hk => hk.imp id fun hk hm => hk (List.mem_append_right _ (HX.out _ hm)))⟩
            case measure => simp [intOf]; omega
    · have HE := Lib.hid (show (Bf b).1[j]? = none by rw [← HIT.out j]; exact List.getElem?_eq_none (by omega))
      by_cases hsteps : s.steps = s.fuel
      · have HF := Lib.hid hsteps
        clear hsteps
        go_wp2_with (first
          | (go_at_call 98; refine (step_no B T _ _ _ _ s ex _ (HB.out.below (by repeat (first | (with_reducible first | exact Below.refl _ _ | assumption | exact ext_box _) | (with_reducible apply Below.drew) | ((with_reducible refine Below.setCell ?_ ?hs _); (case hs => first | (simp; done) | (simp; omega) | omega)) | ((with_reducible refine Below.alloc ?_ ?hs _); (case hs => first | (simp; done) | (simp; omega) | omega))))) HF.out).mono ?_; rintro e w1 ⟨rfl, hb1⟩; have HB1 := Below.then_ (w := wr) (by repeat (first | (with_reducible first | exact Below.refl _ _ | assumption | exact ext_box _) | (with_reducible apply Below.drew) | ((with_reducible refine Below.setCell ?_ ?hs _); (case hs => first | (simp; done) | (simp; omega) | omega)) | ((with_reducible refine Below.alloc ?_ ?hs _); (case hs => first | (simp; done) | (simp; omega) | omega)))) hb1)
          | (go_at_call 96; refine (end_c B T _ _ At (some ⟨G, 0, none⟩) s.trace.length ct 32 cG s ex _ 3 0 ⟨w.heap.size, 0, none⟩ (HB.out.below HB1) ((HB1.cell z3).trans c3)).mono ?_; rintro e w2 ⟨o, rfl, ho1, ho2, hb2⟩; have HB2 := Below.then_ (w := wr) HB1 hb2))
        refine bodyPost_ret (v := .tuple #[.int .i64 0, .pointer (some ⟨o, 0, none⟩)]) (by simp [results, Tryd.results68, go_sem]) rfl (blk_end HW.out H4.out HB2 ho1 (Nat.le_trans HB1.size ho2) (HN.out.trans (runS_no HF.out)) rfl)
      · have hlt2 : s.steps < s.fuel := by omega
        have HL2 := Lib.hid hlt2
        have HCL := Lib.hid (show (s.cells.length : Int) = n by rw [HO.out.cells]; exact hn)
        have HTB := Lib.hid (show (Bf b).2 = t by rw [HBB.out])
        clear hsteps
        by_cases hk3 : t.kind = 3
        · have e3 : (t.kind == 3) = true := by simp [hk3]
          have HK3 := Lib.hid hk3
          clear hk3
          go_wp2_with (
            (go_at_call 98; refine (step_yes B T _ _ _ _ s ex _ (HB.out.below (by repeat (first | (with_reducible first | exact Below.refl _ _ | assumption | exact ext_box _) | (with_reducible apply Below.drew) | ((with_reducible refine Below.setCell ?_ ?hs _); (case hs => first | (simp; done) | (simp; omega) | omega)) | ((with_reducible refine Below.alloc ?_ ?hs _); (case hs => first | (simp; done) | (simp; omega) | omega))))) hs0 hlt2 hmx).mono ?_; rintro e w1 ⟨rfl, hk1, hcg1⟩; have HS1 := Lib.hid (HS.out.step (w' := w1) (fun At' ct' hk' => by obtain ⟨rfl, rfl⟩ := bk_eq HB.out hk'; exact hk1) hcg1); have K3' := Lib.hid (H3.out.chg hcg1 (by intro e; exact absurd e (by omega))); have K5' := Lib.hid (H5.out.chg hcg1 (by intro e; have := H5.out.lt; omega)); have HCG := Lib.hid (HCH.out.trans (hcg1.mono (T := Tn X B) fun k _ e => .inl e)); have HK1 := Lib.hid hk1; have y3 := K3'.out.cell 0 (v := .pointer (some ⟨B, 0, none⟩)) rfl; have y5 := K5'.out.cell 0 (v := .int .i64 t.kind) rfl; have y6 := K5'.out.cell 1 (v := .int .i64 t.a) rfl; have y7 := K5'.out.cell 2 (v := .int .i64 t.to) rfl; have y8 := K5'.out.cell 3 (v := .int .i64 t.els) rfl; have y9 := hk1.cell 5 (v := .slice (some ⟨D, 0, none⟩) s.cells.length cD) rfl; have zB1 := hk1.lt; have z31 := K3'.out.lt; have z51 := K5'.out.lt; clear hcg1 hk1 c3))
          have HQ := Lib.hid (show ∀ v, t.a = v → t.kind ≠ 1 → 0 ≤ t.a ∧ t.a < s.cells.length ∧ w1.cell? ⟨D, t.a.toNat, none⟩ = some (.int .i64 (getI s.cells t.a)) from fun _ _ hk => by
            have h1 : 0 ≤ t.a ∧ t.a < n := by rcases HT.out with h | h | h <;> omega
            have h2 : t.a < s.cells.length := by rw [HCL.out]; exact h1.2
            obtain ⟨_, _, _, hr, _⟩ := HS1.out
            exact ⟨h1.1, h2, (hr.reg (r := t.a) (by show t.a.toNat < s.cells.length; omega)).1⟩)
          obtain ⟨q1, q2, q3⟩ := HQ.out _ rfl (by rw [HK3.out]; decide)
          have zD1 := World.block_lt_of_cell? w1 _ q3
          have KS := Lib.hid (fun w' (hb : Below w1.heap.size w1 w') => (⟨(hb.cell z31).trans y3, (hb.cell z51).trans y6, (hb.cell zB1).trans y9, (hb.cell zD1).trans q3⟩ : w'.cell? ⟨w.heap.size, 0, none⟩ = some (.pointer (some ⟨B, 0, none⟩)) ∧ w'.cell? ⟨w.heap.size + 1, 1, none⟩ = some (.int .i64 t.a) ∧ w'.cell? ⟨B, 5, none⟩ = some (.slice (some ⟨D, 0, none⟩) s.cells.length cD) ∧ w'.cell? ⟨D, t.a.toNat, none⟩ = some (.int .i64 (getI s.cells t.a))))
          have HEN := Lib.hid (fun W (hb : Below w1.heap.size w1 W) => end_c B T _ _ At (some ⟨G, 0, none⟩) (step s).trace.length ct 32 cG (step s) ex W 1 (getI s.cells t.a) ⟨w.heap.size, 0, none⟩ (HK1.out.below hb) ((hb.cell z31).trans y3))
          go_region_held3 (fun w' => w'.cell? ⟨w.heap.size, 0, none⟩ = some (.pointer (some ⟨B, 0, none⟩)) ∧ w'.cell? ⟨w.heap.size + 1, 1, none⟩ = some (.int .i64 t.a) ∧ w'.cell? ⟨B, 5, none⟩ = some (.slice (some ⟨D, 0, none⟩) s.cells.length cD) ∧ w'.cell? ⟨D, t.a.toNat, none⟩ = some (.int .i64 (getI s.cells t.a))) ((refine KS.out _ ?_; (repeat (first | (with_reducible first | exact Below.refl _ _ | assumption | exact ext_box _) | (with_reducible apply Below.drew) | ((with_reducible refine Below.setCell ?_ ?hs _); (case hs => first | (simp; done) | (simp; omega) | omega)) | ((with_reducible refine Below.alloc ?_ ?hs _); (case hs => first | (simp; done) | (simp; omega) | omega))))))
            (first
            | (go_at_call 96; refine (HEN.out _ (by (repeat (first | (with_reducible first | exact Below.refl _ _ | assumption | exact ext_box _) | (with_reducible apply Below.drew) | ((with_reducible refine Below.setCell ?_ ?hs _); (case hs => first | (simp; done) | (simp; omega) | omega)) | ((with_reducible refine Below.alloc ?_ ?hs _); (case hs => first | (simp; done) | (simp; omega) | omega)))))).mono ?_; rintro e w4 ⟨o, rfl, ho1, ho2, hb4⟩; have HB4 : Below w1.heap.size w1 w4 := Below.then_ (by (repeat (first | (with_reducible first | exact Below.refl _ _ | assumption | exact ext_box _) | (with_reducible apply Below.drew) | ((with_reducible refine Below.setCell ?_ ?hs _); (case hs => first | (simp; done) | (simp; omega) | omega)) | ((with_reducible refine Below.alloc ?_ ?hs _); (case hs => first | (simp; done) | (simp; omega) | omega))))) hb4))
          all_goals
            obtain ⟨At2, ct2, g1, g2, g3, g4, g5, g6⟩ := HS1.out
            obtain ⟨rfl, rfl⟩ := bk_eq HK1.out g1
            go_wp2
            refine bodyPost_ret (v := .tuple #[.int .i64 0, .pointer (some ⟨o, 0, none⟩)]) (by simp [results, Tryd.results68, go_sem]) rfl (blk_end g2 g4 HB4 ho1 (by exact ho2) (HN.out.trans ((runS_ret HL2.out HE.out (by rw [HTB.out, HK3.out])).trans (by rw [HTB.out]))) rfl)
        · have e3 : (t.kind == 3) = false := by simp [hk3]
          have HK3 := Lib.hid hk3
          by_cases hk2 : t.kind = 2
          · have e2 : (t.kind == 2) = true := by simp [hk2]
            have HK2 := Lib.hid hk2
            clear hk3 hk2
            go_wp2_with (
            (go_at_call 98; refine (step_yes B T _ _ _ _ s ex _ (HB.out.below (by repeat (first | (with_reducible first | exact Below.refl _ _ | assumption | exact ext_box _) | (with_reducible apply Below.drew) | ((with_reducible refine Below.setCell ?_ ?hs _); (case hs => first | (simp; done) | (simp; omega) | omega)) | ((with_reducible refine Below.alloc ?_ ?hs _); (case hs => first | (simp; done) | (simp; omega) | omega))))) hs0 hlt2 hmx).mono ?_; rintro e w1 ⟨rfl, hk1, hcg1⟩; have HS1 := Lib.hid (HS.out.step (w' := w1) (fun At' ct' hk' => by obtain ⟨rfl, rfl⟩ := bk_eq HB.out hk'; exact hk1) hcg1); have K3' := Lib.hid (H3.out.chg hcg1 (by intro e; exact absurd e (by omega))); have K5' := Lib.hid (H5.out.chg hcg1 (by intro e; have := H5.out.lt; omega)); have HCG := Lib.hid (HCH.out.trans (hcg1.mono (T := Tn X B) fun k _ e => .inl e)); have HK1 := Lib.hid hk1; have y3 := K3'.out.cell 0 (v := .pointer (some ⟨B, 0, none⟩)) rfl; have y5 := K5'.out.cell 0 (v := .int .i64 t.kind) rfl; have y6 := K5'.out.cell 1 (v := .int .i64 t.a) rfl; have y7 := K5'.out.cell 2 (v := .int .i64 t.to) rfl; have y8 := K5'.out.cell 3 (v := .int .i64 t.els) rfl; have y9 := hk1.cell 5 (v := .slice (some ⟨D, 0, none⟩) s.cells.length cD) rfl; have zB1 := hk1.lt; have z31 := K3'.out.lt; have z51 := K5'.out.lt; clear hcg1 hk1 c3))
            have HQ := Lib.hid (show ∀ v, t.a = v → t.kind ≠ 1 → 0 ≤ t.a ∧ t.a < s.cells.length ∧ w1.cell? ⟨D, t.a.toNat, none⟩ = some (.int .i64 (getI s.cells t.a)) from fun _ _ hk => by
              have h1 : 0 ≤ t.a ∧ t.a < n := by rcases HT.out with h | h | h <;> omega
              have h2 : t.a < s.cells.length := by rw [HCL.out]; exact h1.2
              obtain ⟨_, _, _, hr, _⟩ := HS1.out
              exact ⟨h1.1, h2, (hr.reg (r := t.a) (by show t.a.toNat < s.cells.length; omega)).1⟩)
            obtain ⟨q1, q2, q3⟩ := HQ.out _ rfl (by rw [HK2.out]; decide)
            by_cases hz : getI s.cells t.a = 0
            · have e4 : (getI s.cells t.a == 0) = true := by simp [hz]
              have HZ := Lib.hid hz
              clear hz
              go_quiet (fail)
              go_wp2
              exact bodyPost_ret (v := .tuple #[.int .i64 t.els, .pointer none]) (by simp [results, Tryd.results68, go_sem]) rfl (.inl ⟨t.els, step s, rfl, (HS1.out.below (below_drewN (Below.refl _ _) _)).less HX.out HBX.out, HO.out.step HL2.out, (by have := HO.out.lo; have := HL2.out; show s0.steps < s.steps + 1; omega), HN.out.trans ((runS_next HL2.out HE.out (by rw [HTB.out]; exact HK3.out)).trans (by rw [HTB.out]; simp [nextB, HK2.out, HZ.out])), by rw [HTB.out]; simp [targets, HK2.out], HCG.out.drewN _⟩)
            · have e4 : (getI s.cells t.a == 0) = false := by simp [hz]
              have HZ := Lib.hid hz
              clear hz
              go_quiet (fail)
              go_wp2
              exact bodyPost_ret (v := .tuple #[.int .i64 t.to, .pointer none]) (by simp [results, Tryd.results68, go_sem]) rfl (.inl ⟨t.to, step s, rfl, (HS1.out.below (below_drewN (Below.refl _ _) _)).less HX.out HBX.out, HO.out.step HL2.out, (by have := HO.out.lo; have := HL2.out; show s0.steps < s.steps + 1; omega), HN.out.trans ((runS_next HL2.out HE.out (by rw [HTB.out]; exact HK3.out)).trans (by rw [HTB.out]; simp [nextB, HZ.out])), by rw [HTB.out]; simp [targets, HK2.out], HCG.out.drewN _⟩)
          · have e2 : (t.kind == 2) = false := by simp [hk2]
            have HK2 := Lib.hid hk2
            have HK1' := Lib.hid (show t.kind = 1 by rcases HT.out with h | h | h <;> omega)
            clear hk3 hk2
            go_wp2_with (
            (go_at_call 98; refine (step_yes B T _ _ _ _ s ex _ (HB.out.below (by repeat (first | (with_reducible first | exact Below.refl _ _ | assumption | exact ext_box _) | (with_reducible apply Below.drew) | ((with_reducible refine Below.setCell ?_ ?hs _); (case hs => first | (simp; done) | (simp; omega) | omega)) | ((with_reducible refine Below.alloc ?_ ?hs _); (case hs => first | (simp; done) | (simp; omega) | omega))))) hs0 hlt2 hmx).mono ?_; rintro e w1 ⟨rfl, hk1, hcg1⟩; have HS1 := Lib.hid (HS.out.step (w' := w1) (fun At' ct' hk' => by obtain ⟨rfl, rfl⟩ := bk_eq HB.out hk'; exact hk1) hcg1); have K3' := Lib.hid (H3.out.chg hcg1 (by intro e; exact absurd e (by omega))); have K5' := Lib.hid (H5.out.chg hcg1 (by intro e; have := H5.out.lt; omega)); have HCG := Lib.hid (HCH.out.trans (hcg1.mono (T := Tn X B) fun k _ e => .inl e)); have HK1 := Lib.hid hk1; have y3 := K3'.out.cell 0 (v := .pointer (some ⟨B, 0, none⟩)) rfl; have y5 := K5'.out.cell 0 (v := .int .i64 t.kind) rfl; have y6 := K5'.out.cell 1 (v := .int .i64 t.a) rfl; have y7 := K5'.out.cell 2 (v := .int .i64 t.to) rfl; have y8 := K5'.out.cell 3 (v := .int .i64 t.els) rfl; have y9 := hk1.cell 5 (v := .slice (some ⟨D, 0, none⟩) s.cells.length cD) rfl; have zB1 := hk1.lt; have z31 := K3'.out.lt; have z51 := K5'.out.lt; clear hcg1 hk1 c3))
            go_quiet (fail)
            go_wp2
            exact bodyPost_ret (v := .tuple #[.int .i64 t.to, .pointer none]) (by simp [results, Tryd.results68, go_sem]) rfl (.inl ⟨t.to, step s, rfl, (HS1.out.below (below_drewN (Below.refl _ _) _)).less HX.out HBX.out, HO.out.step HL2.out, (by have := HO.out.lo; have := HL2.out; show s0.steps < s.steps + 1; omega), HN.out.trans ((runS_next HL2.out HE.out (by rw [HTB.out]; exact HK3.out)).trans (by rw [HTB.out]; simp [nextB, HK2.out])), by rw [HTB.out]; simp [targets, HK1'.out], HCG.out.drewN _⟩)
end Go.Proofs.YtnnfjjgohhicjaaDoor
