/- Contracts: (*flow).meet, (*flow).nearest. -/
import Derived.Test.YtnbkgaofdkkdnaaDoorHd
import Derived.Test.YtnbkgaofdkkdnaaDoorHf
namespace Go.Proofs.YtnbkgaofdkkdnaaDoor
open Go.RowKit
set_option linter.unusedSimpArgs false
set_option linter.unusedVariables false
set_option maxRecDepth 100000
open Dom

/-- What the numbering's array says of known blocks. -/
def PostAt (post : Nat → Nat) (par : Nat → Option Nat) (Q : List Int) : Prop := ∀ x, (par x).isSome → Q[x]? = some ((post x : Nat) : Int)
def RetM (par : Nat → Option Nat) (x y : Nat) (w : World) (e : Ending) (w' : World) : Prop :=
  (∃ M : Nat, e = .returned (.int .i64 (M : Int)) ∧ (par M).isSome ∧ ∀ z, Anc par M z ↔ Anc par x z ∧ Anc par y z) ∧ Below w.heap.size w w'
set_option maxHeartbeats 2000000 in
theorem meet_c (a : FlowA) (n : Nat) (P : List (List Int)) (I Q : List Int) (L : List Bool) (D : List Int) (vo : Value) (w : World) (hF : FlowM a n P I Q L D vo w) (post : Nat → Nat) (PP : Nat) (hm : MtOk post (parL I) PP) (hQ : PostAt post (parL I) Q)
    (x y : Nat) (hx : (parL I x).isSome) (hy : (parL I y).isSome) (hn : n ≤ 1048576) (hP : PP ≤ n) :
    Calls Tryd.prog 98 #[.pointer (some ⟨a.g, 0, none⟩), .int .i64 x, .int .i64 y] w (RetM (parL I) x y w) := by
  have HF := Lib.hid (fun u : Ext w => hF.below u.hb)
  have HM := Lib.hid hm
  have HQ := Lib.hid hQ
  have HST := Lib.hid (show MeetSt (parL I) x y x y from ⟨hx, hy, fun _ => Iff.rfl⟩)
  have HI : Hid (∀ z, (parL I z).isSome → z < n) := Lib.hid fun z hz => by have := parL_lt hz; rw [hF.idom.len] at this; exact this
  have hxn := HI.out x hx
  have hyn := HI.out y hy
  clear hF hm hQ hx hy
  go_enter Tryd.func98, Tryd.ntmps98
  go_wp2
  go_loopw [1, 2] (fun va vb wr => ∃ (p q : Nat) (u : Ext w), va = .int .i64 p ∧ vb = .int .i64 q ∧ p < n ∧ q < n ∧ MeetSt (parL I) x y p q ∧ wr = u.w) (fun va vb _ => 2 * PP - post (intOf va).toNat - post (intOf vb).toNat)
  case atStart => exact ⟨x, y, Ext.self w, rfl, rfl, hxn, hyn, HST.out, rfl⟩
  case round =>
    obtain ⟨p, q, u, rfl, rfl, hp, hq, hs, rfl⟩ := hrel
    have HS := Lib.hid hs
    clear hs
    by_cases hpq : p = q
    · subst hpq
      go_wp2
      go_ret
      exact ⟨⟨p, rfl, HS.out.fin⟩, u.hb⟩
    · have hb : ((p : Int) != (q : Int)) = true := by simp; omega
      go_wp2
      go_loopw [1] (fun va wr => ∃ (p' : Nat) (u : Ext w), va = .int .i64 p' ∧ p' < n ∧ MeetSt (parL I) x y p' q ∧ (p' = p ∨ post p < post p') ∧ wr = u.w) (fun va _ => PP - post (intOf va).toNat)
      case atStart => exact ⟨p, u, rfl, hp, HS.out, .inl rfl, rfl⟩
      case round =>
        clear u
        obtain ⟨p', u, rfl, hp', hs, hm1, rfl⟩ := hrel
        have HS1 := Lib.hid hs
        have HM1 := Lib.hid hm1
        have e1 := HQ.out p' hs.ka
        have e2 := HQ.out q hs.kb
        have KG := fun v : Ext u.w => ((HF.out u).below v.hb).cells.2.2.1
        have KP := fun v : Ext u.w => (((HF.out u).below v.hb).getQ e1).1
        have KR := fun v : Ext u.w => (((HF.out u).below v.hb).getQ e2).1
        have hI1 := (HF.out u).cells.2.1
        clear hs hm1 e1 e2
        by_cases hl : post p' < post q
        · obtain ⟨r, hr, hpr, hs2⟩ := HS1.out.stepA HM.out hl
          have hrn := HI.out r hs2.ka
          have htop := HM.out.top r hs2.ka
          have HS2 := Lib.hid hs2
          have KI := fun v : Ext u.w => (((HF.out u).below v.hb).getI (parL_get hr)).1
          have KJ := fun v : Ext u.w => ((HF.out u).below v.hb).cells.2.1
          clear hr hs2
          go_wp2
          refine wp_region_ext (W := u.w) (by kernel_rfl) (by kernel_rfl) ⟨Ext.self u.w, rfl⟩ ?_
          (repeat (rw [wpQuiet_cons]; go_simp)); rw [wpQuiet_nil']
          intro u2
          have ki := KI u2
          have kj := KJ u2
          go_wp2
          go_roundw
          case rel => exact ⟨r, ⟨u2.w, u.hb.trans (u2.hb.mono u.hb.size)⟩, rfl, hrn, HS2.out, .inr (by rcases HM1.out with e | e; rw [← e]; exact hpr; omega), rfl⟩
          case measure => simp [intOf]; omega
        · go_wp2
          refine wp_region_ext (W := u.w) (by kernel_rfl) (by kernel_rfl) ⟨Ext.self u.w, rfl⟩ ?_
          (repeat (rw [wpQuiet_cons]; go_simp)); rw [wpQuiet_nil']
          intro u2
          obtain ⟨u3, hu3⟩ : ∃ u3 : Ext w, u2.w = u3.w := ⟨⟨u2.w, u.hb.trans (u2.hb.mono u.hb.size)⟩, rfl⟩
          rw [hu3]
          clear KG KP KR hI1 hu3 u2
          go_wp2
          go_loopw [2] (fun vb wr => ∃ (q' : Nat) (u : Ext w), vb = .int .i64 q' ∧ q' < n ∧ MeetSt (parL I) x y p' q' ∧ (q' = q ∨ post q < post q') ∧ wr = u.w) (fun vb _ => PP - post (intOf vb).toNat)
          case atStart => exact ⟨q, u3, rfl, hq, HS1.out, .inl rfl, rfl⟩
          case round =>
            clear u u3
            obtain ⟨q', u, rfl, hq', hs, hm2, rfl⟩ := hrel
            have HS2 := Lib.hid hs
            have HM2 := Lib.hid hm2
            have e1 := HQ.out p' hs.ka
            have e2 := HQ.out q' hs.kb
            have KG := fun v : Ext u.w => ((HF.out u).below v.hb).cells.2.2.1
            have KP := fun v : Ext u.w => (((HF.out u).below v.hb).getQ e1).1
            have KR := fun v : Ext u.w => (((HF.out u).below v.hb).getQ e2).1
            clear hs hm2 e1 e2
            by_cases hl2 : post q' < post p'
            · obtain ⟨r, hr, hpr, hs2⟩ := HS2.out.stepB HM.out hl2
              have hrn := HI.out r hs2.kb
              have htop := HM.out.top r hs2.kb
              have HS3 := Lib.hid hs2
              have KI := fun v : Ext u.w => (((HF.out u).below v.hb).getI (parL_get hr)).1
              have KJ := fun v : Ext u.w => ((HF.out u).below v.hb).cells.2.1
              clear hr hs2
              go_wp2
              refine wp_region_ext (W := u.w) (by kernel_rfl) (by kernel_rfl) ⟨Ext.self u.w, rfl⟩ ?_
              (repeat (rw [wpQuiet_cons]; go_simp)); rw [wpQuiet_nil']
              intro u2
              have ki := KI u2
              have kj := KJ u2
              go_wp2
              go_roundw
              case rel => exact ⟨r, ⟨u2.w, u.hb.trans (u2.hb.mono u.hb.size)⟩, rfl, hrn, HS3.out, .inr (by rcases HM2.out with e | e; rw [← e]; exact hpr; omega), rfl⟩
              case measure => simp [intOf]; omega
            · have HD : Hid (2 * PP - post p' - post q' < 2 * PP - post p - post q) := Lib.hid (by
                have h1 := HM.out.top p' HS2.out.ka
                have h2 := HM.out.top q' HS2.out.kb
                have h4 : ¬ (post p = post q) := fun e => hpq (HM.out.inj p q HS.out.ka HS.out.kb e)
                rcases HM1.out with e | e <;> rcases HM2.out with e2 | e2
                · subst e; subst e2; omega
                · subst e; omega
                · subst e2; omega
                · omega)
              go_wp2
              refine wp_region_ext (W := u.w) (by kernel_rfl) (by kernel_rfl) ⟨Ext.self u.w, rfl⟩ ?_
              (repeat (rw [wpQuiet_cons]; go_simp)); rw [wpQuiet_nil']
              intro u2
              go_wp2
              go_roundw
              case rel => exact ⟨p', q', ⟨u2.w, u.hb.trans (u2.hb.mono u.hb.size)⟩, rfl, rfl, hp', hq', HS2.out, rfl⟩
              case measure => have := HD.out; simp [intOf]; omega
/-- nearest's answer. -/
def RetN (rp : Nat → List Nat) (par : Nat → Option Nat) (b : Nat) (w : World) (e : Ending) (w' : World) : Prop := (∃ N : Nat, e = .returned (.int .i64 (N : Int)) ∧ Near rp par b N) ∧ Below w.heap.size w w'
set_option maxHeartbeats 2000000 in
theorem nearest_c (a : FlowA) (n : Nat) (P : List (List Int)) (I Q : List Int) (L : List Bool) (D : List Int) (vo : Value) (w : World) (hF : FlowM a n P I Q L D vo w) (post : Nat → Nat) (PP : Nat) (hm : MtOk post (parL I) PP) (hQ : PostAt post (parL I) Q)
    (bs : List Block) (b : Nat) (hbs : bs.length = n) (hPb : P[b]? = some (natI (predB bs b))) (hv : ∀ (x : Nat) v, I[x]? = some v → v = -1 ∨ 0 ≤ v) (hk : ∃ p ∈ rpB bs L b, (parL I p).isSome) (hn : n ≤ 1048576) (hP : PP ≤ n) :
    Calls Tryd.prog 67 #[.pointer (some ⟨a.g, 0, none⟩), .int .i64 b] w (RetN (rpB bs L) (parL I) b w) := by
  obtain ⟨A, A1, c1, hA, hrow, hc1, hC⟩ := hF.row hPb
  have HIL := Lib.hid (show I.length = n from hF.idom.len)
  have HLL := Lib.hid (show L.length = n from hF.reach.len)
  have hbn : b < n := by have := (List.getElem?_eq_some_iff.1 hPb).1; rw [hF.plen] at this; exact this
  have hpl : (predB bs b).length ≤ 2 * n := by rw [predB_len]; have := predM_len b bs 0; omega
  have HPL := Lib.hid (natI_len (predB bs b))
  have HPT := Lib.hid (fun p hp => show p < n from hbs ▸ predB_lt (bs := bs) (c := b) (p := p) hp)
  rw [natI_len] at hrow
  have HF := Lib.hid (fun u : Ext w => hF.below u.hb)
  have HME := Lib.hid (fun x y W (hF' : FlowM a n P I Q L D vo W) hx hy => meet_c a n P I Q L D vo W hF' post PP hm hQ x y hx hy hn hP)
  have HC := Lib.hid (fun u : Ext w => hC.below u.hb)
  have HR := Lib.hid (fun u : Ext w => (u.hb.cell (World.block_lt_of_cell? w _ hrow)).trans hrow)
  have HV := Lib.hid hv
  have HK := Lib.hid hk
  have hg0 := hF.cells.1
  rw [hA] at hg0
  clear hF hm hQ hPb hv hk hC
  obtain ⟨ps, hps⟩ : ∃ ps, ps = predB bs b := ⟨_, rfl⟩
  have HPS := Lib.hid hps
  rw [← hps] at HPT HPL HC HR hpl hrow
  clear hps
  go_enter Tryd.func67, Tryd.ntmps67
  go_wp2
  go_loopw [5, 16] (fun vd vi wr => ∃ (k : Nat) (d : Int) (u : Ext w), vi = .int .i64 k ∧ k ≤ ps.length ∧ vd = .int .i64 d ∧ NearL (parL I) ((ps.take k).filter fun p => L.getD p false) d ∧ (∀ N : Nat, d = (N : Int) → N < n) ∧ wr = u.w) (fun _ vi _ => ps.length - (intOf vi).toNat)
  case atStart => exact ⟨0, -1, Ext.self w, rfl, by omega, rfl, NearL.begin _, fun N h => by omega, rfl⟩
  case round =>
    obtain ⟨k, d, u, rfl, hkl, rfl, hnl, hdn, rfl⟩ := hrel
    have HNL := Lib.hid hnl
    have HDN := Lib.hid hdn
    clear hnl hdn
    by_cases hlt : k < ps.length
    · obtain ⟨p, ep⟩ := get_of_lt hlt
      have hpn := HPT.out p (List.mem_of_getElem? ep)
      obtain ⟨a3, _, hA3, rfl, hc⟩ := (HC.out u).at (natI_get ep)
      subst hA3
      have p0 := _root_.Go.Proofs.YtnbkgaofdkkdnaaDoor.hc1 (n := k * 1) hc
      rw [Nat.mul_one] at p0
      clear hc
      have HSN := Lib.hid (filt_snoc (q := fun p => L.getD p false) ep)
      clear ep
      obtain ⟨lp, elp⟩ := get_of_lt (xs := L) (k := p) (by rw [HLL.out]; exact hpn)
      obtain ⟨ip, eip⟩ := get_of_lt (xs := I) (k := p) (by rw [HIL.out]; exact hpn)
      have hlp : L.getD p false = lp := by rw [List.getD_eq_getElem?_getD, elp]; rfl
      have q1 := ((HF.out u).getL elp).1
      have q2 := ((HF.out u).getI eip).1
      have g1 := (HF.out u).cells.2.1
      have g3 := (HF.out u).cells.2.2.2.1
      have HLP := Lib.hid hlp
      have HIP := Lib.hid (HV.out p ip eip)
      have HEI := Lib.hid eip
      clear elp eip hlp
      cases lp
      · have HS2 := Lib.hid (show (ps.take (k + 1)).filter (fun p => L.getD p false) = (ps.take k).filter (fun p => L.getD p false) by rw [HSN.out, if_neg (by rw [HLP.out]; simp), List.append_nil])
        go_wp2
        go_roundw
        case rel => exact ⟨k + 1, d, u, by go_num, by omega, rfl, by rw [HS2.out]; exact HNL.out, HDN.out, rfl⟩
        case measure => simp [intOf]; omega
      · have HS2 := Lib.hid (show (ps.take (k + 1)).filter (fun p => L.getD p false) = (ps.take k).filter (fun p => L.getD p false) ++ [p] by rw [HSN.out, if_pos (by rw [HLP.out])])
        by_cases hi0 : ip < 0
        · have HPN := Lib.hid (parL_none HEI.out hi0)
          go_wp2
          go_roundw
          case rel => exact ⟨k + 1, d, u, by go_num, by omega, rfl, by rw [HS2.out]; exact HNL.out.skip HPN.out, HDN.out, rfl⟩
          case measure => simp [intOf]; omega
        · have HPN := Lib.hid (show (parL I p).isSome by rw [parL_some HEI.out (by omega)]; rfl)
          by_cases hd0 : d < 0
          · go_wp2
            go_roundw
            case rel => exact ⟨k + 1, p, u, by go_num, by omega, rfl, by rw [HS2.out]; exact HNL.out.first hd0 HPN.out, fun N h => by omega, rfl⟩
            case measure => simp [intOf]; omega
          · obtain ⟨N, rfl⟩ : ∃ N : Nat, d = N := ⟨d.toNat, by omega⟩
            have HNK := Lib.hid HNL.out.known
            go_wp2_with (go_at_call 98; refine (HME.out N p _ (HF.out u) HNK.out HPN.out).mono ?_; rintro e w1 ⟨⟨M, rfl, hM⟩, hb1⟩; have HMM := Lib.hid hM; clear hM; obtain ⟨u1, hu1⟩ := u.more hb1)
            go_roundw
            case rel => exact ⟨k + 1, M, u1, by go_num, by omega, rfl, by rw [HS2.out]; exact HNL.out.join HMM.out HPN.out, fun N h => by (obtain rfl : M = N := by omega); have := parL_lt HMM.out.1; rw [HIL.out] at this; exact this, rfl⟩
            case measure => simp [intOf]; omega
    · have HFN := Lib.hid (show NearL (parL I) (rpB bs L b) d by have := HNL.out; rwa [List.take_of_length_le (by omega), HPS.out] at this)
      go_wp2
      go_ret
      obtain ⟨N, hN, hNr⟩ := HFN.out.fin HK.out
      exact ⟨⟨N, ret_int hN, hNr⟩, u.hb⟩
end Go.Proofs.YtnbkgaofdkkdnaaDoor
