/- Contracts: spec.l1Word, l1Uses, l1PutInstr, l1PutTerm. -/
import Derived.Test.YtnnfjjgohhicjaaDoorEc
import Derived.Test.YtnnfjjgohhicjaaDoorKp
namespace Go.Proofs.YtnnfjjgohhicjaaDoor
open Go.RowKit
set_option linter.unusedSimpArgs false
set_option linter.unusedVariables false
set_option maxRecDepth 100000

def useL (op : Int) : List UInt8 := if op ≤ 2 then [100, 105] else if op ≤ 7 then [100, 97, 98] else if op = 8 then [100, 97] else if op = 9 then [97, 98] else if op = 10 then [97] else if op = 11 then [100, 97] else if op = 12 then [97] else [100]
def wordL (op : Int) : List UInt8 :=
  if op = 1 then [99, 111, 110, 115, 116] else if op = 2 then [97, 114, 103] else if op = 3 then [97, 100, 100] else if op = 4 then [115, 117, 98] else if op = 5 then [109, 117, 108] else if op = 6 then [100, 105, 118] else if op = 7 then [108, 101, 115, 115] else
  if op = 8 then [108, 111, 97, 100] else if op = 9 then [115, 116, 111, 114, 101] else if op = 10 then [111, 117, 116] else if op = 11 then [109, 111, 118, 101] else if op = 12 then [112, 117, 116] else [103, 101, 116]
theorem wordL_len (op : Int) : (wordL op).length ≤ 5 := by
  unfold wordL
  by_cases e1 : op = 1
  · rw [if_pos e1]; decide
  rw [if_neg e1]
  by_cases e2 : op = 2
  · rw [if_pos e2]; decide
  rw [if_neg e2]
  by_cases e3 : op = 3
  · rw [if_pos e3]; decide
  rw [if_neg e3]
  by_cases e4 : op = 4
  · rw [if_pos e4]; decide
  rw [if_neg e4]
  by_cases e5 : op = 5
  · rw [if_pos e5]; decide
  rw [if_neg e5]
  by_cases e6 : op = 6
  · rw [if_pos e6]; decide
  rw [if_neg e6]
  by_cases e7 : op = 7
  · rw [if_pos e7]; decide
  rw [if_neg e7]
  by_cases e8 : op = 8
  · rw [if_pos e8]; decide
  rw [if_neg e8]
  by_cases e9 : op = 9
  · rw [if_pos e9]; decide
  rw [if_neg e9]
  by_cases e10 : op = 10
  · rw [if_pos e10]; decide
  rw [if_neg e10]
  by_cases e11 : op = 11
  · rw [if_pos e11]; decide
  rw [if_neg e11]
  by_cases e12 : op = 12
  · rw [if_pos e12]; decide
  rw [if_neg e12]
  decide
theorem useL_len (op : Int) : (useL op).length ≤ 3 := by 
  unfold useL
  repeat' (first | decide | split)
theorem useL_mem {op : Int} {c : UInt8} (h : c ∈ useL op) : c = 100 ∨ c = 97 ∨ c = 98 ∨ c = 105 := by
  unfold useL at h
  repeat' split at h
  all_goals (simp only [List.mem_cons, List.not_mem_nil, or_false] at h; first | (rcases h with rfl | rfl | rfl <;> simp) | (rcases h with rfl | rfl <;> simp) | (subst h; simp))
def fld (x : Instr) (c : UInt8) : Int := if c = 100 then x.dst else if c = 97 then x.a else if c = 98 then x.b else x.imm
def fieldsL (x : Instr) : List Int := (useL x.op).map (fld x)
def instrL (x : Instr) : List UInt8 := lineB (wordL x.op) (fieldsL x)
def termL (t : Term) : List UInt8 := if t.kind = 1 then lineB [106, 117, 109, 112] [t.to] else if t.kind = 3 then lineB [114, 101, 116] [t.a] else lineB [98, 114, 97, 110, 99, 104] [t.a, t.to, t.els]
set_option maxHeartbeats 1000000 in
theorem word_c (op : Int) (h1 : 1 ≤ op) (h2 : op ≤ 13) (w : World) : Calls Tryd.prog 88 #[.int .i64 op] w fun e w' => e = .returned (sv (wordL op)) ∧ w = w' := by
  rcases (by omega : op = 1 ∨ op = 2 ∨ op = 3 ∨ op = 4 ∨ op = 5 ∨ op = 6 ∨ op = 7 ∨ op = 8 ∨ op = 9 ∨ op = 10 ∨ op = 11 ∨ op = 12 ∨ op = 13) with rfl | rfl | rfl | rfl | rfl | rfl | rfl | rfl | rfl | rfl | rfl | rfl | rfl
  all_goals
    clear h1 h2
    go_enter Tryd.func88, Tryd.ntmps88
    go_wp2
    go_ret
    exact ⟨rfl, rfl⟩
set_option maxHeartbeats 1000000 in
theorem uses2_c (op : Int) (h1 : 1 ≤ op) (h2 : op ≤ 13) (w : World) : Calls Tryd.prog 87 #[.int .i64 op] w fun e w' => e = .returned (sv (useL op)) ∧ w = w' := by
  rcases (by omega : op = 1 ∨ op = 2 ∨ op = 3 ∨ op = 4 ∨ op = 5 ∨ op = 6 ∨ op = 7 ∨ op = 8 ∨ op = 9 ∨ op = 10 ∨ op = 11 ∨ op = 12 ∨ op = 13) with rfl | rfl | rfl | rfl | rfl | rfl | rfl | rfl | rfl | rfl | rfl | rfl | rfl
  all_goals
    clear h1 h2
    go_enter Tryd.func87, Tryd.ntmps87
    go_wp2
    go_ret
    exact ⟨rfl, rfl⟩
set_option maxHeartbeats 2000000 in
theorem putInstr_c (A : Option Addr) (c : Nat) (xs : List UInt8) (x : Instr) (fp : List Nat) (w : World) (h : Row 5 kU8 w (.slice A xs.length c) xs fp) (h1 : 1 ≤ x.op) (h2 : x.op ≤ 13) (hS : Small [x.dst, x.a, x.b, x.imm]) (hl : xs.length ≤ 549755813888) :
    Calls Tryd.prog 56 #[.slice A xs.length c, x.v] w (AppB w fp xs (instrL x)) := by
  obtain ⟨i0, hi, hz0, hz1, hz2⟩ := info_parts info_i64
  have HX := Lib.hid h
  have HU := Lib.hid (uses2_c x.op h1 h2)
  have HW := Lib.hid (word_c x.op h1 h2)
  have hul := useL_len x.op
  have HM := Lib.hid (fun c => useL_mem (op := x.op) (c := c))
  have HWL := Lib.hid (wordL_len x.op)
  obtain ⟨us, hus⟩ : ∃ us, useL x.op = us := ⟨_, rfl⟩
  have HFS := Lib.hid (show fieldsL x = us.map (fld x) by rw [fieldsL, hus])
  have HSM := Lib.hid (show Small (us.map (fld x)) from fun n hn => by
    obtain ⟨c, hc, rfl⟩ := List.mem_map.1 hn
    rcases useL_mem (by rw [hus]; exact hc : c ∈ useL x.op) with rfl | rfl | rfl | rfl <;> exact hS _ (by simp [fld]))
  rw [hus] at HU hul HM
  clear hus h hS
  have hb0 : ∀ b ∈ fp, b < w.heap.size := fun b hb => HX.out.lt b hb
  have HLT := Lib.hid hb0
  clear hb0
  simp only [Instr.v]
  go_enter Tryd.func56, Tryd.ntmps56
  go_wp2_with (go_at_call 87; (with_reducible refine (HU.out _).mono ?_); rintro e w1 ⟨rfl, rfl⟩)
  go_loopw [5, 7] (fun t5 t7 wr => ∃ (k : Nat) (vs : List Int) (Av : Option Addr) (cv : Nat) (fpv : List Nat) (u : Ext (w.alloc (.cells #[.int .i64 x.op, .int .i64 x.dst, .int .i64 x.a, .int .i64 x.b, .int .i64 x.imm] 72))), k ≤ us.length ∧ vs = (us.take k).map (fld x) ∧ t5 = .slice Av vs.length cv ∧ t7 = .int .i64 k ∧ Row 2 kI64 wr (.slice Av vs.length cv) vs fpv ∧ (∀ b ∈ fpv, w.heap.size < b) ∧ wr = u.w) (fun _ t7 _ => us.length - (intOf t7).toNat)
  case atStart => exact ⟨0, [], _, 0, [w.heap.size + 1], ⟨_, (Below.refl _ _).alloc (Nat.le_refl _) (.cells #[] 2)⟩, by omega, by simp, rfl, rfl, Row.empty0 (by simp), by simp, rfl⟩
  case round =>
    obtain ⟨k, vs, Av, cv, fpv, u, hk, hvs, rfl, rfl, hr, hf, rfl⟩ := hrel
    have HR := Lib.hid hr
    have HF := Lib.hid hf
    have HV := Lib.hid hvs
    have hvl : vs.length = k := by rw [hvs]; simp; omega
    have HVL := Lib.hid hvl
    have hvl2 : vs.length ≤ 3 := by omega
    obtain ⟨b0, b1, b2, b3, b4, -⟩ := box_at u
    have hzu : w.heap.size < u.w.heap.size := by have := u.hb.size; simp at this; omega
    clear hr hf hvs hvl
    by_cases hlt : k < us.length
    · have hck : ∀ c, us[k] = c → ({ data := us.toArray } : ByteArray)[k]'(by simpa [ByteArray.size] using hlt) = c := fun c h => h
      have HSN := Lib.hid (show vs ++ [fld x us[k]] = (us.take (k + 1)).map (fld x) by rw [take_snoc (List.getElem?_eq_getElem hlt), List.map_append, ← HV.out]; rfl)
      have hm := HM.out us[k] (List.getElem_mem hlt)
      generalize us[k] = c1 at *
      have hck1 := hck _ rfl
      clear hck
      rcases hm with rfl | rfl | rfl | rfl
      · go_wp2_with (at_builtin; refine wpList_append_row kI64 rfl _ _ 49 rfl 2 i0 _ 8 Tryd.underlying49 hi hz0 hz1 hz2 rfl (by decide) _ vs fpv rfl (HR.out.chg (S := fun _ => False) (by (repeat (first | (with_reducible first | exact Chg.refl _ _ | assumption) | (with_reducible refine Chg.drew ?_) | ((with_reducible refine Chg.setCell ?_ ?hs _); (case hs => first | (simp; done) | (simp; omega) | omega)) | (with_reducible refine Chg.alloc ?_ _)))) (by simp)) _ _ [.int .i64 x.dst] x.dst [] rfl ⟨rfl, rfl⟩ (by simp) (box_news (by simp)) (by simp [maxLen]; omega) (by omega) ?_; intro g cap w3 fp3 hr3 hf3 hC3)
        obtain ⟨u3, rfl⟩ := u.app (by repeat (first | (with_reducible first | exact Below.refl _ _ | assumption | exact ext_box _) | (with_reducible apply Below.drew) | ((with_reducible refine Below.setCell ?_ ?hs _); (case hs => first | (simp; done) | (simp; omega) | omega)) | ((with_reducible refine Below.alloc ?_ ?hs _); (case hs => first | (simp; done) | (simp; omega) | omega)))) hC3 (fun q hq => by have := HF.out q hq; simp; omega)
        go_roundw
        case rel => exact ⟨k + 1, vs ++ [x.dst], some ⟨g, 0, none⟩, cap, fp3, u3, by omega, HSN.out, by simp, by go_num, by simpa using hr3, fun q hq => by
          rcases hf3 q hq with h | h | h
          · exact HF.out q h
          · simp at h
          · simp at h; omega, rfl⟩
        case measure => simp [intOf]; omega
      · go_wp2_with (at_builtin; refine wpList_append_row kI64 rfl _ _ 49 rfl 2 i0 _ 8 Tryd.underlying49 hi hz0 hz1 hz2 rfl (by decide) _ vs fpv rfl (HR.out.chg (S := fun _ => False) (by (repeat (first | (with_reducible first | exact Chg.refl _ _ | assumption) | (with_reducible refine Chg.drew ?_) | ((with_reducible refine Chg.setCell ?_ ?hs _); (case hs => first | (simp; done) | (simp; omega) | omega)) | (with_reducible refine Chg.alloc ?_ _)))) (by simp)) _ _ [.int .i64 x.a] x.a [] rfl ⟨rfl, rfl⟩ (by simp) (box_news (by simp)) (by simp [maxLen]; omega) (by omega) ?_; intro g cap w3 fp3 hr3 hf3 hC3)
        obtain ⟨u3, rfl⟩ := u.app (by repeat (first | (with_reducible first | exact Below.refl _ _ | assumption | exact ext_box _) | (with_reducible apply Below.drew) | ((with_reducible refine Below.setCell ?_ ?hs _); (case hs => first | (simp; done) | (simp; omega) | omega)) | ((with_reducible refine Below.alloc ?_ ?hs _); (case hs => first | (simp; done) | (simp; omega) | omega)))) hC3 (fun q hq => by have := HF.out q hq; simp; omega)
        go_roundw
        case rel => exact ⟨k + 1, vs ++ [x.a], some ⟨g, 0, none⟩, cap, fp3, u3, by omega, HSN.out, by simp, by go_num, by simpa using hr3, fun q hq => by
          rcases hf3 q hq with h | h | h
          · exact HF.out q h
          · simp at h
          · simp at h; omega, rfl⟩
        case measure => simp [intOf]; omega
      · go_wp2_with (at_builtin; refine wpList_append_row kI64 rfl _ _ 49 rfl 2 i0 _ 8 Tryd.underlying49 hi hz0 hz1 hz2 rfl (by decide) _ vs fpv rfl (HR.out.chg (S := fun _ => False) (by (repeat (first | (with_reducible first | exact Chg.refl _ _ | assumption) | (with_reducible refine Chg.drew ?_) | ((with_reducible refine Chg.setCell ?_ ?hs _); (case hs => first | (simp; done) | (simp; omega) | omega)) | (with_reducible refine Chg.alloc ?_ _)))) (by simp)) _ _ [.int .i64 x.b] x.b [] rfl ⟨rfl, rfl⟩ (by simp) (box_news (by simp)) (by simp [maxLen]; omega) (by omega) ?_; intro g cap w3 fp3 hr3 hf3 hC3)
        obtain ⟨u3, rfl⟩ := u.app (by repeat (first | (with_reducible first | exact Below.refl _ _ | assumption | exact ext_box _) | (with_reducible apply Below.drew) | ((with_reducible refine Below.setCell ?_ ?hs _); (case hs => first | (simp; done) | (simp; omega) | omega)) | ((with_reducible refine Below.alloc ?_ ?hs _); (case hs => first | (simp; done) | (simp; omega) | omega)))) hC3 (fun q hq => by have := HF.out q hq; simp; omega)
        go_roundw
        case rel => exact ⟨k + 1, vs ++ [x.b], some ⟨g, 0, none⟩, cap, fp3, u3, by omega, HSN.out, by simp, by go_num, by simpa using hr3, fun q hq => by
          rcases hf3 q hq with h | h | h
          · exact HF.out q h
          · simp at h
          · simp at h; omega, rfl⟩
        case measure => simp [intOf]; omega
      · go_wp2_with (at_builtin; refine wpList_append_row kI64 rfl _ _ 49 rfl 2 i0 _ 8 Tryd.underlying49 hi hz0 hz1 hz2 rfl (by decide) _ vs fpv rfl (HR.out.chg (S := fun _ => False) (by (repeat (first | (with_reducible first | exact Chg.refl _ _ | assumption) | (with_reducible refine Chg.drew ?_) | ((with_reducible refine Chg.setCell ?_ ?hs _); (case hs => first | (simp; done) | (simp; omega) | omega)) | (with_reducible refine Chg.alloc ?_ _)))) (by simp)) _ _ [.int .i64 x.imm] x.imm [] rfl ⟨rfl, rfl⟩ (by simp) (box_news (by simp)) (by simp [maxLen]; omega) (by omega) ?_; intro g cap w3 fp3 hr3 hf3 hC3)
        obtain ⟨u3, rfl⟩ := u.app (by repeat (first | (with_reducible first | exact Below.refl _ _ | assumption | exact ext_box _) | (with_reducible apply Below.drew) | ((with_reducible refine Below.setCell ?_ ?hs _); (case hs => first | (simp; done) | (simp; omega) | omega)) | ((with_reducible refine Below.alloc ?_ ?hs _); (case hs => first | (simp; done) | (simp; omega) | omega)))) hC3 (fun q hq => by have := HF.out q hq; simp; omega)
        go_roundw
        case rel => exact ⟨k + 1, vs ++ [x.imm], some ⟨g, 0, none⟩, cap, fp3, u3, by omega, HSN.out, by simp, by go_num, by simpa using hr3, fun q hq => by
          rcases hf3 q hq with h | h | h
          · exact HF.out q h
          · simp at h
          · simp at h; omega, rfl⟩
        case measure => simp [intOf]; omega
    · have hke : k = us.length := by omega
      subst hke
      have HE := Lib.hid (show vs = fieldsL x by rw [HV.out, List.take_length, HFS.out])
      have HS2 := Lib.hid (show Small vs by rw [HE.out, HFS.out]; exact HSM.out)
      have HBU := Lib.hid (ext_box u)
      have HP := Lib.hid (fun W (hb : Below u.w.heap.size u.w W) => putLine_c A c xs (wordL x.op) Av cv vs fp W (HX.out.chg (chg_of ((HBU.out).trans (hb.mono HBU.out.size))) (by simp)) ((HR.out.chg (chg_of hb) (by simp)).reads) HS2.out (by omega) (fun a ha hm => by
        rcases HR.out.form' with ⟨h, _⟩ | ⟨g, cap, h, hg, _⟩
        · injection h with h; rw [h] at ha; cases ha
        · injection h with h; rw [h] at ha; injection ha with ha; subst ha; have h1 := HF.out _ hg; have h2 := HLT.out _ hm; simp at h2; omega) hl (by have := HWL.out; omega))
      go_wp2_with (first
        | (go_at_call 88; (with_reducible refine (HW.out _).mono ?_); rintro e w2 ⟨rfl, rfl⟩)
        | (go_at_call 55; (with_reducible refine (HP.out _ (by (repeat (first | (with_reducible first | exact Below.refl _ _ | assumption | exact ext_box _) | (with_reducible apply Below.drew) | ((with_reducible refine Below.setCell ?_ ?hs _); (case hs => first | (simp; done) | (simp; omega) | omega)) | ((with_reducible refine Below.alloc ?_ ?hs _); (case hs => first | (simp; done) | (simp; omega) | omega)))))).mono ?_); intro e w3 hp; unfold AppB at hp; obtain ⟨A3, c3, fp3, rfl, hr3, hf3, hc3⟩ := hp))
      go_ret
      have hi2 : instrL x = lineB (wordL x.op) vs := by rw [instrL, HE.out]
      refine ⟨A3, c3, fp3, ?_, ?_, fun b hb => ?_, ?_⟩
      · rw [hi2, List.length_append]; rfl
      · rw [hi2]; exact hr3
      · rcases hf3 b hb with h | h
        · exact .inl h
        · have := HBU.out.size; exact .inr (by omega)
      · exact ((chg_of HBU.out).mono (fun _ _ h => h.elim)).trans (hc3.mono fun q _ hq => hq.imp id fun h => Nat.le_trans HBU.out.size h)
set_option maxHeartbeats 2000000 in
theorem putTerm_c (A : Option Addr) (c : Nat) (xs : List UInt8) (t : Term) (fp : List Nat) (w : World) (h : Row 5 kU8 w (.slice A xs.length c) xs fp) (h1 : 1 ≤ t.kind) (h2 : t.kind ≤ 3) (hS : Small [t.a, t.to, t.els]) (hl : xs.length ≤ 549755813888) :
    Calls Tryd.prog 57 #[.slice A xs.length c, t.v] w (AppB w fp xs (termL t)) := by
  have HX := Lib.hid h
  have HLT := Lib.hid (fun b (hb : b ∈ fp) => h.lt b hb)
  have HSa := Lib.hid (show Small [t.a] from fun n hn => hS n (by simp at hn ⊢; omega))
  have HSt := Lib.hid (show Small [t.to] from fun n hn => hS n (by simp at hn ⊢; omega))
  have HS3 := Lib.hid hS
  have hlit : ∀ (W : World) (l : List Int), C kI64 (W.alloc (.cells (l.map (Value.int .i64)).toArray 2)) (some ⟨W.heap.size, 0, none⟩) l := fun W l i y hy => ⟨_, _, rfl, rfl, fun j u hu => by
    obtain ⟨rfl, hu2⟩ : j = 0 ∧ u = .int .i64 y := by
      cases j with
      | zero => simp at hu; exact ⟨rfl, hu.symm⟩
      | succ j => simp at hu
    subst hu2
    have := cell_of_row (W.alloc (.cells (l.map (Value.int .i64)).toArray 2)) W.heap.size i (l.map (Value.int .i64)).toArray 2 (0, 0) (heap_alloc_new W _)
    rw [show i * (kInt .i64).sz + 0 = i from by simp [kInt], add_plain, Nat.zero_add, this]
    simp [hy]⟩
  have HLIT := Lib.hid hlit
  have HP1 := Lib.hid (fun (n : Int) (wd : List UInt8) (W : World) (b : Nat) (hbb : b = W.heap.size) (hb : Below w.heap.size w W) (hS : Small [n]) (h5 : wd.length ≤ 6) => show Calls Tryd.prog 55 #[.slice A xs.length c, sv wd, .slice (some ⟨b, 0, none⟩) 1 1] (W.alloc (.cells #[.int .i64 n] 2)) (AppB (W.alloc (.cells #[.int .i64 n] 2)) fp xs (lineB wd [n])) from by
    subst hbb
    exact putLine_c A c xs wd (some ⟨W.heap.size, 0, none⟩) 1 [n] fp _ (HX.out.chg (chg_of (hb.alloc hb.size _)) (by simp)) (HLIT.out W [n]) hS (by simp) (fun a ha hm => by injection ha with ha; subst ha; have := HLT.out _ hm; have := hb.size; simp at *; omega) hl (by omega))
  have HP3 := Lib.hid (fun (n1 n2 n3 : Int) (wd : List UInt8) (W : World) (b : Nat) (hbb : b = W.heap.size) (hb : Below w.heap.size w W) (hS : Small [n1, n2, n3]) (h5 : wd.length ≤ 6) => show Calls Tryd.prog 55 #[.slice A xs.length c, sv wd, .slice (some ⟨b, 0, none⟩) 3 3] (W.alloc (.cells #[.int .i64 n1, .int .i64 n2, .int .i64 n3] 2)) (AppB (W.alloc (.cells #[.int .i64 n1, .int .i64 n2, .int .i64 n3] 2)) fp xs (lineB wd [n1, n2, n3])) from by
    subst hbb
    exact putLine_c A c xs wd (some ⟨W.heap.size, 0, none⟩) 3 [n1, n2, n3] fp _ (HX.out.chg (chg_of (hb.alloc hb.size _)) (by simp)) (HLIT.out W [n1, n2, n3]) hS (by simp) (fun a ha hm => by injection ha with ha; subst ha; have := HLT.out _ hm; have := hb.size; simp at *; omega) hl (by omega))
  clear h hS hlit
  simp only [Term.v]
  rcases (by omega : t.kind = 1 ∨ t.kind = 3 ∨ t.kind = 2) with e | e | e
  · have HT := Lib.hid (show termL t = lineB [106, 117, 109, 112] [t.to] by rw [termL, if_pos e])
    have hk : (t.kind == 1) = true := by simp [e]
    clear h1 h2 e
    go_enter Tryd.func57, Tryd.ntmps57
    go_wp2_with (go_at_call 55; (with_reducible refine (HP1.out t.to [106, 117, 109, 112] _ _ (by simp) (by (repeat (first | (with_reducible first | exact Below.refl _ _ | assumption | exact ext_box _) | (with_reducible apply Below.drew) | ((with_reducible refine Below.setCell ?_ ?hs _); (case hs => first | (simp; done) | (simp; omega) | omega)) | ((with_reducible refine Below.alloc ?_ ?hs _); (case hs => first | (simp; done) | (simp; omega) | omega))))) HSt.out (by simp)).mono ?_); intro e w3 hp; unfold AppB at hp; obtain ⟨A3, c3, fp3, rfl, hr3, hf3, hc3⟩ := hp)
    go_ret
    refine ⟨A3, c3, fp3, by rw [HT.out]; (try rw [List.length_append]); rfl, by rw [HT.out]; exact hr3, fun b hb => (hf3 b hb).imp id fun h => by simp at h; omega, ?_⟩
    exact (show Chg (fun k => k ∈ fp ∨ w.heap.size ≤ k) w _ from ((Chg.refl _ _).alloc _).alloc _).trans (hc3.mono fun q _ hq => hq.imp id fun h => by simp at h; omega)
  · have HT := Lib.hid (show termL t = lineB [114, 101, 116] [t.a] by rw [termL, if_neg (by omega), if_pos e])
    have hk : (t.kind == 3) = true := by simp [e]
    have hk1 : (t.kind == 1) = false := by simp [e]
    clear h1 h2 e
    go_enter Tryd.func57, Tryd.ntmps57
    go_wp2_with (go_at_call 55; (with_reducible refine (HP1.out t.a [114, 101, 116] _ _ (by simp) (by (repeat (first | (with_reducible first | exact Below.refl _ _ | assumption | exact ext_box _) | (with_reducible apply Below.drew) | ((with_reducible refine Below.setCell ?_ ?hs _); (case hs => first | (simp; done) | (simp; omega) | omega)) | ((with_reducible refine Below.alloc ?_ ?hs _); (case hs => first | (simp; done) | (simp; omega) | omega))))) HSa.out (by simp)).mono ?_); intro e w3 hp; unfold AppB at hp; obtain ⟨A3, c3, fp3, rfl, hr3, hf3, hc3⟩ := hp)
    go_ret
    refine ⟨A3, c3, fp3, by rw [HT.out]; (try rw [List.length_append]); rfl, by rw [HT.out]; exact hr3, fun b hb => (hf3 b hb).imp id fun h => by simp at h; omega, ?_⟩
    exact (show Chg (fun k => k ∈ fp ∨ w.heap.size ≤ k) w _ from ((Chg.refl _ _).alloc _).alloc _).trans (hc3.mono fun q _ hq => hq.imp id fun h => by simp at h; omega)
  · have HT := Lib.hid (show termL t = lineB [98, 114, 97, 110, 99, 104] [t.a, t.to, t.els] by rw [termL, if_neg (by omega), if_neg (by omega)])
    have hk1 : (t.kind == 1) = false := by simp [e]
    have hk3 : (t.kind == 3) = false := by simp [e]
    clear h1 h2 e
    go_enter Tryd.func57, Tryd.ntmps57
    go_wp2_with (go_at_call 55; (with_reducible refine (HP3.out t.a t.to t.els [98, 114, 97, 110, 99, 104] _ _ (by simp) (by (repeat (first | (with_reducible first | exact Below.refl _ _ | assumption | exact ext_box _) | (with_reducible apply Below.drew) | ((with_reducible refine Below.setCell ?_ ?hs _); (case hs => first | (simp; done) | (simp; omega) | omega)) | ((with_reducible refine Below.alloc ?_ ?hs _); (case hs => first | (simp; done) | (simp; omega) | omega))))) HS3.out (by simp)).mono ?_); intro e w3 hp; unfold AppB at hp; obtain ⟨A3, c3, fp3, rfl, hr3, hf3, hc3⟩ := hp)
    go_ret
    refine ⟨A3, c3, fp3, by rw [HT.out]; (try rw [List.length_append]); rfl, by rw [HT.out]; exact hr3, fun b hb => (hf3 b hb).imp id fun h => by simp at h; omega, ?_⟩
    exact (show Chg (fun k => k ∈ fp ∨ w.heap.size ≤ k) w _ from ((Chg.refl _ _).alloc _).alloc _).trans (hc3.mono fun q _ hq => hq.imp id fun h => by simp at h; omega)
end Go.Proofs.YtnnfjjgohhicjaaDoor
