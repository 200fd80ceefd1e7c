/- Contracts: (*strings.Builder).String of impl's page; bytes of a string. -/
import Derived.Test.YtnnfjjgohhicjaaDoorEg
import Derived.Laws.Rows
import Derived.Shelf.Strings.Builder1
import Derived.Shelf.Strings.BuilderF
import Derived.Shelf.Strings.BuilderK
import Derived.Shelf.Strconv.Itoa0
import Derived.Shelf.Strconv.Itoa1
import Derived.Shelf.LaysM
import Derived.Shelf.Strconv.Itoa2
import Derived.Shelf.Strconv.Itoa3
import Derived.Shelf.Strconv.Itoa4
import Derived.Shelf.Strings.BuilderCap
import Derived.Test.YtnnfjjgohhicjaaDoorProg
import Derived.Test.YtnnfjjgohhicjaaDoorKh
import Derived.Lib.AppendIntMem
import Derived.Test.YtnnfjjgohhicjaaDoorKm
import Derived.Lib.UnsafeStr
import Derived.Lib.ConvBytes
import Derived.Lib.SmallJoins
import Derived.Shelf.RegionOpenPlain
namespace Go.Proofs.YtnnfjjgohhicjaaDoor
open Go.RowKit
set_option linter.unusedSimpArgs false
set_option linter.unusedVariables false
set_option maxRecDepth 100000

/-- What a write to page b may turn: the page, rows of bytes. -/
def PgS (B b : Nat) (w : World) (k : Nat) : Prop := B ≤ k ∧ (k = b ∨ ∃ cur fr, w.heap[k]? = some (.cells cur 5 fr))
theorem PgS.trans {B b : Nat} {w w1 w2 : World} (h1 : Chg (PgS B b w) w w1) (h2 : Chg (PgS B b w1) w1 w2) : Chg (PgS B b w) w w2 :=
  ⟨h2.os.trans h1.os, h2.tape.trans h1.tape, h2.output.trans h1.output, Nat.le_trans h1.size h2.size, fun k hk hn => by
    have e := h1.block k hk hn
    refine (h2.block k (Nat.lt_of_lt_of_le hk h1.size) fun hS => hn ?_).trans e
    rcases hS with ⟨hB, hS | ⟨cur, fr, hS⟩⟩
    · exact ⟨hB, .inl hS⟩
    · exact ⟨hB, .inr ⟨cur, fr, by rw [← e]; exact hS⟩⟩⟩
theorem PgS.of {B b : Nat} {w w' : World} (h : Chg (fun _ => False) w w') : Chg (PgS B b w) w w' := h.mono fun _ _ h => h.elim
theorem row_blk {w : World} {v : Value} {l : List UInt8} {fp : List Nat} (h : Row 5 kU8 w v l fp) {q : Nat} (hq : q ∈ fp) : ∃ cur fr, w.heap[q]? = some (.cells cur 5 fr) := by
  obtain ⟨hown, rfl⟩ := row_u8 (B := 0) h (fun _ _ => Nat.zero_le _)
  rcases hown.2 with ⟨rfl, _⟩ | ⟨g, cap, cur, rfl, _, hg, _⟩
  · simp [Value.ownBlock] at hq
  · simp [Value.ownBlock] at hq
    subst hq
    exact ⟨_, _, hg⟩
theorem PgS.below {B b : Nat} {w w' : World} (h : Chg (PgS B b w) w w') (hB : B ≤ w.heap.size) : Below B w w' := h.below hB fun k hk => hk.1
/-- Other blocks stay. -/
theorem Bk.pgs {B b k : Nat} {T : TypeId} {l : List Value} {w w' : World} (h : Bk k T l w) (hc : Chg (PgS B b w) w w') (hk : k ≠ b) (hT : T ≠ 5) : Bk k T l w' := h.chg hc fun e => by
  rcases e with ⟨_, e | ⟨cur, fr, e⟩⟩
  · exact hk e
  · rw [show w.heap[k]? = _ from h] at e; injection e with e; injection e with _ e _; exact hT e
set_option maxHeartbeats 1000000 in
theorem writeString_c (B b : Nat) (l s : List UInt8) (w : World) (h : Pg B b l w) (hBw : B ≤ w.heap.size) (hl : l.length + s.length ≤ 1099511627776) :
    Calls Tryd.prog 89 #[.pointer (some ⟨b, 0, none⟩), sv s] w fun e w' => e = .returned (.tuple #[.int .i64 s.length, .nilIface]) ∧ Pg B b (l ++ s) w' ∧ Chg (PgS B b w) w w' := by
  obtain ⟨i0, hi, hz0, hz1, hz2⟩ := info_parts info_u8
  obtain ⟨p, v, fp, hp, hk, hr, hf, hBb⟩ := h
  have HCC := Lib.hid (copyCheck_c b v p w hk hp)
  have HNE := Lib.hid (Pg.ne hk (by decide) hr)
  have HR := Lib.hid hr
  have HF := Lib.hid hf
  obtain ⟨A0, c0, rfl, -⟩ := hr.form
  clear hk hr hf hp
  go_enter Tryd.func89, Tryd.ntmps89
  go_upto_region 2 with (go_at_call 110; (with_reducible refine HCC.out.mono ?_); rintro e w1 ⟨rfl, hk1, hc1⟩)
  have HR1 := Lib.hid (HR.out.chg hc1 (fun q hq e => HNE.out (e ▸ hq)))
  have HK1 := Lib.hid hk1
  have HC1 := Lib.hid (show Chg (PgS B b w) w w1 from hc1.mono fun k _ e => ⟨e ▸ hBb, .inl e⟩)
  have hs1 := hc1.size
  have k1 := hk1.cell 1 (v := .slice A0 l.length c0) rfl
  clear hk1 hc1 HCC
  go_wp2_with (at_builtin; refine wpList_append_str rfl _ _ 44 9 rfl i0 Tryd.underlying44 Tryd.underlying9 hi hz0 hz1 hz2 _ l s fp B rfl HR1.out HF.out (by omega) rfl (by omega) ?_; intro A2 c2 w2 fp2 hr2 hf2 hc2; have hk2 := HK1.out.chg hc2 HNE.out; have d1 := hk2.cell 1 (v := .slice A0 l.length c0) rfl; have f1 := hk2.frozen 1; have HK2 := Lib.hid hk2; have HR2 := Lib.hid hr2; have HF2 := Lib.hid hf2; have HC2 := Lib.hid hc2; clear hk2 hr2 hf2 hc2)
  have hne2 : b ∉ fp2 := Pg.ne HK2.out (by decide) HR2.out
  have hset := HK2.out.set 1 (.slice A2 (l ++ s).length c2)
  have hch : Chg (PgS B b w) w (w2.setCell ⟨b, 1, none⟩ (.slice A2 (l ++ s).length c2)) := PgS.trans HC1.out (PgS.trans (HC2.out.mono fun q _ hq => ⟨HF.out q hq, .inr (row_blk HR1.out hq)⟩) (hset.2.mono fun q _ e => ⟨e ▸ hBb, .inl e⟩))
  have hpg : Pg B b (l ++ s) (w2.setCell ⟨b, 1, none⟩ (.slice A2 (l ++ s).length c2)) := ⟨some ⟨b, 0, none⟩, _, fp2, .inr rfl, hset.1, HR2.out.chg hset.2 (fun q hq e => hne2 (e ▸ hq)), HF2.out, hBb⟩
  rw [List.length_append] at hch hpg
  exact bodyPost_ret (v := .tuple #[.int .i64 s.length, .nilIface]) (by simp [results, Tryd.results89, go_sem]) rfl ⟨rfl, hpg, hch⟩
set_option maxHeartbeats 1000000 in
theorem writeByte_c (B b : Nat) (l : List UInt8) (x : UInt8) (w : World) (h : Pg B b l w) (hBw : B ≤ w.heap.size) (hl : l.length + 1 ≤ 1099511627776) :
    Calls Tryd.prog 90 #[.pointer (some ⟨b, 0, none⟩), .int .u8 (x.toNat : Int)] w fun e w' => e = .returned .nilIface ∧ Pg B b (l ++ [x]) w' ∧ Chg (PgS B b w) w w' := by
  obtain ⟨i0, hi, hz0, hz1, hz2⟩ := info_parts info_u8
  obtain ⟨p, v, fp, hp, hk, hr, hf, hBb⟩ := h
  have HCC := Lib.hid (copyCheck_c b v p w hk hp)
  have HNE := Lib.hid (Pg.ne hk (by decide) hr)
  have HR := Lib.hid hr
  have HF := Lib.hid hf
  obtain ⟨A0, c0, rfl, -⟩ := hr.form
  clear hk hr hf hp
  go_enter Tryd.func90, Tryd.ntmps90
  go_upto_region 2 with (go_at_call 110; (with_reducible refine HCC.out.mono ?_); rintro e w1 ⟨rfl, hk1, hc1⟩)
  have HR1 := Lib.hid (HR.out.chg hc1 (fun q hq e => HNE.out (e ▸ hq)))
  have HK1 := Lib.hid hk1
  have HC1 := Lib.hid (show Chg (PgS B b w) w w1 from hc1.mono fun k _ e => ⟨e ▸ hBb, .inl e⟩)
  have hs1 := hc1.size
  have k1 := hk1.cell 1 (v := .slice A0 l.length c0) rfl
  clear hk1 hc1 HCC
  go_wp2_with (at_builtin; refine wpList_append_row kU8 rfl _ _ 44 rfl 5 i0 _ 1 Tryd.underlying44 hi hz0 hz1 hz2 rfl (by decide) _ l fp rfl (HR1.out.chg (S := fun _ => False) (by (repeat (first | (with_reducible first | exact Chg.refl _ _ | assumption) | (with_reducible refine Chg.drew ?_) | ((with_reducible refine Chg.setCell ?_ ?hs _); (case hs => first | (simp; done) | (simp; omega) | omega)) | (with_reducible refine Chg.alloc ?_ _)))) (by simp)) _ _ [.int .u8 (x.toNat : Int)] x [] rfl ⟨rfl, rfl⟩ (by simp) (box_news (by simp)) (by simp [maxLen]; omega) (by omega) ?_; intro g cap w2 fp2 hr2 hf2 hc2; have hB1 : Chg (fun q => q ∈ fp) w1 w2 := Chg.trans (by (repeat (first | (with_reducible first | exact Chg.refl _ _ | assumption) | (with_reducible refine Chg.drew ?_) | ((with_reducible refine Chg.setCell ?_ ?hs _); (case hs => first | (simp; done) | (simp; omega) | omega)) | (with_reducible refine Chg.alloc ?_ _)))) hc2; have hk2 := HK1.out.chg hB1 HNE.out; have d1 := hk2.cell 1 (v := .slice A0 l.length c0) rfl; have f1 := hk2.frozen 1; have HK2 := Lib.hid hk2; have HR2 := Lib.hid hr2; have HF2 := Lib.hid (show ∀ q ∈ fp2, B ≤ q from fun q hq => by rcases hf2 q hq with h | h | h; exact HF.out q h; simp at h; simp at h; omega); have HC2 := Lib.hid hB1; clear hk2 hr2 hf2 hc2 hB1)
  have hne2 : b ∉ fp2 := Pg.ne HK2.out (by decide) HR2.out
  have HR2 := Lib.hid (show Row 5 kU8 w2 (.slice (some ⟨g, 0, none⟩) (l ++ [x]).length cap) (l ++ [x]) fp2 by simpa using HR2.out)
  have hset := HK2.out.set 1 (.slice (some ⟨g, 0, none⟩) (l ++ [x]).length cap)
  have hch : Chg (PgS B b w) w (w2.setCell ⟨b, 1, none⟩ (.slice (some ⟨g, 0, none⟩) (l ++ [x]).length cap)) := PgS.trans HC1.out (PgS.trans (HC2.out.mono fun q _ hq => ⟨HF.out q hq, .inr (row_blk HR1.out hq)⟩) (hset.2.mono fun q _ e => ⟨e ▸ hBb, .inl e⟩))
  have hpg : Pg B b (l ++ [x]) (w2.setCell ⟨b, 1, none⟩ (.slice (some ⟨g, 0, none⟩) (l ++ [x]).length cap)) := ⟨some ⟨b, 0, none⟩, _, fp2, .inr rfl, hset.1, HR2.out.chg hset.2 (fun q hq e => hne2 (e ▸ hq)), HF2.out, hBb⟩
  rw [show (l ++ [x]).length = l.length + 1 by simp] at hch hpg
  exact bodyPost_ret (v := .nilIface) (by simp [results, Tryd.results90, go_sem]) rfl ⟨rfl, hpg, hch⟩
end Go.Proofs.YtnnfjjgohhicjaaDoor
namespace Go.Proofs
open Go.Shelf
def Tryd.laysM173_ren : Go.Shelf.Ren := ⟨fun | 173 => 91 | 246 => 111 | 283 => 120 | 284 => 121 | 285 => 122 | 286 => 123 | 129 => 126 | 317 => 125 | 318 => 127 | 319 => 128 | 320 => 129 | 337 => 130 | 338 => 131 | n => n, fun | 2 => 2 | 3 => 3 | 9 => 9 | 4 => 4 | 171 => 199 | 0 => 0 | 53 => 200 | 37 => 44 | 5 => 5 | 173 => 203 | 212 => 207 | 51 => 208 | 20 => 20 | 213 => 209 | 46 => 211 | 232 => 214 | 233 => 215 | n => n, fun | 17 => 2 | 18 => 3 | 19 => 4 | n => n⟩
theorem Tryd.laysM173 : Go.Proofs.LaysM.n173 Tryd.prog Tryd.laysM173_ren := {
  mixed := by kernel_rfl
  f129 := Tryd.func126.trans (congrArg some (by kernel_rfl))
  f173 := Tryd.func91.trans (congrArg some (by kernel_rfl))
  f246 := Tryd.func111.trans (congrArg some (by kernel_rfl))
  f283 := Tryd.func120.trans (congrArg some (by kernel_rfl))
  f284 := Tryd.func121.trans (congrArg some (by kernel_rfl))
  f285 := Tryd.func122.trans (congrArg some (by kernel_rfl))
  f286 := Tryd.func123.trans (congrArg some (by kernel_rfl))
  f317 := Tryd.func125.trans (congrArg some (by kernel_rfl))
  f318 := Tryd.func127.trans (congrArg some (by kernel_rfl))
  f319 := Tryd.func128.trans (congrArg some (by kernel_rfl))
  f320 := Tryd.func129.trans (congrArg some (by kernel_rfl))
  f337 := Tryd.func130.trans (congrArg some (by kernel_rfl))
  f338 := Tryd.func131.trans (congrArg some (by kernel_rfl))
  t0 := Tryd.underlying0
  a0 := Tryd.isAgg0
  z0 := Tryd.sizeOf0
  v0 := Tryd.zeroValue0
  t2 := Tryd.underlying2
  a2 := Tryd.isAgg2
  z2 := Tryd.sizeOf2
  v2 := Tryd.zeroValue2
  t3 := Tryd.underlying3
  a3 := Tryd.isAgg3
  z3 := Tryd.sizeOf3
  v3 := Tryd.zeroValue3
  t4 := Tryd.underlying4
  a4 := Tryd.isAgg4
  z4 := Tryd.sizeOf4
  v4 := Tryd.zeroValue4
  t5 := Tryd.underlying5
  a5 := Tryd.isAgg5
  z5 := Tryd.sizeOf5
  v5 := Tryd.zeroValue5
  t9 := Tryd.underlying9
  a9 := Tryd.isAgg9
  z9 := Tryd.sizeOf9
  v9 := Tryd.zeroValue9
  t20 := Tryd.underlying20
  a20 := Tryd.isAgg20
  z20 := Tryd.sizeOf20
  v20 := Tryd.zeroValue20
  t37 := Tryd.underlying44
  a37 := Tryd.isAgg44
  z37 := Tryd.sizeOf44
  v37 := Tryd.zeroValue44
  t46 := Tryd.underlying211
  a46 := Tryd.isAgg211
  z46 := Tryd.sizeOf211
  v46 := Tryd.zeroValue211
  t51 := Tryd.underlying208
  a51 := Tryd.isAgg208
  z51 := Tryd.sizeOf208
  v51 := Tryd.zeroValue208
  t53 := Tryd.underlying200
  a53 := Tryd.isAgg200
  z53 := Tryd.sizeOf200
  v53 := Tryd.zeroValue200
  t171 := Tryd.underlying199
  a171 := Tryd.isAgg199
  z171 := Tryd.sizeOf199
  v171 := Tryd.zeroValue199
  t173 := Tryd.underlying203
  a173 := Tryd.isAgg203
  z173 := Tryd.sizeOf203
  v173 := Tryd.zeroValue203
  t212 := Tryd.underlying207
  a212 := Tryd.isAgg207
  z212 := Tryd.sizeOf207
  v212 := Tryd.zeroValue207
  t213 := Tryd.underlying209
  a213 := Tryd.isAgg209
  z213 := Tryd.sizeOf209
  t232 := Tryd.underlying214
  a232 := Tryd.isAgg214
  z232 := Tryd.sizeOf214
  v232 := Tryd.zeroValue214
  t233 := Tryd.underlying215
  a233 := Tryd.isAgg215
  z233 := Tryd.sizeOf215
  v233 := Tryd.zeroValue215
  g17 := by kernel_rfl
  g18 := by kernel_rfl
  g19 := by kernel_rfl
  i0 := by kernel_rfl
  i2 := by kernel_rfl
  i3 := by kernel_rfl
  i4 := by kernel_rfl
  i5 := by kernel_rfl
  i9 := by kernel_rfl
  i20 := by kernel_rfl
  i37 := by kernel_rfl
  i46 := by kernel_rfl
  i51 := by kernel_rfl
  i53 := by kernel_rfl
  i171 := by kernel_rfl
  i173 := by kernel_rfl
  i212 := by kernel_rfl
  i232 := by kernel_rfl
  i233 := by kernel_rfl
  m17 := by kernel_rfl
  m18 := by kernel_rfl
  m19 := by kernel_rfl }
open Go.RowKit Go.Sort Go.Lib in
theorem Tryd.strconv_FormatInt_10 (n : Int) (h0 : -9223372036854775808 ≤ n) (h1 : n ≤ 9223372036854775807) (w : World) (htab : Lib.TabIs Tryd.prog w "internal/strconv.uint64pow10" .u64 Lib.pow10Tab) :
    Calls Tryd.prog 91 #[.int .i64 n, .int .i64 10] w fun e w' => e = .returned (.string ⟨(Lib.itoa n).toArray⟩) ∧ ∃ k os, w' = grow (w.drewN k) os := Any.strconv_FormatInt_10 Tryd.laysM173 n h0 h1 w htab
end Go.Proofs
namespace Go.Proofs.YtnnfjjgohhicjaaDoor
open Go.RowKit
set_option linter.unusedSimpArgs false
set_option linter.unusedVariables false
set_option maxRecDepth 100000

/-- The tables: shapes, opNames, strconv's powers of ten. -/
structure Globs (w : World) : Prop where
  sh : Shapes w
  nm : ∀ op : Nat, 1 ≤ op → op ≤ 13 → w.cell? ⟨1, op, none⟩ = some (sv (wordL op))
  tab : Lib.TabIs Tryd.prog w "internal/strconv.uint64pow10" .u64 Lib.pow10Tab
theorem gTab : (Tryd.prog).globalNamed "internal/strconv.uint64pow10" = some 2 := by kernel_rfl
theorem Globs.keep {w w' : World} (h : Globs w) (hk : ∀ k, k ≤ 2 → w'.heap[k]? = w.heap[k]?) : Globs w' := by
  refine ⟨h.sh.keep (hk 0 (by omega)), fun op h1 h2 => (World.cell?_of_block (hk 1 (by decide))).trans (h.nm op h1 h2), ?_⟩
  have := h.tab
  unfold Lib.TabIs World.var? at this ⊢
  rw [gTab] at this ⊢
  simp only [Option.bind_some] at this ⊢
  rw [hk _ (by decide)]; exact this
theorem Globs.pos {w : World} (h : Globs w) : 3 ≤ w.heap.size := World.block_lt_of_cell? w _ (h.tab.cell gTab 0 (by decide))
theorem Globs.below {B : Nat} {w w' : World} (h : Globs w) (hb : Below B w w') (hB : 3 ≤ B) : Globs w' := h.keep fun k hk => hb.block k (by omega)
theorem Globs.bel {w w' : World} (h : Globs w) (hb : Below w.heap.size w w') : Globs w' := h.below hb h.pos
theorem Globs.pgs {B b : Nat} {w w' : World} (h : Globs w) (hc : Chg (PgS B b w) w w') (hB : 3 ≤ B) : Globs w' :=
  h.keep fun k hk => hc.block k (by have := h.pos; omega) fun hS => by have := hS.1; omega
theorem fmt_c (n : Int) (h0 : -4611686018427387904 ≤ n) (h1 : n ≤ 4611686018427387904) (w : World) (hG : Globs w) : Calls Tryd.prog 91 #[.int .i64 n, .int .i64 10] w fun e w' => e = .returned (sv (Lib.itoa n)) ∧ Below w.heap.size w w' :=
  (Tryd.strconv_FormatInt_10 n (by omega) (by omega) w hG.tab).mono fun e w' ⟨he, k, os, hw⟩ => ⟨he, by rw [hw]; exact Lib.below_grow _ w (Nat.le_refl _) k os⟩
theorem row_i64_blk {w : World} {v : Value} {xs : List Int} {fp : List Nat} (h : Row 2 kI64 w v xs fp) {q : Nat} (hq : q ∈ fp) : ∃ cur fr, w.heap[q]? = some (.cells cur 2 fr) := by
  have hfp := row_int_fp h
  obtain ⟨css, fps, ho, _⟩ := h
  rw [hfp] at hq
  rcases ho.2 with ⟨rfl, _⟩ | ⟨g, cap, cur, rfl, _, hg, _⟩
  · simp [Value.ownBlock] at hq
  · simp [Value.ownBlock] at hq
    subst hq
    exact ⟨_, _, hg⟩
theorem row_pgs {B b : Nat} {T : TypeId} {cs : List Value} {w w' : World} {v : Value} {xs : List Int} {fp : List Nat} (h : Row 2 kI64 w v xs fp) (hb : Bk b T cs w) (hT : T ≠ 2) (hc : Chg (PgS B b w) w w') : Row 2 kI64 w' v xs fp := h.chg hc fun q hq e => by
  obtain ⟨cur, fr, hg⟩ := row_i64_blk h hq
  rcases e with ⟨_, e | ⟨cur', fr', e⟩⟩
  · subst e; rw [show w.heap[q]? = _ from hb] at hg; injection hg with hg; injection hg with _ hg _; exact hT hg
  · rw [hg] at e; injection e with e; injection e with _ e _; exact absurd e (by decide)
theorem Pg.bk {B b : Nat} {l : List UInt8} {w : World} (h : Pg B b l w) : ∃ cs, Bk b 102 cs w := by
  obtain ⟨p, v, fp, _, hk, _⟩ := h
  exact ⟨_, hk⟩
theorem Pg.lt {B b : Nat} {l : List UInt8} {w : World} (h : Pg B b l w) : b < w.heap.size := by obtain ⟨cs, hk⟩ := h.bk; exact hk.lt
theorem Pg.below {B b : Nat} {l : List UInt8} {w w' : World} (h : Pg B b l w) (hb : Below w.heap.size w w') : Pg B b l w' := by
  obtain ⟨p, v, fp, hp, hk, hr, hf, hB⟩ := h
  exact ⟨p, v, fp, hp, hk.below hb, hr.chg (chg_of hb) (by simp), hf, hB⟩
theorem Pg.ge {B b : Nat} {l : List UInt8} {w : World} (h : Pg B b l w) : B ≤ b := by
  obtain ⟨p, v, fp, hp, hk, hr, hf, hB⟩ := h
  exact hB
set_option maxHeartbeats 2000000 in
theorem row_c (B b : Nat) (l word : List UInt8) (v : Value) (ns : List Int) (fpv : List Nat) (w : World) (h : Pg B b l w) (hB3 : 3 ≤ B) (hG : Globs w) (hV : Row 2 kI64 w v ns fpv) (hS : Small ns) (hnl : ns.length ≤ 1048576) (hl : l.length ≤ 549755813888) (hwl : word.length ≤ 100) :
    Calls Tryd.prog 58 #[.pointer (some ⟨b, 0, none⟩), sv word, v] w fun e w' => e = .returned (.tuple #[]) ∧ Pg B b (l ++ lineB word ns) w' ∧ Chg (PgS B b w) w w' := by
  obtain ⟨V, cv, rfl, -⟩ := hV.form
  have hBw : B ≤ w.heap.size := by have := h.lt; have := h.ge; omega
  have hb3 : 3 ≤ b := by have := h.ge; omega
  have HFL := Lib.hid (flat_len hS)
  have HS := Lib.hid hS
  have HW := Lib.hid (writeString_c B b l word w h hBw (by omega))
  obtain ⟨cs0, hk0⟩ := h.bk
  have HK0 := Lib.hid hk0
  have HV := Lib.hid hV
  have HG := Lib.hid hG
  have hb3' := hb3
  clear h hG hV hS hk0
  go_enter Tryd.func58, Tryd.ntmps58
  go_wp2_with (go_at_call 89; (with_reducible refine HW.out.mono ?_); rintro e w1 ⟨rfl, hp1, hc1⟩)
  have HP1 := Lib.hid hp1
  have HC1 := Lib.hid hc1
  clear hp1 hc1 HW
  go_loopw [15] (fun t wr => ∃ k : Nat, k ≤ ns.length ∧ t = .int .i64 k ∧ Pg B b (l ++ (word ++ (ns.take k).flatMap fun n => 32 :: Lib.itoa n)) wr ∧ Chg (PgS B b w) w wr) (fun t _ => ns.length - (intOf t).toNat)
  case atStart => exact ⟨0, by omega, rfl, by simpa using HP1.out, HC1.out⟩
  case round =>
    clear HP1 HC1
    obtain ⟨k, hk, rfl, hp, hc⟩ := hrel
    have hfl := HFL.out k
    obtain ⟨ys, hys⟩ : ∃ ys, l ++ (word ++ (ns.take k).flatMap fun n => 32 :: Lib.itoa n) = ys := ⟨_, rfl⟩
    have hyl : ys.length ≤ 549755813888 + 100 + 22 * 1048576 := by rw [← hys]; simp only [List.length_append]; omega
    have HYS := Lib.hid hys
    rw [hys] at hp
    have HP := Lib.hid hp
    have HC := Lib.hid hc
    have hGr := HG.out.pgs hc hB3
    have hVr := row_pgs HV.out HK0.out (by decide) hc
    have hBr : B ≤ wr.heap.size := by have := hc.size; omega
    have hbr := hp.lt
    clear hp hc hys hfl
    by_cases hlt : k < ns.length
    · obtain ⟨n, en⟩ := get_of_lt hlt
      obtain ⟨a, _, rfl, rfl, hcc⟩ := hVr.reads.at en
      have q0 := hc1 (n := k * 1) hcc
      rw [Nat.mul_one] at q0
      obtain ⟨hn0, hn1⟩ := HS.out n (List.mem_of_getElem? en)
      have hil := itoa_len hn0 hn1
      have HWB := Lib.hid (writeByte_c B b ys 32 wr HP.out hBr (by omega))
      have HSN := Lib.hid (show ys ++ (32 :: Lib.itoa n) = l ++ (word ++ (ns.take (k + 1)).flatMap fun n => 32 :: Lib.itoa n) by rw [flat_snoc en, ← HYS.out]; simp [List.append_assoc])
      have HGr := Lib.hid hGr
      clear hcc en hVr hGr
      go_upto_region 5 with (go_at_call 90; (refine HWB.out.mono ?_); rintro e w2 ⟨rfl, hp2, hc2⟩)
      have HC2 := Lib.hid (PgS.trans HC.out hc2)
      have HG2 := Lib.hid (HGr.out.pgs hc2 hB3)
      have HP2 := Lib.hid hp2
      have hs2 := hc2.size
      have HFM := Lib.hid (fun W (hb : Below w2.heap.size w2 W) => fmt_c n hn0 hn1 W (HG2.out.bel hb))
      have HWS := Lib.hid (fun W (hb : Below w2.heap.size w2 W) => writeString_c B b (ys ++ [32]) (Lib.itoa n) W (HP2.out.below hb) (by have := hb.size; omega) (by simp; omega))
      clear hp2 hc2 HWB q0
      go_region_with (first
        | (go_at_call 91; (with_reducible refine (HFM.out _ (by (repeat (first | (with_reducible first | exact Below.refl _ _ | assumption | exact ext_box _) | (with_reducible apply Below.drew) | ((with_reducible refine Below.setCell ?_ ?hs _); (case hs => first | (simp; done) | (simp; omega) | omega)) | ((with_reducible refine Below.alloc ?_ ?hs _); (case hs => first | (simp; done) | (simp; omega) | omega)))))).mono ?_); rintro e w3 ⟨rfl, hb3⟩; have HB3 : Below w2.heap.size w2 w3 := Below.then_ (by (repeat (first | (with_reducible first | exact Below.refl _ _ | assumption | exact ext_box _) | (with_reducible apply Below.drew) | ((with_reducible refine Below.setCell ?_ ?hs _); (case hs => first | (simp; done) | (simp; omega) | omega)) | ((with_reducible refine Below.alloc ?_ ?hs _); (case hs => first | (simp; done) | (simp; omega) | omega))))) hb3)
        | (go_at_call 89; (with_reducible refine (HWS.out _ (by (repeat (first | (with_reducible first | exact Below.refl _ _ | assumption | exact ext_box _) | (with_reducible apply Below.drew) | ((with_reducible refine Below.setCell ?_ ?hs _); (case hs => first | (simp; done) | (simp; omega) | omega)) | ((with_reducible refine Below.alloc ?_ ?hs _); (case hs => first | (simp; done) | (simp; omega) | omega)))))).mono ?_); rintro e w4 ⟨rfl, hp4, hc4⟩))
      all_goals
        have HP4 := Lib.hid hp4
        have HC4 := Lib.hid (PgS.trans HC2.out (PgS.trans (PgS.of (chg_of HB3)) hc4))
        clear hp4 hc4
        go_wp2
        go_roundw
        case rel => exact ⟨k + 1, by omega, by go_num, by rw [← HSN.out]; have := HP4.out; rw [List.append_assoc] at this; exact this, HC4.out⟩
        case measure => simp [intOf]; omega
    · have hke : k = ns.length := by omega
      subst hke
      rw [List.take_length] at HYS
      have HWB := Lib.hid (writeByte_c B b ys 10 wr HP.out hBr (by omega))
      have HE := Lib.hid (show ys ++ [10] = l ++ lineB word ns by rw [← HYS.out, lineB]; simp [List.append_assoc])
      clear hVr hGr
      go_wp2_with (go_at_call 90; (refine HWB.out.mono ?_); rintro e w2 ⟨rfl, hp2, hc2⟩)
      refine bodyPost_end (v := .tuple #[]) (by simp [results, Tryd.results58, go_sem]) rfl ?_
      rw [HE.out] at hp2
      exact ⟨rfl, hp2, PgS.trans HC.out hc2⟩
end Go.Proofs.YtnnfjjgohhicjaaDoor
namespace Go.Proofs.YtnnfjjgohhicjaaDoor
open Go.RowKit
set_option linter.unusedSimpArgs false
set_option linter.unusedVariables false
set_option maxRecDepth 100000

def selL (fl : List (Bool × Int)) : List Int := (fl.filter (·.1)).map (·.2)
theorem selL_snoc {fl : List (Bool × Int)} {j : Nat} {p : Bool × Int} (h : fl[j]? = some p) : selL (fl.take (j + 1)) = selL (fl.take j) ++ if p.1 then [p.2] else [] := by
  obtain ⟨u, x⟩ := p
  rw [take_snoc h]
  cases u <;> simp [selL, List.filter_append]
theorem selL_fields (x : Instr) (h1 : 1 ≤ x.op) (h2 : x.op ≤ 13) : selL [(usedD x.op, x.dst), (usedA x.op, x.a), (usedB x.op, x.b), (usedI x.op, x.imm)] = fieldsL x := by
  obtain ⟨op, dst, a, b, imm⟩ := x
  dsimp only at *
  rcases (by omega : op = 1 ∨ op = 2 ∨ op = 3 ∨ op = 4 ∨ op = 5 ∨ op = 6 ∨ op = 7 ∨ op = 8 ∨ op = 9 ∨ op = 10 ∨ op = 11 ∨ op = 12 ∨ op = 13) with rfl | rfl | rfl | rfl | rfl | rfl | rfl | rfl | rfl | rfl | rfl | rfl | rfl
  all_goals simp [selL, usedD, usedA, usedB, usedI, fieldsL, useL, fld]
set_option maxHeartbeats 4000000 in
theorem instr_c (B b : Nat) (l : List UInt8) (x : Instr) (w : World) (h : Pg B b l w) (hB3 : 3 ≤ B) (hG : Globs w) (h1 : 1 ≤ x.op) (h2 : x.op ≤ 13) (hS : Small [x.dst, x.a, x.b, x.imm]) (hl : l.length ≤ 549755813888) :
    Calls Tryd.prog 59 #[.pointer (some ⟨b, 0, none⟩), x.v] w fun e w' => e = .returned (.tuple #[]) ∧ Pg B b (l ++ instrL x) w' ∧ Chg (PgS B b w) w w' := by
  obtain ⟨i0, hi, hz0, hz1, hz2⟩ := info_parts info_i64
  obtain ⟨k, hk⟩ : ∃ k : Nat, x.op = k := ⟨x.op.toNat, by omega⟩
  have hk14 : k < 14 := by omega
  have s0 : w.cell? ⟨0, k * 4, none⟩ = some (.bool (usedD x.op)) := by have := hG.sh k hk14 0 _ rfl; rw [hk]; exact this
  have s1 : w.cell? ⟨0, k * 4 + 1, none⟩ = some (.bool (usedA x.op)) := by have := hG.sh k hk14 1 _ rfl; rw [hk]; exact this
  have s2 : w.cell? ⟨0, k * 4 + 2, none⟩ = some (.bool (usedB x.op)) := by have := hG.sh k hk14 2 _ rfl; rw [hk]; exact this
  have s3 : w.cell? ⟨0, k * 4 + 3, none⟩ = some (.bool (usedI x.op)) := by have := hG.sh k hk14 3 _ rfl; rw [hk]; exact this
  have hpos := hG.pos
  have hp0 : 0 < w.heap.size := by omega
  have HSL := Lib.hid (selL_fields x h1 h2)
  have HIL := Lib.hid (show instrL x = lineB (wordL x.op) (fieldsL x) from rfl)
  have hwl := wordL_len x.op
  have hul := useL_len x.op
  have HFS := Lib.hid (show Small (fieldsL x) ∧ (fieldsL x).length ≤ 3 from ⟨fun n hn => by
    obtain ⟨c, hc, rfl⟩ := List.mem_map.1 hn
    rcases useL_mem hc with rfl | rfl | rfl | rfl <;> exact hS _ (by simp [fld]), by rw [fieldsL, List.length_map]; exact hul⟩)
  have n0 := hG.nm k (by omega) (by omega)
  rw [← hk] at n0
  have HP := Lib.hid h
  have HG := Lib.hid hG
  have hbw := h.lt
  obtain ⟨fl, hfl⟩ : ∃ fl, [(usedD x.op, x.dst), (usedA x.op, x.a), (usedB x.op, x.b), (usedI x.op, x.imm)] = fl := ⟨_, rfl⟩
  have hf0 : fl[0]? = some (usedD x.op, x.dst) := by rw [← hfl]; rfl
  have hf1 : fl[1]? = some (usedA x.op, x.a) := by rw [← hfl]; rfl
  have hf2 : fl[2]? = some (usedB x.op, x.b) := by rw [← hfl]; rfl
  have hf3 : fl[3]? = some (usedI x.op, x.imm) := by rw [← hfl]; rfl
  have hfll : fl.length = 4 := by rw [← hfl]; rfl
  rw [hfl] at HSL
  have HF0 := Lib.hid (selL_snoc hf0)
  have HF1 := Lib.hid (selL_snoc hf1)
  have HF2 := Lib.hid (selL_snoc hf2)
  have HF3 := Lib.hid (selL_snoc hf3)
  have HFT := Lib.hid (show fl.take 4 = fl from by rw [← hfll]; exact List.take_length)
  generalize usedD x.op = fd at *
  generalize usedA x.op = fa at *
  generalize usedB x.op = fb at *
  generalize usedI x.op = fi at *
  obtain ⟨WL, hWL⟩ : ∃ WL, wordL x.op = WL := ⟨_, rfl⟩
  rw [hWL] at n0 hwl HIL
  rw [hk] at h1 h2
  obtain ⟨op, dst, a, bb, imm⟩ := x
  dsimp only at *
  subst hk
  obtain ⟨Wb, hWb⟩ : ∃ Wb, (((w.alloc (.cells #[.int .i64 k, .int .i64 dst, .int .i64 a, .int .i64 bb, .int .i64 imm] 72)).alloc (.cells #[.bool fd, .bool fa, .bool fb, .bool fi] 92)).alloc (.cells #[] 2)).alloc (.cells #[.bool fd, .int .i64 dst, .bool fa, .int .i64 a, .bool fb, .int .i64 bb, .bool fi, .int .i64 imm] 153) = Wb := ⟨_, rfl⟩
  have HWb := Lib.hid hWb
  have zWb : Wb.heap.size = w.heap.size + 1 + 1 + 1 + 1 := by rw [← hWb]; simp
  have HX := Lib.hid (show Bk w.heap.size 72 [.int .i64 k, .int .i64 dst, .int .i64 a, .int .i64 bb, .int .i64 imm] Wb by
    rw [← hWb]; exact ((((Bk.made w _ _).below ((Below.refl _ _).alloc (Nat.le_refl _) _)).below ((Below.refl _ _).alloc (Nat.le_refl _) _)).below ((Below.refl _ _).alloc (Nat.le_refl _) _)))
  have HQ := Lib.hid (show Bk (w.heap.size + 1 + 1 + 1) 153 [.bool fd, .int .i64 dst, .bool fa, .int .i64 a, .bool fb, .int .i64 bb, .bool fi, .int .i64 imm] Wb by
    rw [← hWb]; have := Bk.made (((w.alloc (.cells #[.int .i64 k, .int .i64 dst, .int .i64 a, .int .i64 bb, .int .i64 imm] 72)).alloc (.cells #[.bool fd, .bool fa, .bool fb, .bool fi] 92)).alloc (.cells #[] 2)) 153 [.bool fd, .int .i64 dst, .bool fa, .int .i64 a, .bool fb, .int .i64 bb, .bool fi, .int .i64 imm]; simpa only [World.size_alloc] using this)
  have HE := Lib.hid (show Row 2 kI64 Wb (.slice (some ⟨w.heap.size + 1 + 1, 0, none⟩) 0 0) ([] : List Int) [w.heap.size + 1 + 1] by
    rw [← hWb]; exact (Row.empty0 (W := ((w.alloc (.cells #[.int .i64 k, .int .i64 dst, .int .i64 a, .int .i64 bb, .int .i64 imm] 72)).alloc (.cells #[.bool fd, .bool fa, .bool fb, .bool fi] 92))) (by simp)).chg (S := fun _ => False) ((Chg.refl _ _).alloc _) (by simp))
  have HBW := Lib.hid (show Below w.heap.size w Wb by rw [← hWb]; exact ((((Below.refl _ _).alloc (Nat.le_refl _) _).alloc (by simp) _).alloc (by simp; omega) _).alloc (by simp; omega) _)
  clear h hG hS hfl hf0 hf1 hf2 hf3 hWb hWL hul
  simp only [Instr.v]
  go_enter Tryd.func59, Tryd.ntmps59
  go_wp2
  go_loopw [5, 35] (fun t5 t35 wr => ∃ (j : Nat) (vs : List Int) (Av : Option Addr) (cv : Nat) (fpv : List Nat), j ≤ 4 ∧ vs = selL (fl.take j) ∧ t5 = .slice Av vs.length cv ∧ t35 = .int .i64 j ∧ Row 2 kI64 wr (.slice Av vs.length cv) vs fpv ∧ (∀ q ∈ fpv, q = w.heap.size + 1 + 1 ∨ Wb.heap.size ≤ q) ∧ Chg (fun q => q = w.heap.size + 1 + 1 ∨ Wb.heap.size ≤ q) Wb wr) (fun _ t35 _ => 4 - (intOf t35).toNat)
  case atStart => rw [HWb.out]; exact ⟨0, [], _, 0, [w.heap.size + 1 + 1], by omega, by simp [selL], rfl, rfl, HE.out, by simp, Chg.refl _ _⟩
  case round =>
    obtain ⟨j, vs, Av, cv, fpv, hj, hvs, rfl, rfl, hr, hf, hc⟩ := hrel
    have HR := Lib.hid hr
    have HF := Lib.hid hf
    have HC := Lib.hid hc
    have HV := Lib.hid hvs
    have hx := HX.out.chg hc (fun e => by omega)
    have hq := HQ.out.chg hc (fun e => by omega)
    have zx := hx.lt
    have zq := hq.lt
    have hvl : vs.length ≤ 4 := by rw [hvs, selL, List.length_map]; exact Nat.le_trans (List.length_filter_le _ _) (by rw [List.length_take]; omega)
    have hsr := hc.size
    by_cases hlt : j < 4
    · rcases (by omega : j = 0 ∨ j = 1 ∨ j = 2 ∨ j = 3) with rfl | rfl | rfl | rfl
      · have e0 := hq.cell 0 (v := .bool fd) rfl
        have e1 := hq.cell 1 (v := .int .i64 dst) rfl
        have HFJ := HF0
        clear hx hq hr hf hc hvs HX HQ HE HBW HF0 HF1 HF2 HF3
        cases fd
        · have HSN := Lib.hid (show vs = selL (fl.take 1) by rw [HFJ.out, ← HV.out]; simp)
          go_wp2
          go_roundw
          case rel => exact ⟨1, vs, Av, cv, fpv, by omega, HSN.out, rfl, by go_num, HR.out.chg (S := fun _ => False) ((Chg.refl _ _).alloc _) (by simp), HF.out, HC.out.alloc _⟩
          case measure => simp [intOf]
        · have HSN := Lib.hid (show vs ++ [dst] = selL (fl.take 1) by rw [HFJ.out, ← HV.out]; simp)
          go_wp2_with (at_builtin; refine wpList_append_row kI64 rfl _ _ 49 rfl 2 i0 _ 8 Tryd.underlying49 hi hz0 hz1 hz2 rfl (by decide) _ vs fpv rfl (HR.out.chg (S := fun _ => False) (by (repeat (first | (with_reducible first | exact Chg.refl _ _ | assumption) | (with_reducible refine Chg.drew ?_) | ((with_reducible refine Chg.setCell ?_ ?hs _); (case hs => first | (simp; done) | (simp; omega) | omega)) | (with_reducible refine Chg.alloc ?_ _)))) (by simp)) _ _ [.int .i64 dst] dst [] rfl ⟨rfl, rfl⟩ (by simp) (box_news (by simp)) (by simp [maxLen]; omega) (by omega) ?_; intro g cap w3 fp3 hr3 hf3 hC3)
          have HC3 := Lib.hid (show Chg (fun q => q = w.heap.size + 1 + 1 ∨ Wb.heap.size ≤ q) wr w3 from Chg.trans (by (repeat (first | (with_reducible first | exact Chg.refl _ _ | assumption) | (with_reducible refine Chg.drew ?_) | ((with_reducible refine Chg.setCell ?_ ?hs _); (case hs => first | (simp; done) | (simp; omega) | omega)) | (with_reducible refine Chg.alloc ?_ _)))) (hC3.mono fun q _ hq => HF.out q hq))
          go_roundw
          case rel => exact ⟨1, vs ++ [dst], some ⟨g, 0, none⟩, cap, fp3, by omega, HSN.out, by simp, by go_num, by simpa using hr3, fun q hq => by
            rcases hf3 q hq with h | h | h
            · exact HF.out q h
            · simp at h
            · simp at h; exact .inr (by omega), HC.out.trans HC3.out⟩
          case measure => simp [intOf]
      · have e0 := hq.cell 2 (v := .bool fa) rfl
        have e1 := hq.cell 3 (v := .int .i64 a) rfl
        have HFJ := HF1
        clear hx hq hr hf hc hvs HX HQ HE HBW HF0 HF1 HF2 HF3
        cases fa
        · have HSN := Lib.hid (show vs = selL (fl.take 2) by rw [HFJ.out, ← HV.out]; simp)
          go_wp2
          go_roundw
          case rel => exact ⟨2, vs, Av, cv, fpv, by omega, HSN.out, rfl, by go_num, HR.out.chg (S := fun _ => False) ((Chg.refl _ _).alloc _) (by simp), HF.out, HC.out.alloc _⟩
          case measure => simp [intOf]
        · have HSN := Lib.hid (show vs ++ [a] = selL (fl.take 2) by rw [HFJ.out, ← HV.out]; simp)
          go_wp2_with (at_builtin; refine wpList_append_row kI64 rfl _ _ 49 rfl 2 i0 _ 8 Tryd.underlying49 hi hz0 hz1 hz2 rfl (by decide) _ vs fpv rfl (HR.out.chg (S := fun _ => False) (by (repeat (first | (with_reducible first | exact Chg.refl _ _ | assumption) | (with_reducible refine Chg.drew ?_) | ((with_reducible refine Chg.setCell ?_ ?hs _); (case hs => first | (simp; done) | (simp; omega) | omega)) | (with_reducible refine Chg.alloc ?_ _)))) (by simp)) _ _ [.int .i64 a] a [] rfl ⟨rfl, rfl⟩ (by simp) (box_news (by simp)) (by simp [maxLen]; omega) (by omega) ?_; intro g cap w3 fp3 hr3 hf3 hC3)
          have HC3 := Lib.hid (show Chg (fun q => q = w.heap.size + 1 + 1 ∨ Wb.heap.size ≤ q) wr w3 from Chg.trans (by (repeat (first | (with_reducible first | exact Chg.refl _ _ | assumption) | (with_reducible refine Chg.drew ?_) | ((with_reducible refine Chg.setCell ?_ ?hs _); (case hs => first | (simp; done) | (simp; omega) | omega)) | (with_reducible refine Chg.alloc ?_ _)))) (hC3.mono fun q _ hq => HF.out q hq))
          go_roundw
          case rel => exact ⟨2, vs ++ [a], some ⟨g, 0, none⟩, cap, fp3, by omega, HSN.out, by simp, by go_num, by simpa using hr3, fun q hq => by
            rcases hf3 q hq with h | h | h
            · exact HF.out q h
            · simp at h
            · simp at h; exact .inr (by omega), HC.out.trans HC3.out⟩
          case measure => simp [intOf]
      · have e0 := hq.cell 4 (v := .bool fb) rfl
        have e1 := hq.cell 5 (v := .int .i64 bb) rfl
        have HFJ := HF2
        clear hx hq hr hf hc hvs HX HQ HE HBW HF0 HF1 HF2 HF3
        cases fb
        · have HSN := Lib.hid (show vs = selL (fl.take 3) by rw [HFJ.out, ← HV.out]; simp)
          go_wp2
          go_roundw
          case rel => exact ⟨3, vs, Av, cv, fpv, by omega, HSN.out, rfl, by go_num, HR.out.chg (S := fun _ => False) ((Chg.refl _ _).alloc _) (by simp), HF.out, HC.out.alloc _⟩
          case measure => simp [intOf]
        · have HSN := Lib.hid (show vs ++ [bb] = selL (fl.take 3) by rw [HFJ.out, ← HV.out]; simp)
          go_wp2_with (at_builtin; refine wpList_append_row kI64 rfl _ _ 49 rfl 2 i0 _ 8 Tryd.underlying49 hi hz0 hz1 hz2 rfl (by decide) _ vs fpv rfl (HR.out.chg (S := fun _ => False) (by (repeat (first | (with_reducible first | exact Chg.refl _ _ | assumption) | (with_reducible refine Chg.drew ?_) | ((with_reducible refine Chg.setCell ?_ ?hs _); (case hs => first | (simp; done) | (simp; omega) | omega)) | (with_reducible refine Chg.alloc ?_ _)))) (by simp)) _ _ [.int .i64 bb] bb [] rfl ⟨rfl, rfl⟩ (by simp) (box_news (by simp)) (by simp [maxLen]; omega) (by omega) ?_; intro g cap w3 fp3 hr3 hf3 hC3)
          have HC3 := Lib.hid (show Chg (fun q => q = w.heap.size + 1 + 1 ∨ Wb.heap.size ≤ q) wr w3 from Chg.trans (by (repeat (first | (with_reducible first | exact Chg.refl _ _ | assumption) | (with_reducible refine Chg.drew ?_) | ((with_reducible refine Chg.setCell ?_ ?hs _); (case hs => first | (simp; done) | (simp; omega) | omega)) | (with_reducible refine Chg.alloc ?_ _)))) (hC3.mono fun q _ hq => HF.out q hq))
          go_roundw
          case rel => exact ⟨3, vs ++ [bb], some ⟨g, 0, none⟩, cap, fp3, by omega, HSN.out, by simp, by go_num, by simpa using hr3, fun q hq => by
            rcases hf3 q hq with h | h | h
            · exact HF.out q h
            · simp at h
            · simp at h; exact .inr (by omega), HC.out.trans HC3.out⟩
          case measure => simp [intOf]
      · have e0 := hq.cell 6 (v := .bool fi) rfl
        have e1 := hq.cell 7 (v := .int .i64 imm) rfl
        have HFJ := HF3
        clear hx hq hr hf hc hvs HX HQ HE HBW HF0 HF1 HF2 HF3
        cases fi
        · have HSN := Lib.hid (show vs = selL (fl.take 4) by rw [HFJ.out, ← HV.out]; simp)
          go_wp2
          go_roundw
          case rel => exact ⟨4, vs, Av, cv, fpv, by omega, HSN.out, rfl, by go_num, HR.out.chg (S := fun _ => False) ((Chg.refl _ _).alloc _) (by simp), HF.out, HC.out.alloc _⟩
          case measure => simp [intOf]
        · have HSN := Lib.hid (show vs ++ [imm] = selL (fl.take 4) by rw [HFJ.out, ← HV.out]; simp)
          go_wp2_with (at_builtin; refine wpList_append_row kI64 rfl _ _ 49 rfl 2 i0 _ 8 Tryd.underlying49 hi hz0 hz1 hz2 rfl (by decide) _ vs fpv rfl (HR.out.chg (S := fun _ => False) (by (repeat (first | (with_reducible first | exact Chg.refl _ _ | assumption) | (with_reducible refine Chg.drew ?_) | ((with_reducible refine Chg.setCell ?_ ?hs _); (case hs => first | (simp; done) | (simp; omega) | omega)) | (with_reducible refine Chg.alloc ?_ _)))) (by simp)) _ _ [.int .i64 imm] imm [] rfl ⟨rfl, rfl⟩ (by simp) (box_news (by simp)) (by simp [maxLen]; omega) (by omega) ?_; intro g cap w3 fp3 hr3 hf3 hC3)
          have HC3 := Lib.hid (show Chg (fun q => q = w.heap.size + 1 + 1 ∨ Wb.heap.size ≤ q) wr w3 from Chg.trans (by (repeat (first | (with_reducible first | exact Chg.refl _ _ | assumption) | (with_reducible refine Chg.drew ?_) | ((with_reducible refine Chg.setCell ?_ ?hs _); (case hs => first | (simp; done) | (simp; omega) | omega)) | (with_reducible refine Chg.alloc ?_ _)))) (hC3.mono fun q _ hq => HF.out q hq))
          go_roundw
          case rel => exact ⟨4, vs ++ [imm], some ⟨g, 0, none⟩, cap, fp3, by omega, HSN.out, by simp, by go_num, by simpa using hr3, fun q hq => by
            rcases hf3 q hq with h | h | h
            · exact HF.out q h
            · simp at h
            · simp at h; exact .inr (by omega), HC.out.trans HC3.out⟩
          case measure => simp [intOf]
    · obtain rfl : j = 4 := by omega
      have e0 := hx.cell 0 (v := .int .i64 k) rfl
      have HE2 := Lib.hid (show vs = fieldsL ⟨k, dst, a, bb, imm⟩ by rw [HV.out, HFT.out, HSL.out])
      have HCW := Lib.hid (show Chg (fun _ => False) w wr from chg_of (HBW.out.trans (hc.below HBW.out.size fun q hq => by omega)))
      have n1 := (HCW.out.cell (p := ⟨1, k, none⟩) (by show 1 < _; omega) (by simp)).trans n0
      have hb3' : Below w.heap.size w wr := bel HCW.out
      have z1 : 1 < wr.heap.size := by have := hb3'.size; omega
      have HRW := Lib.hid (row_c B b l WL (.slice Av vs.length cv) vs fpv wr (HP.out.below hb3') hB3 (HG.out.bel hb3') HR.out (by rw [HE2.out]; exact HFS.out.1) (by omega) hl (by omega))
      clear hx hq hr hf hc hvs
      go_wp2_with (go_at_call 58; (refine HRW.out.mono ?_); rintro e w2 ⟨rfl, hp2, hc2⟩)
      refine bodyPost_end (v := .tuple #[]) (by simp [results, Tryd.results59, go_sem]) rfl ?_
      rw [HIL.out, ← HE2.out]
      exact ⟨rfl, hp2, PgS.trans (PgS.of HCW.out) hc2⟩
end Go.Proofs.YtnnfjjgohhicjaaDoor
namespace Go.Proofs.YtnnfjjgohhicjaaDoor
open Go.RowKit
set_option linter.unusedSimpArgs false
set_option linter.unusedVariables false
set_option maxRecDepth 100000

theorem litRow (W : World) (l : List Int) (h : l ≠ []) (hl : l.length ≤ 1048576) : Row 2 kI64 (W.alloc (.cells (l.map (Value.int .i64)).toArray 2)) (.slice (some ⟨W.heap.size, 0, none⟩) l.length l.length) l [W.heap.size] :=
  row_of_bk (Bk.made W 2 (l.map (Value.int .i64))) (by simp only [maxLen]; omega)
section
variable (B b : Nat) (l : List UInt8) (w : World) (h : Pg B b l w) (hB3 : 3 ≤ B) (hG : Globs w)
include h hB3 hG
theorem rowL1 (n : Int) (word : List UInt8) (W : World) (c : Nat) (hc : c = W.heap.size) (hb : Below w.heap.size w W) (hS : Small [n]) (hl : l.length ≤ 549755813888) (hwl : word.length ≤ 100) :
    Calls Tryd.prog 58 #[.pointer (some ⟨b, 0, none⟩), sv word, .slice (some ⟨c, 0, none⟩) 1 1] (W.alloc (.cells #[.int .i64 n] 2)) fun e w' => e = .returned (.tuple #[]) ∧ Pg B b (l ++ lineB word [n]) w' ∧ Chg (PgS B b w) w w' := by
  subst hc
  have hb2 : Below w.heap.size w (W.alloc (.cells #[.int .i64 n] 2)) := hb.alloc hb.size _
  refine (row_c B b l word (.slice (some ⟨W.heap.size, 0, none⟩) 1 1) [n] [W.heap.size] _ (h.below hb2) hB3 (hG.bel hb2) (litRow W [n] (by simp) (by simp)) hS (by simp) hl hwl).mono fun e w' hp => ?_
  exact ⟨hp.1, hp.2.1, PgS.trans (PgS.of (chg_of hb2)) hp.2.2⟩
theorem rowL3 (n1 n2 n3 : Int) (word : List UInt8) (W : World) (c : Nat) (hc : c = W.heap.size) (hb : Below w.heap.size w W) (hS : Small [n1, n2, n3]) (hl : l.length ≤ 549755813888) (hwl : word.length ≤ 100) :
    Calls Tryd.prog 58 #[.pointer (some ⟨b, 0, none⟩), sv word, .slice (some ⟨c, 0, none⟩) 3 3] (W.alloc (.cells #[.int .i64 n1, .int .i64 n2, .int .i64 n3] 2)) fun e w' => e = .returned (.tuple #[]) ∧ Pg B b (l ++ lineB word [n1, n2, n3]) w' ∧ Chg (PgS B b w) w w' := by
  subst hc
  have hb2 : Below w.heap.size w (W.alloc (.cells #[.int .i64 n1, .int .i64 n2, .int .i64 n3] 2)) := hb.alloc hb.size _
  refine (row_c B b l word (.slice (some ⟨W.heap.size, 0, none⟩) 3 3) [n1, n2, n3] [W.heap.size] _ (h.below hb2) hB3 (hG.bel hb2) (litRow W [n1, n2, n3] (by simp) (by simp)) hS (by simp) hl hwl).mono fun e w' hp => ?_
  exact ⟨hp.1, hp.2.1, PgS.trans (PgS.of (chg_of hb2)) hp.2.2⟩
theorem rowL0 (word : List UInt8) (hl : l.length ≤ 549755813888) (hwl : word.length ≤ 100) :
    Calls Tryd.prog 58 #[.pointer (some ⟨b, 0, none⟩), sv word, .slice none 0 0] w fun e w' => e = .returned (.tuple #[]) ∧ Pg B b (l ++ lineB word []) w' ∧ Chg (PgS B b w) w w' :=
  row_c B b l word (.slice none 0 0) [] [] w h hB3 hG (Row.nil _ _ _) (fun n hn => by simp at hn) (by simp) hl hwl
end
set_option maxHeartbeats 2000000 in
theorem term_c (B b : Nat) (l : List UInt8) (t : Term) (w : World) (h : Pg B b l w) (hB3 : 3 ≤ B) (hG : Globs w) (h1 : 1 ≤ t.kind) (h2 : t.kind ≤ 3) (hS : Small [t.a, t.to, t.els]) (hl : l.length ≤ 549755813888) :
    Calls Tryd.prog 60 #[.pointer (some ⟨b, 0, none⟩), t.v] w fun e w' => e = .returned (.tuple #[]) ∧ Pg B b (l ++ termL t) w' ∧ Chg (PgS B b w) w w' := by
  have HSa := Lib.hid (show Small [t.a] from fun n hn => hS n (by simp at hn ⊢; omega))
  have HSt := Lib.hid (show Small [t.to] from fun n hn => hS n (by simp at hn ⊢; omega))
  have HS3 := Lib.hid hS
  have HP1 := Lib.hid (rowL1 B b l w h hB3 hG)
  have HP3 := Lib.hid (rowL3 B b l w h hB3 hG)
  clear h hG hS
  simp only [Term.v]
  rcases (by omega : t.kind = 1 ∨ t.kind = 3 ∨ t.kind = 2) with e | e | e
  · have HT := Lib.hid (show termL t = lineB [106, 117, 109, 112] [t.to] by rw [termL, if_pos e])
    have hk1 : (t.kind == 1) = true := by simp [e]
    have hk2 : (t.kind == 2) = false := by simp [e]
    have hk3 : (t.kind == 3) = false := by simp [e]
    clear h1 h2 e
    go_enter Tryd.func60, Tryd.ntmps60
    go_wp2_with (go_at_call 58; (with_reducible refine (HP1.out t.to [106, 117, 109, 112] _ _ (by simp) (by (repeat (first | (with_reducible first | exact Below.refl _ _ | assumption | exact ext_box _) | (with_reducible apply Below.drew) | ((with_reducible refine Below.setCell ?_ ?hs _); (case hs => first | (simp; done) | (simp; omega) | omega)) | ((with_reducible refine Below.alloc ?_ ?hs _); (case hs => first | (simp; done) | (simp; omega) | omega))))) HSt.out hl (by decide)).mono ?_); rintro e w2 ⟨rfl, hp2, hc2⟩)
    refine bodyPost_end (v := .tuple #[]) (by simp [results, Tryd.results60, go_sem]) rfl ?_
    rw [HT.out]
    exact ⟨rfl, hp2, hc2⟩
  · have HT := Lib.hid (show termL t = lineB [114, 101, 116] [t.a] by rw [termL, if_neg (by omega), if_pos e])
    have hk1 : (t.kind == 1) = false := by simp [e]
    have hk2 : (t.kind == 2) = false := by simp [e]
    have hk3 : (t.kind == 3) = true := by simp [e]
    clear h1 h2 e
    go_enter Tryd.func60, Tryd.ntmps60
    go_wp2_with (go_at_call 58; (with_reducible refine (HP1.out t.a [114, 101, 116] _ _ (by simp) (by (repeat (first | (with_reducible first | exact Below.refl _ _ | assumption | exact ext_box _) | (with_reducible apply Below.drew) | ((with_reducible refine Below.setCell ?_ ?hs _); (case hs => first | (simp; done) | (simp; omega) | omega)) | ((with_reducible refine Below.alloc ?_ ?hs _); (case hs => first | (simp; done) | (simp; omega) | omega))))) HSa.out hl (by decide)).mono ?_); rintro e w2 ⟨rfl, hp2, hc2⟩)
    refine bodyPost_end (v := .tuple #[]) (by simp [results, Tryd.results60, go_sem]) rfl ?_
    rw [HT.out]
    exact ⟨rfl, hp2, hc2⟩
  · have HT := Lib.hid (show termL t = lineB [98, 114, 97, 110, 99, 104] [t.a, t.to, t.els] by rw [termL, if_neg (by omega), if_neg (by omega)])
    have hk1 : (t.kind == 1) = false := by simp [e]
    have hk2 : (t.kind == 2) = true := by simp [e]
    have hk3 : (t.kind == 3) = false := by simp [e]
    clear h1 h2 e
    go_enter Tryd.func60, Tryd.ntmps60
    go_wp2_with (go_at_call 58; (with_reducible refine (HP3.out t.a t.to t.els [98, 114, 97, 110, 99, 104] _ _ (by simp) (by (repeat (first | (with_reducible first | exact Below.refl _ _ | assumption | exact ext_box _) | (with_reducible apply Below.drew) | ((with_reducible refine Below.setCell ?_ ?hs _); (case hs => first | (simp; done) | (simp; omega) | omega)) | ((with_reducible refine Below.alloc ?_ ?hs _); (case hs => first | (simp; done) | (simp; omega) | omega))))) HS3.out hl (by decide)).mono ?_); rintro e w2 ⟨rfl, hp2, hc2⟩)
    refine bodyPost_end (v := .tuple #[]) (by simp [results, Tryd.results60, go_sem]) rfl ?_
    rw [HT.out]
    exact ⟨rfl, hp2, hc2⟩
end Go.Proofs.YtnnfjjgohhicjaaDoor
namespace Go.Proofs.YtnnfjjgohhicjaaDoor
open Go.RowKit
set_option linter.unusedSimpArgs false
set_option linter.unusedVariables false
set_option maxRecDepth 100000

theorem cells_u8 : (Tryd.prog).cellsOf 5 = 1 := by kernel_rfl
set_option maxHeartbeats 1000000 in
theorem str_c (B b : Nat) (l : List UInt8) (w : World) (h : Pg B b l w) (h0 : l ≠ []) (hl : l.length ≤ 1099511627776) :
    Calls Tryd.prog 61 #[.pointer (some ⟨b, 0, none⟩)] w fun e w' => e = .returned (sv l) ∧ Below B w w' := by
  obtain ⟨p, v, fp, hp, hk, hr, hf, hBb⟩ := h
  obtain ⟨hown, rfl⟩ := row_u8 hr hf
  have hl0 : l.length ≠ 0 := by simpa using h0
  obtain ⟨g, cap, cur, rfl, hbg, hg, hnc, hcm, hcs, htake⟩ : ∃ g cap cur, v = .slice (some ⟨g, 0, none⟩) l.length cap ∧ B ≤ g ∧ w.heap[g]? = some (.cells cur 5 (0, 0)) ∧ l.length ≤ cap ∧ cap ≤ maxLen ∧ cur.size = cap * 1 ∧ cur.toList.take (l.length * 1) = Lib.byteCells l := by
    rcases hown.2 with ⟨_, hz⟩ | ⟨g, cap, cur, hv, r⟩
    · exact absurd hz hl0
    · exact ⟨g, cap, cur, hv, r⟩
  have c1 : w.drew.cell? ⟨b, 1, none⟩ = some (.slice (some ⟨g, 0, none⟩) l.length cap) := by
    have : w.drew.heap[b]? = some (.cells #[.pointer p, .slice (some ⟨g, 0, none⟩) l.length cap] 102 (0, 0)) := hk
    rw [Lib.cell_of_heap this]; rfl
  have hSD : (Builtin.unsafeSliceData_ #[44] 156 #[.slice (some ⟨g, 0, none⟩) l.length cap]).run Tryd.prog w.drew = .ok (.pointer (some ⟨g, 0, none⟩)) w.drew :=
    Lib.run_unsafeSliceData_row _ _ _ _ _ _ (by omega)
  have hUS : (Builtin.unsafeString_ #[156, 3] 9 #[.pointer (some ⟨g, 0, none⟩), .int .i64 l.length]).run Tryd.prog w.drew = .ok (sv l) (w.drew.freeze ⟨g, 0, none⟩ l.length) := by
    refine Lib.run_unsafeString_row w.drew 156 3 9 5 Tryd.underlying156 cells_u8 g cur.size (by have hg' : w.drew.heap[g]? = some (.cells cur 5 (0, 0)) := hg; simp [World.shape?, hg']) l h0 (by omega) (by omega) ?_
    intro j x hx
    have := hown.cells (g := g) rfl j (.int .u8 x.toNat) (by simp [Lib.byteCells, hx])
    exact this
  have mixed : (Tryd.prog).follows Departure.mixedOrders = true := by kernel_rfl
  clear hk hr hf hp
  go_enter Tryd.func61, Tryd.ntmps61
  go_wp2
  go_region_o
  all_goals (go_wp2; go_ret; exact ⟨rfl, Lib.below_freeze (Below.drew (Below.refl B w)) (p := ⟨g, 0, none⟩) hbg _⟩)
/-- Bytes in block g that may be read and written. -/
def Wb (g : Nat) (xs : List Int) (w : World) : Prop :=
  ∃ cur fr, w.heap[g]? = some (.cells cur 5 fr) ∧ (∀ (i : Nat) (x : Int), xs[i]? = some x → cur[i]? = some (Value.int .u8 x)) ∧ xs.length ≤ fr.1
namespace Wb
variable {g : Nat} {xs : List Int} {w w' : World}
theorem lt (h : Wb g xs w) : g < w.heap.size := by obtain ⟨_, _, h, _⟩ := h; exact (Array.getElem?_eq_some_iff.1 h).1
theorem cell (h : Wb g xs w) {i : Nat} {x : Int} (hx : xs[i]? = some x) : w.cell? ⟨g, i, none⟩ = some (.int .u8 x) := by
  obtain ⟨cur, fr, hg, hc, _⟩ := h
  rw [cell_of_row w g i cur _ fr hg]; exact hc i x hx
theorem frozen (h : Wb g xs w) {i : Nat} (hi : i < xs.length) : w.frozen? ⟨g, i, none⟩ = false := by
  obtain ⟨cur, fr, hg, hc, hf⟩ := h
  unfold World.frozen?; rw [hg]; simp; omega
theorem keep (h : Wb g xs w) (hb : w'.heap[g]? = w.heap[g]?) : Wb g xs w' := by
  obtain ⟨cur, fr, hg, r⟩ := h
  exact ⟨cur, fr, hb.trans hg, r⟩
theorem below (h : Wb g xs w) (hb : Below w.heap.size w w') : Wb g xs w' := h.keep (hb.block g h.lt)
theorem chg {S : Nat → Prop} (h : Wb g xs w) (hc : Chg S w w') (hs : ¬ S g) : Wb g xs w' := h.keep (hc.block g h.lt hs)
theorem set (h : Wb g xs w) {i : Nat} (hi : i < xs.length) (x : Int) : Wb g (xs.set i x) (w.setCell ⟨g, i, none⟩ (.int .u8 x)) ∧ Chg (fun k => k = g) w (w.setCell ⟨g, i, none⟩ (.int .u8 x)) := by
  refine ⟨?_, (Chg.refl (fun k => k = g) w).setCell (p := ⟨g, i, none⟩) (.inl rfl) _⟩
  have hl := h.lt
  obtain ⟨cur, fr, hg, hc, hf⟩ := h
  have h' : w.heap[g] = .cells cur 5 fr := Option.some.inj ((Array.getElem?_eq_getElem hl).symm.trans hg)
  refine ⟨cur.setIfInBounds i (.int .u8 x), fr, ?_, fun j y hy => ?_, by simpa using hf⟩
  · simp [World.setCell, Array.getElem?_modify, Array.getElem_modify, h', hl]
  · rw [List.getElem?_set] at hy
    obtain ⟨z, hz⟩ := get_of_lt hi
    have hic : i < cur.size := (Array.getElem?_eq_some_iff.1 (hc i z hz)).1
    by_cases e : i = j
    · subst e; simp [hi] at hy; subst hy; simp [hic]
    · simp [e] at hy; rw [Array.getElem?_setIfInBounds_ne e]; exact hc j y hy
end Wb
abbrev ints8 (l : List UInt8) : List Int := l.map fun c => (c.toNat : Int)
/-- Bytes that may be written are the answer. -/
def RetW (w : World) (l : List UInt8) (e : Ending) (w' : World) : Prop := Below w.heap.size w w' ∧ ((∃ c, l = [] ∧ e = .returned (.slice none 0 c)) ∨ ∃ g c, e = .returned (.slice (some ⟨g, 0, none⟩) l.length c) ∧ w.heap.size ≤ g ∧ Wb g (ints8 l) w')
theorem bytes_wb (w : World) (l : List UInt8) : Wb w.heap.size (ints8 l) (Lib.bytesWorld w 5 ⟨l.toArray⟩) := by
  refine ⟨_, _, Lib.bytesWorld_at_new w _ _, fun i x hx => ?_, ?_⟩
  · rw [List.getElem?_map] at hx
    obtain ⟨c, hc, rfl⟩ := Option.map_eq_some_iff.1 hx
    have hi : i < l.length := (List.getElem?_eq_some_iff.1 hc).1
    have hce : l[i] = c := (List.getElem?_eq_some_iff.1 hc).2
    simp [Lib.bytesCells, Array.getElem?_append, hi, hce]
  · simp [Lib.bytesCells]
theorem conv_bytes (w : World) (l : List UInt8) : (convert 9 44 (sv l)).run Tryd.prog w = .ok (.slice (some ⟨w.heap.size, 0, none⟩) l.length (grownCap w l.length 0 5)) (Lib.bytesWorld w 5 ⟨l.toArray⟩) :=
  Lib.run_convert_string_bytes w 9 44 5 ⟨l.toArray⟩ Tryd.underlying9 Tryd.underlying44 Tryd.underlying5
end Go.Proofs.YtnnfjjgohhicjaaDoor
