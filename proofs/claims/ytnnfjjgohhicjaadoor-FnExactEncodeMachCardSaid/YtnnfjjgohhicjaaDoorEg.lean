/- Contracts: strings.Builder inside impl's page: copyCheck, WriteString, WriteByte. -/
import Derived.Test.YtnnfjjgohhicjaaDoorEf
import Derived.Lib.AppendStr
import Derived.Lib.Builder
import Derived.Laws.Externs
namespace Go.Proofs.YtnnfjjgohhicjaaDoor
open Go.RowKit
set_option linter.unusedSimpArgs false
set_option linter.unusedVariables false
set_option maxRecDepth 100000

theorem u8_flat {w : World} {xs : List UInt8} {css : List (List Value)} {fps : List (List Nat)} (h : All3 (kU8.O w) xs css fps) : css.flatten = Lib.byteCells xs ∧ fps.flatten = [] := by
  induction h with
  | nil => exact ⟨rfl, rfl⟩
  | cons h _ ih =>
    obtain ⟨rfl, rfl⟩ := h
    simp only [List.flatten_cons, ih.1, ih.2, List.append_nil]
    exact ⟨rfl, trivial⟩
theorem u8_all (w : World) : ∀ xs : List UInt8, All3 (kU8.O w) xs (xs.map fun c => [.int .u8 (c.toNat : Int)]) (xs.map fun _ => [])
  | [] => .nil
  | _ :: xs => .cons ⟨rfl, rfl⟩ (u8_all w xs)
theorem u8_row {w : World} {B : Nat} {v : Value} {xs : List UInt8} (h : w.ownsRow B 5 1 v xs.length (Lib.byteCells xs)) : Row 5 kU8 w v xs v.ownBlock.toList ∧ ∀ b ∈ v.ownBlock.toList, B ≤ b := by
  have hfl : (xs.map fun c => [Value.int .u8 (c.toNat : Int)]).flatten = Lib.byteCells xs := (u8_flat (u8_all w xs)).1
  have hfp : (xs.map fun _ => ([] : List Nat)).flatten = [] := (u8_flat (u8_all w xs)).2
  refine ⟨⟨_, _, ?_, u8_all w xs, by rw [hfp, List.append_nil], ?_⟩, fun b hb => ?_⟩
  · rw [hfl]
    refine ⟨h.1, ?_⟩
    rcases h.2 with h2 | ⟨g, cap, cur, h1, h2, h3⟩
    · exact .inl h2
    · exact .inr ⟨g, cap, cur, h1, Nat.zero_le _, h3⟩
  · cases v.ownBlock <;> simp
  · exact (h.lt b (by simpa using hb)).1
theorem row_u8 {w : World} {B : Nat} {v : Value} {xs : List UInt8} {fp : List Nat} (h : Row 5 kU8 w v xs fp) (hB : ∀ b ∈ fp, B ≤ b) : w.ownsRow B 5 1 v xs.length (Lib.byteCells xs) ∧ fp = v.ownBlock.toList := by
  obtain ⟨css, fps, ho, ha, rfl, hn⟩ := h
  obtain ⟨e1, e2⟩ := u8_flat ha
  rw [e1] at ho
  rw [e2, List.append_nil] at hB ⊢
  refine ⟨⟨ho.1, ?_⟩, rfl⟩
  rcases ho.2 with h2 | ⟨g, cap, cur, h1, h2, h3⟩
  · exact .inl h2
  · refine .inr ⟨g, cap, cur, h1, hB g (by rw [h1]; simp [Value.ownBlock]), h3⟩
theorem wpList_append_str {P : Program} {ops : Array Oper} {rest : List Oper} {o : Oper} {a : Act} {Q : Exit → Act → World → Prop} {w : World} (hgd : o.guard = none) (sl x : Operand) (t u : TypeId)
    (ho : o.op = .call { callee := .builtin .append, args := #[sl, x], argTypes := #[t, u] }) (i : TypeInfo) (ht : P.underlying t = some (.slice 5)) (hu : P.underlying u = some .string) (hi : P.info? 5 = some i) (hz : i.zero = some (.int .u8 0)) (hsize : i.size = 1) (hby : i.bytes = 1)
    (v : Value) (xs s : List UInt8) (fp : List Nat) (B : Nat) (hs : a.eval sl = v) (hrow : Row 5 kU8 w v xs fp) (hB : ∀ b ∈ fp, B ≤ b) (hBw : B ≤ w.heap.size) (hx : a.eval x = sv s) (hl : xs.length + s.length ≤ 140737488355328)
    (h : ∀ A c w' fp', Row 5 kU8 w' (.slice A (xs ++ s).length c) (xs ++ s) fp' → (∀ b ∈ fp', B ≤ b) → Chg (fun k => k ∈ fp) w w' → wpList P ops Q rest (a.put o.dst (.slice A (xs ++ s).length c)) w') : wpList P ops Q (o :: rest) a w := by
  obtain ⟨hown, rfl⟩ := row_u8 hrow hB
  have hsz : (⟨s.toArray⟩ : ByteArray).size = s.length := by simp [ByteArray.size]
  refine Lib.wpList_append_own_string _ hgd sl x t u ho B 5 i ht hu hi hz hsize hby v xs.length _ hs hown ⟨s.toArray⟩ hx (by rw [hsz]; unfold maxLen; omega) (by rw [hsz]; exact hl) hBw ?_
  intro v' w' ho' hg _
  have e : Lib.byteCells xs ++ Lib.strCells ⟨s.toArray⟩ = Lib.byteCells (xs ++ s) := by rw [Lib.strCells_eq, Lib.byteCells_append]
  rw [e, hsz, ← List.length_append] at ho'
  obtain ⟨hr, hf⟩ := u8_row ho'
  obtain ⟨A, c, rfl, -⟩ := hr.form
  exact h A c w' _ hr hf ((Chg.of_grown hg).mono fun k _ hk => by simp [hk])
/-- A page: its box b, the bytes in it, the blocks that these lie in (from B on). -/
def Pg (B b : Nat) (l : List UInt8) (w : World) : Prop :=
  ∃ p v fp, (p = none ∨ p = some ⟨b, 0, none⟩) ∧ Bk b 102 [.pointer p, v] w ∧ Row 5 kU8 w v l fp ∧ (∀ q ∈ fp, B ≤ q) ∧ B ≤ b
theorem Pg.ne {b : Nat} {T : TypeId} {cs : List Value} {v : Value} {l : List UInt8} {fp : List Nat} {w : World} (hb : Bk b T cs w) (hT : T ≠ 5) (hr : Row 5 kU8 w v l fp) : b ∉ fp := by
  intro hm
  obtain ⟨hown, rfl⟩ := row_u8 (B := 0) hr (fun _ _ => Nat.zero_le _)
  rcases hown.2 with ⟨rfl, _⟩ | ⟨g, cap, cur, rfl, _, hg, _⟩
  · simp [Value.ownBlock] at hm
  · simp [Value.ownBlock] at hm
    subst hm
    rw [show w.heap[b]? = _ from hb] at hg
    injection hg with hg
    injection hg with _ hg _
    exact hT hg
theorem info_builder : (Tryd.prog.info? 100).map (·.size) = some 2 := by kernel_rfl
theorem lies_builder : liesAt Tryd.prog (Tryd.prog).depth 102 (2 / (Tryd.prog).cellsOf 102) 0 100 1 = true := by kernel_rfl
set_option maxHeartbeats 1000000 in
theorem copyCheck_c (b : Nat) (v : Value) (p : Option Addr) (w : World) (h : Bk b 102 [.pointer p, v] w) (hp : p = none ∨ p = some ⟨b, 0, none⟩) :
    Calls Tryd.prog 110 #[.pointer (some ⟨b, 0, none⟩)] w fun e w' => e = .returned (.tuple #[]) ∧ Bk b 102 [.pointer (some ⟨b, 0, none⟩), v] w' ∧ Chg (fun k => k = b) w w' := by
  obtain ⟨j, hj, hjs⟩ := Option.map_eq_some_iff.1 info_builder
  have h0 := h.cell 0 (v := .pointer p) rfl
  have f0 := h.frozen 0
  have hsh : w.shape? b = some (102, 2) := by unfold World.shape?; rw [show w.heap[b]? = _ from h]; rfl
  have HB := Lib.hid h
  clear h
  rcases hp with rfl | rfl
  · go_enter Tryd.func110, Tryd.ntmps110
    go_wp2
    rw [Lib.run_to_unsafe w ⟨b, 0, none⟩ Tryd.underlying98 Tryd.underlying196 hj (by rw [hjs]; decide) hsh (Nat.zero_lt_succ 1)]
    simp only [Result.andThen]
    rw [Oper.upon_value]
    go_wp2
    rw [run_callFunc_extern Tryd.func119 (by kernel_rfl) (by kernel_rfl) (by kernel_rfl) (e := Extern.AbiNoEscape.same) (by kernel_rfl)]
    rw [Lib.run_noEscape]
    simp only [Result.andThen]
    rw [Oper.upon_value]
    go_wp2
    rw [Lib.run_from_unsafe w ⟨b, 0, none⟩ Tryd.underlying196 Tryd.underlying98 hj hsh lies_builder]
    simp only [Result.andThen]
    rw [Oper.upon_value]
    go_wp2
    refine bodyPost_end (v := .tuple #[]) (by simp [results, Tryd.results110, go_sem]) rfl ?_
    obtain ⟨h1, h2⟩ := HB.out.set 0 (.pointer (some ⟨b, 0, none⟩))
    exact ⟨rfl, h1, h2⟩
  · go_enter Tryd.func110, Tryd.ntmps110
    go_wp2
    rw [Lib.run_neq_ptr_same w _ Tryd.underlying98 hj]
    go_wp2
    refine bodyPost_end (v := .tuple #[]) (by simp [results, Tryd.results110, go_sem]) rfl ?_
    exact ⟨rfl, HB.out, Chg.refl _ _⟩
end Go.Proofs.YtnnfjjgohhicjaaDoor
