/-
  Plain facts for MessageForms: the seven messages, their bytes; each may be, and comes back as it was packed.
-/
import Derived.Test.YtjndigkphoiohaaDoorSame
import Derived.Test.YtjndigkphoiohaaDoorFormsA
namespace Go.Proofs.YtjndigkphoiohaaDoor
open Go.RowKit Go.Shelf
set_option maxRecDepth 100000

/-- A message, where its items lie, its bytes, where they lie. -/
structure FRow where
  m : Msg
  A : Option Addr
  b : Nat
  l : List Int
def FRow.cells (x : FRow) : Array Value := #[.int .i64 x.m.kind, .string x.m.f, .string x.m.e, .string x.m.t, .int .i64 x.m.n, .int .i64 x.m.state, .int .i64 x.m.number, .int .i64 x.m.epoch, .slice x.A x.m.items.length x.m.items.length, .slice (some ⟨x.b, 0, none⟩) x.l.length x.l.length]
def FRow.v (x : FRow) : Value := .agg x.cells
abbrev tZ9 : ByteArray := ⟨#[122, 57]⟩
def twoB (x y : Nat) : List Itm := [⟨tA, x, y⟩, ⟨tB, bit1, 0⟩]
def oneZ : List Itm := [⟨tZ9, 0, 0⟩]
def mfRows (n num ep c u : Int) (B : Nat) : List FRow := [
  ⟨⟨1, tF, tEX, t0, 0, 0, 0, 0, twoB (fint c) (fint u)⟩, some ⟨B, 0, none⟩, B + 1, [1, 1, 102, 2, 101, 120, 2, 1, 97, c, u, 1, 98, 1, 0]⟩,
  ⟨⟨4, tF, t0, tA, 0, 0, num, ep, []⟩, none, B + 1 + 1, [4, 1, 102, 1, 97, num, ep]⟩,
  ⟨⟨5, tF, t0, t0, 0, 0, 0, 0, []⟩, none, B + 1 + 1 + 1, [5, 1, 102, 0]⟩,
  ⟨⟨5, tF, t0, t0, 0, 0, 0, 0, oneZ⟩, some ⟨B + 1 + 1 + 1 + 1, 0, none⟩, B + 1 + 1 + 1 + 1 + 1, [5, 1, 102, 1, 2, 122, 57, 0, 0]⟩,
  ⟨⟨8, tF, tX, tA, n, 5, 0, 0, []⟩, none, B + 1 + 1 + 1 + 1 + 1 + 1, [8, 1, 102, 1, 120, n, 1, 97, 5]⟩,
  ⟨⟨11, tF, t0, tA, 0, 6, num, 200, []⟩, none, B + 1 + 1 + 1 + 1 + 1 + 1 + 1, [11, 1, 102, 1, 97, num, 200, 1, 6]⟩,
  ⟨⟨9, tF, tX, t0, n, 0, 0, 0, []⟩, none, B + 1 + 1 + 1 + 1 + 1 + 1 + 1 + 1, [9, 1, 102, 1, 120, n]⟩]

/-- What is asked of a row. -/
structure RowOk (m : Msg) (l : List Int) : Prop where
  valid : validS m = true
  k0 : 0 ≤ m.kind
  k1 : m.kind < 256
  back : Back m.items
  ok : MsgOk m
  need : ∀ x ∈ m.items, (npartsS x.re x.im).isSome = true
  fs : 0 < (fieldsS m.kind).size
  pack : packB m = l
  self : Self m.items
  len : m.items.length ≤ 1000000

theorem fint_self : ∀ k : Fin 101, (FloatKind.f64.format.order (fint (k.val : Int)) (fint (k.val : Int)) == some .eq) = true := by decide +kernel
theorem fint_selfI {n : Int} (h0 : 0 ≤ n) (h1 : n < 101) : (FloatKind.f64.format.order (fint n) (fint n) == some .eq) = true := by
  obtain ⟨k, rfl⟩ := Int.eq_ofNat_of_zero_le h0
  exact fint_self ⟨k, by omega⟩
theorem no_items_ok {m : Msg} (h : m.items = []) : Back m.items ∧ (∀ x ∈ m.items, (npartsS x.re x.im).isSome = true) ∧ Self m.items ∧ m.items.length ≤ 1000000 := by
  rw [h]
  exact ⟨⟨by simp, (fun x hx => absurd hx (List.not_mem_nil))⟩, (fun x hx => absurd hx (List.not_mem_nil)), (fun x hx => absurd hx (List.not_mem_nil)), by simp⟩
theorem msg_ok0 {m : Msg} (h : m.items = []) (hf : m.f.size ≤ 20) (he : m.e.size ≤ 20) (ht : m.t.size ≤ 20) : MsgOk m := by
  have hm : maxLen = 9223372036854775807 := rfl
  exact ⟨by omega, by omega, by omega, (fun x hx => absurd (h ▸ hx) (List.not_mem_nil)), (fun x hx => absurd (h ▸ hx) (List.not_mem_nil)), by rw [h]; simp⟩
theorem valid_of {m : Msg} (h1 : isQ (fieldsS m.kind) = false) (h2 : textsBad m = false) (h3 : numsBad m = false) (h4 : itemsBad m = false) : validS m = true := by
  unfold validS
  rw [h1, h2, h3, h4]
  rfl
theorem nums_of {m : Msg} (h1 : numBad (fieldsS m.kind) 78 m.n = false) (h2 : numBad (fieldsS m.kind) 83 m.state = false) (h3 : numBad (fieldsS m.kind) 85 m.number = false) (h4 : numBad (fieldsS m.kind) 80 m.epoch = false) : numsBad m = false := by
  unfold numsBad
  rw [h1, h2, h3, h4]
  rfl
theorem num_fine {fs : ByteArray} {k n : Int} (hh : hasS fs k = true) (hk : k ≠ 83) (h0 : 1 ≤ n) (h1 : n ≤ 100) : numBad fs k n = false := by
  unfold numBad numberS
  rw [hh, if_neg hk]
  simp
  omega
theorem pack_of {m : Msg} (k : Int) (fs : List Int) (hk : m.kind = k) (hf : bytesL (fieldsS k) = fs) : packB m = (k % 256) :: (fs.map (fieldB m)).flatten := by
  unfold packB
  rw [hk, hf]
theorem tb_F : textB tF = [1, 102] := by decide +kernel
theorem tb_X : textB tX = [1, 120] := by decide +kernel
theorem tb_EX : textB tEX = [2, 101, 120] := by decide +kernel
theorem tb_A : textB tA = [1, 97] := by decide +kernel
theorem tb_B : textB tB = [1, 98] := by decide +kernel
theorem tb_Z9 : textB tZ9 = [2, 122, 57] := by decide +kernel
theorem nb_200 : numB 200 = [200, 1] := by decide +kernel

theorem row1 {c u : Int} (h0 : 0 ≤ c) (h1 : c < 101) (h2 : 1 ≤ u) (h3 : u < 101) : RowOk ⟨1, tF, tEX, t0, 0, 0, 0, 0, twoB (fint c) (fint u)⟩ [1, 1, 102, 2, 101, 120, 2, 1, 97, c, u, 1, 98, 1, 0] := by
  obtain ⟨hnr, hnp⟩ := fint_right h0 h1 h2 h3
  have hb1 : nrightS bit1 0 = some true := by decide +kernel
  have hp1 : npartsS bit1 0 = some (1, 0) := by decide +kernel
  have hm : maxLen = 9223372036854775807 := rfl
  have e1 : partsD ⟨tA, fint c, fint u⟩ = (c, u) := by unfold partsD; rw [hnp]; rfl
  have e2 : partsD ⟨tB, bit1, 0⟩ = (1, 0) := by unfold partsD; rw [hp1]; rfl
  have hlist : listS 1 (twoB (fint c) (fint u)) = true := by
    unfold listS
    have hn : ¬ ((!allS ((twoB (fint c) (fint u)).map Itm.t) || decide (4 < (twoB (fint c) (fint u)).length)) = true) := (by decide +kernel : ¬ ((!allS [tA, tB] || decide (4 < 2)) = true))
    rw [if_neg hn, if_neg (by decide)]
    have : ((twoB (fint c) (fint u)).any fun x => !((nrightS x.re x.im).getD false)) = false := by simp [twoB, hnr, hb1]
    rw [if_neg (by rw [this]; simp)]
    rfl
  have hin : ∀ P : Itm → Prop, P ⟨tA, fint c, fint u⟩ → P ⟨tB, bit1, 0⟩ → ∀ z ∈ twoB (fint c) (fint u), P z := fun P p1 p2 z hz => by
    simp only [twoB, List.mem_cons, List.mem_nil_iff, or_false] at hz
    rcases hz with rfl | rfl
    · exact p1
    · exact p2
  refine ⟨valid_of (show isQ (fieldsS 1) = false by decide +kernel) ?_ ?_ ?_, (show (0 : Int) ≤ 1 by decide), (show (1 : Int) < 256 by decide), ⟨Nat.le_of_ble_eq_true rfl, hin _ ⟨Nat.le_of_ble_eq_true rfl, ?_, ?_⟩ ⟨Nat.le_of_ble_eq_true rfl, ?_, ?_⟩⟩, ⟨Nat.le_of_ble_eq_true rfl, Nat.le_of_ble_eq_true rfl, Nat.le_of_ble_eq_true rfl, hin _ (Nat.le_of_ble_eq_true rfl) (Nat.le_of_ble_eq_true rfl), hin _ ?_ ?_, Nat.le_of_ble_eq_true rfl⟩, hin _ ?_ ?_, (show 0 < (fieldsS 1).size by decide), ?_, hin _ ⟨fint_selfI h0 h1, fint_selfI (by omega) h3⟩ (by decide +kernel), Nat.le_of_ble_eq_true rfl⟩
  · exact show (textBad (fieldsS 1) 70 tF || textBad (fieldsS 1) 69 tEX || textBad (fieldsS 1) 84 t0) = false by decide +kernel
  · exact show (numBad (fieldsS 1) 78 0 || numBad (fieldsS 1) 83 0 || numBad (fieldsS 1) 85 0 || numBad (fieldsS 1) 80 0) = false by decide +kernel
  · show (if hasIS (fieldsS 1) then !listS 1 (twoB (fint c) (fint u)) else _) = false
    rw [if_pos (by decide +kernel), hlist]
    rfl
  · rw [e1]
    unfold nofS
    rw [if_neg (by omega)]
  · rw [e1]
    simp only
    omega
  · rw [e2]
    decide +kernel
  · rw [e2]
    simp only
    omega
  · rw [hnr]; rfl
  · rw [hb1]; rfl
  · rw [hnp]; rfl
  · rw [hp1]; rfl
  · rw [pack_of 1 [70, 69, 73] rfl (by decide +kernel)]
    have hi : itemsB (twoB (fint c) (fint u)) = [2, 1, 97, c, u, 1, 98, 1, 0] := by
      have n2 : numB 2 = [2] := by decide +kernel
      have n1 : numB 1 = [1] := by decide +kernel
      have n0 : numB 0 = [0] := by decide +kernel
      show numB 2 ++ (itemB ⟨tA, fint c, fint u⟩ ++ (itemB ⟨tB, bit1, 0⟩ ++ [])) = _
      unfold itemB
      rw [e1, e2, tb_A, tb_B, n2]
      show [2] ++ (([1, 97] ++ numB c ++ numB u) ++ (([1, 98] ++ numB 1 ++ numB 0) ++ [])) = _
      rw [numB_small h0 (by omega), numB_small (by omega) (by omega), n1, n0]
      rfl
    simp [fieldB, tb_F, tb_EX, hi]
theorem row2 {num ep : Int} (h0 : 1 ≤ num) (h1 : num ≤ 100) (h2 : 1 ≤ ep) (h3 : ep ≤ 100) : RowOk ⟨4, tF, t0, tA, 0, 0, num, ep, []⟩ [4, 1, 102, 1, 97, num, ep] := by
  obtain ⟨i1, i2, i3, i4⟩ := no_items_ok (m := ⟨4, tF, t0, tA, 0, 0, num, ep, []⟩) rfl
  refine ⟨valid_of (show isQ (fieldsS 4) = false by decide +kernel) (show (textBad (fieldsS 4) 70 tF || textBad (fieldsS 4) 69 t0 || textBad (fieldsS 4) 84 tA) = false by decide +kernel) (nums_of (show numBad (fieldsS 4) 78 0 = false by decide +kernel) (show numBad (fieldsS 4) 83 0 = false by decide +kernel) (num_fine (show hasS (fieldsS 4) 85 = true by decide +kernel) (by decide) h0 h1) (num_fine (show hasS (fieldsS 4) 80 = true by decide +kernel) (by decide) h2 h3)) (show (if hasIS (fieldsS 4) then !listS 4 ([] : List Itm) else decide (0 < ([] : List Itm).length)) = false by decide +kernel), (show (0 : Int) ≤ 4 by decide), (show (4 : Int) < 256 by decide), i1, msg_ok0 rfl (Nat.le_of_ble_eq_true rfl) (Nat.le_of_ble_eq_true rfl) (Nat.le_of_ble_eq_true rfl), i2, (show 0 < (fieldsS 4).size by decide), ?_, i3, i4⟩
  rw [pack_of 4 [70, 84, 85, 80] rfl (by decide +kernel)]
  have n1 := numB_small (n := num) (by omega) (by omega)
  have n2 := numB_small (n := ep) (by omega) (by omega)
  simp [fieldB, numOf, tb_F, tb_A, n1, n2]
theorem row3 : RowOk ⟨5, tF, t0, t0, 0, 0, 0, 0, []⟩ [5, 1, 102, 0] := by
  obtain ⟨i1, i2, i3, i4⟩ := no_items_ok (m := ⟨5, tF, t0, t0, 0, 0, 0, 0, []⟩) rfl
  exact ⟨by decide +kernel, (show (0 : Int) ≤ 5 by decide), (show (5 : Int) < 256 by decide), i1, msg_ok0 rfl (Nat.le_of_ble_eq_true rfl) (Nat.le_of_ble_eq_true rfl) (Nat.le_of_ble_eq_true rfl), i2, (show 0 < (fieldsS 5).size by decide), by decide +kernel, i3, i4⟩
theorem row4 : RowOk ⟨5, tF, t0, t0, 0, 0, 0, 0, oneZ⟩ [5, 1, 102, 1, 2, 122, 57, 0, 0] := by
  have hm : maxLen = 9223372036854775807 := rfl
  have hin : ∀ P : Itm → Prop, P ⟨tZ9, 0, 0⟩ → ∀ z ∈ oneZ, P z := fun P p z hz => by
    simp only [oneZ, List.mem_cons, List.mem_nil_iff, or_false] at hz
    rw [hz]
    exact p
  exact ⟨by decide +kernel, (show (0 : Int) ≤ 5 by decide), (show (5 : Int) < 256 by decide), ⟨Nat.le_of_ble_eq_true rfl, hin _ (by decide +kernel)⟩, ⟨Nat.le_of_ble_eq_true rfl, Nat.le_of_ble_eq_true rfl, Nat.le_of_ble_eq_true rfl, hin _ (Nat.le_of_ble_eq_true rfl), hin _ (by decide +kernel), Nat.le_of_ble_eq_true rfl⟩, hin _ (by decide +kernel), by decide, by decide +kernel, hin _ (by decide +kernel), Nat.le_of_ble_eq_true rfl⟩
theorem row5 {n : Int} (h0 : 1 ≤ n) (h1 : n ≤ 100) : RowOk ⟨8, tF, tX, tA, n, 5, 0, 0, []⟩ [8, 1, 102, 1, 120, n, 1, 97, 5] := by
  obtain ⟨i1, i2, i3, i4⟩ := no_items_ok (m := ⟨8, tF, tX, tA, n, 5, 0, 0, []⟩) rfl
  refine ⟨valid_of (show isQ (fieldsS 8) = false by decide +kernel) (show (textBad (fieldsS 8) 70 tF || textBad (fieldsS 8) 69 tX || textBad (fieldsS 8) 84 tA) = false by decide +kernel) (nums_of (num_fine (show hasS (fieldsS 8) 78 = true by decide +kernel) (by decide) h0 h1) (show numBad (fieldsS 8) 83 5 = false by decide +kernel) (show numBad (fieldsS 8) 85 0 = false by decide +kernel) (show numBad (fieldsS 8) 80 0 = false by decide +kernel)) (show (if hasIS (fieldsS 8) then !listS 8 ([] : List Itm) else decide (0 < ([] : List Itm).length)) = false by decide +kernel), (show (0 : Int) ≤ 8 by decide), (show (8 : Int) < 256 by decide), i1, msg_ok0 rfl (Nat.le_of_ble_eq_true rfl) (Nat.le_of_ble_eq_true rfl) (Nat.le_of_ble_eq_true rfl), i2, (show 0 < (fieldsS 8).size by decide), ?_, i3, i4⟩
  rw [pack_of 8 [70, 69, 78, 84, 83] rfl (by decide +kernel)]
  have n1 := numB_small (n := n) (by omega) (by omega)
  have n2 : numB 5 = [5] := by decide +kernel
  simp [fieldB, numOf, tb_F, tb_X, tb_A, n1, n2]
theorem row6 {num : Int} (h0 : 1 ≤ num) (h1 : num ≤ 100) : RowOk ⟨11, tF, t0, tA, 0, 6, num, 200, []⟩ [11, 1, 102, 1, 97, num, 200, 1, 6] := by
  obtain ⟨i1, i2, i3, i4⟩ := no_items_ok (m := ⟨11, tF, t0, tA, 0, 6, num, 200, []⟩) rfl
  refine ⟨valid_of (show isQ (fieldsS 11) = false by decide +kernel) (show (textBad (fieldsS 11) 70 tF || textBad (fieldsS 11) 69 t0 || textBad (fieldsS 11) 84 tA) = false by decide +kernel) (nums_of (show numBad (fieldsS 11) 78 0 = false by decide +kernel) (show numBad (fieldsS 11) 83 6 = false by decide +kernel) (num_fine (show hasS (fieldsS 11) 85 = true by decide +kernel) (by decide) h0 h1) (show numBad (fieldsS 11) 80 200 = false by decide +kernel)) (show (if hasIS (fieldsS 11) then !listS 11 ([] : List Itm) else decide (0 < ([] : List Itm).length)) = false by decide +kernel), (show (0 : Int) ≤ 11 by decide), (show (11 : Int) < 256 by decide), i1, msg_ok0 rfl (Nat.le_of_ble_eq_true rfl) (Nat.le_of_ble_eq_true rfl) (Nat.le_of_ble_eq_true rfl), i2, (show 0 < (fieldsS 11).size by decide), ?_, i3, i4⟩
  rw [pack_of 11 [70, 84, 85, 80, 83] rfl (by decide +kernel)]
  have n1 := numB_small (n := num) (by omega) (by omega)
  have n2 : numB 6 = [6] := by decide +kernel
  simp [fieldB, numOf, tb_F, tb_A, n1, n2, nb_200]
theorem row7 {n : Int} (h0 : 1 ≤ n) (h1 : n ≤ 100) : RowOk ⟨9, tF, tX, t0, n, 0, 0, 0, []⟩ [9, 1, 102, 1, 120, n] := by
  obtain ⟨i1, i2, i3, i4⟩ := no_items_ok (m := ⟨9, tF, tX, t0, n, 0, 0, 0, []⟩) rfl
  refine ⟨valid_of (show isQ (fieldsS 9) = false by decide +kernel) (show (textBad (fieldsS 9) 70 tF || textBad (fieldsS 9) 69 tX || textBad (fieldsS 9) 84 t0) = false by decide +kernel) (nums_of (num_fine (show hasS (fieldsS 9) 78 = true by decide +kernel) (by decide) h0 h1) (show numBad (fieldsS 9) 83 0 = false by decide +kernel) (show numBad (fieldsS 9) 85 0 = false by decide +kernel) (show numBad (fieldsS 9) 80 0 = false by decide +kernel)) (show (if hasIS (fieldsS 9) then !listS 9 ([] : List Itm) else decide (0 < ([] : List Itm).length)) = false by decide +kernel), (show (0 : Int) ≤ 9 by decide), (show (9 : Int) < 256 by decide), i1, msg_ok0 rfl (Nat.le_of_ble_eq_true rfl) (Nat.le_of_ble_eq_true rfl) (Nat.le_of_ble_eq_true rfl), i2, (show 0 < (fieldsS 9).size by decide), ?_, i3, i4⟩
  rw [pack_of 9 [70, 69, 78] rfl (by decide +kernel)]
  have n1 := numB_small (n := n) (by omega) (by omega)
  simp [fieldB, numOf, tb_F, tb_X, n1]
theorem mfRows_ok {n num ep c u : Int} (hn : 1 ≤ n ∧ n ≤ 100) (hnum : 1 ≤ num ∧ num ≤ 100) (hep : 1 ≤ ep ∧ ep ≤ 100) (hc : 0 ≤ c ∧ c < 101) (hu : 1 ≤ u ∧ u < 101) (B : Nat) : ∀ x ∈ mfRows n num ep c u B, RowOk x.m x.l := by
  simp only [mfRows, List.forall_mem_cons]
  exact ⟨row1 hc.1 hc.2 hu.1 hu.2, row2 hnum.1 hnum.2 hep.1 hep.2, row3, row4, row5 hn.1 hn.2, row6 hnum.1 hnum.2, row7 hn.1 hn.2, fun x hx => absurd hx (List.not_mem_nil)⟩

theorem mfRows_len (n num ep c u : Int) (B : Nat) : ∀ x ∈ mfRows n num ep c u B, x.l.length ≤ 20 := by
  simp only [mfRows, List.forall_mem_cons]
  exact ⟨Nat.le_of_ble_eq_true rfl, Nat.le_of_ble_eq_true rfl, Nat.le_of_ble_eq_true rfl, Nat.le_of_ble_eq_true rfl, Nat.le_of_ble_eq_true rfl, Nat.le_of_ble_eq_true rfl, Nat.le_of_ble_eq_true rfl, fun x hx => absurd hx (List.not_mem_nil)⟩
theorem frow_facts {w : World} {b : Nat} {x : FRow} {t : TypeId} (h : w.heap[b]? = some (.cells x.cells t)) : w.cell? ⟨b, 0, none⟩ = some (.int .i64 x.m.kind) ∧ w.cell? ⟨b, 1, none⟩ = some (.string x.m.f) ∧ w.cell? ⟨b, 2, none⟩ = some (.string x.m.e) ∧ w.cell? ⟨b, 3, none⟩ = some (.string x.m.t) ∧ w.cell? ⟨b, 4, none⟩ = some (.int .i64 x.m.n) ∧ w.cell? ⟨b, 5, none⟩ = some (.int .i64 x.m.state) ∧
    w.cell? ⟨b, 6, none⟩ = some (.int .i64 x.m.number) ∧ w.cell? ⟨b, 7, none⟩ = some (.int .i64 x.m.epoch) ∧ w.cell? ⟨b, 8, none⟩ = some (.slice x.A x.m.items.length x.m.items.length) ∧ w.cell? ⟨b, 9, none⟩ = some (.slice (some ⟨x.b, 0, none⟩) x.l.length x.l.length) ∧ b < w.heap.size := by
  refine ⟨?_, ?_, ?_, ?_, ?_, ?_, ?_, ?_, ?_, ?_, (Array.getElem?_eq_some_iff.1 h).1⟩
  all_goals rw [cell_of_row w b _ _ _ _ h]; rfl
def FRowsAt (w : World) (B : Nat) (l : List FRow) : Prop := B < w.heap.size ∧ ∀ k x, l[k]? = some x → ∀ j v, x.cells[j]? = some v → w.cell? ⟨B, k * 10 + j, none⟩ = some v
theorem FRowsAt.below {w w' : World} {B : Nat} {l : List FRow} (h : FRowsAt w B l) (hb : Below w.heap.size w w') : FRowsAt w' B l :=
  ⟨Nat.lt_of_lt_of_le h.1 hb.size, fun k x hx j v hv => (hb.cell (p := ⟨B, _, none⟩) h.1).trans (h.2 k x hx j v hv)⟩
theorem frows_of {w : World} {B : Nat} {l : List FRow} {t : TypeId} {fr : Nat × Nat} (h : w.heap[B]? = some (.cells (flatV (l.map FRow.v)) t fr)) : FRowsAt w B l :=
  ⟨(Array.getElem?_eq_some_iff.1 h).1, fun k x hx j v hv => by
    have hj : j < 10 := (Array.getElem?_eq_some_iff.1 hv).1
    rw [cell_of_row w B _ _ _ _ h, flatV_get (s := 10) (by omega) (by intro v hv; obtain ⟨x, _, rfl⟩ := List.mem_map.1 hv; rfl), show (k * 10 + j) / 10 = k by omega, show (k * 10 + j) % 10 = j by omega, List.getElem?_map, hx]
    exact hv⟩
def mfObjs (n num ep c u : Int) : List Obj := [.cells (rowCells (twoB (fint c) (fint u))).toArray 25, .cells (u8s [1, 1, 102, 2, 101, 120, 2, 1, 97, c, u, 1, 98, 1, 0]).toArray 5, .cells (u8s [4, 1, 102, 1, 97, num, ep]).toArray 5, .cells (u8s [5, 1, 102, 0]).toArray 5,
  .cells (rowCells oneZ).toArray 25, .cells (u8s [5, 1, 102, 1, 2, 122, 57, 0, 0]).toArray 5, .cells (u8s [8, 1, 102, 1, 120, n, 1, 97, 5]).toArray 5, .cells (u8s [11, 1, 102, 1, 97, num, 200, 1, 6]).toArray 5, .cells (u8s [9, 1, 102, 1, 120, n]).toArray 5]
structure MFW (w : World) (rows : List FRow) (Bk : Nat) (W : World) : Prop where
  below : Below w.heap.size w W
  cells : FRowsAt W Bk rows
  items : ∀ x ∈ rows, ItmsAt W x.A x.m.items.length x.m.items
  bytes : ∀ x ∈ rows, Rd W (some ⟨x.b, 0, none⟩) x.l.length (u8s x.l)
theorem rd_at {w : World} {b : Nat} {l : List Int} {t : TypeId} (h : w.heap[b]? = some (.cells (u8s l).toArray t)) : Rd w (some ⟨b, 0, none⟩) l.length (u8s l) :=
  ⟨u8s_length l, fun _ => ⟨b, 0, rfl, (Array.getElem?_eq_some_iff.1 h).1, fun j u hu => by rw [cell_of_row _ _ _ _ _ _ h, Nat.zero_add]; simpa using hu⟩⟩
theorem mfW (w : World) (n num ep c u : Int) : MFW w (mfRows n num ep c u w.heap.size) (w.heap.size + 1 + 1 + 1 + 1 + 1 + 1 + 1 + 1 + 1) ((allocs w (mfObjs n num ep c u)).alloc (.cells (flatV ((mfRows n num ep c u w.heap.size).map FRow.v)) 52)) := by
  have hb := allocs_below (mfObjs n num ep c u) w w (Below.refl _ _) (Nat.le_refl _)
  have hsz : (allocs w (mfObjs n num ep c u)).heap.size = w.heap.size + 9 := hb.2
  have hat : ∀ i o, (mfObjs n num ep c u)[i]? = some o → ((allocs w (mfObjs n num ep c u)).alloc (.cells (flatV ((mfRows n num ep c u w.heap.size).map FRow.v)) 52)).heap[w.heap.size + i]? = some o := fun i o hi => by
    have hlt : i < (mfObjs n num ep c u).length := (List.getElem?_eq_some_iff.1 hi).1
    have hl : (mfObjs n num ep c u).length = 9 := rfl
    rw [heap_alloc_old _ _ (by omega), allocs_at _ _ _ hlt]
    exact hi
  have hno : ∀ W : World, ItmsAt W none 0 [] := fun W => ⟨rfl, fun h => absurd h (by omega)⟩
  refine ⟨hb.1.alloc (by omega) _, ?_, ?_, ?_⟩
  · have h := frows_of (heap_alloc_new (allocs w (mfObjs n num ep c u)) (.cells (flatV ((mfRows n num ep c u w.heap.size).map FRow.v)) 52))
    rw [hsz] at h
    exact h
  · simp only [mfRows, List.forall_mem_cons]
    exact ⟨itms_of (l := twoB (fint c) (fint u)) (hat 0 _ rfl), hno _, hno _, itms_of (l := oneZ) (hat 4 _ rfl), hno _, hno _, hno _, fun x hx => absurd hx (List.not_mem_nil)⟩
  · simp only [mfRows, List.forall_mem_cons]
    exact ⟨rd_at (hat 1 _ rfl), rd_at (hat 2 _ rfl), rd_at (hat 3 _ rfl), rd_at (hat 5 _ rfl), rd_at (hat 6 _ rfl), rd_at (hat 7 _ rfl), rd_at (hat 8 _ rfl), fun x hx => absurd hx (List.not_mem_nil)⟩
end Go.Proofs.YtjndigkphoiohaaDoor
