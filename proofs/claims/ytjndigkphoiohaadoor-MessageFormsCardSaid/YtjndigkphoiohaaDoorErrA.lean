/-
  hostlerlaw04.MessageErrors: the walk.
-/
import Derived.Test.YtjndigkphoiohaaDoorDense
import Derived.Outline
namespace Go.Proofs.YtjndigkphoiohaaDoor
open Go.RowKit Go.Shelf
set_option maxRecDepth 100000

theorem infoItm : (Tryd.prog.info? 25).map (fun i => (i.zero, i.size, i.bytes)) = some (some (.agg #[.string ⟨#[]⟩, .complex .f64 0 0]), 2, 32) := by kernel_rfl
def zeroItems5 : Array Value := #[.string ⟨#[]⟩, .complex .f64 0 0, .string ⟨#[]⟩, .complex .f64 0 0, .string ⟨#[]⟩, .complex .f64 0 0, .string ⟨#[]⟩, .complex .f64 0 0, .string ⟨#[]⟩, .complex .f64 0 0]
theorem make5 (w : World) : (Instr.makeSlice 26 (.int .i64 5) (.int .i64 5)).run Tryd.prog w = .ok (.slice (some ⟨w.heap.size, 0, none⟩) 5 5) (w.alloc (.cells zeroItems5 25)) := by
  obtain ⟨i, hi, hz0, hz1, hz2⟩ := info_parts infoItm
  have h := run_make (P := Tryd.prog) w 26 25 i _ Tryd.underlying26 hi hz0 .i64 .i64 5 5 (by omega) (by omega) (by rw [hz2]; decide) (by decide)
  have hc : (Value.agg #[Value.string ⟨#[]⟩, .complex .f64 0 0]).cells = #[Value.string ⟨#[]⟩, .complex .f64 0 0] := by simp [Value.cells]
  rw [h, hz1, hc]
  congr 3
  simp only [madeCells, zeroItems5]
  rw [show Array.range (Int.toNat 5 * 2) = #[0, 1, 2, 3, 4, 5, 6, 7, 8, 9] from rfl]
  simp only [List.map_toArray, List.map_cons, List.map_nil]
  rfl
theorem infoMsg : (Tryd.prog.info? 28).map (fun i => (i.zero, i.size, i.bytes)) = some (some (.agg #[.int .i64 0, .string ⟨#[]⟩, .string ⟨#[]⟩, .string ⟨#[]⟩, .int .i64 0, .int .i64 0, .int .i64 0, .int .i64 0, .slice none 0 0]), 9, 112) := by kernel_rfl

abbrev tF : ByteArray := ⟨#[102]⟩
abbrev tX : ByteArray := ⟨#[120]⟩
abbrev tA : ByteArray := ⟨#[97]⟩
abbrev tB : ByteArray := ⟨#[98]⟩
abbrev t0 : ByteArray := ⟨#[]⟩
abbrev bit1 : Nat := 4607182418800017408
def one1 : List Itm := [⟨tA, bit1, 0⟩]
def its : List (List Itm) := [one1, [⟨tA, 0, 0⟩], [⟨tA, bit1, 0⟩, ⟨tA, 4611686018427387904, 0⟩], [⟨tA, 0, 4652016104934211584⟩], [⟨tA, 4602678819172646912, 0⟩], [⟨tA, 13830554455654793216, 0⟩], [⟨t0, 0, 0⟩, ⟨t0, 0, 0⟩, ⟨t0, 0, 0⟩, ⟨t0, 0, 0⟩, ⟨t0, 0, 0⟩], [⟨tA, bit1, 0⟩, ⟨tB, bit1, 0⟩]]
def itsObjs : List Obj := its.map fun l => .cells (rowCells l).toArray 25
def no (m : Msg) : MRow := (m, none, 0)
/-- A row whose items are the i-th list, in the i-th block behind B. -/
def itM (i : Nat) (m : Msg) : Msg := { m with items := its.getD i [] }
def it (B i : Nat) (m : Msg) : MRow := (itM i m, some ⟨B + i, 0, none⟩, (its.getD i []).length)
def errRows (q : Int) (B : Nat) : List MRow := [
  no ⟨0, t0, t0, t0, 0, 0, 0, 0, []⟩, no ⟨18, t0, t0, t0, 0, 0, 0, 0, []⟩, no ⟨-(1 + q), t0, t0, t0, 0, 0, 0, 0, []⟩, no ⟨6, tF, t0, t0, 0, 0, 0, 0, []⟩, no ⟨6, t0, t0, t0, 1 + q, 0, 0, 0, []⟩,
  no ⟨2, tF, t0, t0, 0, 0, 0, 0, []⟩, no ⟨2, tF, t0, ⟨#[65]⟩, 0, 0, 0, 0, []⟩, no ⟨2, tF, t0, tA, 0, 1, 0, 0, []⟩, no ⟨2, tF, t0, ⟨#[97, 98, 99, 100, 101, 102, 103, 104, 105]⟩, 0, 0, 0, 0, []⟩,
  no ⟨7, tF, tX, t0, 0, 0, 0, 0, []⟩, no ⟨7, tF, tX, t0, -(1 + q), 0, 0, 0, []⟩, no ⟨7, tF, tX, t0, 2147483648, 0, 0, 0, []⟩, no ⟨8, tF, tX, tA, 1, 8, 0, 0, []⟩, no ⟨8, tF, tX, tA, 1, 0, 0, 0, []⟩,
  no ⟨4, tF, t0, tA, 0, 0, 1, 0, []⟩, no ⟨10, t0, t0, t0, 0, 0, 0, 0, []⟩, no ⟨1, tF, tX, t0, 0, 0, 0, 0, []⟩,
  it B 1 ⟨1, tF, tX, t0, 0, 0, 0, 0, []⟩, it B 2 ⟨1, tF, tX, t0, 0, 0, 0, 0, []⟩, it B 3 ⟨1, tF, tX, t0, 0, 0, 0, 0, []⟩, it B 4 ⟨1, tF, tX, t0, 0, 0, 0, 0, []⟩, it B 5 ⟨1, tF, tX, t0, 0, 0, 0, 0, []⟩, it B 6 ⟨1, tF, tX, t0, 0, 0, 0, 0, []⟩,
  it B 0 ⟨5, tF, t0, t0, 0, 0, 0, 0, []⟩, no ⟨14, tF, tX, t0, 1, 0, 0, 0, []⟩, it B 7 ⟨14, tF, tX, t0, 1, 0, 0, 0, []⟩, it B 0 ⟨3, tF, t0, t0, 0, 0, 0, 0, []⟩]

theorem num_bad {m : Msg} (h : numsBad m = true) : validS m = false := by unfold validS; rw [h]; simp
theorem q_bad {m : Msg} (h : isQ (fieldsS m.kind) = true) : validS m = false := by unfold validS; rw [h]; simp
set_option maxHeartbeats 1000000 in
theorem errRows_bad (q : Int) (B : Nat) (h0 : 0 ≤ q) (h1 : q < 1000) : ∀ x ∈ errRows q B, validS x.1 = false := by
  simp only [errRows, List.forall_mem_cons]
  refine ⟨by decide +kernel, by decide +kernel, ?_, by decide +kernel, ?_, by decide +kernel, by decide +kernel, by decide +kernel, by decide +kernel, by decide +kernel, ?_, by decide +kernel, by decide +kernel, by decide +kernel, by decide +kernel, by decide +kernel, by decide +kernel, ?_, ?_, ?_, ?_, ?_, ?_, ?_, by decide +kernel, ?_, ?_, ?_⟩
  · refine q_bad ?_
    show isQ (fieldsS (-(1 + q))) = true
    unfold fieldsS
    repeat rw [if_neg (by omega)]
    rfl
  · refine num_bad ?_
    have h : numBad (fieldsS 6) 78 (1 + q) = true := by
      unfold numBad
      rw [show hasS (fieldsS 6) 78 = false by decide +kernel]
      simp
      omega
    show (numBad (fieldsS 6) 78 (1 + q) || _ || _ || _) = true
    rw [h]
    rfl
  · refine num_bad ?_
    have h : numBad (fieldsS 7) 78 (-(1 + q)) = true := by
      unfold numBad numberS
      rw [show hasS (fieldsS 7) 78 = true by decide +kernel]
      simp
      omega
    show (numBad (fieldsS 7) 78 (-(1 + q)) || _ || _ || _) = true
    rw [h]
    rfl
  all_goals first | exact fun x hx => absurd hx (List.not_mem_nil) | (show validS (itM _ _) = false; decide +kernel)

def itsOk (l : List Itm) : Prop := (∀ x ∈ l, x.t.size ≤ maxLen) ∧ (∀ x ∈ l, (nrightS x.re x.im).isSome = true) ∧ l.length ≤ 1000000
theorem its_ok : ∀ l ∈ its, itsOk l := by unfold itsOk; decide +kernel
theorem its_at (i : Nat) : itsOk (its.getD i []) := by
  by_cases h : i < its.length
  · rw [List.getD_eq_getElem?_getD, List.getElem?_eq_getElem h]
    exact its_ok _ (List.getElem_mem h)
  · rw [List.getD_eq_getElem?_getD, List.getElem?_eq_none (by omega)]
    exact ⟨fun x hx => absurd hx (by simp), fun x hx => absurd hx (by simp), by simp⟩
theorem no_ok (m : Msg) (h : m.items = []) (hf : m.f.size ≤ 20) (he : m.e.size ≤ 20) (ht : m.t.size ≤ 20) : MsgOk (no m).1 := by
  have hm : maxLen = 9223372036854775807 := rfl
  refine ⟨?_, ?_, ?_, ?_, ?_, ?_⟩ <;> simp only [no, h]
  all_goals first | omega | simp
theorem it_ok (B i : Nat) (m : Msg) (hf : m.f.size ≤ 20) (he : m.e.size ≤ 20) (ht : m.t.size ≤ 20) : MsgOk (it B i m).1 := by
  have hm : maxLen = 9223372036854775807 := rfl
  obtain ⟨h1, h2, h3⟩ := its_at i
  exact ⟨by show m.f.size ≤ _; omega, by show m.e.size ≤ _; omega, by show m.t.size ≤ _; omega, h1, h2, h3⟩
theorem errRows_ok (q : Int) (B : Nat) : ∀ x ∈ errRows q B, MsgOk x.1 := by
  simp only [errRows, List.forall_mem_cons]
  refine ⟨?_, ?_, ?_, ?_, ?_, ?_, ?_, ?_, ?_, ?_, ?_, ?_, ?_, ?_, ?_, ?_, ?_, ?_, ?_, ?_, ?_, ?_, ?_, ?_, ?_, ?_, ?_, ?_⟩
  all_goals first | exact fun x hx => absurd hx (List.not_mem_nil) | exact no_ok _ rfl (Nat.le_of_ble_eq_true rfl) (Nat.le_of_ble_eq_true rfl) (Nat.le_of_ble_eq_true rfl) | exact it_ok _ _ _ (Nat.le_of_ble_eq_true rfl) (Nat.le_of_ble_eq_true rfl) (Nat.le_of_ble_eq_true rfl)
theorem errRows_len (q : Int) (B : Nat) : (errRows q B).length = 27 := rfl
theorem errRows_cells (q : Int) (B : Nat) : ∀ v ∈ (errRows q B).map MRow.v, v.cells.size = 9 := by
  intro v hv
  obtain ⟨x, _, rfl⟩ := List.mem_map.1 hv
  rfl

/-- What the call knows of the world behind the literal. -/
structure ErrW (w : World) (q : Int) (w' : World) : Prop where
  below : Below w.heap.size w w'
  msgs : MsgsAt w' (w.heap.size + 8) (errRows q w.heap.size)
  items : ∀ x ∈ errRows q w.heap.size, ItmsAt w' x.2.1 x.1.items.length x.1.items
  one : ItmsAt w' (some ⟨w.heap.size, 0, none⟩) 1 one1
theorem err_items (w : World) (o : Obj) (i : Nat) (hi : i < 8) : ItmsAt ((allocs w itsObjs).alloc o) (some ⟨w.heap.size + i, 0, none⟩) (its.getD i []).length (its.getD i []) := by
  have hsz := (allocs_below itsObjs w w (Below.refl _ _) (Nat.le_refl _)).2
  have hl : itsObjs.length = 8 := rfl
  have h := allocs_at itsObjs w i (by omega)
  have ho : itsObjs[i]? = some (.cells (rowCells (its.getD i [])).toArray 25) := by
    rcases i with _ | _ | _ | _ | _ | _ | _ | _ | i
    all_goals first | rfl | omega
  rw [ho] at h
  exact itms_of ((heap_alloc_old _ _ (by omega)).trans h)
theorem no_items (w : World) (m : Msg) (h : m.items = []) : ItmsAt w (no m).2.1 (no m).1.items.length (no m).1.items := by
  show ItmsAt w none m.items.length m.items
  rw [h]
  exact ⟨rfl, fun h => absurd h (by decide)⟩
theorem errW (w : World) (q : Int) : ErrW w q ((allocs w itsObjs).alloc (.cells (flatV ((errRows q w.heap.size).map MRow.v)) 28)) := by
  have hb := allocs_below itsObjs w w (Below.refl _ _) (Nat.le_refl _)
  have hsz : (allocs w itsObjs).heap.size = w.heap.size + 8 := hb.2
  refine ⟨hb.1.alloc (by omega) _, ?_, ?_, err_items w _ 0 (by omega)⟩
  · have h := msgs_of (heap_alloc_new (allocs w itsObjs) (.cells (flatV ((errRows q w.heap.size).map MRow.v)) 28))
    rw [hsz] at h
    exact h
  · simp only [errRows, List.forall_mem_cons]
    refine ⟨?_, ?_, ?_, ?_, ?_, ?_, ?_, ?_, ?_, ?_, ?_, ?_, ?_, ?_, ?_, ?_, ?_, ?_, ?_, ?_, ?_, ?_, ?_, ?_, ?_, ?_, ?_, ?_⟩
    all_goals first | exact fun x hx => absurd hx (List.not_mem_nil) | exact no_items _ _ rfl | exact err_items w _ _ (by omega)
end Go.Proofs.YtjndigkphoiohaaDoor
