/-
  The entries that AdmitForms tries, each one that may not be: rows, and the world that holds them.
-/
import Derived.Test.YtjndigkphoiohaaDoorFormsA
namespace Go.Proofs.YtjndigkphoiohaaDoor
open Go.RowKit Go.Shelf
set_option maxRecDepth 100000

theorem infoEnt : (Tryd.prog.info? 39).map (fun i => (i.zero, i.size, i.bytes)) = some (some (.agg #[.string ⟨#[]⟩, .string ⟨#[]⟩, .int .i64 0, .slice none 0 0]), 4, 64) := by kernel_rfl
abbrev eRow (f e : ByteArray) (r : Int) (A : Option Addr) (n : Nat) : Value := .agg #[.string f, .string e, .int .i64 r, .slice A n n]
/-- An entry and where its items lie. -/
structure ERow where
  f : ByteArray
  e : ByteArray
  r : Int
  items : List Itm
  A : Option Addr
def ERow.v (x : ERow) : Value := eRow x.f x.e x.r x.A x.items.length
def it6 : List Itm := [⟨tA, 0, 0⟩]
def it7 : List Itm := [⟨tA, bit1, 0⟩, ⟨tA, bit1, 0⟩]
def it8 : List Itm := [⟨t0, 0, 0⟩, ⟨t0, 0, 0⟩, ⟨t0, 0, 0⟩, ⟨t0, 0, 0⟩, ⟨t0, 0, 0⟩]
def formRows (x y b b6 b7 b8 : Nat) : List ERow := [⟨t0, t0, 0, [], none⟩, ⟨tF, tX, 1, [], none⟩, ⟨⟨#[70]⟩, tX, 0, two x y, some ⟨b, 0, none⟩⟩, ⟨tF, t0, 0, two x y, some ⟨b, 0, none⟩⟩, ⟨tF, tX, -1, two x y, some ⟨b, 0, none⟩⟩, ⟨tF, tX, 25, two x y, some ⟨b, 0, none⟩⟩,
  ⟨tF, tX, 0, it6, some ⟨b6, 0, none⟩⟩, ⟨tF, tX, 0, it7, some ⟨b7, 0, none⟩⟩, ⟨tF, tX, 0, it8, some ⟨b8, 0, none⟩⟩]
/-- Rows of entries in a block. -/
def ERowsAt (w : World) (B : Nat) (l : List ERow) : Prop := B < w.heap.size ∧ ∀ k x, l[k]? = some x → w.cell? ⟨B, k * 4, none⟩ = some (.string x.f) ∧ w.cell? ⟨B, k * 4 + 1, none⟩ = some (.string x.e) ∧ w.cell? ⟨B, k * 4 + 2, none⟩ = some (.int .i64 x.r) ∧ w.cell? ⟨B, k * 4 + 3, none⟩ = some (.slice x.A x.items.length x.items.length)
theorem ERowsAt.below {w w' : World} {B : Nat} {l : List ERow} (h : ERowsAt w B l) (hb : Below w.heap.size w w') : ERowsAt w' B l :=
  ⟨Nat.lt_of_lt_of_le h.1 hb.size, fun k x hx => by
    obtain ⟨h1, h2, h3, h4⟩ := h.2 k x hx
    exact ⟨(hb.cell (p := ⟨B, _, none⟩) h.1).trans h1, (hb.cell (p := ⟨B, _, none⟩) h.1).trans h2, (hb.cell (p := ⟨B, _, none⟩) h.1).trans h3, (hb.cell (p := ⟨B, _, none⟩) h.1).trans h4⟩⟩
theorem erows_of {w : World} {B : Nat} {l : List ERow} {t : TypeId} {fr : Nat × Nat} (h : w.heap[B]? = some (.cells (flatV (l.map ERow.v)) t fr)) : ERowsAt w B l :=
  ⟨(Array.getElem?_eq_some_iff.1 h).1, fun k x hx => by
    have hg : ∀ j, j < 4 → w.cell? ⟨B, k * 4 + j, none⟩ = x.v.cells[j]? := fun j hj => by
      rw [cell_of_row w B _ _ _ _ h, flatV_get (s := 4) (by omega) (by intro v hv; obtain ⟨x, _, rfl⟩ := List.mem_map.1 hv; rfl), show (k * 4 + j) / 4 = k by omega, show (k * 4 + j) % 4 = j by omega, List.getElem?_map, hx]
      rfl
    exact ⟨(hg 0 (by omega)).trans rfl, (hg 1 (by omega)).trans rfl, (hg 2 (by omega)).trans rfl, (hg 3 (by omega)).trans rfl⟩⟩
theorem text_bad {f e : ByteArray} {r : Int} {l : List Itm} (h : textBad (fieldsS 1) 70 f = true ∨ textBad (fieldsS 1) 69 e = true) : admOk f e r l = false := by
  have h1 : textsBad (runM f e l) = true := by
    show (textBad (fieldsS 1) 70 f || textBad (fieldsS 1) 69 e || _) = true
    rcases h with h | h <;> rw [h] <;> simp
  unfold admOk validS
  rw [h1]
  simp
theorem formRows_bad (x y b b6 b7 b8 : Nat) : ∀ z ∈ formRows x y b b6 b7 b8, admOk z.f z.e z.r z.items = false := by
  simp only [formRows, List.forall_mem_cons]
  refine ⟨by decide +kernel, by decide +kernel, text_bad (.inl (by decide +kernel)), text_bad (.inr (by decide +kernel)), ?_, ?_, by decide +kernel, by decide +kernel, by decide +kernel, fun x hx => absurd hx (List.not_mem_nil)⟩
  · show (_ && decide (0 ≤ (-1 : Int)) && _) = false
    simp
  · show (_ && _ && decide ((25 : Int) ≤ 24)) = false
    simp
theorem closed_ok (f e : ByteArray) (l : List Itm) (hf : f.size ≤ 20) (he : e.size ≤ 20) (hl : itsOk l) : MsgOk (runM f e l) := by
  have hm : maxLen = 9223372036854775807 := rfl
  exact ⟨by show f.size ≤ _; omega, by show e.size ≤ _; omega, Nat.le_of_ble_eq_true rfl, hl.1, hl.2.1, hl.2.2⟩
theorem two_its {x y : Nat} (h : nrightS x y = some true) : itsOk (two x y) := by
  have := two_ok h
  exact ⟨this.its, this.need, this.len⟩
theorem formRows_ok (x y b b6 b7 b8 : Nat) (h : nrightS x y = some true) : ∀ z ∈ formRows x y b b6 b7 b8, MsgOk (runM z.f z.e z.items) := by
  simp only [formRows, List.forall_mem_cons]
  have h0 : itsOk [] := by unfold itsOk; decide +kernel
  have h6 : itsOk it6 := by unfold itsOk; decide +kernel
  have h7 : itsOk it7 := by unfold itsOk; decide +kernel
  have h8 : itsOk it8 := by unfold itsOk; decide +kernel
  have h2 := two_its h
  refine ⟨?_, ?_, ?_, ?_, ?_, ?_, ?_, ?_, ?_, fun x hx => absurd hx (List.not_mem_nil)⟩
  all_goals exact closed_ok _ _ _ (Nat.le_of_ble_eq_true rfl) (Nat.le_of_ble_eq_true rfl) (by assumption)

theorem formRows_need (x y b b6 b7 b8 : Nat) {p : Int × Int} (h : npartsS x y = some p) : ∀ z ∈ formRows x y b b6 b7 b8, ∀ u ∈ z.items, (npartsS u.re u.im).isSome = true := by
  simp only [formRows, List.forall_mem_cons]
  have h2 := two_need h
  refine ⟨fun u hu => absurd hu (List.not_mem_nil), fun u hu => absurd hu (List.not_mem_nil), h2, h2, h2, h2, by decide +kernel, by decide +kernel, by decide +kernel, fun x hx => absurd hx (List.not_mem_nil)⟩

theorem build_forms (x y b b6 b7 b8 : Nat) (w : World) : (Instr.buildSlice 42 9 #[(0, eRow t0 t0 0 none 0), (1, eRow tF tX 1 none 0), (2, eRow ⟨#[70]⟩ tX 0 (some ⟨b, 0, none⟩) 2), (3, eRow tF t0 0 (some ⟨b, 0, none⟩) 2), (4, eRow tF tX (-1) (some ⟨b, 0, none⟩) 2), (5, eRow tF tX 25 (some ⟨b, 0, none⟩) 2),
    (6, eRow tF tX 0 (some ⟨b6, 0, none⟩) 1), (7, eRow tF tX 0 (some ⟨b7, 0, none⟩) 2), (8, eRow tF tX 0 (some ⟨b8, 0, none⟩) 5)]).run Tryd.prog w = .ok (.slice (some ⟨w.heap.size, 0, none⟩) 9 9) (w.alloc (.cells (flatV ((formRows x y b b6 b7 b8).map ERow.v)) 39)) := by
  obtain ⟨i, hi, hz0, hz1, hz2⟩ := info_parts infoEnt
  refine run_buildSlice w 42 39 9 _ (flatV ((formRows x y b b6 b7 b8).map ERow.v)) i _ Tryd.underlying42 hi hz0 (by rw [hz1]; omega) (by rw [hz1]; omega) ?_
  rw [hz1]
  exact Great.fill_whole (by omega) ((formRows x y b b6 b7 b8).map ERow.v) _ (by intro v hv; obtain ⟨x, _, rfl⟩ := List.mem_map.1 hv; rfl) (by simp [formRows])

structure FormW (w2 : World) (x y b Bk b6 b7 b8 : Nat) (W : World) : Prop where
  below : Below w2.heap.size w2 W
  rows : ERowsAt W Bk (formRows x y b b6 b7 b8)
  items : ∀ z ∈ formRows x y b b6 b7 b8, ItmsAt W z.A z.items.length z.items
theorem formW_at {w2 W3 : World} {x y b b6 b7 b8 : Nat} (h : Below w2.heap.size w2 W3) (hI : ItmsAt w2 (some ⟨b, 0, none⟩) (two x y).length (two x y)) (h6 : W3.heap[b6]? = some (.cells (rowCells it6).toArray 25)) (h7 : W3.heap[b7]? = some (.cells (rowCells it7).toArray 25)) (h8 : W3.heap[b8]? = some (.cells (rowCells it8).toArray 25)) :
    FormW w2 x y b W3.heap.size b6 b7 b8 (W3.alloc (.cells (flatV ((formRows x y b b6 b7 b8).map ERow.v)) 39)) := by
  have hb := h.alloc h.size (.cells (flatV ((formRows x y b b6 b7 b8).map ERow.v)) 39)
  have hb3 : ∀ X, Below W3.heap.size W3 (W3.alloc X) := fun X => (Below.refl _ _).alloc (Nat.le_refl _) _
  refine ⟨hb, erows_of (heap_alloc_new W3 _), ?_⟩
  have hnil : ItmsAt (W3.alloc (.cells (flatV ((formRows x y b b6 b7 b8).map ERow.v)) 39)) none 0 [] := ⟨rfl, fun h => absurd h (by omega)⟩
  have hI2 := hI.below hb
  have i6 := (itms_of (l := it6) h6).below (hb3 (.cells (flatV ((formRows x y b b6 b7 b8).map ERow.v)) 39))
  have i7 := (itms_of (l := it7) h7).below (hb3 (.cells (flatV ((formRows x y b b6 b7 b8).map ERow.v)) 39))
  have i8 := (itms_of (l := it8) h8).below (hb3 (.cells (flatV ((formRows x y b b6 b7 b8).map ERow.v)) 39))
  intro z hz
  simp only [formRows, List.mem_cons, List.mem_nil_iff, or_false] at hz
  rcases hz with rfl | rfl | rfl | rfl | rfl | rfl | rfl | rfl | rfl <;> assumption
theorem FormW.drew {w2 W : World} {x y b Bk b6 b7 b8 : Nat} (h : FormW w2 x y b Bk b6 b7 b8 W) : FormW w2 x y b Bk b6 b7 b8 W.drew := ⟨h.below.drew, h.rows, h.items⟩
/-- Behind the three lists, in whatever order they were made. -/
theorem formW_in {w2 W3 : World} {x y b Bk b6 b7 b8 : Nat} (hs : W3.heap.size = Bk) (h : Below w2.heap.size w2 W3) (hI : ItmsAt w2 (some ⟨b, 0, none⟩) (two x y).length (two x y)) (h6 : W3.heap[b6]? = some (.cells (rowCells it6).toArray 25)) (h7 : W3.heap[b7]? = some (.cells (rowCells it7).toArray 25)) (h8 : W3.heap[b8]? = some (.cells (rowCells it8).toArray 25)) :
    FormW w2 x y b Bk b6 b7 b8 (W3.alloc (.cells (flatV ((formRows x y b b6 b7 b8).map ERow.v)) 39)) := by
  subst hs
  exact formW_at h hI h6 h7 h8
theorem three_at (w2 : World) (o1 o2 o3 : Obj) : (((w2.alloc o1).alloc o2).alloc o3).heap.size = w2.heap.size + 3 ∧ Below w2.heap.size w2 (((w2.alloc o1).alloc o2).alloc o3) ∧
    (((w2.alloc o1).alloc o2).alloc o3).heap[w2.heap.size]? = some o1 ∧ (((w2.alloc o1).alloc o2).alloc o3).heap[w2.heap.size + 1]? = some o2 ∧ (((w2.alloc o1).alloc o2).alloc o3).heap[w2.heap.size + 1 + 1]? = some o3 := by
  have hb := allocs_below [o1, o2, o3] w2 w2 (Below.refl _ _) (Nat.le_refl _)
  exact ⟨hb.2, hb.1, allocs_at [o1, o2, o3] w2 0 (by simp), allocs_at [o1, o2, o3] w2 1 (by simp), allocs_at [o1, o2, o3] w2 2 (by simp)⟩
theorem named {P : Program} {c : Code} {Q : Exit → Act → World → Prop} {a : Act} {W : World} (F : World → Prop) (hF : F W) (h : ∀ W', F W' → c.wp P Q a W') : c.wp P Q a W := h W hF
end Go.Proofs.YtjndigkphoiohaaDoor
