/-
  A slice literal of elements of several cells each; worlds after a row of allocations; rows of messages.
-/
import Derived.Test.YtjndigkphoiohaaDoorWakes
import Derived.Great.BuildSlice
import Derived.Outline
namespace Go.Proofs.YtjndigkphoiohaaDoor
open Go.RowKit Go.Shelf
set_option maxRecDepth 100000

section
variable {P : Program} {ops : Array Oper} {rest : List Oper} {o : Oper} {a : Act} {w : World} {Q : Exit → Act → World → Prop}
def flatV (vs : List Value) : Array Value := (vs.flatMap fun v => v.cells.toList).toArray
theorem wpList_buildDense (hg : o.guard = none) (t e : TypeId) (len : Nat) (parts : Array (Nat × Operand)) (ho : o.op = .buildSlice t len parts) (s : Nat) (z : Value) (bytes : Nat)
    (hu : P.underlying t = some (.slice e)) (hinfo : (P.info? e).map (fun i => (i.zero, i.size, i.bytes)) = some (some z, s, bytes))
    (vs : List Value) (hparts : parts.toList.map (fun x => (x.1, a.eval x.2)) = (vs.zipIdx 0).map fun x => (x.2, x.1)) (hs : 0 < s) (hn : vs.length = len) (hpos : 0 < len) (hsmall : len * s ≤ 2 ^ 24) (hall : ∀ v ∈ vs, v.cells.size = s)
    (h : ∀ w', w' = w.alloc (.cells (flatV vs) e) → wpList P ops Q rest (a.put o.dst (.slice (some ⟨w.heap.size, 0, none⟩) len len)) w') : wpList P ops Q (o :: rest) a w := by
  obtain ⟨i, hi, hz0, hz1, hz2⟩ := info_parts hinfo
  have hp : 0 < len * s := Nat.mul_pos hpos hs
  refine wpList_buildSlice hg t e len parts ho (flatV vs) i z hu hi hz0 (by rw [hz1]; omega) (by rw [hz1]; omega) ?_ (h _ rfl)
  have hp' : (parts.map fun (i, x) => (i, a.eval x)).toList = (vs.zipIdx 0).map fun x => (x.2, x.1) := by rw [Array.toList_map]; exact hparts
  rw [hz1, hp']
  exact Great.fill_whole hs vs _ hall (by simp [hn])
end
theorem flatV_get {s : Nat} (hs : 0 < s) {vs : List Value} (h : ∀ v ∈ vs, v.cells.size = s) (k : Nat) : (flatV vs)[k]? = (vs[k / s]?).bind (fun v => v.cells[k % s]?) := by
  unfold flatV
  rw [List.getElem?_toArray]
  exact Great.flat_get hs vs h k

/-- After a row of allocations. -/
def allocs (w : World) (l : List Obj) : World := l.foldl World.alloc w
theorem allocs_below : ∀ (l : List Obj) (w0 w : World), Below w0.heap.size w0 w → w0.heap.size ≤ w.heap.size → Below w0.heap.size w0 (allocs w l) ∧ (allocs w l).heap.size = w.heap.size + l.length
  | [], w0, w, h, _ => ⟨h, rfl⟩
  | o :: l, w0, w, h, hs => by
    have := allocs_below l w0 (w.alloc o) (h.alloc hs _) (by simp; omega)
    refine ⟨this.1, ?_⟩
    show (allocs (w.alloc o) l).heap.size = _
    rw [this.2, List.length_cons]
    simp
    omega
theorem allocs_at : ∀ (l : List Obj) (w : World) (i : Nat), i < l.length → (allocs w l).heap[w.heap.size + i]? = l[i]?
  | [], w, i, h => by simp at h
  | o :: l, w, 0, _ => by
    have hb := (allocs_below l (w.alloc o) (w.alloc o) (Below.refl _ _) (Nat.le_refl _)).1
    show (allocs (w.alloc o) l).heap[w.heap.size + 0]? = _
    rw [Nat.add_zero, hb.block _ (by simp)]
    exact heap_alloc_new w o
  | o :: l, w, i + 1, h => by
    have := allocs_at l (w.alloc o) i (by simpa using h)
    show (allocs (w.alloc o) l).heap[w.heap.size + (i + 1)]? = _
    rw [show w.heap.size + (i + 1) = (w.alloc o).heap.size + i by simp; omega, this]
    rfl

def rowCells (l : List Itm) : List Value := l.flatMap fun x => [Value.string x.t, .complex .f64 x.re x.im]
theorem rowCells_at : ∀ (l : List Itm) (j : Nat) (x : Itm), l[j]? = some x → (rowCells l)[j * 2]? = some (.string x.t) ∧ (rowCells l)[j * 2 + 1]? = some (.complex .f64 x.re x.im)
  | [], j, x, h => by simp at h
  | y :: l, 0, x, h => by
    simp at h
    subst h
    simp [rowCells]
  | y :: l, j + 1, x, h => by
    have := rowCells_at l j x (by simpa using h)
    have e : rowCells (y :: l) = [Value.string y.t, .complex .f64 y.re y.im] ++ rowCells l := rfl
    rw [e, List.getElem?_append_right (by simp; omega), List.getElem?_append_right (by simp; omega)]
    have e1 : (j + 1) * 2 - [Value.string y.t, Value.complex .f64 y.re y.im].length = j * 2 := by simp; omega
    have e2 : (j + 1) * 2 + 1 - [Value.string y.t, Value.complex .f64 y.re y.im].length = j * 2 + 1 := by simp; omega
    rw [e1, e2]
    exact this
theorem itms_of {w : World} {b : Nat} {l : List Itm} {t : TypeId} {fr : Nat × Nat} (h : w.heap[b]? = some (.cells (rowCells l).toArray t fr)) : ItmsAt w (some ⟨b, 0, none⟩) l.length l :=
  ⟨rfl, fun _ => ⟨b, 0, rfl, (Array.getElem?_eq_some_iff.1 h).1, fun j x hx => by
    rw [cell_of_row w b _ _ _ _ h, cell_of_row w b _ _ _ _ h, Nat.zero_add]
    simp only [List.getElem?_toArray]
    exact rowCells_at l j x hx⟩⟩

/-- A row of messages, each with its items' slice. -/
abbrev MRow := Msg × Option Addr × Nat
def MRow.v (x : MRow) : Value := msgV x.1 x.2.1 x.2.2
def MsgsAt (w : World) (B : Nat) (l : List MRow) : Prop := B < w.heap.size ∧ ∀ k x, l[k]? = some x → ∀ j v, (msgCells x.1 x.2.1 x.2.2)[j]? = some v → w.cell? ⟨B, k * 9 + j, none⟩ = some v
theorem MsgsAt.below {w w' : World} {B : Nat} {l : List MRow} (h : MsgsAt w B l) (hb : Below w.heap.size w w') : MsgsAt w' B l :=
  ⟨Nat.lt_of_lt_of_le h.1 hb.size, fun k x hx j v hv => (hb.cell (p := ⟨B, _, none⟩) h.1).trans (h.2 k x hx j v hv)⟩
theorem msgs_of {w : World} {B : Nat} {l : List MRow} {t : TypeId} {fr : Nat × Nat} (h : w.heap[B]? = some (.cells (flatV (l.map MRow.v)) t fr)) : MsgsAt w B l :=
  ⟨(Array.getElem?_eq_some_iff.1 h).1, fun k x hx j v hv => by
    have hj : j < 9 := (Array.getElem?_eq_some_iff.1 hv).1
    rw [cell_of_row w B _ _ _ _ h, flatV_get (s := 9) (by omega) (by intro v hv; obtain ⟨x, _, rfl⟩ := List.mem_map.1 hv; rfl), show (k * 9 + j) / 9 = k by omega, show (k * 9 + j) % 9 = j by omega, List.getElem?_map, hx]
    exact hv⟩
end Go.Proofs.YtjndigkphoiohaaDoor
