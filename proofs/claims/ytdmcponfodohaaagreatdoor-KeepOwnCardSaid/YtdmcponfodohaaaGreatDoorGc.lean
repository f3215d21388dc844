/-
  Several texts in one: KeepA, Wakes, Dense, ErrA; each says at its head what it holds.
-/
import Derived.Test.YtdmcponfodohaaaGreatDoorPack
import Derived.Outline
import Derived.Great.BuildSlice
/-
  hostlerkeep.Within and hostlerkeep.Same[byte].
-/
namespace Go.Proofs.YtdmcponfodohaaaGreatDoor
open Go.RowKit Go.Shelf
set_option maxRecDepth 100000

theorem inside_c (v n : Int) (w : World) (hn : 1 ≤ n) (hn' : n ≤ 2 ^ 40) (R : Ending → World → Prop)
    (h : R (.returned (.int .i64 (v % n))) w) : Calls Tryz.prog 12 #[.int .i64 v, .int .i64 n] w R := by
  have H := Lib.hid h
  clear h
  have t0 : decide (n < 1) = false := by simp; omega
  have e := @Int.tmod_eq_emod v n
  have hlt := Int.emod_lt_of_pos v (show 0 < n by omega)
  have hge := Int.emod_nonneg v (show n ≠ 0 by omega)
  go_enter Tryz.func12, Tryz.ntmps12
  by_cases hm : v.tmod n < 0
  · have t1 : decide (v.tmod n < 0) = true := by simp [hm]
    have hw : wrap64 (v.tmod n + n) = v % n := by
      rw [e] at hm ⊢
      split at hm
      · omega
      · rename_i hc
        rw [if_neg hc, Go.IntWalk.wrap64_in _ (by omega)]
        omega
    clear e hm
    go_wp2_with fail
    rw [← hw] at H
    exact H.out
  · have t1 : decide (v.tmod n < 0) = false := by simp [hm]
    have hw : v.tmod n = v % n := by
      rw [e] at hm ⊢
      split at hm
      · rename_i hc
        rw [if_pos hc]
        omega
      · rename_i hc
        rw [if_neg hc]
        omega
    clear e hm
    go_wp2_with fail
    exact H.out

theorem u8s_at {xs : List Int} {k : Nat} {u : Value} (h : (u8s xs)[k]? = some u) : ∃ x, xs[k]? = some x ∧ u = .int .u8 x := by
  unfold u8s at h
  rw [List.getElem?_map] at h
  cases hx : xs[k]? with
  | none => rw [hx] at h; cases h
  | some x => rw [hx] at h; injection h with h; exact ⟨x, rfl, h.symm⟩

theorem sameBytes_c (A B : Option Addr) (n c m d : Nat) (xs ys : List Int) (w : World) (hx : Rd w A n (u8s xs)) (hy : Rd w B m (u8s ys)) (hn : n < 2 ^ 40) (hm : m < 2 ^ 40) (R : Ending → World → Prop)
    (h : ∀ w', Below w.heap.size w w' → R (.returned (.bool (decide (xs = ys)))) w') : Calls Tryz.prog 33 #[.slice A n c, .slice B m d] w R := by
  have H := Lib.hid h
  have Hx := Lib.hid hx
  have Hy := Lib.hid hy
  have hlx : xs.length = n := by have := hx.1; simpa [u8s] using this
  have hly : ys.length = m := by have := hy.1; simpa [u8s] using this
  clear h hx hy
  go_enter Tryz.func33, Tryz.ntmps33
  by_cases hnm : n = m
  · subst hnm
    have t0 : ((n : Int) == (n : Int)) = true := by simp
    have hlx' := Lib.hid hlx
    have hly' := Lib.hid hly
    clear hlx hly
    go_wp2_with fail
    go_loopw [5] (fun i wr => ∃ k : Nat, k ≤ n ∧ i = .int .i64 k ∧ Below w.heap.size w wr ∧ Hid (∀ j, j < k → xs[j]? = ys[j]?)) (fun i _ => n - (RowKit.intOf i).toNat)
    case atStart => exact ⟨0, by omega, rfl, Below.refl _ _, Lib.hid (fun j hj => by omega)⟩
    case round =>
      obtain ⟨k, hk, rfl, hB, Hk⟩ := hrel
      by_cases hc : k < n
      · have t1 : decide (k < n) = true := by simp; omega
        obtain ⟨g, o, u, rfl, hg, hu, hcell⟩ := (Hx.out.below hB).at_ hc
        obtain ⟨g', o', u', rfl, hg', hu', hcell'⟩ := (Hy.out.below hB).at_ hc
        obtain ⟨x, hx, rfl⟩ := u8s_at hu
        obtain ⟨y, hy, rfl⟩ := u8s_at hu'
        have hx' := Lib.hid hx
        have hy' := Lib.hid hy
        have hcn := Lib.hid hc
        clear hx hy hu hu'
        by_cases hxy : x = y
        · have t2 : (x == y) = true := by simp [hxy]
          have hxy' := Lib.hid hxy
          clear hxy
          go_wp2_with fail
          go_region
          go_wp2_with fail
          refine ⟨⟨k + 1, by have := hcn.out; omega, by go_num, hB.drew, Lib.hid ?_⟩, ?_⟩
          · intro j hj
            by_cases hjk : j < k
            · exact Hk.out j hjk
            · have : j = k := by omega
              subst this
              rw [hx'.out, hy'.out, hxy'.out]
          · have := hcn.out
            simp [RowKit.intOf]
            omega
        · have t2 : (x == y) = false := by simp [hxy]
          have hne : decide (xs = ys) = false := by
            simp only [decide_eq_false_iff_not]
            intro e
            rw [e] at hx'
            have := hx'.out.symm.trans hy'.out
            injection this with this
            exact hxy this
          rw [hne] at H
          clear hxy hne
          go_wp2_with fail
          go_region
          go_wp2_with fail
          exact H.out _ hB.drew
      · have t1 : decide (k < n) = false := by simp; omega
        have he : decide (xs = ys) = true := by
          simp only [decide_eq_true_eq]
          apply List.ext_getElem?
          intro j
          by_cases hj : j < k
          · exact Hk.out j hj
          · rw [List.getElem?_eq_none (by have := hlx'.out; omega), List.getElem?_eq_none (by have := hly'.out; omega)]
        rw [he] at H
        clear he hc
        go_wp2_with fail
        exact H.out _ hB
  · have t0 : ((n : Int) == (m : Int)) = false := by simp; omega
    have hne : decide (xs = ys) = false := by simp; intro e; rw [e] at hlx; omega
    rw [hne] at H
    clear hnm hne hlx hly
    go_wp2_with fail
    exact H.out _ (Below.refl _ _)
end Go.Proofs.YtdmcponfodohaaaGreatDoor
/-
  A slice over a block just laid reads as its cells.
-/
namespace Go.Proofs.YtdmcponfodohaaaGreatDoor
open Go.RowKit Go.Shelf
set_option maxRecDepth 100000

theorem rd_new (w : World) (vs : Array Value) (t : TypeId) {l : List Value} (hl : l = vs.toList) : Rd (w.alloc (.cells vs t)) (some ⟨w.heap.size, 0, none⟩) vs.size l := by
  subst hl
  refine ⟨by simp, fun _ => ⟨w.heap.size, 0, rfl, by simp, fun j u hu => ?_⟩⟩
  rw [cell_of_row _ _ _ _ _ _ (heap_alloc_new w _), Nat.zero_add]
  simpa using hu
end Go.Proofs.YtdmcponfodohaaaGreatDoor
/-
  A slice literal of elements of several cells each; worlds after a row of allocations; rows of messages.
-/
namespace Go.Proofs.YtdmcponfodohaaaGreatDoor
open Go.RowKit Go.Shelf
set_option maxRecDepth 100000

section
variable {P : Program} {ops : Array Oper} {rest : List Oper} {o : Oper} {a : Act} {w : World} {Q : Exit → Act → World → Prop}
def flatV (vs : List Value) : Array Value := (vs.flatMap fun v => v.cells.toList).toArray
theorem wpList_buildDense (hg : o.guard = none) (t e : TypeId) (len : Nat) (parts : Array (Nat × Operand)) (ho : o.op = .buildSlice t len parts) (s : Nat) (z : Value) (bytes : Nat)
    (hu : P.underlying t = some (.slice e)) (hinfo : (P.info? e).map (fun i => (i.zero, i.size, i.bytes)) = some (some z, s, bytes))
    (vs : List Value) (hparts : parts.toList.map (fun x => (x.1, a.eval x.2)) = (vs.zipIdx 0).map fun x => (x.2, x.1)) (hs : 0 < s) (hn : vs.length = len) (hpos : 0 < len) (hsmall : len * s ≤ 2 ^ 24) (hall : ∀ v ∈ vs, v.cells.size = s)
    (h : ∀ w', w' = w.alloc (.cells (flatV vs) e) → wpList P ops Q rest (a.put o.dst (.slice (some ⟨w.heap.size, 0, none⟩) len len)) w') : wpList P ops Q (o :: rest) a w := by
  obtain ⟨i, hi, hz0, hz1, hz2⟩ := info_parts hinfo
  have hp : 0 < len * s := Nat.mul_pos hpos hs
  refine wpList_buildSlice hg t e len parts ho (flatV vs) i z hu hi hz0 (by rw [hz1]; omega) (by rw [hz1]; omega) ?_ (h _ rfl)
  have hp' : (parts.map fun (i, x) => (i, a.eval x)).toList = (vs.zipIdx 0).map fun x => (x.2, x.1) := by rw [Array.toList_map]; exact hparts
  rw [hz1, hp']
  exact Great.fill_whole hs vs _ hall (by simp [hn])
end
theorem flatV_get {s : Nat} (hs : 0 < s) {vs : List Value} (h : ∀ v ∈ vs, v.cells.size = s) (k : Nat) : (flatV vs)[k]? = (vs[k / s]?).bind (fun v => v.cells[k % s]?) := by
  unfold flatV
  rw [List.getElem?_toArray]
  exact Great.flat_get hs vs h k

/-- After a row of allocations. -/
def allocs (w : World) (l : List Obj) : World := l.foldl World.alloc w
theorem allocs_below : ∀ (l : List Obj) (w0 w : World), Below w0.heap.size w0 w → w0.heap.size ≤ w.heap.size → Below w0.heap.size w0 (allocs w l) ∧ (allocs w l).heap.size = w.heap.size + l.length
  | [], w0, w, h, _ => ⟨h, rfl⟩
  | o :: l, w0, w, h, hs => by
    have := allocs_below l w0 (w.alloc o) (h.alloc hs _) (by simp; omega)
    refine ⟨this.1, ?_⟩
    show (allocs (w.alloc o) l).heap.size = _
    rw [this.2, List.length_cons]
    simp
    omega
theorem allocs_at : ∀ (l : List Obj) (w : World) (i : Nat), i < l.length → (allocs w l).heap[w.heap.size + i]? = l[i]?
  | [], w, i, h => by simp at h
  | o :: l, w, 0, _ => by
    have hb := (allocs_below l (w.alloc o) (w.alloc o) (Below.refl _ _) (Nat.le_refl _)).1
    show (allocs (w.alloc o) l).heap[w.heap.size + 0]? = _
    rw [Nat.add_zero, hb.block _ (by simp)]
    exact heap_alloc_new w o
  | o :: l, w, i + 1, h => by
    have := allocs_at l (w.alloc o) i (by simpa using h)
    show (allocs (w.alloc o) l).heap[w.heap.size + (i + 1)]? = _
    rw [show w.heap.size + (i + 1) = (w.alloc o).heap.size + i by simp; omega, this]
    rfl

def rowCells (l : List Itm) : List Value := l.flatMap fun x => [Value.string x.t, .complex .f64 x.re x.im]
theorem rowCells_at : ∀ (l : List Itm) (j : Nat) (x : Itm), l[j]? = some x → (rowCells l)[j * 2]? = some (.string x.t) ∧ (rowCells l)[j * 2 + 1]? = some (.complex .f64 x.re x.im)
  | [], j, x, h => by simp at h
  | y :: l, 0, x, h => by
    simp at h
    subst h
    simp [rowCells]
  | y :: l, j + 1, x, h => by
    have := rowCells_at l j x (by simpa using h)
    have e : rowCells (y :: l) = [Value.string y.t, .complex .f64 y.re y.im] ++ rowCells l := rfl
    rw [e, List.getElem?_append_right (by simp; omega), List.getElem?_append_right (by simp; omega)]
    have e1 : (j + 1) * 2 - [Value.string y.t, Value.complex .f64 y.re y.im].length = j * 2 := by simp; omega
    have e2 : (j + 1) * 2 + 1 - [Value.string y.t, Value.complex .f64 y.re y.im].length = j * 2 + 1 := by simp; omega
    rw [e1, e2]
    exact this
theorem itms_of {w : World} {b : Nat} {l : List Itm} {t : TypeId} {fr : Nat × Nat} (h : w.heap[b]? = some (.cells (rowCells l).toArray t fr)) : ItmsAt w (some ⟨b, 0, none⟩) l.length l :=
  ⟨rfl, fun _ => ⟨b, 0, rfl, (Array.getElem?_eq_some_iff.1 h).1, fun j x hx => by
    rw [cell_of_row w b _ _ _ _ h, cell_of_row w b _ _ _ _ h, Nat.zero_add]
    simp only [List.getElem?_toArray]
    exact rowCells_at l j x hx⟩⟩

/-- A row of messages, each with its items' slice. -/
abbrev MRow := Msg × Option Addr × Nat
def MRow.v (x : MRow) : Value := msgV x.1 x.2.1 x.2.2
def MsgsAt (w : World) (B : Nat) (l : List MRow) : Prop := B < w.heap.size ∧ ∀ k x, l[k]? = some x → ∀ j v, (msgCells x.1 x.2.1 x.2.2)[j]? = some v → w.cell? ⟨B, k * 9 + j, none⟩ = some v
theorem MsgsAt.below {w w' : World} {B : Nat} {l : List MRow} (h : MsgsAt w B l) (hb : Below w.heap.size w w') : MsgsAt w' B l :=
  ⟨Nat.lt_of_lt_of_le h.1 hb.size, fun k x hx j v hv => (hb.cell (p := ⟨B, _, none⟩) h.1).trans (h.2 k x hx j v hv)⟩
theorem msgs_of {w : World} {B : Nat} {l : List MRow} {t : TypeId} {fr : Nat × Nat} (h : w.heap[B]? = some (.cells (flatV (l.map MRow.v)) t fr)) : MsgsAt w B l :=
  ⟨(Array.getElem?_eq_some_iff.1 h).1, fun k x hx j v hv => by
    have hj : j < 9 := (Array.getElem?_eq_some_iff.1 hv).1
    rw [cell_of_row w B _ _ _ _ h, flatV_get (s := 9) (by omega) (by intro v hv; obtain ⟨x, _, rfl⟩ := List.mem_map.1 hv; rfl), show (k * 9 + j) / 9 = k by omega, show (k * 9 + j) % 9 = j by omega, List.getElem?_map, hx]
    exact hv⟩
end Go.Proofs.YtdmcponfodohaaaGreatDoor
/-
  The items' and the messages' rows of the table; short texts.
-/
namespace Go.Proofs.YtdmcponfodohaaaGreatDoor
open Go.RowKit Go.Shelf
set_option maxRecDepth 100000

theorem infoItm : (Tryz.prog.info? 55).map (fun i => (i.zero, i.size, i.bytes)) = some (some (.agg #[.string ⟨#[]⟩, .complex .f64 0 0]), 2, 32) := by kernel_rfl
theorem infoMsg : (Tryz.prog.info? 115).map (fun i => (i.zero, i.size, i.bytes)) = some (some (.agg #[.int .i64 0, .string ⟨#[]⟩, .string ⟨#[]⟩, .string ⟨#[]⟩, .int .i64 0, .int .i64 0, .int .i64 0, .int .i64 0, .slice none 0 0]), 9, 112) := by kernel_rfl
theorem infoEnt : (Tryz.prog.info? 30).map (fun i => (i.zero, i.size, i.bytes)) = some (some (.agg #[.string ⟨#[]⟩, .string ⟨#[]⟩, .int .i64 0, .slice none 0 0]), 4, 64) := by kernel_rfl
abbrev tF : ByteArray := ⟨#[102]⟩
abbrev tX : ByteArray := ⟨#[120]⟩
abbrev tA : ByteArray := ⟨#[97]⟩
abbrev tB : ByteArray := ⟨#[98]⟩
abbrev t0 : ByteArray := ⟨#[]⟩
abbrev bit1 : Nat := 4607182418800017408
end Go.Proofs.YtdmcponfodohaaaGreatDoor
