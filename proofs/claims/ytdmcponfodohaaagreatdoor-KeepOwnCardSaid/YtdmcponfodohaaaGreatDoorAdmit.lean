/-
  admit.run, admit.Check, admit.names.
-/
import Derived.Test.YtdmcponfodohaaaGreatDoorGc
import Derived.Outline
import Derived.Deep.RegionWith
import Derived.Laws.Rows
namespace Go.Proofs.YtdmcponfodohaaaGreatDoor
open Go.RowKit Go.Shelf
set_option maxRecDepth 100000

/-- An entry without its run number: the message that it answers. -/
def runM (f e : ByteArray) (l : List Itm) : Msg := ⟨1, f, e, ⟨#[]⟩, 0, 0, 0, 0, l⟩
def entryV (f e : ByteArray) (r : Int) (A : Option Addr) (n c : Nat) : Value := .agg #[.string f, .string e, .int .i64 r, .slice A n c]
def admOk (f e : ByteArray) (r : Int) (l : List Itm) : Bool := validS (runM f e l) && decide (0 ≤ r) && decide (r ≤ 24)

theorem run_c (f e : ByteArray) (r : Int) (A : Option Addr) (n c : Nat) (w : World) (R : Ending → World → Prop)
    (h : ∀ w', Below w.heap.size w w' → R (.returned (.agg #[.int .i64 1, .string f, .string e, .string ⟨#[]⟩, .int .i64 0, .int .i64 0, .int .i64 0, .int .i64 0, .slice A n c])) w') :
    Calls Tryz.prog 77 #[entryV f e r A n c] w R := by
  have H := Lib.hid h
  clear h
  unfold entryV
  go_enter Tryz.func77, Tryz.ntmps77
  go_wp2_with fail
  refine bodyPost_ret (results_cell_row rfl _ _ (w.heap.size + 1) 115 _ (0, 0) _ rfl (heap_alloc2_new w _ _) Tryz.underlying115 rfl (by kernel_rfl)) rfl ?_
  exact H.out _ (((Below.refl _ _).alloc (Nat.le_refl _) _).alloc (by simp) _)

theorem admCheck_c (f e : ByteArray) (r : Int) (A : Option Addr) (c : Nat) (l : List Itm) (w : World) (hm : MsgOk (runM f e l)) (hI : ItmsAt w A l.length l) (R : Ending → World → Prop)
    (h : ∀ w', Below w.heap.size w w' → R (.returned (.int .i64 (if admOk f e r l then 0 else 1))) w') :
    Calls Tryz.prog 75 #[entryV f e r A l.length c] w R := by
  have H := Lib.hid h
  have Hm := Lib.hid hm
  have HI := Lib.hid hI
  clear h hm hI
  unfold entryV
  go_enter Tryz.func75, Tryz.ntmps75
  go_wp2_with fail
  refine run_c f e r A _ c _ _ (fun w1 hB1 => ?_)
  have hB0 : Below w.heap.size w (w.alloc (.cells #[.string f, .string e, .int .i64 r, .slice A l.length c] 30)) := (Below.refl _ _).alloc (Nat.le_refl _) _
  have hX : w1.heap[w.heap.size]? = some (.cells #[.string f, .string e, .int .i64 r, .slice A l.length c] 30) := (hB1.block _ (by simp)).trans (heap_alloc_new w _)
  have hB1' : Below w.heap.size w w1 := hB0.trans (hB1.mono (by simp))
  have hI1 := HI.out.below hB1'
  have Hs := Lib.hid hB1'
  clear hB1 hB0 hB1'
  have HX := Lib.hid hX
  clear hX
  go_wp2_with fail
  refine check_c (runM f e l) A c _ Hm.out hI1 _ (fun w2 hB2 => ?_)
  have hlt : w.heap.size < w1.heap.size := (Array.getElem?_eq_some_iff.1 HX.out).1
  have hX2 : w2.heap[w.heap.size]? = some (.cells #[.string f, .string e, .int .i64 r, .slice A l.length c] 30) := (hB2.block _ hlt).trans HX.out
  have hr : w2.cell? ⟨w.heap.size, 2, none⟩ = some (.int .i64 r) := by rw [cell_of_row w2 w.heap.size 2 _ _ _ hX2]; rfl
  have hlt2 : w.heap.size < w2.heap.size := (Array.getElem?_eq_some_iff.1 hX2).1
  have HB2 := Lib.hid (Hs.out.trans (hB2.mono Hs.out.size))
  clear hI1 hB2 hlt hX2
  unfold checkS admOk at *
  cases hv : validS (runM f e l)
  · have h2 := H.out _ HB2.out
    rw [hv] at h2
    have h3 := Lib.hid h2
    clear h2 H
    go_wp2_with fail
    exact h3.out
  · have h2 := H.out _ HB2.out
    rw [hv] at h2
    have h3 := Lib.hid h2
    clear h2 H
    go_wp2_with fail
    all_goals first | exact (by have h4 := h3.out; rw [if_neg (by simp; omega)] at h4; exact h4) | exact (by have h4 := h3.out; rw [if_pos (by simp; omega)] at h4; exact h4)

theorem rows_two {base base' : Nat} {A1 A2 : Option Addr} {c1 c2 : Nat} {l1 l2 : List Int} (w2 : World) (h1 : w2.ownsRow base 5 1 (.slice A1 l1.length c1) l1.length (u8s l1)) (h2 : w2.ownsRow base' 5 1 (.slice A2 l2.length c2) l2.length (u8s l2)) :
    RdRows (w2.alloc (.cells #[.slice A1 l1.length c1, .slice A2 l2.length c2] 37)) (some ⟨w2.heap.size, 0, none⟩) 2 [l1, l2] := rows_of (heap_alloc_new w2 _) _ rfl (fun j l hl => by
  rcases j with _ | _ | j
  · cases hl; exact ⟨_, _, rfl, h1.alloc _⟩
  · cases hl; exact ⟨_, _, rfl, h2.alloc _⟩
  · cases hl)
theorem rows_three {base base' base3 : Nat} {A1 A2 A3 : Option Addr} {c1 c2 c3 : Nat} {l1 l2 l3 : List Int} (w2 : World) (h1 : w2.ownsRow base 5 1 (.slice A1 l1.length c1) l1.length (u8s l1)) (h2 : w2.ownsRow base' 5 1 (.slice A2 l2.length c2) l2.length (u8s l2)) (h3 : w2.ownsRow base3 5 1 (.slice A3 l3.length c3) l3.length (u8s l3)) :
    RdRows (w2.alloc (.cells #[.slice A1 l1.length c1, .slice A2 l2.length c2, .slice A3 l3.length c3] 37)) (some ⟨w2.heap.size, 0, none⟩) 3 [l1, l2, l3] := rows_of (heap_alloc_new w2 _) _ rfl (fun j l hl => by
  rcases j with _ | _ | _ | j
  · cases hl; exact ⟨_, _, rfl, h1.alloc _⟩
  · cases hl; exact ⟨_, _, rfl, h2.alloc _⟩
  · cases hl; exact ⟨_, _, rfl, h3.alloc _⟩
  · cases hl)
theorem two_total (f e : ByteArray) : total [textB f, textB e] ≤ 1000000000 := by
  have h1 := textB_le f
  have h2 := textB_le e
  simp only [total, List.flatten_cons, List.flatten_nil, List.length_append, List.length_nil]
  omega
set_option maxHeartbeats 2000000 in
theorem names_c (f e : ByteArray) (r : Int) (A : Option Addr) (n c : Nat) (w : World) (R : Ending → World → Prop)
    (h : ∀ v w', Below w.heap.size w w' → w'.ownsRow w.heap.size 5 1 v (textB f ++ textB e).length (u8s (textB f ++ textB e)) → R (.returned v) w') :
    Calls Tryz.prog 78 #[entryV f e r A n c] w R := by
  have H := Lib.hid h
  clear h
  unfold entryV
  go_enter Tryz.func78, Tryz.ntmps78
  go_wp2_with fail
  have hB0 : Below w.heap.size w (w.alloc (.cells #[.string f, .string e, .int .i64 r, .slice A n c] 30)) := (Below.refl _ _).alloc (Nat.le_refl _) _
  have HB0 := Lib.hid hB0
  clear hB0
  go_region_with (first
    | (go_at_call 107; have Hx1 := HB1; clear Hx1; refine codeText_c e _ _ (fun v2 w2 hB2 hown2 => ?_); obtain ⟨A2, c2, rfl, _⟩ := own_shape' hown2; have HB2 : Hid (Below w1.heap.size w1 w2) := Lib.hid hB2; have Ho2 : Hid (w2.ownsRow w1.heap.size 5 1 (.slice A2 (textB e).length c2) (textB e).length (u8s (textB e))) := Lib.hid hown2; clear hB2 hown2)
    | (go_at_call 107; refine codeText_c f _ _ (fun v1 w1 hB1 hown1 => ?_); obtain ⟨A1, c1, rfl, _⟩ := own_shape' hown1; have hX1 : w1.heap[w.heap.size]? = some (.cells #[.string f, .string e, .int .i64 r, .slice A n c] 30) := (hB1.block _ (by show w.heap.size < (w.alloc _).heap.size; simp)).trans (heap_alloc_new w _); have hlt1 := (Array.getElem?_eq_some_iff.1 hX1).1; have hce : w1.cell? ⟨w.heap.size, 1, none⟩ = some (.string e) := (by rw [cell_of_row w1 w.heap.size 1 _ _ _ hX1]; rfl); have HB1 : Hid (Below w.heap.size w w1) := Lib.hid (HB0.out.drew.trans (hB1.mono (by show w.heap.size ≤ (w.alloc _).heap.size; simp))); have Ho1 : Hid (w1.ownsRow w.heap.size 5 1 (.slice A1 (textB f).length c1) (textB f).length (u8s (textB f))) := Lib.hid (own_mono hown1 (by show w.heap.size ≤ (w.alloc _).heap.size; simp)); clear hB1 hown1 hX1)
    | (go_at_call 46; have hrows : RdRows (w2.alloc (.cells #[.slice A1 (textB f).length c1, .slice A2 (textB e).length c2] 37)) (some ⟨w2.heap.size, 0, none⟩) 2 [textB f, textB e] := rows_two w2 (own_below' Ho1.out HB2.out) Ho2.out; have HBa : Below w.heap.size w (w2.alloc (.cells #[.slice A1 (textB f).length c1, .slice A2 (textB e).length c2] 37)) := (HB1.out.trans (HB2.out.mono HB1.out.size)).alloc (Nat.le_trans HB1.out.size HB2.out.size) _; refine concat_c _ 2 _ _ _ hrows (by omega) (two_total f e) _ (fun v3 w3 hB3 hown3 => ?_); have HB3 : Hid (Below w.heap.size w w3) := Lib.hid (HBa.trans (hB3.mono HBa.size)); have Ho3 : Hid (w3.ownsRow w.heap.size 5 1 v3 (textB f ++ textB e).length (u8s (textB f ++ textB e))) := Lib.hid (by have h := own_mono hown3 HBa.size; simpa using h); clear hB3 hown3 hrows HBa))
  all_goals
    go_wp2_with fail
    go_ret
    exact H.out _ _ HB3.out Ho3.out
end Go.Proofs.YtdmcponfodohaaaGreatDoor
