/-
  hostlerlaw04.MessageErrors: the walk.
-/
import Derived.Test.YtjndigkphoiohaaDoorErrA
namespace Go.Proofs.YtjndigkphoiohaaDoor
open Go.RowKit Go.Shelf
set_option maxRecDepth 100000

theorem wpList_errs {ops : Array Oper} {rest : List Oper} {o : Oper} {a : Act} {w : World} {Q : Exit → Act → World → Prop} (hg : o.guard = none) (parts : Array (Nat × Operand)) (ho : o.op = .buildSlice 29 27 parts) (q : Int) (w0 : World) (hw : w = allocs w0 itsObjs)
    (hparts : parts.toList.map (fun x => (x.1, a.eval x.2)) = (((errRows q w0.heap.size).map MRow.v).zipIdx 0).map fun x => (x.2, x.1))
    (h : ∀ W, ErrW w0 q W → wpList Tryd.prog ops Q rest (a.put o.dst (.slice (some ⟨w0.heap.size + 8, 0, none⟩) 27 27)) W) : wpList Tryd.prog ops Q (o :: rest) a w := by
  subst hw
  have hsz : (allocs w0 itsObjs).heap.size = w0.heap.size + 8 := (allocs_below itsObjs w0 w0 (Below.refl _ _) (Nat.le_refl _)).2
  refine wpList_buildDense hg 29 28 27 parts ho 9 _ 112 Tryd.underlying29 infoMsg ((errRows q w0.heap.size).map MRow.v) hparts (by omega) rfl (by omega) (by omega) (errRows_cells q _) (fun W hW => ?_)
  subst hW
  rw [hsz]
  exact h _ (errW w0 q)

theorem good_ok : MsgOk ⟨1, tF, tX, t0, 0, 0, 0, 0, one1⟩ := it_ok 0 0 ⟨1, tF, tX, t0, 0, 0, 0, 0, []⟩ (Nat.le_of_ble_eq_true rfl) (Nat.le_of_ble_eq_true rfl) (Nat.le_of_ble_eq_true rfl)
theorem good_check : checkS ⟨1, tF, tX, t0, 0, 0, 0, 0, one1⟩ = 0 := by decide +kernel
set_option maxHeartbeats 8000000 in
theorem errors_c (n : Int) (w : World) (R : Ending → World → Prop)
    (h : ∀ w', Below w.heap.size w w' → R (.returned (.bool true)) w') : Calls Tryd.prog 3 #[.int .i64 n] w R := by
  have H := Lib.hid h
  clear h
  have hmk := make5
  go_enter Tryd.func3, Tryd.ntmps3
  go_wp2_with fail
  refine inside_c n 1000 w (by omega) (by omega) _ ?_
  have h0 := Int.emod_nonneg n (show (1000 : Int) ≠ 0 by omega)
  have h1 := Int.emod_lt_of_pos n (show (0 : Int) < 1000 by omega)
  obtain ⟨q, hq⟩ : ∃ q, n % 1000 = q := ⟨_, rfl⟩
  rw [hq] at h0 h1 ⊢
  clear hq
  go_wp2_with (refine wpList_errs rfl _ rfl q w rfl rfl ?_; intro W hE)
  have HE := Lib.hid hE
  have hb0 := hE.below
  clear hE hmk
  go_loopw [64] (fun i wr => ∃ k : Nat, k ≤ 27 ∧ i = .int .i64 k ∧ Below W.heap.size W wr) (fun i _ => 27 - (RowKit.intOf i).toNat)
  case atStart => exact ⟨0, by omega, rfl, Below.refl _ _⟩
  case round =>
    obtain ⟨k, hk, rfl, hB⟩ := hrel
    by_cases hc : k < 27
    · have t1 : decide ((k : Int) < 27) = true := by simp; omega
      obtain ⟨x, hx⟩ : ∃ x, (errRows q w.heap.size)[k]? = some x := ⟨_, List.getElem?_eq_getElem (by rw [errRows_len]; exact hc)⟩
      have hmem := List.mem_of_getElem? hx
      have hM := HE.out.msgs.below hB
      obtain ⟨m, A, c⟩ := x
      have c0 : wr.cell? ⟨w.heap.size + 8, k * 9, none⟩ = some (.int .i64 m.kind) := hM.2 k _ hx 0 _ rfl
      have c1 : wr.cell? ⟨w.heap.size + 8, k * 9 + 1, none⟩ = some (.string m.f) := hM.2 k _ hx 1 _ rfl
      have c2 : wr.cell? ⟨w.heap.size + 8, k * 9 + 2, none⟩ = some (.string m.e) := hM.2 k _ hx 2 _ rfl
      have c3 : wr.cell? ⟨w.heap.size + 8, k * 9 + 3, none⟩ = some (.string m.t) := hM.2 k _ hx 3 _ rfl
      have c4 : wr.cell? ⟨w.heap.size + 8, k * 9 + 4, none⟩ = some (.int .i64 m.n) := hM.2 k _ hx 4 _ rfl
      have c5 : wr.cell? ⟨w.heap.size + 8, k * 9 + 5, none⟩ = some (.int .i64 m.state) := hM.2 k _ hx 5 _ rfl
      have c6 : wr.cell? ⟨w.heap.size + 8, k * 9 + 6, none⟩ = some (.int .i64 m.number) := hM.2 k _ hx 6 _ rfl
      have c7 : wr.cell? ⟨w.heap.size + 8, k * 9 + 7, none⟩ = some (.int .i64 m.epoch) := hM.2 k _ hx 7 _ rfl
      have c8 : wr.cell? ⟨w.heap.size + 8, k * 9 + 8, none⟩ = some (.slice A m.items.length c) := hM.2 k _ hx 8 _ rfl
      have hlt := hM.1
      have hbad := errRows_bad q _ h0 h1 _ hmem
      have hok := errRows_ok q _ _ hmem
      have hI := (HE.out.items _ hmem).below hB
      have Hbad := Lib.hid hbad
      have Hok := Lib.hid hok
      have HI := Lib.hid hI
      have Hc := Lib.hid hc
      have hcI : (k : Int) < 27 := by omega
      clear hx hmem hM hbad hok hI hc
      go_wp2_with fail
      have hB2 : Below wr.heap.size wr (wr.alloc (.cells (msgCells m A c) 28)) := (Below.refl _ _).alloc (Nat.le_refl _) _
      refine pack_c m A c _ Hok.out (HI.out.below hB2) (fun hv => by rw [Hbad.out] at hv; cases hv) _ (fun _ w3 hB3 => ?_) (fun hv => by rw [Hbad.out] at hv; cases hv)
      have hX : w3.heap[wr.heap.size]? = some (.cells (msgCells m A c) 28) := (hB3.block _ (by simp)).trans (heap_alloc_new wr _)
      have hB3' : Below wr.heap.size wr w3 := hB2.trans (hB3.mono (by simp))
      have hlt3 : wr.heap.size < w3.heap.size := (Array.getElem?_eq_some_iff.1 hX).1
      have d0 : w3.cell? ⟨wr.heap.size, 0, none⟩ = some (.int .i64 m.kind) := by rw [cell_of_row w3 wr.heap.size 0 _ _ _ hX]; rfl
      have d1 : w3.cell? ⟨wr.heap.size, 1, none⟩ = some (.string m.f) := by rw [cell_of_row w3 wr.heap.size 1 _ _ _ hX]; rfl
      have d2 : w3.cell? ⟨wr.heap.size, 2, none⟩ = some (.string m.e) := by rw [cell_of_row w3 wr.heap.size 2 _ _ _ hX]; rfl
      have d3 : w3.cell? ⟨wr.heap.size, 3, none⟩ = some (.string m.t) := by rw [cell_of_row w3 wr.heap.size 3 _ _ _ hX]; rfl
      have d4 : w3.cell? ⟨wr.heap.size, 4, none⟩ = some (.int .i64 m.n) := by rw [cell_of_row w3 wr.heap.size 4 _ _ _ hX]; rfl
      have d5 : w3.cell? ⟨wr.heap.size, 5, none⟩ = some (.int .i64 m.state) := by rw [cell_of_row w3 wr.heap.size 5 _ _ _ hX]; rfl
      have d6 : w3.cell? ⟨wr.heap.size, 6, none⟩ = some (.int .i64 m.number) := by rw [cell_of_row w3 wr.heap.size 6 _ _ _ hX]; rfl
      have d7 : w3.cell? ⟨wr.heap.size, 7, none⟩ = some (.int .i64 m.epoch) := by rw [cell_of_row w3 wr.heap.size 7 _ _ _ hX]; rfl
      have d8 : w3.cell? ⟨wr.heap.size, 8, none⟩ = some (.slice A m.items.length c) := by rw [cell_of_row w3 wr.heap.size 8 _ _ _ hX]; rfl
      have HB3 := Lib.hid hB3'
      have HB := Lib.hid hB
      clear c0 c1 c2 c3 c4 c5 c6 c7 c8 hlt hB2 hB3 hB3' hX hB
      go_wp2_with fail
      have hcs : checkS m = 1 := by unfold checkS; rw [Hbad.out]; rfl
      refine check_c m A c _ Hok.out (HI.out.below HB3.out) _ (fun w4 hB4 => ?_)
      rw [hcs]
      clear hcs
      go_wp2_with fail
      refine ⟨⟨k + 1, by have := Hc.out; omega, by go_num, HB.out.trans ((HB3.out.trans (hB4.mono HB3.out.size)).mono HB.out.size)⟩, ?_⟩
      have := Hc.out
      simp [RowKit.intOf]
      omega
    · have hk' : k = 27 := by omega
      subst hk'
      clear hc
      go_wp2_with fail
      have hI := HE.out.one.below hB
      refine check_c ⟨1, tF, tX, t0, 0, 0, 0, 0, one1⟩ (some ⟨w.heap.size, 0, none⟩) 1 _ good_ok hI _ (fun w4 hB4 => ?_)
      rw [good_check]
      go_wp2_with fail
      refine wakes04_c _ _ (fun w5 hB5 => ?_)
      go_wp2_with fail
      exact H.out _ (hb0.trans ((hB.trans ((hB4.trans (hB5.mono hB4.size)).mono hB.size)).mono hb0.size))
end Go.Proofs.YtjndigkphoiohaaDoor
