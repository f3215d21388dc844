/-
  hostlerlaw13.AdmitForms: the walk.
-/
import Derived.Test.YtjndigkphoiohaaDoorFormsB
import Derived.Outline
import Derived.Deep.RegionHeld3
namespace Go.Proofs.YtjndigkphoiohaaDoor
open Go.RowKit Go.Shelf
set_option maxRecDepth 100000

set_option maxHeartbeats 8000000 in
theorem forms13_c (r cp me : Int) (w : World) (R : Ending → World → Prop)
    (h : ∀ w', Below w.heap.size w w' → R (.returned (.bool true)) w') : Calls Tryd.prog 4 #[.int .i64 r, .int .i64 cp, .int .i64 me] w R := by
  have H := Lib.hid h
  clear h
  have hmk := make5
  go_enter Tryd.func4, Tryd.ntmps4
  go_wp2_with fail
  refine inside_c r 25 w (by omega) (by omega) _ ?_
  have a0 := Int.emod_nonneg r (show (25 : Int) ≠ 0 by omega)
  have a1 := Int.emod_lt_of_pos r (show (0 : Int) < 25 by omega)
  obtain ⟨ru, hru⟩ : ∃ q, r % 25 = q := ⟨_, rfl⟩
  rw [hru] at a0 a1 ⊢
  clear hru
  go_wp2_with fail
  refine inside_c cp 100 w (by omega) (by omega) _ ?_
  have b0 := Int.emod_nonneg cp (show (100 : Int) ≠ 0 by omega)
  have b1 := Int.emod_lt_of_pos cp (show (0 : Int) < 100 by omega)
  obtain ⟨cu, hcu⟩ : ∃ q, cp % 100 = q := ⟨_, rfl⟩
  rw [hcu] at b0 b1 ⊢
  clear hcu
  go_wp2_with fail
  refine inside_c me 100 w (by omega) (by omega) _ ?_
  have c0 := Int.emod_nonneg me (show (100 : Int) ≠ 0 by omega)
  have c1 := Int.emod_lt_of_pos me (show (0 : Int) < 100 by omega)
  obtain ⟨mu, hmu⟩ : ∃ q, me % 100 = q := ⟨_, rfl⟩
  rw [hmu] at c0 c1 ⊢
  clear hmu
  go_wp2_with fail
  obtain ⟨hnr, hnp⟩ := fint_right b0 (show cu < 101 by omega) (show 1 ≤ 1 + mu by omega) (show 1 + mu < 101 by omega)
  have hby := two_bytes (r := ru) hnp b0 (by omega) (show 0 ≤ 1 + mu by omega) (by omega) a0 (by omega)
  have hadm := two_adm (r := ru) hnr a0 (by omega)
  have hneed := two_need hnp
  have hokM := two_ok hnr
  obtain ⟨x, hx⟩ : ∃ x, x = fint cu := ⟨_, rfl⟩
  obtain ⟨y, hy⟩ : ∃ y, y = fint (1 + mu) := ⟨_, rfl⟩
  have hI : ItmsAt ((w.alloc (.cells #[.string ⟨#[97]⟩, .complex .f64 (fint cu) (fint (1 + mu)), .string ⟨#[98, 99]⟩, .complex .f64 4643985272004935680 0] 25)).alloc (.cells #[.string ⟨#[102]⟩, .string ⟨#[101, 120]⟩, .int .i64 ru, .slice (some ⟨w.heap.size, 0, none⟩) 2 2] 39)) (some ⟨w.heap.size, 0, none⟩) (two (fint cu) (fint (1 + mu))).length (two (fint cu) (fint (1 + mu))) := itms_of (l := two (fint cu) (fint (1 + mu))) (heap_alloc2_old w _ _)
  have hB0 : Below w.heap.size w ((w.alloc (.cells #[.string ⟨#[97]⟩, .complex .f64 (fint cu) (fint (1 + mu)), .string ⟨#[98, 99]⟩, .complex .f64 4643985272004935680 0] 25)).alloc (.cells #[.string ⟨#[102]⟩, .string ⟨#[101, 120]⟩, .int .i64 ru, .slice (some ⟨w.heap.size, 0, none⟩) 2 2] 39)) := ((Below.refl _ _).alloc (Nat.le_refl _) _).alloc (by simp) _
  refine admPack_c tF tEX ru (some ⟨w.heap.size, 0, none⟩) 2 (two (fint cu) (fint (1 + mu))) _ hokM hI (fun _ => hneed) _ (fun hx => by rw [hadm] at hx; cases hx) (fun _ v w1 hB1 hown => ?_)
  have hE1 : w1.heap[w.heap.size + 1]? = some (.cells #[.string ⟨#[102]⟩, .string ⟨#[101, 120]⟩, .int .i64 ru, .slice (some ⟨w.heap.size, 0, none⟩) 2 2] 39) := (hB1.block _ (by simp)).trans (heap_alloc2_new w _ _)
  have HI1 := Lib.hid (hI.below hB1)
  have HBw1 : Hid (Below w.heap.size w w1) := Lib.hid (hB0.trans (hB1.mono (by simp; omega)))
  rw [hby] at hown
  obtain ⟨A1, c1', rfl, hr1, _⟩ := own_rd hown
  have Hr1 := Lib.hid hr1
  have HE1 := Lib.hid hE1
  have Hnr := Lib.hid hnr
  obtain ⟨q0, q1, q2, q3, q4⟩ := entry_cells hE1
  have Hnp := Lib.hid hnp
  clear hby hadm hneed hokM hI hB0 hB1 hown hr1 hE1 hnr hnp hx hy
  go_wp2_with fail
  have hr2 : Rd (w1.alloc (.cells (u8s [1, 102, 2, 101, 120, ru, 2, 1, 97, cu, 1 + mu, 2, 98, 99, 172, 2, 0]).toArray 5)) (some ⟨w1.heap.size, 0, none⟩) 17 (u8s [1, 102, 2, 101, 120, ru, 2, 1, 97, cu, 1 + mu, 2, 98, 99, 172, 2, 0]) := rd_new w1 (u8s [1, 102, 2, 101, 120, ru, 2, 1, 97, cu, 1 + mu, 2, 98, 99, 172, 2, 0]).toArray 5 rfl
  have hB2 : Below w1.heap.size w1 (w1.alloc (.cells (u8s [1, 102, 2, 101, 120, ru, 2, 1, 97, cu, 1 + mu, 2, 98, 99, 172, 2, 0]).toArray 5)) := (Below.refl _ _).alloc (Nat.le_refl _) _
  refine sameBytes_c A1 _ 17 c1' 17 17 [1, 102, 2, 101, 120, ru, 2, 1, 97, cu, 1 + mu, 2, 98, 99, 172, 2, 0] [1, 102, 2, 101, 120, ru, 2, 1, 97, cu, 1 + mu, 2, 98, 99, 172, 2, 0] _ (Hr1.out.below hB2) hr2 (by omega) (by omega) _ (fun w2 hB3 => ?_)
  rw [decide_eq_true rfl]
  have HB2 : Hid (Below w1.heap.size w1 w2) := Lib.hid (hB2.trans (hB3.mono hB2.size))
  have hE2 := (HB2.out.block _ q4).trans HE1.out
  have HE2 := Lib.hid hE2
  have HI2 := Lib.hid (HI1.out.below HB2.out)
  clear q0 q1 q2 q3 q4
  obtain ⟨q0, q1, q2, q3, q4⟩ := entry_cells hE2
  clear hr2 hB2 hB3 hE2
  go_wp2_with fail
  have ba1 : ∀ X, Below w2.heap.size w2 (w2.alloc X) := fun X => (Below.refl _ _).alloc (Nat.le_refl _) _
  have ba2 : ∀ X Y, Below w2.heap.size w2 ((w2.alloc X).alloc Y) := fun X Y => (ba1 X).alloc (by simp) _
  have ba3 : ∀ X Y Z, Below w2.heap.size w2 (((w2.alloc X).alloc Y).alloc Z) := fun X Y Z => (ba2 X Y).alloc (by simp; omega) _
  have ba4 : ∀ X Y Z V, Below w2.heap.size w2 ((((w2.alloc X).alloc Y).alloc Z).alloc V) := fun X Y Z V => (ba3 X Y Z).alloc (by simp; omega) _
  have hA : Hid (∀ W, Below w2.heap.size w2 W → W.cell? ⟨w.heap.size + 1, 3, none⟩ = some (.slice (some ⟨w.heap.size, 0, none⟩) 2 2)) := Lib.hid (fun W hW => (hW.cell (p := ⟨w.heap.size + 1, 3, none⟩) q4).trans q3)
  have Ba1 := Lib.hid ba1
  have Ba2 := Lib.hid ba2
  have Ba3 := Lib.hid ba3
  have Ba4 := Lib.hid ba4
  clear ba1 ba2 ba3 ba4
  have hbf := build_forms (fint cu) (fint (1 + mu))
  simp only [eRow] at hbf
  go_region_held3 (fun w' => w'.cell? ⟨w.heap.size + 1, 3, none⟩ = some (.slice (some ⟨w.heap.size, 0, none⟩) 2 2)) (first | exact hA.out _ (Below.refl _ _).drew | exact hA.out _ (Ba1.out _).drew | exact hA.out _ (Ba2.out _ _).drew | exact hA.out _ (Ba3.out _ _ _).drew | exact hA.out _ (Ba4.out _ _ _ _).drew | go_keep) (fail)
  all_goals go_wp2_with fail
  all_goals refine named (fun W => ∃ b6 b7 b8, FormW w2 (fint cu) (fint (1 + mu)) w.heap.size (w2.heap.size + 1 + 1 + 1) b6 b7 b8 W) ?_ (fun W hW => ?_)
  all_goals first
    | (obtain ⟨s3, s4, s5, s6, s7⟩ := three_at w2 (.cells (rowCells it6).toArray 25) (.cells (rowCells it7).toArray 25) (.cells (rowCells it8).toArray 25); exact ⟨_, _, _, (formW_in s3 s4 HI2.out s5 s6 s7).drew⟩)
    | (obtain ⟨s3, s4, s5, s6, s7⟩ := three_at w2 (.cells (rowCells it6).toArray 25) (.cells (rowCells it8).toArray 25) (.cells (rowCells it7).toArray 25); exact ⟨_, _, _, (formW_in s3 s4 HI2.out s5 s7 s6).drew⟩)
    | (obtain ⟨s3, s4, s5, s6, s7⟩ := three_at w2 (.cells (rowCells it7).toArray 25) (.cells (rowCells it6).toArray 25) (.cells (rowCells it8).toArray 25); exact ⟨_, _, _, (formW_in s3 s4 HI2.out s6 s5 s7).drew⟩)
    | (obtain ⟨s3, s4, s5, s6, s7⟩ := three_at w2 (.cells (rowCells it7).toArray 25) (.cells (rowCells it8).toArray 25) (.cells (rowCells it6).toArray 25); exact ⟨_, _, _, (formW_in s3 s4 HI2.out s7 s5 s6).drew⟩)
    | (obtain ⟨s3, s4, s5, s6, s7⟩ := three_at w2 (.cells (rowCells it8).toArray 25) (.cells (rowCells it6).toArray 25) (.cells (rowCells it7).toArray 25); exact ⟨_, _, _, (formW_in s3 s4 HI2.out s6 s7 s5).drew⟩)
    | (obtain ⟨s3, s4, s5, s6, s7⟩ := three_at w2 (.cells (rowCells it8).toArray 25) (.cells (rowCells it7).toArray 25) (.cells (rowCells it6).toArray 25); exact ⟨_, _, _, (formW_in s3 s4 HI2.out s7 s6 s5).drew⟩)
    | skip
  all_goals
    obtain ⟨b6, b7, b8, hF⟩ := hW
    have HF := Lib.hid hF
    clear hF hmk hbf q0 q1 q2 q3 q4 hA Ba1 Ba2 Ba3 Ba4
    go_loopw [75] (fun i wr => ∃ k : Nat, k ≤ 9 ∧ i = .int .i64 k ∧ Below W.heap.size W wr) (fun i _ => 9 - (RowKit.intOf i).toNat)
    case atStart => exact ⟨0, by omega, rfl, Below.refl _ _⟩
    case round =>
      obtain ⟨k, hk, rfl, hB⟩ := hrel
      by_cases hc : k < 9
      · obtain ⟨z, hz⟩ : ∃ z, (formRows (fint cu) (fint (1 + mu)) w.heap.size b6 b7 b8)[k]? = some z := ⟨_, List.getElem?_eq_getElem (show k < 9 from hc)⟩
        have hmem := List.mem_of_getElem? hz
        have hM := HF.out.rows.below hB
        obtain ⟨c0, c1, c2, c3⟩ := hM.2 k z hz
        have hlt := hM.1
        have Hbad := Lib.hid (formRows_bad _ _ _ _ _ _ _ hmem)
        have Hok := Lib.hid (formRows_ok _ _ w.heap.size b6 b7 b8 Hnr.out _ hmem)
        have Hnd := Lib.hid (formRows_need _ _ w.heap.size b6 b7 b8 Hnp.out _ hmem)
        have HI := Lib.hid ((HF.out.items _ hmem).below hB)
        have Hc := Lib.hid hc
        have hcI : (k : Int) < 9 := by omega
        have HB := Lib.hid hB
        clear hz hmem hM hc hB
        go_wp2_with fail
        have hB2 : Below wr.heap.size wr (wr.alloc (.cells #[.string z.f, .string z.e, .int .i64 z.r, .slice z.A z.items.length z.items.length] 39)) := (Below.refl _ _).alloc (Nat.le_refl _) _
        refine admPack_c z.f z.e z.r z.A z.items.length z.items _ Hok.out (HI.out.below hB2) (fun _ => Hnd.out) _ (fun _ w3 hB3 => ?_) (fun hv => by rw [Hbad.out] at hv; cases hv)
        have hX : w3.heap[wr.heap.size]? = some (.cells #[.string z.f, .string z.e, .int .i64 z.r, .slice z.A z.items.length z.items.length] 39) := (hB3.block _ (by simp)).trans (heap_alloc_new wr _)
        have HB3 := Lib.hid (hB2.trans (hB3.mono (by simp)))
        obtain ⟨d0, d1, d2, d3, d4⟩ := entry_cells hX
        clear c0 c1 c2 c3 hlt hB2 hB3 hX
        go_wp2_with fail
        refine admCheck_c z.f z.e z.r z.A z.items.length z.items _ Hok.out (HI.out.below HB3.out) _ (fun w4 hB4 => ?_)
        rw [Hbad.out, if_neg (by simp)]
        go_wp2_with fail
        refine ⟨⟨k + 1, by have := Hc.out; omega, by go_num, HB.out.trans ((HB3.out.trans (hB4.mono HB3.out.size)).mono HB.out.size)⟩, ?_⟩
        have := Hc.out
        simp [RowKit.intOf]
        omega
      · have hk' : k = 9 := by omega
        subst hk'
        have HB := Lib.hid hB
        clear hc hB
        go_wp2_with fail
        refine wakes13_c _ _ (fun w5 hB5 => ?_)
        go_wp2_with fail
        have e1 := HBw1.out.trans (HB2.out.mono HBw1.out.size)
        have e2 := e1.trans (HF.out.below.mono e1.size)
        have e3 := e2.trans (HB.out.mono e2.size)
        exact H.out _ (e3.trans (hB5.mono e3.size))
end Go.Proofs.YtjndigkphoiohaaDoor
