/-
  hostlerlaw13.AdmitNew: the walk.
-/
import Derived.Test.YtjndigkphoiohaaDoorNewB
import Derived.Outline
namespace Go.Proofs.YtjndigkphoiohaaDoor
open Go.RowKit Go.Shelf
set_option maxRecDepth 100000

set_option maxHeartbeats 8000000 in
theorem new13_c (t u n : Int) (w : World) (R : Ending → World → Prop)
    (h : ∀ w', Below w.heap.size w w' → R (.returned (.bool true)) w') : Calls Tryd.prog 5 #[.int .i64 t, .int .i64 u, .int .i64 n] w R := by
  have H := Lib.hid h
  clear h
  go_enter Tryd.func5, Tryd.ntmps5
  go_wp2_with fail
  refine task_c t _ _ (fun w1 hB1 => ?_)
  go_wp2_with fail
  refine task_c u _ _ (fun w2 hB2 => ?_)
  have hx := task_mem (t % 8) (Int.emod_nonneg t (by omega)) (Int.emod_lt_of_pos t (by omega))
  have hy := task_mem (u % 8) (Int.emod_nonneg u (by omega)) (Int.emod_lt_of_pos u (by omega))
  obtain ⟨x, ex⟩ : ∃ x, taskS (t % 8) = x := ⟨_, rfl⟩
  obtain ⟨y, ey⟩ : ∃ y, taskS (u % 8) = y := ⟨_, rfl⟩
  rw [ex] at hx ⊢
  rw [ey] at hy ⊢
  clear ex ey
  have Hx := Lib.hid hx
  have Hy := Lib.hid hy
  have HB0 := Lib.hid (hB1.trans (hB2.mono hB1.size))
  clear hx hy hB1 hB2
  go_wp2_with fail
  refine namedC (fun W => Below w2.heap.size w2 W ∧ EntsAt W (some ⟨w2.heap.size + 1 + 1 + 1, 0, none⟩) 3 (newL x) ∧ ItmsAt W (some ⟨w2.heap.size + 1 + 1 + 1 + 1, 0, none⟩) 1 [⟨y, 0, 0⟩]) ?_ (fun W hW => ?_)
  · have hN := newW (w0 := w2) x
    obtain ⟨h1, h2⟩ := named_ents hN y
    exact ⟨h1, h2, itms_of (l := [⟨y, 0, 0⟩]) (new_at (by simp))⟩
  obtain ⟨hb0, hE0, hI0⟩ := hW
  have HE := Lib.hid hE0
  have HBW := Lib.hid (HB0.out.trans (hb0.mono HB0.out.size))
  have HI := Lib.hid hI0
  clear hb0 hE0 hI0
  refine new_c _ _ 3 3 1 1 (newL x) [⟨y, 0, 0⟩] tF W HE.out HI.out (by omega) (by omega) _ (fun w3 hB3 => ?_)
  rw [newL_f x Hx.out y Hy.out]
  have HB3 := Lib.hid hB3
  clear hB3
  cases hb : (x.toList == y.toList)
  all_goals
    go_wp2_with fail
    have hE3 := HE.out.below HB3.out
    refine new_c _ _ 3 3 1 1 (newL x) [⟨x, 0, 0⟩] tG _ (hE3.below ((Below.refl _ _).alloc (Nat.le_refl _) _)) (itms_of (l := [⟨x, 0, 0⟩]) (heap_alloc_new w3 _)) (by omega) (by omega) _ (fun w4 hB4 => ?_)
    rw [newL_g x Hx.out]
    have HB4 := Lib.hid (HB3.out.trans (((Below.refl _ _).alloc (Nat.le_refl _) _ |>.trans (hB4.mono (by simp))).mono HB3.out.size))
    clear hE3 hB4
    go_wp2_with fail
    have hE4 := HE.out.below HB4.out
    refine new_c _ _ 3 3 2 2 (newL x) [⟨⟨#[113]⟩, 0, 0⟩, ⟨tZZ, 0, 0⟩] tF _ (hE4.below ((Below.refl _ _).alloc (Nat.le_refl _) _)) (itms_of (l := [⟨⟨#[113]⟩, 0, 0⟩, ⟨tZZ, 0, 0⟩]) (heap_alloc_new w4 _)) (by omega) (by omega) _ (fun w5 hB5 => ?_)
    rw [newL_q x Hx.out]
    have HB5 := Lib.hid (HB4.out.trans (((Below.refl _ _).alloc (Nat.le_refl _) _ |>.trans (hB5.mono (by simp))).mono HB4.out.size))
    clear hE4 hB5
    go_wp2_with fail
    have hE5 := HE.out.below HB5.out
    refine new_c _ none 3 3 0 0 (newL x) [] tF _ hE5 ⟨rfl, fun h => absurd h (by omega)⟩ (by omega) (by omega) _ (fun w6 hB6 => ?_)
    have HB6 := Lib.hid (HB5.out.trans (hB6.mono HB5.out.size))
    clear hE5 hB6
    rw [show (decide (3 < 24) && !(([] : List Itm).any fun z => knownB (newL x) tF z.t)) = true from rfl]
    go_wp2_with fail
    have hE6 := HE.out.below HB6.out
    refine known_c _ 3 3 (newL x) tF tZY _ hE6 (by omega) _ (fun hno => absurd hno (fun h => newL_none Hx.out h)) (fun i e j z hi hh _ hj _ w7 hB7 => ?_)
    obtain ⟨rfl, rfl⟩ := newL_known Hx.out hi hh hj
    have HB7 := Lib.hid (HB6.out.trans (hB7.mono HB6.out.size))
    clear hE6 hB7 hi hh hj
    unfold itmV
    go_wp2_with fail
    have hE7 := (HE.out.below HB7.out).below ((Below.refl _ _).alloc (Nat.le_refl _) (.cells #[.string tZY, .complex .f64 4613937818241073152 0] 25))
    refine lastRun_c _ 3 3 (newL x) tF tX _ hE7 (by omega) _ (fun w8 hB8 => ?_)
    rw [(newL_last x).1]
    have HB8 := Lib.hid (HB7.out.trans ((((Below.refl _ _).alloc (Nat.le_refl _) (.cells #[.string tZY, .complex .f64 4613937818241073152 0] 25)).trans (hB8.mono (by simp))).mono HB7.out.size))
    clear hE7 hB8
    go_wp2_with fail
    have hE8 := HE.out.below HB8.out
    refine lastRun_c _ 3 3 (newL x) tF ⟨#[121]⟩ _ hE8 (by omega) _ (fun w9 hB9 => ?_)
    rw [(newL_last x).2.1]
    have HB9 := Lib.hid (HB8.out.trans (hB9.mono HB8.out.size))
    clear hE8 hB9
    go_wp2_with fail
    have hE9 := HE.out.below HB9.out
    refine lastRun_c _ 3 3 (newL x) tG tX _ hE9 (by omega) _ (fun wa hBa => ?_)
    rw [(newL_last x).2.2]
    have HBa := Lib.hid (HB9.out.trans (hBa.mono HB9.out.size))
    clear hE9 hBa
    go_wp2_with fail
    refine inside_c n 26 wa (by omega) (by omega) _ ?_
    have a0 := Int.emod_nonneg n (show (26 : Int) ≠ 0 by omega)
    have a1 := Int.emod_lt_of_pos n (show (0 : Int) < 26 by omega)
    obtain ⟨q, hq⟩ : ∃ q, n % 26 = q := ⟨_, rfl⟩
    rw [hq] at a0 a1 ⊢
    clear hq
    obtain ⟨m, rfl⟩ := Int.eq_ofNat_of_zero_le a0
    go_wp2_with fail
    obtain ⟨B0, cB, e0, e1, e2, e3, hI1, hlt⟩ := ents0 (HE.out.below HBa.out)
    have HI1 := Lib.hid hI1
    clear hI1
    have H0 : Hid (wa.cell? ⟨w2.heap.size + 1 + 1 + 1, 0, none⟩ = some (.string tF) ∧ wa.cell? ⟨w2.heap.size + 1 + 1 + 1, 1, none⟩ = some (.string tX) ∧ wa.cell? ⟨w2.heap.size + 1 + 1 + 1, 2, none⟩ = some (.int .i64 2) ∧ wa.cell? ⟨w2.heap.size + 1 + 1 + 1, 3, none⟩ = some (.slice B0 1 cB)) := Lib.hid ⟨e0, e1, e2, e3⟩
    clear e0 e1 e2 e3 hb
    go_loopw [13, 14] (fun v i wr => ∃ k : Nat, k ≤ m ∧ i = .int .i64 k ∧ Below wa.heap.size wa wr ∧ wr.ownsRow wa.heap.size 39 4 v k (copies k (entCells B0 cB))) (fun _ i _ => m - (RowKit.intOf i).toNat)
    case atStart => exact ⟨0, Nat.zero_le _, rfl, Below.refl _ _, own_nil' _ _ _ _⟩
    case round =>
      obtain ⟨k, hk, rfl, hB, hown⟩ := hrel
      by_cases hc : k < m
      · have e0 : wr.cell? ⟨w2.heap.size + 1 + 1 + 1, 0, none⟩ = some (.string tF) := (hB.cell (p := ⟨_, 0, none⟩) hlt).trans H0.out.1
        have e1 : wr.cell? ⟨w2.heap.size + 1 + 1 + 1, 1, none⟩ = some (.string tX) := (hB.cell (p := ⟨_, 1, none⟩) hlt).trans H0.out.2.1
        have e2 : wr.cell? ⟨w2.heap.size + 1 + 1 + 1, 2, none⟩ = some (.int .i64 2) := (hB.cell (p := ⟨_, 2, none⟩) hlt).trans H0.out.2.2.1
        have e3 : wr.cell? ⟨w2.heap.size + 1 + 1 + 1, 3, none⟩ = some (.slice B0 1 cB) := (hB.cell (p := ⟨_, 3, none⟩) hlt).trans H0.out.2.2.2
        have hBs := hB.size
        have HB := Lib.hid hB
        have t1 : decide ((k : Int) < (m : Int)) = true := by simp; omega
        clear hB
        go_wp2_with (at_builtin; (refine app_one wa.heap.size rfl _ _ 42 39 (.agg #[.string ⟨#[]⟩, .string ⟨#[]⟩, .int .i64 0, .slice none 0 0]) 4 64 rfl Tryd.underlying42 infoEnt (by kernel_rfl) (by decide) (by decide) _ k _ #[.string tF, .string tX, .int .i64 2, .slice B0 1 cB] rfl rfl _ rfl (by simp) (by simp [Value.oneCell']) (by exact hown) (by omega) (by omega) ?_); intro v1 w1 hown1 hg1 hgb)
        refine ⟨⟨k + 1, by omega, by go_num, below_grown' HB.out hBs hg1 hgb, ?_⟩, by simp [RowKit.intOf]; omega⟩
        rw [← copies_succ]
        exact hown1
      · obtain rfl : k = m := by omega
        have HB := Lib.hid hB
        obtain ⟨A', c', rfl, hM⟩ := own_ents hown (HI1.out.below hB)
        have HM := Lib.hid hM
        have t1 : decide ((k : Int) < (k : Int)) = false := by simp
        clear hB hown hM hc
        go_wp2_with fail
        refine new_c A' _ k c' 1 1 (List.replicate k (ne0 x)) [⟨x, 0, 0⟩] tG _ (HM.out.below ((Below.refl _ _).alloc (Nat.le_refl _) _)) (itms_of (l := [⟨x, 0, 0⟩]) (heap_alloc_new wr _)) (by omega) (by omega) _ (fun wb hBb => ?_)
        rw [many_g x Hx.out k]
        have HBb := Lib.hid (((Below.refl _ _).alloc (Nat.le_refl _) _).trans (hBb.mono (by simp)))
        clear hBb
        have hfin : ∀ wz, Below wb.heap.size wb wz → Below w.heap.size w wz := fun wz hz => by
          have f1 := HBW.out.trans (HBa.out.mono HBW.out.size)
          have f2 := f1.trans (HB.out.mono f1.size)
          have f3 := f2.trans (HBb.out.mono f2.size)
          exact f3.trans (hz.mono f3.size)
        have Hfin := Lib.hid hfin
        clear hfin
        by_cases h24 : k < 24
        · have t2 : decide (k < 24) = true := by simp [h24]
          have t3 : decide ((k : Int) < 24) = true := by simp; omega
          rw [t2]
          clear t2
          go_wp2_with fail
          refine wakes13_c _ _ (fun wc hBc => ?_)
          go_wp2_with fail
          exact H.out _ (Hfin.out _ hBc)
        · have t2 : decide (k < 24) = false := by simp [h24]
          have t3 : decide ((k : Int) < 24) = false := by simp; omega
          rw [t2]
          clear t2
          go_wp2_with fail
          refine wakes13_c _ _ (fun wc hBc => ?_)
          go_wp2_with fail
          exact H.out _ (Hfin.out _ hBc)
end Go.Proofs.YtjndigkphoiohaaDoor
