/-
  The walk of KeepErrors.
-/
import Derived.Test.YtdmcponfodohaaaGreatDoorGm
namespace Go.Proofs.YtdmcponfodohaaaGreatDoor
open Go.RowKit Go.Shelf Go.ChangeMaps Go.MapKept
set_option maxRecDepth 100000

theorem rows13 (j : Nat) (h : j < 13) : ∃ e : Int, (#[Value.int .i64 1, .int .i64 1, .int .i64 1, .int .i64 1, .int .i64 3, .int .i64 3, .int .i64 1, .int .i64 1, .int .i64 1, .int .i64 1, .int .i64 1, .int .i64 1, .int .i64 3, .int .i64 3, .int .i64 3, .int .i64 3, .int .i64 1, .int .i64 1, .int .i64 1, .int .i64 1, .int .i64 1, .int .i64 1, .int .i64 1, .int .i64 1, .int .i64 3, .int .i64 3] : Array Value)[j * 2]? = some (.int .i64 e) ∧
    (#[Value.int .i64 1, .int .i64 1, .int .i64 1, .int .i64 1, .int .i64 3, .int .i64 3, .int .i64 1, .int .i64 1, .int .i64 1, .int .i64 1, .int .i64 1, .int .i64 1, .int .i64 3, .int .i64 3, .int .i64 3, .int .i64 3, .int .i64 1, .int .i64 1, .int .i64 1, .int .i64 1, .int .i64 1, .int .i64 1, .int .i64 1, .int .i64 1, .int .i64 3, .int .i64 3] : Array Value)[j * 2 + 1]? = some (.int .i64 e) := by
  have : j = 0 ∨ j = 1 ∨ j = 2 ∨ j = 3 ∨ j = 4 ∨ j = 5 ∨ j = 6 ∨ j = 7 ∨ j = 8 ∨ j = 9 ∨ j = 10 ∨ j = 11 ∨ j = 12 := by omega
  rcases this with rfl | rfl | rfl | rfl | rfl | rfl | rfl | rfl | rfl | rfl | rfl | rfl | rfl <;> first | exact ⟨1, rfl, rfl⟩ | exact ⟨3, rfl, rfl⟩
set_option maxHeartbeats 16000000 in
theorem keepErrors_c (n : Int) (w : World) (R : Ending → World → Prop) (h : ∀ w', Below w.heap.size w w' → R (.returned (.bool true)) w') :
    Calls Tryz.prog 7 #[.int .i64 n] w R := by
  have H := Lib.hid h
  clear h
  go_enter Tryz.func7, Tryz.ntmps7
  go_wp2_with fail
  refine fresh_c 1000 (by omega) (by omega) _ _ (fun d mb k sm v w1 hb1 hd hmb hk hsm hv hK => ?_)
  have HB1 := Lib.hid hb1
  have HK1 := Lib.hid hK
  have Hv := Lib.hid hv
  clear hb1 hK hv
  go_wp2_with fail
  refine one_c ⟨#[102]⟩ 1 w1 _ (fun b w2 hb2 hbb hH => ?_)
  have HB2 := Lib.hid (HB1.out.trans (hb2.mono HB1.out.size))
  have HK2 := Lib.hid (HK1.out.below hb2)
  have HH2 := Lib.hid hH
  clear hb2 hH
  go_wp2_with fail
  refine admit_c ⟨#[102]⟩ ⟨#[120]⟩ 1 (some ⟨b, 0, none⟩) 2 twoI w2 HK2.out (one_ok _ (by decide)) HH2.out.itms HH2.out (by decide) (fun _ => one_need) one_f1 rfl rfl ?_ ?_ _ (fun v2 A2 C2 ss w3 hk3 _ hv2 hM hK3 => ?_)
  · exact (mget_cons_ne (by decide +kernel)).trans rfl
  · have h1 := used_one HK2.out Hv.out
    have h2 : (admB ⟨#[102]⟩ ⟨#[120]⟩ 1 twoI).length = 14 := by decide +kernel
    omega
  have hb3 : Below w.heap.size w2 w3 := Kept.below (Below.refl _ _) hk3 HB2.out.size (fun j hj => by simp at hj; rcases hj with rfl | rfl | rfl <;> assumption)
  have HB3 := Lib.hid (HB2.out.mono (Nat.le_refl _) |>.trans hb3)
  have HK3 := Lib.hid hK3
  have HM := Lib.hid hM
  have HU3 : Hid (usedL (mput [(pEpoch, v)] (pAdmit 1) v2) ≤ 15) := Lib.hid (by
    have h1 := used_one HK2.out Hv.out
    have h2 := used_put_le HK2.out hK3
    have h3 : (admB ⟨#[102]⟩ ⟨#[120]⟩ 1 twoI).length = 14 := by decide +kernel
    rw [hv2, h3] at h2
    omega)
  have Hnk : Hid (w.heap.size ≤ k ∧ w.heap.size ≤ mb) := Lib.hid ⟨hk, hmb⟩
  clear hb3 hk3 hM hK3
  obtain ⟨l1, hl1⟩ : ∃ l1, l1 = mput [(pEpoch, v)] (pAdmit 1) v2 := ⟨_, rfl⟩
  obtain ⟨er, her⟩ : ∃ er : ER, er = ⟨⟨#[102]⟩, ⟨#[120]⟩, 1, A2, C2, twoI⟩ := ⟨_, rfl⟩
  rw [← hl1, ← her] at HK3
  rw [← hl1] at HU3
  have HL1 := Lib.hid hl1
  clear hl1 her
  go_wp2_with fail
  have hb4 : Below w3.heap.size w3 ((w3.alloc (.cells #[.string ⟨#[102]⟩, .string ⟨#[97]⟩] 33)).alloc (.cells #[.string ⟨#[103]⟩, .string ⟨#[97]⟩] 33)) := ((Below.refl _ _).alloc (Nat.le_refl _) _).alloc (by simp) _
  refine inside_c n 100 _ (by decide) (by decide) _ ?_
  have hm0 : 0 ≤ n % 100 := Int.emod_nonneg _ (by decide)
  have hm1 : n % 100 < 100 := Int.emod_lt_of_pos _ (by decide)
  obtain ⟨m, hm⟩ : ∃ m, m = n % 100 := ⟨_, rfl⟩
  rw [← hm] at hm0 hm1 ⊢
  clear hm
  have hw : IntKind.i64.wrap (1 + m) = 1 + m := Go.IntWalk.i64_in _ (by omega)
  go_wp2_with fail
  refine used_c d mb 1000 l1 _ (HK3.out.below hb4).disk _ (fun w5 hb5 => ?_)
  have hx4 : ((w3.alloc (.cells #[.string ⟨#[102]⟩, .string ⟨#[97]⟩] 33)).alloc (.cells #[.string ⟨#[103]⟩, .string ⟨#[97]⟩] 33)).heap[w3.heap.size]? = some (.cells #[.string ⟨#[102]⟩, .string ⟨#[97]⟩] 33) := (heap_alloc_old _ _ (by simp)).trans (heap_alloc_new w3 _)
  have hy4 := heap_alloc_new (w3.alloc (.cells #[.string ⟨#[102]⟩, .string ⟨#[97]⟩] 33)) (.cells #[.string ⟨#[103]⟩, .string ⟨#[97]⟩] 33)
  rw [World.size_alloc] at hy4
  have hx5 := (hb5.block w3.heap.size (by simp; omega)).trans hx4
  have hy5 := (hb5.block (w3.heap.size + 1) (by simp)).trans hy4
  have HB5 := Lib.hid (HB3.out.trans ((hb4.trans (hb5.mono hb4.size)).mono HB3.out.size))
  have HK5 := Lib.hid ((HK3.out.below hb4).below hb5)
  have x0 : w5.cell? ⟨w3.heap.size, 0, none⟩ = some (.string ⟨#[102]⟩) := by rw [cell_of_row _ _ _ _ _ _ hx5]; rfl
  have x1 : w5.cell? ⟨w3.heap.size, 1, none⟩ = some (.string ⟨#[97]⟩) := by rw [cell_of_row _ _ _ _ _ _ hx5]; rfl
  have y0 : w5.cell? ⟨w3.heap.size + 1, 0, none⟩ = some (.string ⟨#[103]⟩) := by rw [cell_of_row _ _ _ _ _ _ hy5]; rfl
  have y1 : w5.cell? ⟨w3.heap.size + 1, 1, none⟩ = some (.string ⟨#[97]⟩) := by rw [cell_of_row _ _ _ _ _ _ hy5]; rfl
  have xl := (Array.getElem?_eq_some_iff.1 hx5).1
  have yl := (Array.getElem?_eq_some_iff.1 hy5).1
  have HX5 := Lib.hid hx5
  have HY5 := Lib.hid hy5
  clear hb4 hb5 hx4 hy4 hx5 hy5
  obtain ⟨sx, hsx⟩ := HM.out.has ⟨⟨#[97]⟩, 4607182418800017408, 0⟩ (by simp)
  have hsy : mget ss ⟨⟨#[103]⟩, ⟨#[97]⟩⟩ = none := HM.out.no _ (fun it _ e => by injection e with e1 _; revert e1; decide)
  have Hx := Lib.hid hsx
  have Hy := Lib.hid hsy
  have Hfar : Hid (mayB (stOf freshS) (7 + (1 + m)) = false) := Lib.hid (by
    have e : stOf freshS = 1 := rfl
    rw [e]
    unfold mayB overB
    rw [if_pos rfl, decide_eq_false (by omega), decide_eq_true (by omega), decide_eq_false (by omega)]
    rfl)
  have Hbox : Hid (mget l1 (ofS hBox ⟨#[102]⟩ ⟨#[120]⟩ 1) = none) := Lib.hid (by
    rw [HL1.out, mget_mput_ne _ _ _ _ (by decide +kernel)]
    exact (mget_cons_ne (by decide +kernel)).trans rfl)
  have Hgone : Hid (mget l1 (ofS hGone ⟨#[102]⟩ ⟨#[120]⟩ 1) = none) := Lib.hid (by
    rw [HL1.out, mget_mput_ne _ _ _ _ (by decide +kernel)]
    exact (mget_cons_ne (by decide +kernel)).trans rfl)
  have Hgt : Hid (mget l1 (tempOf (ofS hGone ⟨#[102]⟩ ⟨#[120]⟩ 1)) = none) := Lib.hid (by
    rw [HL1.out, mget_mput_ne _ _ _ _ (by decide +kernel)]
    exact (mget_cons_ne (by decide +kernel)).trans rfl)
  have Hbox2 : Hid (mget l1 (ofS hBox ⟨#[102]⟩ ⟨#[120]⟩ 2) = none) := Lib.hid (by
    rw [HL1.out, mget_mput_ne _ _ _ _ (by decide +kernel)]
    exact (mget_cons_ne (by decide +kernel)).trans rfl)
  have Hbt : Hid (mget l1 (tempOf (ofS hBox ⟨#[102]⟩ ⟨#[120]⟩ 2)) = none) := Lib.hid (by
    rw [HL1.out, mget_mput_ne _ _ _ _ (by decide +kernel)]
    exact (mget_cons_ne (by decide +kernel)).trans rfl)
  have hw1 : IntKind.i64.wrap (1 + (1 + m)) = 1 + (1 + m) := Go.IntWalk.i64_in _ (by omega)
  have hw7 : IntKind.i64.wrap (7 + (1 + m)) = 7 + (1 + m) := Go.IntWalk.i64_in _ (by omega)
  have hw24 : IntKind.i64.wrap (24 + (1 + m)) = 24 + (1 + m) := Go.IntWalk.i64_in _ (by omega)
  clear hsx hsy
  go_wp2_with fail
  obtain ⟨wq, hwq⟩ : ∃ wq, wq = w5 := ⟨_, rfl⟩
  subst hwq
  have HBc : Hid (Below wq.heap.size wq wq.drew) := Lib.hid (Below.refl _ _).drew
  have HKq := HK5
  have HS : Hid (∀ W, Below wq.heap.size wq W → W.cell? ⟨w3.heap.size, 0, none⟩ = some (.string ⟨#[102]⟩) ∧ W.cell? ⟨w3.heap.size, 1, none⟩ = some (.string ⟨#[97]⟩) ∧ W.cell? ⟨w3.heap.size + 1, 0, none⟩ = some (.string ⟨#[103]⟩) ∧ W.cell? ⟨w3.heap.size + 1, 1, none⟩ = some (.string ⟨#[97]⟩)) := Lib.hid (fun W hW => ⟨(hW.cell (p := ⟨_, 0, none⟩) xl).trans x0, (hW.cell (p := ⟨_, 1, none⟩) xl).trans x1, (hW.cell (p := ⟨_, 0, none⟩) yl).trans y0, (hW.cell (p := ⟨_, 1, none⟩) yl).trans y1⟩)
  have HC0 : Hid (∀ wc, Below wq.heap.size wq wc → ∀ R : Ending → World → Prop, (∀ wn, Hid (Below wq.heap.size wq wn) → True → R (.returned (.int .i64 1)) wn) → Calls Tryz.prog 9 #[.pointer (some ⟨k, 0, none⟩), entryV ⟨#[]⟩ ⟨#[]⟩ 0 none 0 0] wc R) := Lib.hid (fun wc hb R h => admit_bad_c ⟨#[]⟩ ⟨#[]⟩ 0 none 0 [] wc (HKq.out.below hb) zero_ok ⟨rfl, fun h => absurd h (by decide)⟩ (fun _ x hx => absurd hx List.not_mem_nil) zero_bad R (fun wn hbn => h wn (Lib.hid (hb.trans (hbn.mono hb.size))) True.intro))
  have HC1 : Hid (∀ wc, Below wq.heap.size wq wc → ∀ R : Ending → World → Prop, (∀ bn wn, Hid (Below wq.heap.size wq wn) → Hid (Hard wn 55 (some ⟨bn, 0, none⟩) (rowCells twoI)) → True → R (.returned (entryV ⟨#[103]⟩ ⟨#[120]⟩ 25 (some ⟨bn, 0, none⟩) 2 2)) wn) → Calls Tryz.prog 10 #[.string ⟨#[103]⟩, .int .i64 25] wc R) := Lib.hid (fun wc hb R h => one_c ⟨#[103]⟩ 25 wc R (fun bn wn hbn _ hHn => h bn wn (Lib.hid (hb.trans (hbn.mono hb.size))) (Lib.hid hHn) True.intro))
  have HC2 : Hid (∀ bn wc, Below wq.heap.size wq wc → Hard wc 55 (some ⟨bn, 0, none⟩) (rowCells twoI) → ∀ R : Ending → World → Prop, (∀ wn, Hid (Below wq.heap.size wq wn) → True → R (.returned (.int .i64 1)) wn) → Calls Tryz.prog 9 #[.pointer (some ⟨k, 0, none⟩), entryV ⟨#[103]⟩ ⟨#[120]⟩ 25 (some ⟨bn, 0, none⟩) 2 2] wc R) := Lib.hid (fun bn wc hb HHn R h => admit_bad_c ⟨#[103]⟩ ⟨#[120]⟩ 25 (some ⟨bn, 0, none⟩) 2 twoI wc (HKq.out.below hb) (one_ok _ (by decide)) HHn.itms (fun _ => one_need) one_g25 R (fun wn hbn => h wn (Lib.hid (hb.trans (hbn.mono hb.size))) True.intro))
  have HC3 : Hid (∀ wc, Below wq.heap.size wq wc → ∀ R : Ending → World → Prop, (∀ wn, Hid (Below wq.heap.size wq wn) → True → R (.returned (.int .i64 3)) wn) → Calls Tryz.prog 11 #[.pointer (some ⟨k, 0, none⟩), .agg #[.string ⟨#[103]⟩, .string ⟨#[97]⟩], .agg #[.int .i64 1, .int .i64 2]] wc R) := Lib.hid (fun wc hb R h => update_none_c ⟨⟨#[103]⟩, ⟨#[97]⟩⟩ 1 2 wc (HKq.out.below hb) (okK_small _ _) Hy.out R (fun wn hbn => h wn (Lib.hid (hb.trans (hbn.mono hb.size))) True.intro))
  have HC4 : Hid (∀ wc, Below wq.heap.size wq wc → ∀ R : Ending → World → Prop, (∀ wn, Hid (Below wq.heap.size wq wn) → True → R (.returned (.int .i64 1)) wn) → Calls Tryz.prog 11 #[.pointer (some ⟨k, 0, none⟩), .agg #[.string ⟨#[102]⟩, .string ⟨#[97]⟩], .agg #[.int .i64 (1 + (1 + m)), .int .i64 2]] wc R) := Lib.hid (fun wc hb R h => update_bad_c ⟨⟨#[102]⟩, ⟨#[97]⟩⟩ (sx, freshS) (1 + (1 + m)) 2 wc (HKq.out.below hb) (okK_small _ _) Hx.out (show freshS.l.length + 1 ≤ 1000 from by decide) (.inr (by show 1 + (1 + m) ≠ (0 : Int) + 1; omega)) R (fun wn hbn => h wn (Lib.hid (hb.trans (hbn.mono hb.size))) True.intro))
  have HC5 : Hid (∀ wc, Below wq.heap.size wq wc → ∀ R : Ending → World → Prop, (∀ wn, Hid (Below wq.heap.size wq wn) → True → R (.returned (.int .i64 1)) wn) → Calls Tryz.prog 11 #[.pointer (some ⟨k, 0, none⟩), .agg #[.string ⟨#[102]⟩, .string ⟨#[97]⟩], .agg #[.int .i64 1, .int .i64 1]] wc R) := Lib.hid (fun wc hb R h => update_bad_c ⟨⟨#[102]⟩, ⟨#[97]⟩⟩ (sx, freshS) 1 1 wc (HKq.out.below hb) (okK_small _ _) Hx.out (show freshS.l.length + 1 ≤ 1000 from by decide) (.inl (show mayB (stOf freshS) 1 = false from by decide)) R (fun wn hbn => h wn (Lib.hid (hb.trans (hbn.mono hb.size))) True.intro))
  have HC6 : Hid (∀ wc, Below wq.heap.size wq wc → ∀ R : Ending → World → Prop, (∀ wn, Hid (Below wq.heap.size wq wn) → True → R (.returned (.int .i64 1)) wn) → Calls Tryz.prog 11 #[.pointer (some ⟨k, 0, none⟩), .agg #[.string ⟨#[102]⟩, .string ⟨#[97]⟩], .agg #[.int .i64 1, .int .i64 (7 + (1 + m))]] wc R) := Lib.hid (fun wc hb R h => update_bad_c ⟨⟨#[102]⟩, ⟨#[97]⟩⟩ (sx, freshS) 1 (7 + (1 + m)) wc (HKq.out.below hb) (okK_small _ _) Hx.out (show freshS.l.length + 1 ≤ 1000 from by decide) (.inl Hfar.out) R (fun wn hbn => h wn (Lib.hid (hb.trans (hbn.mono hb.size))) True.intro))
  have HC7 : Hid (∀ wc, Below wq.heap.size wq wc → ∀ R : Ending → World → Prop, (∀ wn, Hid (Below wq.heap.size wq wn) → True → R (.returned (.int .i64 3)) wn) → Calls Tryz.prog 27 #[.pointer (some ⟨k, 0, none⟩), .agg #[.string ⟨#[102]⟩, .string ⟨#[97]⟩], .int .i64 (1 + m)] wc R) := Lib.hid (fun wc hb R h => ackk_bad_c ⟨⟨#[102]⟩, ⟨#[97]⟩⟩ (sx, freshS) (1 + m) wc (HKq.out.below hb) (okK_small _ _) Hx.out (fun u hu => by cases hu) R (fun wn hbn => h wn (Lib.hid (hb.trans (hbn.mono hb.size))) True.intro))
  have HC8 : Hid (∀ wc, Below wq.heap.size wq wc → ∀ R : Ending → World → Prop, (∀ wn, Hid (Below wq.heap.size wq wn) → True → R (.returned (.int .i64 3)) wn) → Calls Tryz.prog 27 #[.pointer (some ⟨k, 0, none⟩), .agg #[.string ⟨#[103]⟩, .string ⟨#[97]⟩], .int .i64 1] wc R) := Lib.hid (fun wc hb R h => ackk_none_c ⟨⟨#[103]⟩, ⟨#[97]⟩⟩ 1 wc (HKq.out.below hb) (okK_small _ _) Hy.out R (fun wn hbn => h wn (Lib.hid (hb.trans (hbn.mono hb.size))) True.intro))
  have HC9 : Hid (∀ wc, Below wq.heap.size wq wc → ∀ R : Ending → World → Prop, (∀ wn, Hid (Below wq.heap.size wq wn) → True → R (.returned (.int .i64 1)) wn) → Calls Tryz.prog 29 #[.pointer (some ⟨k, 0, none⟩), .string ⟨#[70]⟩, .string ⟨#[120]⟩, .int .i64 1] wc R) := Lib.hid (fun wc hb R h => gone_none_c ⟨#[70]⟩ ⟨#[120]⟩ 1 (by decide) (by decide) (.inl (by decide +kernel)) wc (HKq.out.below hb) R (fun wn hbn => h wn (Lib.hid (hb.trans (hbn.mono hb.size))) True.intro))
  have HC10 : Hid (∀ wc, Below wq.heap.size wq wc → ∀ R : Ending → World → Prop, (∀ wn, Hid (Below wq.heap.size wq wn) → True → R (.returned (.int .i64 1)) wn) → Calls Tryz.prog 29 #[.pointer (some ⟨k, 0, none⟩), .string ⟨#[102]⟩, .string ⟨#[120]⟩, .int .i64 0] wc R) := Lib.hid (fun wc hb R h => gone_none_c ⟨#[102]⟩ ⟨#[120]⟩ 0 (by decide) (by decide) (.inr (.inr (.inl (by decide)))) wc (HKq.out.below hb) R (fun wn hbn => h wn (Lib.hid (hb.trans (hbn.mono hb.size))) True.intro))
  have HC11 : Hid (∀ wc, Below wq.heap.size wq wc → ∀ R : Ending → World → Prop, (∀ wn, Hid (Below wq.heap.size wq wn) → True → R (.returned (.int .i64 1)) wn) → Calls Tryz.prog 29 #[.pointer (some ⟨k, 0, none⟩), .string ⟨#[102]⟩, .string ⟨#[120]⟩, .int .i64 (24 + (1 + m))] wc R) := Lib.hid (fun wc hb R h => gone_none_c ⟨#[102]⟩ ⟨#[120]⟩ (24 + (1 + m)) (by decide) (by decide) (.inr (.inr (.inr (by omega)))) wc (HKq.out.below hb) R (fun wn hbn => h wn (Lib.hid (hb.trans (hbn.mono hb.size))) True.intro))
  have HC12 : Hid (∀ wc, Below wq.heap.size wq wc → ∀ R : Ending → World → Prop, (∀ wn, Hid (Below wq.heap.size wq wn) → True → R (.returned (.int .i64 1)) wn) → Calls Tryz.prog 30 #[.pointer (some ⟨k, 0, none⟩), .string ⟨#[102]⟩, .string ⟨#[]⟩, .int .i64 1] wc R) := Lib.hid (fun wc hb R h => box_none_c ⟨#[102]⟩ ⟨#[]⟩ 1 (by decide) (by decide) (.inr (.inl (by decide +kernel))) wc (HKq.out.below hb) R (fun wn hbn => h wn (Lib.hid (hb.trans (hbn.mono hb.size))) True.intro))
  have HC13 : Hid (∀ wc, Below wq.heap.size wq wc → ∀ R : Ending → World → Prop, (∀ wn, Hid (Below wq.heap.size wq wn) → True → R (.returned (.int .i64 3)) wn) → Calls Tryz.prog 34 #[.pointer (some ⟨k, 0, none⟩), .string ⟨#[102]⟩, .string ⟨#[120]⟩, .int .i64 1] wc R) := Lib.hid (fun wc hb R h => drop_none_c ⟨#[102]⟩ ⟨#[120]⟩ 1 ⟨.inl rfl, by decide +kernel, by decide +kernel⟩ wc (HKq.out.below hb) Hbox.out R (fun wn hbn => h wn (Lib.hid (hb.trans (hbn.mono hb.size))) True.intro))
  have m0 := True.intro
  clear hmb hk hsm hd hbb hv2
  go_region_held3 (fun w' => w'.cell? ⟨w3.heap.size, 0, none⟩ = some (.string ⟨#[102]⟩) ∧ w'.cell? ⟨w3.heap.size, 1, none⟩ = some (.string ⟨#[97]⟩) ∧ w'.cell? ⟨w3.heap.size + 1, 0, none⟩ = some (.string ⟨#[103]⟩) ∧ w'.cell? ⟨w3.heap.size + 1, 1, none⟩ = some (.string ⟨#[97]⟩)) (first | exact HS.out _ HBc.out | go_keep) (first
    | (have mq := m13; go_at_call 34; refine HC13.out _ HBc.out _ (fun wn HBc m14 => ?_))
    | (have mq := m12; go_at_call 30; refine HC12.out _ HBc.out _ (fun wn HBc m13 => ?_))
    | (have mq := m11; go_at_call 29; refine HC11.out _ HBc.out _ (fun wn HBc m12 => ?_))
    | (have mq := m10; go_at_call 29; refine HC10.out _ HBc.out _ (fun wn HBc m11 => ?_))
    | (have mq := m9; go_at_call 29; refine HC9.out _ HBc.out _ (fun wn HBc m10 => ?_))
    | (have mq := m8; go_at_call 27; refine HC8.out _ HBc.out _ (fun wn HBc m9 => ?_))
    | (have mq := m7; go_at_call 27; refine HC7.out _ HBc.out _ (fun wn HBc m8 => ?_))
    | (have mq := m6; go_at_call 11; refine HC6.out _ HBc.out _ (fun wn HBc m7 => ?_))
    | (have mq := m5; go_at_call 11; refine HC5.out _ HBc.out _ (fun wn HBc m6 => ?_))
    | (have mq := m4; go_at_call 11; refine HC4.out _ HBc.out _ (fun wn HBc m5 => ?_))
    | (have mq := m3; go_at_call 11; refine HC3.out _ HBc.out _ (fun wn HBc m4 => ?_))
    | (have mq := m2; go_at_call 9; refine HC2.out _ _ HBc.out HHn.out _ (fun wn HBc m3 => ?_))
    | (have mq := m1; go_at_call 10; refine HC1.out _ HBc.out _ (fun bn wn HBc HHn m2 => ?_))
    | (have mq := m0; go_at_call 9; refine HC0.out _ HBc.out _ (fun wn HBc m1 => ?_))
)
  have hHB : Hid (Below wq.heap.size wq wn) := HBc
  have hKn := HKq.out.below hHB.out
  have hBa : Below wn.heap.size wn (wn.alloc (.cells #[.int .i64 1, .int .i64 1, .int .i64 1, .int .i64 1, .int .i64 3, .int .i64 3, .int .i64 1, .int .i64 1, .int .i64 1, .int .i64 1, .int .i64 1, .int .i64 1, .int .i64 3, .int .i64 3, .int .i64 3, .int .i64 3, .int .i64 1, .int .i64 1, .int .i64 1, .int .i64 1, .int .i64 1, .int .i64 1, .int .i64 1, .int .i64 1, .int .i64 3, .int .i64 3] 68)) := (Below.refl _ _).alloc (Nat.le_refl _) _
  have hblk := heap_alloc_new wn (.cells #[.int .i64 1, .int .i64 1, .int .i64 1, .int .i64 1, .int .i64 3, .int .i64 3, .int .i64 1, .int .i64 1, .int .i64 1, .int .i64 1, .int .i64 1, .int .i64 1, .int .i64 3, .int .i64 3, .int .i64 3, .int .i64 3, .int .i64 1, .int .i64 1, .int .i64 1, .int .i64 1, .int .i64 1, .int .i64 1, .int .i64 1, .int .i64 1, .int .i64 3, .int .i64 3] 68)
  clear HC0 HC1 HC2 HC3 HC4 HC5 HC6 HC7 HC8 HC9 HC10 HC11 HC12 HC13 m0 m1 m2 m3 m4 m5 m6 m7 m8 m9 m10 m11 m12 m13 m14
  generalize wn.alloc _ = WL at hBa hblk ⊢
  have HKL := Lib.hid (hKn.below hBa)
  have HBL := Lib.hid (HB5.out.trans ((hHB.out.mono HB5.out.size).trans (hBa.mono (Nat.le_trans HB5.out.size hHB.out.size))))
  have HXL := Lib.hid ((hBa.block w3.heap.size (Nat.lt_of_lt_of_le xl hHB.out.size)).trans ((hHB.out.block _ xl).trans HX5.out))
  have HYL := Lib.hid ((hBa.block (w3.heap.size + 1) (Nat.lt_of_lt_of_le yl hHB.out.size)).trans ((hHB.out.block _ yl).trans HY5.out))
  have HblkL := Lib.hid hblk
  have hwl := (Array.getElem?_eq_some_iff.1 hblk).1
  clear hKn hBa hblk
  go_wp2_with fail
  go_loopw [91] (fun i wr => ∃ j : Nat, j ≤ 13 ∧ i = .int .i64 j ∧ Below WL.heap.size WL wr) (fun i _ => 13 - (RowKit.intOf i).toNat)
  case atStart => exact ⟨0, by omega, rfl, Below.refl _ _⟩
  case round =>
    obtain ⟨j, hj, rfl, hB⟩ := hrel
    by_cases hc : j < 13
    · obtain ⟨e, he0, he1⟩ := rows13 j hc
      have hbk := (hB.block _ hwl).trans HblkL.out
      have i0 : wr.cell? ⟨wn.heap.size, j * 2, none⟩ = some (.int .i64 e) := by rw [cell_of_row _ _ _ _ _ _ hbk]; exact he0
      have i1 : wr.cell? ⟨wn.heap.size, j * 2 + 1, none⟩ = some (.int .i64 e) := by rw [cell_of_row _ _ _ _ _ _ hbk]; exact he1
      have il := (Array.getElem?_eq_some_iff.1 hbk).1
      have hjI : (j : Int) < 13 := by omega
      have HB := Lib.hid hB
      clear hB hbk he0 he1
      go_wp2_with fail
      exact ⟨⟨j + 1, by omega, by go_num, HB.out.alloc HB.out.size _⟩, by simp [RowKit.intOf]; omega⟩
    · obtain rfl : j = 13 := by omega
      have HBr := Lib.hid (HBL.out.trans (hB.mono HBL.out.size))
      have HKr := Lib.hid (HKL.out.below hB)
      have HXr := Lib.hid ((hB.block _ (Array.getElem?_eq_some_iff.1 HXL.out).1).trans HXL.out)
      have HYr := Lib.hid ((hB.block _ (Array.getElem?_eq_some_iff.1 HYL.out).1).trans HYL.out)
      clear hB x0 x1 y0 y1 xl yl hw hw1 hw7 hw24 hm0 hm1
      go_wp2_with fail
      refine used_c d mb 1000 l1 _ HKr.out.disk _ (fun w6 hb6 => ?_)
      have HB6 := Lib.hid (HBr.out.trans (hb6.mono HBr.out.size))
      have HK6 := Lib.hid (HKr.out.below hb6)
      have HX6 := Lib.hid ((hb6.block _ (Array.getElem?_eq_some_iff.1 HXr.out).1).trans HXr.out)
      have HY6 := Lib.hid ((hb6.block _ (Array.getElem?_eq_some_iff.1 HYr.out).1).trans HYr.out)
      have te : ((usedL l1 : Int) != (usedL l1 : Int)) = false := by simp
      clear hb6
      go_wp2_with fail
      refine entries_c w6 HK6.out _ (fun A7 c7 rs w7 hb7 _ _ => ?_)
      have HB7 := Lib.hid (HB6.out.trans (hb7.mono HB6.out.size))
      have HK7 := Lib.hid (HK6.out.below hb7)
      have hx7 := (hb7.block _ (Array.getElem?_eq_some_iff.1 HX6.out).1).trans HX6.out
      have hy7 := (hb7.block _ (Array.getElem?_eq_some_iff.1 HY6.out).1).trans HY6.out
      have HX7 := Lib.hid hx7
      have y0 : w7.cell? ⟨w3.heap.size + 1, 0, none⟩ = some (.string ⟨#[103]⟩) := by rw [cell_of_row _ _ _ _ _ _ hy7]; rfl
      have y1 : w7.cell? ⟨w3.heap.size + 1, 1, none⟩ = some (.string ⟨#[97]⟩) := by rw [cell_of_row _ _ _ _ _ _ hy7]; rfl
      have yl := (Array.getElem?_eq_some_iff.1 hy7).1
      clear hb7 hx7 hy7
      rw [show ([er] : List ER).length = 1 from rfl]
      go_wp2_with fail
      refine stream_none_c ⟨⟨#[103]⟩, ⟨#[97]⟩⟩ w7 HK7.out (okK_small _ _) Hy.out _ (fun w8 hb8 => ?_)
      have HB8 := Lib.hid (HB7.out.trans (hb8.mono HB7.out.size))
      have HK8 := Lib.hid (HK7.out.below hb8)
      have hx8 := (hb8.block _ (Array.getElem?_eq_some_iff.1 HX7.out).1).trans HX7.out
      have x0 : w8.cell? ⟨w3.heap.size, 0, none⟩ = some (.string ⟨#[102]⟩) := by rw [cell_of_row _ _ _ _ _ _ hx8]; rfl
      have x1 : w8.cell? ⟨w3.heap.size, 1, none⟩ = some (.string ⟨#[97]⟩) := by rw [cell_of_row _ _ _ _ _ _ hx8]; rfl
      have xl := (Array.getElem?_eq_some_iff.1 hx8).1
      clear hb8 hx8 y0 y1 yl
      go_wp2_with fail
      refine stream_c ⟨⟨#[102]⟩, ⟨#[97]⟩⟩ (sx, freshS) w8 HK8.out (okK_small _ _) Hx.out _ (fun s9 w9 hb9 _ => ?_)
      have HB9 := Lib.hid (HB8.out.trans (hb9.mono HB8.out.size))
      have HK9 := Lib.hid (HK8.out.below hb9)
      clear hb9 x0 x1 xl
      go_wp2_with fail
      refine isGone_c ⟨#[102]⟩ ⟨#[120]⟩ 1 ⟨.inl rfl, by decide +kernel, by decide +kernel⟩ w9 HK9.out _ (fun w10 hb10 => ?_)
      rw [Hgone.out]
      have HB10 := Lib.hid (HB9.out.trans (hb10.mono HB9.out.size))
      have HK10 := Lib.hid (HK9.out.below hb10)
      clear hb10
      go_wp2_with fail
      refine hasBox_c ⟨#[102]⟩ ⟨#[120]⟩ 1 ⟨.inl rfl, by decide +kernel, by decide +kernel⟩ w10 HK10.out _ (fun w11 hb11 => ?_)
      rw [Hbox.out]
      have HB11 := Lib.hid (HB10.out.trans (hb11.mono HB10.out.size))
      have HK11 := Lib.hid (HK10.out.below hb11)
      clear hb11
      go_wp2_with fail
      refine gone_c ⟨#[102]⟩ ⟨#[120]⟩ 1 ⟨.inl rfl, by decide +kernel, by decide +kernel⟩ w11 HK11.out Hgone.out Hgt.out _ (fun v4 w12 hk12 hv4 hK12 => ?_)
      have HU12 := Lib.hid (used_put_le HK11.out hK12)
      rw [hv4] at HU12
      have HB12 : Hid (Below w.heap.size w w12) := Lib.hid (Kept.below HB11.out hk12 HB11.out.size (fun j hj => by simp at hj; rcases hj with rfl | rfl; exact Hnk.out.1; exact Hnk.out.2))
      obtain ⟨l2, hl2⟩ : ∃ l2, l2 = mput l1 (ofS hGone ⟨#[102]⟩ ⟨#[120]⟩ 1) v4 := ⟨_, rfl⟩
      rw [← hl2] at hK12 HU12
      have HK12 := Lib.hid hK12
      have HL2 := Lib.hid hl2
      clear hk12 hv4 hK12 hl2
      go_wp2_with fail
      refine gone_there_c ⟨#[102]⟩ ⟨#[120]⟩ 1 ⟨.inl rfl, by decide +kernel, by decide +kernel⟩ w12 HK12.out (by rw [HL2.out, mget_mput]; rfl) _ (fun w13 hb13 => ?_)
      have HB13 := Lib.hid (HB12.out.trans (hb13.mono HB12.out.size))
      have HK13 := Lib.hid (HK12.out.below hb13)
      clear hb13
      go_wp2_with fail
      refine box_c ⟨#[102]⟩ ⟨#[120]⟩ 2 ⟨.inr rfl, by decide +kernel, by decide +kernel⟩ w13 HK13.out (by rw [HL2.out, mget_mput_ne _ _ _ _ (by decide +kernel)]; exact Hbox2.out) (by rw [HL2.out, mget_mput_ne _ _ _ _ (by decide +kernel)]; exact Hbt.out) (by have h1 := HU12.out; have h2 := HU3.out; simp only [List.length_nil] at h1; omega) _ (fun v5 w14 hk14 hv5 hK14 => ?_)
      have HB14 : Hid (Below w.heap.size w w14) := Lib.hid (Kept.below HB13.out hk14 HB13.out.size (fun j hj => by simp at hj; rcases hj with rfl | rfl; exact Hnk.out.1; exact Hnk.out.2))
      obtain ⟨l3, hl3⟩ : ∃ l3, l3 = mput l2 (ofS hBox ⟨#[102]⟩ ⟨#[120]⟩ 2) v5 := ⟨_, rfl⟩
      rw [← hl3] at hK14
      have HK14 := Lib.hid hK14
      have HL3 := Lib.hid hl3
      clear hk14 hv5 hK14 hl3
      go_wp2_with fail
      refine box_there_c ⟨#[102]⟩ ⟨#[120]⟩ 2 ⟨.inr rfl, by decide +kernel, by decide +kernel⟩ w14 HK14.out (by rw [HL3.out, mget_mput]; rfl) _ (fun w15 hb15 => ?_)
      have HB15 := Lib.hid (HB14.out.trans (hb15.mono HB14.out.size))
      have HK15 := Lib.hid (HK14.out.below hb15)
      clear hb15
      go_wp2_with fail
      refine isGone_c ⟨#[102]⟩ ⟨#[120]⟩ 1 ⟨.inl rfl, by decide +kernel, by decide +kernel⟩ w15 HK15.out _ (fun w16 hb16 => ?_)
      rw [show (mget l3 (ofS hGone ⟨#[102]⟩ ⟨#[120]⟩ 1)).isSome = true by rw [HL3.out, mget_mput_ne _ _ _ _ (by decide +kernel), HL2.out, mget_mput]; rfl]
      have HB16 := Lib.hid (HB15.out.trans (hb16.mono HB15.out.size))
      have HK16 := Lib.hid (HK15.out.below hb16)
      clear hb16
      go_wp2_with fail
      refine hasBox_c ⟨#[102]⟩ ⟨#[120]⟩ 2 ⟨.inr rfl, by decide +kernel, by decide +kernel⟩ w16 HK16.out _ (fun w17 hb17 => ?_)
      rw [show (mget l3 (ofS hBox ⟨#[102]⟩ ⟨#[120]⟩ 2)).isSome = true by rw [HL3.out, mget_mput]; rfl]
      have HB17 := Lib.hid (HB16.out.trans (hb17.mono HB16.out.size))
      clear hb17
      go_wp2_with fail
      refine wakes14_c w17 _ (fun w18 hb18 => ?_)
      have HB18 := Lib.hid (H.out _ (HB17.out.trans (hb18.mono HB17.out.size)))
      clear hb18
      go_wp2_with fail
      exact HB18.out
end Go.Proofs.YtdmcponfodohaaaGreatDoor
