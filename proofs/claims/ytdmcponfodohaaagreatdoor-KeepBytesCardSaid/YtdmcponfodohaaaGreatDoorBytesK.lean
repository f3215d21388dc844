/-
  The walk of KeepBytes.
-/
import Derived.Test.YtdmcponfodohaaaGreatDoorBytesK0
namespace Go.Proofs.YtdmcponfodohaaaGreatDoor
open Go.RowKit Go.Shelf Go.ChangeMaps Go.MapKept
set_option maxRecDepth 100000

theorem rd_blk {W : World} {g n : Nat} {vs : Array Value} {T : TypeId} {l : List Int} (h : W.heap[g]? = some (.cells vs T)) (hl : u8s l = vs.toList) (hn : vs.size = n) : Rd W (some ⟨g, 0, none⟩) n (u8s l) := by
  subst hn
  refine ⟨by rw [hl]; simp, fun _ => ⟨g, 0, rfl, (Array.getElem?_eq_some_iff.1 h).1, fun j u hu => ?_⟩⟩
  rw [cell_of_row _ _ _ _ _ _ h, Nat.zero_add]
  rw [hl] at hu
  simpa using hu
theorem five (w : World) (X1 X2 X3 X4 X5 : Obj) : Below w.heap.size w (((((w.alloc X1).alloc X2).alloc X3).alloc X4).alloc X5) ∧ (((((w.alloc X1).alloc X2).alloc X3).alloc X4).alloc X5).heap[w.heap.size]? = some X1 ∧ (((((w.alloc X1).alloc X2).alloc X3).alloc X4).alloc X5).heap[w.heap.size + 1]? = some X2 ∧ (((((w.alloc X1).alloc X2).alloc X3).alloc X4).alloc X5).heap[w.heap.size + 1 + 1]? = some X3 ∧ (((((w.alloc X1).alloc X2).alloc X3).alloc X4).alloc X5).heap[w.heap.size + 1 + 1 + 1]? = some X4 ∧ (((((w.alloc X1).alloc X2).alloc X3).alloc X4).alloc X5).heap[w.heap.size + 1 + 1 + 1 + 1]? = some X5 := by
  have e1 := heap_alloc_new w X1
  have e2 := heap_alloc_new (w.alloc X1) X2
  have e3 := heap_alloc_new ((w.alloc X1).alloc X2) X3
  have e4 := heap_alloc_new (((w.alloc X1).alloc X2).alloc X3) X4
  have e5 := heap_alloc_new ((((w.alloc X1).alloc X2).alloc X3).alloc X4) X5
  simp only [World.size_alloc] at e2 e3 e4 e5
  have o : ∀ (W : World) (X : Obj) (i : Nat), i < W.heap.size → (W.alloc X).heap[i]? = W.heap[i]? := fun W X i h => heap_alloc_old W X h
  refine ⟨((((Below.refl _ _).alloc (Nat.le_refl _) _ |>.alloc (by simp) _).alloc (by simp <;> omega) _).alloc (by simp <;> omega) _).alloc (by simp <;> omega) _, ?_, ?_, ?_, ?_, e5⟩
  · rw [o _ _ _ (by simp <;> omega), o _ _ _ (by simp <;> omega), o _ _ _ (by simp <;> omega), o _ _ _ (by simp)]; exact e1
  · rw [o _ _ _ (by simp <;> omega), o _ _ _ (by simp <;> omega), o _ _ _ (by simp)]; exact e2
  · rw [o _ _ _ (by simp <;> omega), o _ _ _ (by simp)]; exact e3
  · rw [o _ _ _ (by simp)]; exact e4
theorem row_is {l : List (ByteArray × FV)} {p : ByteArray} {f : FV} {b : List Int} (h : mget l p = some f) (hb : f.b = b) : (mget l p).isSome = true ∧ (fileOf l p).b = b := by
  unfold fileOf
  rw [h]
  exact ⟨rfl, hb⟩
abbrev lAdmit : ByteArray := ⟨#[97, 100, 109, 105, 116, 47, 48, 49]⟩
abbrev lBox : ByteArray := ⟨#[98, 111, 120, 47, 102, 47, 120, 47, 48, 49]⟩
abbrev lGone : ByteArray := ⟨#[103, 111, 110, 101, 47, 102, 47, 120, 47, 48, 49]⟩
abbrev lLog : ByteArray := ⟨#[108, 111, 103, 47, 102, 47, 97]⟩
abbrev bCells (g : Nat) : Array Value := #[.string lAdmit, .slice (some ⟨g, 0, none⟩) 14 14, .string lBox, .slice (some ⟨g + 1, 0, none⟩) 64 64, .string pEpoch, .slice (some ⟨g + 1 + 1, 0, none⟩) 1 1, .string lGone, .slice none 0 0, .string lLog, .slice (some ⟨g + 1 + 1 + 1, 0, none⟩) 9 9]
theorem b_rows {v v2 v4 v5 v6 : FV} {m : Int} {W : World} {g : Nat} (hv : v.b = [1]) (hv2 : v2.b = admB ⟨#[102]⟩ ⟨#[120]⟩ 1 twoI) (hv4 : v4.b = [3, 1, 1, 2 + m, 165, 2, 2, 1, 165]) (hv5 : v5.b = []) (hv6 : v6.b = List.replicate 64 0)
    (h1 : Rd W (some ⟨g, 0, none⟩) 14 (u8s [1, 102, 1, 120, 1, 2, 1, 97, 1, 0, 1, 98, 2, 0])) (h2 : Rd W (some ⟨g + 1, 0, none⟩) 64 (u8s (List.replicate 64 0))) (h3 : Rd W (some ⟨g + 1 + 1, 0, none⟩) 1 (u8s [1])) (h4 : Rd W (some ⟨g + 1 + 1 + 1, 0, none⟩) 9 (u8s [3, 1, 1, 2 + m, 165, 2, 2, 1, 165])) :
    ∀ j, j < 5 → ∃ p A n c b, RowOk W (bCells g) [(pEpoch, v), (pAdmit 1, v2), (logP xFA, v4), (pGone1, v5), (pBox1, v6)] j p A n c b := fun j hj => by
  have e1 : pAdmit 1 = lAdmit := by decide +kernel
  have e2 : pBox1 = lBox := by decide +kernel
  have e3 : pGone1 = lGone := by decide +kernel
  have e4 : logP xFA = lLog := by decide +kernel
  have ea : admB ⟨#[102]⟩ ⟨#[120]⟩ 1 twoI = [1, 102, 1, 120, 1, 2, 1, 97, 1, 0, 1, 98, 2, 0] := by decide +kernel
  have hj5 : j = 0 ∨ j = 1 ∨ j = 2 ∨ j = 3 ∨ j = 4 := by omega
  rcases hj5 with rfl | rfl | rfl | rfl | rfl
  · obtain ⟨h5, h6⟩ := row_is (b_get (v := v) (v2 := v2) (v4 := v4) (v5 := v5) (v6 := v6) (pAdmit 1) v2 (by simp)) (hv2.trans ea)
    exact ⟨lAdmit, _, 14, 14, _, rfl, rfl, h1, by rw [e1] at h5 ⊢; exact h5, by rw [e1] at h6 ⊢; exact h6, by decide, by decide⟩
  · obtain ⟨h5, h6⟩ := row_is (b_get (v := v) (v2 := v2) (v4 := v4) (v5 := v5) (v6 := v6) pBox1 v6 (by simp)) hv6
    exact ⟨lBox, _, 64, 64, _, rfl, rfl, h2, by rw [e2] at h5 ⊢; exact h5, by rw [e2] at h6 ⊢; exact h6, by decide, by decide⟩
  · obtain ⟨h5, h6⟩ := row_is (b_get (v := v) (v2 := v2) (v4 := v4) (v5 := v5) (v6 := v6) pEpoch v (by simp)) hv
    exact ⟨pEpoch, _, 1, 1, _, rfl, rfl, h3, h5, h6, by decide, by decide⟩
  · obtain ⟨h5, h6⟩ := row_is (b_get (v := v) (v2 := v2) (v4 := v4) (v5 := v5) (v6 := v6) pGone1 v5 (by simp)) hv5
    exact ⟨lGone, none, 0, 0, [], rfl, rfl, Rd.nil_ _ _, by rw [e3] at h5 ⊢; exact h5, by rw [e3] at h6 ⊢; exact h6, by decide, by decide⟩
  · obtain ⟨h5, h6⟩ := row_is (b_get (v := v) (v2 := v2) (v4 := v4) (v5 := v5) (v6 := v6) (logP xFA) v4 (by simp)) hv4
    exact ⟨lLog, _, 9, 9, _, rfl, rfl, h4, by rw [e4] at h5 ⊢; exact h5, by rw [e4] at h6 ⊢; exact h6, by decide, by decide⟩
set_option maxHeartbeats 16000000 in
theorem keepBytes_c (n : Int) (w : World) (R : Ending → World → Prop) (h : ∀ w', Below w.heap.size w w' → R (.returned (.bool true)) w') :
    Calls Tryz.prog 6 #[.int .i64 n] w R := by
  have H := Lib.hid h
  clear h
  go_enter Tryz.func6, Tryz.ntmps6
  go_wp2_with fail
  refine fresh_c 1000 (by omega) (by omega) _ _ (fun d mb k sm v w1 hb1 hd hmb hk hsm hv hK => ?_)
  have HB1 := Lib.hid hb1
  have HK1 := Lib.hid hK
  have Hv := Lib.hid hv
  clear hb1 hK hv
  go_wp2_with fail
  refine inside_c n 5 _ (by decide) (by decide) _ ?_
  have hm0 : 0 ≤ n % 5 := Int.emod_nonneg _ (by decide)
  have hm1 : n % 5 < 5 := Int.emod_lt_of_pos _ (by decide)
  obtain ⟨m, hm⟩ : ∃ m, m = n % 5 := ⟨_, rfl⟩
  rw [← hm] at hm0 hm1 ⊢
  clear hm
  have hw : IntKind.i64.wrap (2 + m) = 2 + m := Go.IntWalk.i64_in _ (by omega)
  go_wp2_with fail
  have hb2 := alloc_b w1 (.cells #[.string ⟨#[102]⟩, .string ⟨#[97]⟩] 33)
  have HX2 : Hid (KeyAt (w1.alloc (.cells #[.string ⟨#[102]⟩, .string ⟨#[97]⟩] 33)) [(w1.heap.size, #[.string ⟨#[102]⟩, .string ⟨#[97]⟩])]) := Lib.hid (fun p hp => by rw [List.mem_singleton] at hp; rw [hp]; exact heap_alloc_new w1 _)
  refine one_c ⟨#[102]⟩ 1 _ _ (fun b w3 hb3 hbb hH => ?_)
  have HB3 := Lib.hid ((HB1.out.trans (hb2.mono HB1.out.size)).trans (hb3.mono (Nat.le_trans HB1.out.size hb2.size)))
  have HK3 := Lib.hid ((HK1.out.below hb2).below hb3)
  have HX3 := Lib.hid (HX2.out.below hb3)
  have HH3 := Lib.hid hH
  clear hb2 hb3 hH
  go_wp2_with fail
  refine admit_c ⟨#[102]⟩ ⟨#[120]⟩ 1 (some ⟨b, 0, none⟩) 2 twoI w3 HK3.out (one_ok _ (by decide)) HH3.out.itms HH3.out (by decide) (fun _ => one_need) one_f1 rfl rfl ?_ ?_ _ (fun v2 A2 C2 ss w4 hk4 _ hv2 hM hK4 => ?_)
  · exact (mget_cons_ne (by decide +kernel)).trans rfl
  · have h1 := used_one HK3.out Hv.out
    have h2 : (admB ⟨#[102]⟩ ⟨#[120]⟩ 1 twoI).length = 14 := by decide +kernel
    omega
  have HU4 : Hid (usedL (mput [(pEpoch, v)] (pAdmit 1) v2) ≤ 15) := Lib.hid (by
    have h1 := used_one HK3.out Hv.out
    have h2 := used_put_le HK3.out hK4
    have h3 : (admB ⟨#[102]⟩ ⟨#[120]⟩ 1 twoI).length = 14 := by decide +kernel
    rw [hv2, h3] at h2
    omega)
  rw [b_l1] at hK4 HU4
  have Hnk : Hid (w.heap.size ≤ k ∧ w.heap.size ≤ mb ∧ w.heap.size ≤ sm) := Lib.hid ⟨hk, hmb, hsm⟩
  have HB4 : Hid (Below w.heap.size w w4) := Lib.hid (Kept.below HB3.out hk4 HB3.out.size (fun j hj => by simp at hj; rcases hj with rfl | rfl | rfl <;> assumption))
  have hX4 := HX3.out.kept hk4 (HK3.out.no3 _ (by decide))
  obtain ⟨sx, hsx⟩ := hM.has ⟨⟨#[97]⟩, 4607182418800017408, 0⟩ (by simp)
  have HV2 := Lib.hid hv2
  have HK4 := Lib.hid hK4
  have HX4 := Lib.hid hX4
  have Hsx := Lib.hid hsx
  obtain ⟨x0, x1, xl⟩ := hX4.cell (List.mem_singleton.2 rfl)
  obtain ⟨er, her⟩ : ∃ er : ER, er = ⟨⟨#[102]⟩, ⟨#[120]⟩, 1, A2, C2, twoI⟩ := ⟨_, rfl⟩
  rw [← her] at HK4
  clear hk4 hM hK4 hX4 hv2 hsx her hd hmb hk hsm hbb
  go_wp2_with fail
  refine update_c xFA (by decide +kernel) (by decide +kernel) (sx, freshS) 1 (2 + m) w4 HK4.out Hsx.out (show freshS.l.length + 1 ≤ 100 from by decide) (fresh_may m hm0 hm1) (show (1 : Int) = (freshS.l.length : Int) + 1 from by decide) (by omega) (by omega) (by have := HU4.out; omega) _ (fun v3 s5 w5 hk5 hv3 _ _ hK5 => ?_)
  have HU5 := Lib.hid (used_put_le HK4.out hK5)
  rw [fileOf_none b_no_log] at hv3
  rw [b_l2] at hK5 HU5
  have HB5 := Lib.hid (Kept.below HB4.out hk5 HB4.out.size (fun j hj => by simp at hj; rcases hj with rfl | rfl; exact Hnk.out.2.1; exact Hnk.out.2.2))
  have hx5 := HX4.out.kept hk5 (HK4.out.no2 _)
  have HK5 := Lib.hid hK5
  have HV3 := Lib.hid hv3
  have HX5 := Lib.hid hx5
  clear hk5 hv3 hK5 x0 x1 xl
  obtain ⟨x0, x1, xl⟩ := hx5.cell (List.mem_singleton.2 rfl)
  clear hx5
  go_wp2_with fail
  refine ackk_c xFA (by decide +kernel) (by decide +kernel) (s5, { freshS with l := freshS.l ++ [(1, 2 + m)] }) (1, 2 + m) 1 w5 HK5.out (mget_mput _ _ _) rfl rfl rfl (by decide) (by decide) (by have h1 := HU5.out; have h2 := HU4.out; rw [HV3.out] at h1; simp [noFile, recB] at h1; omega) _ (fun v4 s6 w6 hk6 hv4 _ _ hK6 => ?_)
  have HU6 := Lib.hid (used_put_le HK5.out hK6)
  rw [b_l3] at hK6 HU6
  have hf5 : (fileOf [(pEpoch, v), (pAdmit 1, v2), (logP xFA, v3)] (logP xFA)) = v3 := by rw [← b_l2]; exact fileOf_put _ _ _
  rw [hf5] at hv4
  have HB6 := Lib.hid (Kept.below HB5.out hk6 HB5.out.size (fun j hj => by simp at hj; rcases hj with rfl | rfl; exact Hnk.out.2.1; exact Hnk.out.2.2))
  have HK6 := Lib.hid hK6
  have HV4 : Hid (v4.b = [3, 1, 1, 2 + m, 165, 2, 2, 1, 165]) := Lib.hid (by rw [hv4, HV3.out]; rfl)
  have HU6' : Hid (usedL [(pEpoch, v), (pAdmit 1, v2), (logP xFA, v4)] ≤ 29) := Lib.hid (by have h1 := HU6.out; have h2 := HU5.out; have h3 := HU4.out; rw [HV4.out] at h1; rw [HV3.out] at h2; simp [noFile, recB] at h1 h2; omega)
  clear hk6 hv4 hK6 hf5 HU6 HU5 HX5 x0 x1 xl HX4 HX3 HX2
  go_wp2_with fail
  refine gone_c ⟨#[102]⟩ ⟨#[120]⟩ 1 rOK w6 HK6.out b_no_gone b_no_gonet _ (fun v5 w7 hk7 hv5 hK7 => ?_)
  have HU7 := Lib.hid (used_put_le HK6.out hK7)
  rw [b_l4] at hK7 HU7
  rw [hv5] at HU7
  have HB7 : Hid (Below w.heap.size w w7) := Lib.hid (Kept.below HB6.out hk7 HB6.out.size (fun j hj => by simp at hj; rcases hj with rfl | rfl; exact Hnk.out.1; exact Hnk.out.2.1))
  have HK7 := Lib.hid hK7
  have HV5 := Lib.hid hv5
  clear hk7 hv5 hK7
  go_wp2_with fail
  refine box_c ⟨#[102]⟩ ⟨#[120]⟩ 1 rOK w7 HK7.out b_no_box b_no_boxt (by have h1 := HU7.out; have h2 := HU6'.out; simp only [List.length_nil] at h1; omega) _ (fun v6 w8 hk8 hv6 hK8 => ?_)
  rw [b_l5] at hK8
  have HB8 : Hid (Below w.heap.size w w8) := Lib.hid (Kept.below HB7.out hk8 HB7.out.size (fun j hj => by simp at hj; rcases hj with rfl | rfl; exact Hnk.out.1; exact Hnk.out.2.1))
  have HK8 := Lib.hid hK8
  have HV6 := Lib.hid hv6
  clear hk8 hv6 hK8
  go_wp2_with fail
  refine list_all_c d mb 1000 _ w8 HK8.out.disk (by simp) _ (fun A9 c9 w9 hb9 hS9 => ?_)
  rw [b_sorted] at hS9
  have HB9 := Lib.hid (HB8.out.trans (hb9.mono HB8.out.size))
  have HK9 := Lib.hid (HK8.out.below hb9)
  have HS9 : Hid (StrsAt w9 A9 5 bPaths) := Lib.hid hS9
  have hlen : ([(pEpoch, v), (pAdmit 1, v2), (logP xFA, v4), (pGone1, v5), (pBox1, v6)] : List (ByteArray × FV)).length = 5 := rfl
  rw [hlen]
  clear hb9 hS9 hlen
  go_wp2_with fail
  have hb10 := alloc_b w9 (.cells (bPaths.map Value.string).toArray 9)
  have hE10 := strs_new w9 bPaths (n := 5) rfl
  have HE10 := Lib.hid hE10
  refine sameStr_c A9 _ 5 c9 5 bPaths _ (HS9.out.below hb10) hE10 (by decide) _ (fun w11 hb11 => ?_)
  have HB11 := Lib.hid ((HB9.out.trans (hb10.mono HB9.out.size)).trans (hb11.mono (Nat.le_trans HB9.out.size hb10.size)))
  have HK11 := Lib.hid ((HK9.out.below hb10).below hb11)
  have hw8 : IntKind.u8.wrap (2 + m) = 2 + m := Go.IntWalk.u8_in _ (by omega)
  clear hb10 hE10 hb11
  go_wp2_with fail
  rw [make64]
  go_wp2_with fail
  refine namedD (fun W => Below w.heap.size w W ∧ KeepAt W k d mb sm 1000 [(pEpoch, v), (pAdmit 1, v2), (logP xFA, v4), (pGone1, v5), (pBox1, v6)] 1 [er] (mput (mput ss xFA (s5, { freshS with l := freshS.l ++ [(1, 2 + m)] })) xFA (s6, { freshS with l := freshS.l ++ [(1, 2 + m)], acked := 0 + 1, said := false, dl := 1, due := 1 })) ∧ (∃ T, W.heap[w11.heap.size + 1 + 1 + 1 + 1]? = some (.cells (bCells w11.heap.size) T)) ∧ (∀ j, j < 5 → ∃ p A n c b, RowOk W (bCells w11.heap.size) [(pEpoch, v), (pAdmit 1, v2), (logP xFA, v4), (pGone1, v5), (pBox1, v6)] j p A n c b)) ?_ (fun W hW => ?_)
  · obtain ⟨k0, k1, k2, k3, k4, k5⟩ := five w11 _ _ _ _ _
    exact ⟨HB11.out.trans (k0.mono HB11.out.size), HK11.out.below k0, ⟨_, k5⟩, b_rows Hv.out HV2.out HV4.out HV5.out HV6.out (rd_blk k1 rfl rfl) (rd_blk k2 (by simp) (by simp [u8s])) (rd_blk k3 rfl rfl) (rd_blk k4 rfl rfl)⟩
  obtain ⟨g1, g2, ⟨T, g3⟩, g4⟩ := hW
  have HBW := Lib.hid g1
  have HKW := Lib.hid g2
  have Hg3 := Lib.hid g3
  have Hg4 := Lib.hid g4
  obtain ⟨l5, hl5⟩ : ∃ l5, l5 = [(pEpoch, v), (pAdmit 1, v2), (logP xFA, v4), (pGone1, v5), (pBox1, v6)] := ⟨_, rfl⟩
  rw [← hl5] at HKW Hg4
  have HL5 := Lib.hid hl5
  have Hbp : Hid (∀ p ∈ [(pEpoch, v), (pAdmit 1, v2), (logP xFA, v4), (pGone1, v5)], Lib.hasPrefix p.1.data.toList (⟨#[98, 111, 120, 47]⟩ : ByteArray).data.toList = false) := Lib.hid b_pre
  obtain ⟨g, hg⟩ : ∃ g, g = w11.heap.size + 1 + 1 + 1 + 1 := ⟨_, rfl⟩
  rw [← hg] at Hg3 ⊢
  obtain ⟨cs, hcs⟩ : ∃ cs, cs = bCells w11.heap.size := ⟨_, rfl⟩
  rw [← hcs] at Hg3 Hg4
  clear g1 g2 g3 g4 hl5 hg hcs HK11 HB11 HK9 HB9 HK8 HB8 HK7 HB7 HK6 HB6 HK5 HB5 HK4 HB4 HK3 HB3 HE10 HS9 HU7 HU6' HU4 HV2 HV3 HV4 HV5 HV6 HB1 HK1 Hv HH3 Hsx hw8 hw hm0 hm1
  go_loopw [68] (fun i wr => ∃ j : Nat, j ≤ 5 ∧ i = .int .i64 j ∧ Below W.heap.size W wr) (fun i _ => 5 - (RowKit.intOf i).toNat)
  case atStart => exact ⟨0, by omega, rfl, Below.refl _ _⟩
  case round =>
    obtain ⟨j, hj, rfl, hB⟩ := hrel
    by_cases hc : j < 5
    · obtain ⟨p, A, n, c, b, hr⟩ := Hg4.out j hc
      have hgb := (hB.block g (Array.getElem?_eq_some_iff.1 Hg3.out).1).trans Hg3.out
      have i0 : wr.cell? ⟨g, j * 2, none⟩ = some (.string p) := by rw [cell_of_row _ _ _ _ _ _ hgb]; exact hr.p0
      have i1 : wr.cell? ⟨g, j * 2 + 1, none⟩ = some (.slice A n c) := by rw [cell_of_row _ _ _ _ _ _ hgb]; exact hr.p1
      have il := (Array.getElem?_eq_some_iff.1 hgb).1
      have hjI : (j : Int) < 5 := by omega
      have HB := Lib.hid hB
      have Hr := Lib.hid (hr.below hB)
      have HKr := Lib.hid (HKW.out.below hB)
      clear hB hgb hr
      go_wp2_with fail
      have hb2 := alloc_b wr (.cells #[.string p, .slice A n c] 65)
      refine read_c d mb 1000 l5 p _ (HKr.out.below hb2).disk Hr.out.sm _ (fun A' c' w3 hb3 hh3 _ => ?_)
      rw [Hr.out.is]
      rw [Hr.out.eq] at hh3
      have hY := (hb3.block wr.heap.size (by simp)).trans (heap_alloc_new wr _)
      have y1 : w3.cell? ⟨wr.heap.size, 1, none⟩ = some (.slice A n c) := by rw [cell_of_row _ _ _ _ _ _ hY]; rfl
      have yl := (Array.getElem?_eq_some_iff.1 hY).1
      rw [World.size_alloc] at hb3
      have hB3 : Below wr.heap.size wr w3 := hb2.trans (hb3.mono (Nat.le_succ _))
      have HB3 := Lib.hid hB3
      have hln : b.length = (fileOf l5 p).n := by rw [← Hr.out.eq]; exact (fileOf_ok HKr.out.disk p).len
      have hsm : (fileOf l5 p).n ≤ 65536 := by have h1 := fileOf_le l5 p; have h2 := HKr.out.disk.used; omega
      have HR3 : Hid (Rd w3 A' (fileOf l5 p).n (u8s b)) := Lib.hid (hh3.rd (by rw [u8s_length]; exact hln))
      have HR4 := Lib.hid (Hr.out.rd.below hB3)
      have hfew := Hr.out.few
      clear hb2 hb3 hh3 hY hB3 hln i0 i1
      obtain ⟨N, hN⟩ : ∃ N, N = (fileOf l5 p).n := ⟨_, rfl⟩
      rw [← hN] at HR3 hsm ⊢
      clear hN
      go_wp2_with fail
      refine sameBytes_c A' A N c' n c b b w3 HR3.out HR4.out (by omega) (by omega) _ (fun w4 hb4 => ?_)
      rw [decide_eq_true (rfl : b = b)]
      have HB4 := Lib.hid (HB.out.trans ((HB3.out.trans (hb4.mono HB3.out.size)).mono HB.out.size))
      clear hb4 y1 yl
      go_wp2_with fail
      exact ⟨⟨j + 1, by omega, by go_num, HB4.out⟩, by simp [RowKit.intOf]; omega⟩
    · obtain rfl : j = 5 := by omega
      have HBr := Lib.hid (HBW.out.trans (hB.mono HBW.out.size))
      have HKr := Lib.hid (HKW.out.below hB)
      clear hB
      go_wp2_with fail
      refine drop_c ⟨#[102]⟩ ⟨#[120]⟩ 1 rOK wr HKr.out (by rw [HL5.out, ← b_l5, mget_mput]; rfl) _ (fun w2 hk2 hK2 => ?_)
      rw [HL5.out, b_del] at hK2
      have HB2 : Hid (Below w.heap.size w w2) := Lib.hid (Kept.below HBr.out hk2 HBr.out.size (fun j hj => by simp at hj; rcases hj with rfl | rfl; exact Hnk.out.1; exact Hnk.out.2.1))
      have HK2 := Lib.hid hK2
      clear hk2 hK2
      go_wp2_with fail
      refine drop_none_c ⟨#[102]⟩ ⟨#[120]⟩ 1 rOK w2 HK2.out b_no_box _ (fun w3 hb3 => ?_)
      have HB3 := Lib.hid (HB2.out.trans (hb3.mono HB2.out.size))
      have HK3 := Lib.hid (HK2.out.below hb3)
      clear hb3
      go_wp2_with fail
      refine list_none_c ⟨#[98, 111, 120, 47]⟩ d mb 1000 _ w3 HK3.out.disk (by simp) (by simp) Hbp.out _ (fun A9 c9 w4 hb4 => ?_)
      have HB4 := Lib.hid (HB3.out.trans (hb4.mono HB3.out.size))
      clear hb4
      go_wp2_with fail
      refine wakes14_c w4 _ (fun w5 hb5 => ?_)
      have HB5 := Lib.hid (H.out _ (HB4.out.trans (hb5.mono HB4.out.size)))
      clear hb5
      go_wp2_with fail
      exact HB5.out
end Go.Proofs.YtdmcponfodohaaaGreatDoor
