/-
  hostlerlaw04.MessageForms: the walk.
-/
import Derived.Test.YtjndigkphoiohaaDoorMFA
import Derived.Outline
namespace Go.Proofs.YtjndigkphoiohaaDoor
open Go.RowKit Go.Shelf
set_option maxRecDepth 100000

theorem infoRow : (Tryd.prog.info? 52).map (fun i => (i.zero, i.size, i.bytes)) = some (some (.agg #[.int .i64 0, .string ⟨#[]⟩, .string ⟨#[]⟩, .string ⟨#[]⟩, .int .i64 0, .int .i64 0, .int .i64 0, .int .i64 0, .slice none 0 0, .slice none 0 0]), 10, 136) := by kernel_rfl

set_option maxHeartbeats 8000000 in
theorem mforms_c (n num ep c u : Int) (w : World) (R : Ending → World → Prop)
    (h : ∀ w', Below w.heap.size w w' → R (.returned (.bool true)) w') : Calls Tryd.prog 6 #[.int .i64 n, .int .i64 num, .int .i64 ep, .int .i64 c, .int .i64 u] w R := by
  have H := Lib.hid h
  clear h
  go_enter Tryd.func6, Tryd.ntmps6
  go_wp2_with fail
  refine inside_c n 100 w (by omega) (by omega) _ ?_
  have a0 := Int.emod_nonneg n (show (100 : Int) ≠ 0 by omega)
  have a1 := Int.emod_lt_of_pos n (show (0 : Int) < 100 by omega)
  obtain ⟨q1, hq⟩ : ∃ q, n % 100 = q := ⟨_, rfl⟩
  rw [hq] at a0 a1 ⊢
  clear hq
  go_wp2_with fail
  refine inside_c num 100 w (by omega) (by omega) _ ?_
  have b0 := Int.emod_nonneg num (show (100 : Int) ≠ 0 by omega)
  have b1 := Int.emod_lt_of_pos num (show (0 : Int) < 100 by omega)
  obtain ⟨q2, hq⟩ : ∃ q, num % 100 = q := ⟨_, rfl⟩
  rw [hq] at b0 b1 ⊢
  clear hq
  go_wp2_with fail
  refine inside_c ep 100 w (by omega) (by omega) _ ?_
  have c0 := Int.emod_nonneg ep (show (100 : Int) ≠ 0 by omega)
  have c1 := Int.emod_lt_of_pos ep (show (0 : Int) < 100 by omega)
  obtain ⟨q3, hq⟩ : ∃ q, ep % 100 = q := ⟨_, rfl⟩
  rw [hq] at c0 c1 ⊢
  clear hq
  go_wp2_with fail
  refine inside_c c 100 w (by omega) (by omega) _ ?_
  have d0 := Int.emod_nonneg c (show (100 : Int) ≠ 0 by omega)
  have d1 := Int.emod_lt_of_pos c (show (0 : Int) < 100 by omega)
  obtain ⟨q4, hq⟩ : ∃ q, c % 100 = q := ⟨_, rfl⟩
  rw [hq] at d0 d1 ⊢
  clear hq
  go_wp2_with fail
  refine inside_c u 100 w (by omega) (by omega) _ ?_
  have e0 := Int.emod_nonneg u (show (100 : Int) ≠ 0 by omega)
  have e1 := Int.emod_lt_of_pos u (show (0 : Int) < 100 by omega)
  obtain ⟨q5, hq⟩ : ∃ q, u % 100 = q := ⟨_, rfl⟩
  rw [hq] at e0 e1 ⊢
  clear hq
  go_wp2_with fail
  refine namedX (fun W => MFW w (mfRows (1 + q1) (1 + q2) (1 + q3) q4 (1 + q5) w.heap.size) (w.heap.size + 1 + 1 + 1 + 1 + 1 + 1 + 1 + 1 + 1) W) (mfW w (1 + q1) (1 + q2) (1 + q3) q4 (1 + q5)) (fun W hF => ?_)
  have Hrow := Lib.hid (mfRows_ok (n := 1 + q1) (num := 1 + q2) (ep := 1 + q3) (c := q4) (u := 1 + q5) ⟨by omega, by omega⟩ ⟨by omega, by omega⟩ ⟨by omega, by omega⟩ ⟨by omega, by omega⟩ ⟨by omega, by omega⟩ w.heap.size)
  obtain ⟨rows, hrows⟩ : ∃ rows, rows = mfRows (1 + q1) (1 + q2) (1 + q3) q4 (1 + q5) w.heap.size := ⟨_, rfl⟩
  have hlen : rows.length = 7 := by rw [hrows]; rfl
  have HL := Lib.hid (mfRows_len (1 + q1) (1 + q2) (1 + q3) q4 (1 + q5) w.heap.size)
  rw [← hrows] at hF Hrow HL
  have HF := Lib.hid hF
  have Hlen := Lib.hid hlen
  obtain ⟨Bk, hBk⟩ : ∃ Bk, Bk = w.heap.size + 1 + 1 + 1 + 1 + 1 + 1 + 1 + 1 + 1 := ⟨_, rfl⟩
  rw [← hBk] at HF ⊢
  clear hrows hF hlen hBk a0 a1 b0 b1 c0 c1 d0 d1 e0 e1
  go_loopw [83] (fun i wr => ∃ k : Nat, k ≤ 7 ∧ i = .int .i64 k ∧ Below W.heap.size W wr) (fun i _ => 7 - (RowKit.intOf i).toNat)
  case atStart => exact ⟨0, by omega, rfl, Below.refl _ _⟩
  case round =>
    obtain ⟨k, hk, rfl, hB⟩ := hrel
    by_cases hc : k < 7
    · obtain ⟨x, hx⟩ : ∃ x, rows[k]? = some x := ⟨_, List.getElem?_eq_getElem (by have := Hlen.out; omega)⟩
      have hmem := List.mem_of_getElem? hx
      have Hok := Lib.hid (Hrow.out x hmem)
      have hM := HF.out.cells.below hB
      have HI := Lib.hid ((HF.out.items x hmem).below hB)
      have HY := Lib.hid ((HF.out.bytes x hmem).below hB)
      have c0 : wr.cell? ⟨Bk, k * 10, none⟩ = some (.int .i64 x.m.kind) := hM.2 k _ hx 0 _ rfl
      have c1 : wr.cell? ⟨Bk, k * 10 + 1, none⟩ = some (.string x.m.f) := hM.2 k _ hx 1 _ rfl
      have c2 : wr.cell? ⟨Bk, k * 10 + 2, none⟩ = some (.string x.m.e) := hM.2 k _ hx 2 _ rfl
      have c3 : wr.cell? ⟨Bk, k * 10 + 3, none⟩ = some (.string x.m.t) := hM.2 k _ hx 3 _ rfl
      have c4 : wr.cell? ⟨Bk, k * 10 + 4, none⟩ = some (.int .i64 x.m.n) := hM.2 k _ hx 4 _ rfl
      have c5 : wr.cell? ⟨Bk, k * 10 + 5, none⟩ = some (.int .i64 x.m.state) := hM.2 k _ hx 5 _ rfl
      have c6 : wr.cell? ⟨Bk, k * 10 + 6, none⟩ = some (.int .i64 x.m.number) := hM.2 k _ hx 6 _ rfl
      have c7 : wr.cell? ⟨Bk, k * 10 + 7, none⟩ = some (.int .i64 x.m.epoch) := hM.2 k _ hx 7 _ rfl
      have c8 : wr.cell? ⟨Bk, k * 10 + 8, none⟩ = some (.slice x.A x.m.items.length x.m.items.length) := hM.2 k _ hx 8 _ rfl
      have c9 : wr.cell? ⟨Bk, k * 10 + 9, none⟩ = some (.slice (some ⟨x.b, 0, none⟩) x.l.length x.l.length) := hM.2 k _ hx 9 _ rfl
      have hlt := hM.1
      have hcI : (k : Int) < 7 := by omega
      have Hc := Lib.hid hc
      have HB := Lib.hid hB
      have Hmem := Lib.hid hmem
      clear hx hmem hM hc hB
      go_wp2_with fail
      have hB2 : Below wr.heap.size wr (wr.alloc (.cells x.cells 52)) := (Below.refl _ _).alloc (Nat.le_refl _) _
      refine pack_c x.m x.A x.m.items.length _ Hok.out.ok (HI.out.below hB2) (fun _ => Hok.out.need) _ (fun hv => by rw [Hok.out.valid] at hv; cases hv) (fun _ v w3 hB3 hown => ?_)
      rw [Hok.out.pack] at hown
      obtain ⟨Av, cv, rfl, hrv, _⟩ := own_rd hown
      have hX : w3.heap[wr.heap.size]? = some (.cells x.cells 52) := (hB3.block _ (by simp)).trans (heap_alloc_new wr _)
      have d9 : w3.cell? ⟨wr.heap.size, 9, none⟩ = some (.slice (some ⟨x.b, 0, none⟩) x.l.length x.l.length) := by rw [cell_of_row w3 wr.heap.size 9 _ _ _ hX]; rfl
      have hlt3 : wr.heap.size < w3.heap.size := (Array.getElem?_eq_some_iff.1 hX).1
      have HX := Lib.hid hX
      have Hrv := Lib.hid hrv
      have HB3 := Lib.hid (hB2.trans (hB3.mono (by simp)))
      clear c0 c1 c2 c3 c4 c5 c6 c7 c8 c9 hlt hB2 hB3 hown hX hrv
      go_wp2_with fail
      have hn20 := HL.out x Hmem.out
      refine unpack_c (some ⟨x.b, 0, none⟩) x.l.length x.l.length x.m [] w3 Hok.out.valid Hok.out.k0 Hok.out.k1 Hok.out.back Hok.out.ok Hok.out.need Hok.out.fs (by rw [List.append_nil, Hok.out.pack]; exact HY.out.below HB3.out) (Nat.le_refl _) (by omega) _ (fun _ A' c' w4 hB4 hI4 => ?_) (fun h => absurd rfl h)
      have hX4 := (hB4.block _ hlt3).trans HX.out
      obtain ⟨f0, f1, f2, f3, f4, f5, f6, f7, f8, f9, f10⟩ := frow_facts hX4
      have HX4 := Lib.hid hX4
      have HI4 := Lib.hid hI4
      have HB4 := Lib.hid (HB3.out.trans (hB4.mono HB3.out.size))
      have Hrv4 := Lib.hid (Hrv.out.below hB4)
      clear hX4 hI4 hB4 d9 hlt3 hn20
      unfold msgV msgCells
      go_wp2_with fail
      have hB5 : Below w4.heap.size w4 (w4.alloc (.cells (msgCells x.m A' c') 28)) := (Below.refl _ _).alloc (Nat.le_refl _) _
      have hn20 := HL.out x Hmem.out
      refine sameBytes_c Av (some ⟨x.b, 0, none⟩) x.l.length cv x.l.length x.l.length x.l x.l _ (Hrv4.out.below hB5) ((HY.out.below HB4.out).below hB5) (by omega) (by omega) _ (fun w6 hB6 => ?_)
      rw [decide_eq_true rfl]
      have hM6 : MB w6 w4.heap.size x.m A' c' := (hB6.block _ (by simp)).trans (heap_alloc_new w4 _)
      have hX6 : w6.heap[wr.heap.size]? = some (.cells x.cells 52) := (hB6.block _ (by simp; omega)).trans ((hB5.block _ f10).trans HX4.out)
      have hB46 : Below w4.heap.size w4 w6 := hB5.trans (hB6.mono (by simp))
      have HI6 := Lib.hid (HI4.out.below hB46)
      have HB6 := Lib.hid (HB4.out.trans (hB46.mono HB4.out.size))
      clear f0 f1 f2 f3 f4 f5 f6 f7 f8 f9 f10 hB5 hB6 hB46 hn20
      obtain ⟨f0, f1, f2, f3, f4, f5, f6, f7, f8, f9, f10⟩ := frow_facts hX6
      obtain ⟨m0, m1, m2, m3, m4, m5, m6, m7, m8⟩ := msg_facts hM6
      have hml := hM6.lt
      clear hX6 hM6
      go_wp2_with fail
      refine same_c x.m A' x.A c' x.m.items.length w6 HI6.out (HI.out.below HB6.out) Hok.out.self Hok.out.len _ (fun w7 hB7 => ?_)
      go_wp2_with fail
      refine ⟨⟨k + 1, by have := Hc.out; omega, by go_num, HB.out.trans ((HB6.out.trans (hB7.mono HB6.out.size)).mono HB.out.size)⟩, ?_⟩
      have := Hc.out
      simp [RowKit.intOf]
      omega
    · have hk' : k = 7 := by omega
      subst hk'
      have HB := Lib.hid hB
      clear hc hB
      go_wp2_with fail
      refine wakes04_c _ _ (fun w5 hB5 => ?_)
      go_wp2_with fail
      have f1 := HF.out.below.trans (HB.out.mono HF.out.below.size)
      exact H.out _ (f1.trans (hB5.mono f1.size))
end Go.Proofs.YtjndigkphoiohaaDoor
