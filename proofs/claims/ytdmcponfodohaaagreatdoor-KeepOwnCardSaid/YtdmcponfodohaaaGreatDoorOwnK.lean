/-
  The walk of KeepOwn.
-/
import Derived.Test.YtdmcponfodohaaaGreatDoorBytesK0
namespace Go.Proofs.YtdmcponfodohaaaGreatDoor
open Go.RowKit Go.Shelf Go.ChangeMaps Go.MapKept
set_option maxRecDepth 100000

section
variable {k d mb sm : Nat} {q : Int} {l : List (ByteArray × FV)} {ep : Int} {es : List ER} {ss : SM}
/-- Items that are nobody's of the keep are written. -/
theorem KeepAt.setItem {w : World} {b : Nat} {cs : Array Value} (h : KeepAt w k d mb sm q l ep es ss) (hb : w.heap[b]? = some (.cells cs 55)) (hne : ∀ r ∈ es, ∀ a, r.A = some a → a.block ≠ b) (i : Nat) (u : Value) : KeepAt (w.setCell ⟨b, i, none⟩ u) k d mb sm q l ep es ss := by
  have hk : Kept [b] w (w.setCell ⟨b, i, none⟩ u) := (Kept.refl _ _).setCell (by simp) _
  have hT : ∀ T, T ≠ 55 → NoT w T [b] := fun T hT => NoT.one hb (fun cs e => by simp at e; exact hT e.2.symm)
  have hin : ∀ x o, w.heap[x]? = some o → (∀ cs, o ≠ .cells cs 55) → x ∉ [b] := fun x o hx ho hm => by
    rw [List.mem_singleton] at hm
    rw [hm, hb] at hx
    injection hx with hx
    exact ho _ hx.symm
  obtain ⟨A, c, hbk, ho⟩ := h.blk
  obtain ⟨_, _, hmb, _⟩ := h.disk.map
  obtain ⟨_, _, hsm, _⟩ := h.map
  have hkb := hin k _ hbk (fun cs e => by simp at e)
  refine ⟨⟨A, c, (hk.block k h.lt.1 hkb).trans hbk, ho.1, ?_⟩, h.disk.kept hk (hin d _ h.disk.blk (fun cs e => by simp at e)) (hin mb _ hmb (fun cs e => by simp at e)) (hT _ (by decide)), h.map.same (hk.block sm h.map.lt (hin sm _ hsm (fun cs e => by simp at e))), fun p hp => ?_, fun r hr => ?_, h.few, h.ne, fun e => (hk.cell (p := ⟨k, 2, none⟩) h.lt.1 hkb).trans (h.nil e)⟩
  · rcases ho.2 with h1 | ⟨g, cap, cur, e, hB, hg, h2⟩
    · exact .inl h1
    · exact .inr ⟨g, cap, cur, e, hB, (hk.block g (Array.getElem?_eq_some_iff.1 hg).1 (hin g _ hg (fun cs e => by simp at e))).trans hg, h2⟩
  · obtain ⟨A2, c2, hb2, _⟩ := (h.strs p hp).blk
    exact (h.strs p hp).kept hk (hin _ _ hb2 (fun cs e => by simp at e)) (hT _ (by decide))
  · have hr0 := h.ents r hr
    refine ⟨fun h0 => ?_, hr0.few, hr0.okF, hr0.okT⟩
    obtain ⟨g, o, cs', e, hg, hc⟩ := hr0.hard h0
    refine ⟨g, o, cs', e, (hk.block g (Array.getElem?_eq_some_iff.1 hg).1 (fun hm => ?_)).trans hg, hc⟩
    rw [List.mem_singleton] at hm
    exact hne r hr _ e hm
theorem used_grow {k d mb sm : Nat} {q : Int} {l : List (ByteArray × FV)} {p : ByteArray} {v : FV} {r : List Int} {ep ep' : Int} {es es' : List ER} {ss ss' : SM} {w w' : World} (h : KeepAt w k d mb sm q l ep es ss) (h' : KeepAt w' k d mb sm q (mput l p v) ep' es' ss') (hv : v.b = (fileOf l p).b ++ r) : usedL (mput l p v) = usedL l + r.length := by
  have h1 := (h'.disk.files _ (mget_some (mget_mput l p v))).len
  have h2 := used_mput (p := p) h.disk.map.nodup v
  have h3 := (fileOf_ok h.disk p).len
  simp only at h1
  rw [hv, List.length_append] at h1
  omega
end
abbrev oS1 : Strm := { freshS with l := [(1, 2)] }
abbrev oS2 : Strm := { freshS with l := [(1, 2), (2, 4)] }
abbrev oS3 : Strm := { oS2 with acked := 0 + 1, said := false, dl := 1, due := 1 }
abbrev oS4 : Strm := { oS3 with acked := 0 + 1 + 1, said := false, dl := 1, due := 1 }
abbrev xFB : TKey := ⟨⟨#[102]⟩, ⟨#[98]⟩⟩
/-- The one entry told: where its cells lie. -/
theorem told_one {w : World} {B base : Nat} {er : ER} {rs : List ER} {A : Option Addr} {c : Nat} (ht : Told w B [er] rs) (ho : w.ownsRow base 30 4 (.slice A 1 c) 1 (erC rs)) (h2 : er.items = twoI) :
    ∃ g gi oi ci csR csI, A = some ⟨g, 0, none⟩ ∧ base ≤ g ∧ B ≤ gi ∧ w.heap[g]? = some (.cells csR 30) ∧ csR[0]? = some (.string er.f) ∧ csR[3]? = some (.slice (some ⟨gi, oi, none⟩) 2 ci) ∧ w.heap[gi]? = some (.cells csI 55) ∧ csI[oi]? = some (.string ⟨#[97]⟩) ∧ csI[oi + 2]? = some (.string ⟨#[98]⟩) := by
  obtain ⟨r, rfl⟩ : ∃ r, rs = [r] := List.length_eq_one_iff.1 (by rw [ht.len]; rfl)
  have hs := ht.same 0 er r rfl rfl
  have hr := ht.ok r (List.mem_singleton.2 rfl)
  obtain ⟨gi, oi, cs, eA, hgi, hci⟩ := hr.hard (by rw [hs.2.2.2, h2]; decide)
  rw [hs.2.2.2, h2] at hci
  rcases ho.2 with ⟨_, hn⟩ | ⟨g, cap, cur, e, hB, hh, hnc, _, _, ht2⟩
  · cases hn
  · injection e with e _ _
    have hcells : ∀ j u, (erC [r])[j]? = some u → cur[j]? = some u := fun j u hu => by
      rw [← ht2] at hu
      have hj := (List.getElem?_eq_some_iff.1 hu).1
      rw [List.length_take] at hj
      rw [List.getElem?_take_of_lt (by omega)] at hu
      rw [← Array.getElem?_toList]
      exact hu
    have e3 : r.cs[3]? = some (.slice (some ⟨gi, oi, none⟩) 2 r.c) := by
      show some (Value.slice r.A r.items.length r.c) = _
      rw [eA, hs.2.2.2, h2]
      rfl
    refine ⟨g, gi, oi, r.c, cur, cs, e, hB, ht.new r (List.mem_singleton.2 rfl) _ eA, hh, ?_, ?_, hgi, hci 0 _ rfl, hci 2 _ rfl⟩
    · exact hcells 0 _ (by rw [← hs.1]; rfl)
    · exact hcells 3 _ (by rw [← e3]; rfl)
set_option maxHeartbeats 32000000 in
theorem keepOwn_c (n : Int) (w : World) (R : Ending → World → Prop) (h : ∀ w', Below w.heap.size w w' → R (.returned (.bool true)) w') :
    Calls Tryz.prog 5 #[.int .i64 n] w R := by
  have H := Lib.hid h
  clear h
  go_enter Tryz.func5, Tryz.ntmps5
  go_wp2_with fail
  refine fresh_c 1000 (by omega) (by omega) _ _ (fun d mb k sm v w1 hb1 hd hmb hk hsm hv hK => ?_)
  have HB1 := Lib.hid hb1
  have HK1 := Lib.hid hK
  have Hv := Lib.hid hv
  have Hnk : Hid (w.heap.size ≤ k ∧ w.heap.size ≤ mb ∧ w.heap.size ≤ sm) := Lib.hid ⟨hk, hmb, hsm⟩
  clear hb1 hK hv hd hmb hk hsm
  go_wp2_with fail
  refine one_c ⟨#[102]⟩ 1 _ _ (fun b w2 hb2 hbb hH => ?_)
  have HB2 := Lib.hid (HB1.out.trans (hb2.mono HB1.out.size))
  have HK2 := Lib.hid (HK1.out.below hb2)
  have HH2 := Lib.hid hH
  have hbN : b ∉ [k, mb, sm] := by
    have h1 := HK1.out.lt.1
    have h2 := HK1.out.map.lt
    have h3 := HK1.out.disk.map.lt
    simp
    omega
  have HbN := Lib.hid hbN
  have HbW : Hid (w.heap.size ≤ b) := Lib.hid (Nat.le_trans HB1.out.size hbb)
  obtain ⟨g0, o0, csb, eg, hgb, hcb⟩ := hH (by decide)
  injection eg with eg
  injection eg with eg eo _
  subst eg eo
  have Hgb := Lib.hid hgb
  clear hb2 hH hbN hbb hgb
  unfold entryV
  go_wp2_with fail
  have hbe := alloc_b w2 (.cells #[.string ⟨#[102]⟩, .string ⟨#[120]⟩, .int .i64 1, .slice (some ⟨b, 0, none⟩) 2 2] 30)
  refine admit_c ⟨#[102]⟩ ⟨#[120]⟩ 1 (some ⟨b, 0, none⟩) 2 twoI _ (HK2.out.below hbe) (one_ok _ (by decide)) (HH2.out.below hbe).itms (HH2.out.below hbe) (by decide) (fun _ => one_need) one_f1 rfl rfl ?_ ?_ _ (fun v2 A2 C2 ss w4 hk4 hA2 hv2 hM hK4 => ?_)
  · exact (mget_cons_ne (by decide +kernel)).trans rfl
  · have h1 := used_one HK2.out Hv.out
    have h2 : (admB ⟨#[102]⟩ ⟨#[120]⟩ 1 twoI).length = 14 := by decide +kernel
    omega
  have HU4 : Hid (usedL (mput [(pEpoch, v)] (pAdmit 1) v2) ≤ 15) := Lib.hid (by
    have h1 := used_one HK2.out Hv.out
    have h2 := used_put_le (HK2.out.below hbe) hK4
    have h3 : (admB ⟨#[102]⟩ ⟨#[120]⟩ 1 twoI).length = 14 := by decide +kernel
    rw [hv2, h3] at h2
    omega)
  rw [b_l1] at hK4 HU4
  have HB4 : Hid (Below w.heap.size w w4) := Lib.hid (Kept.below (HB2.out.trans (hbe.mono HB2.out.size)) hk4 (Nat.le_trans HB2.out.size hbe.size) (fun j hj => by simp at hj; rcases hj with rfl | rfl | rfl; exact Hnk.out.1; exact Hnk.out.2.1; exact Hnk.out.2.2))
  have hE4 := (hk4.block w2.heap.size (by simp) (by
    have h1 := HK2.out.lt.1
    have h2 := HK2.out.map.lt
    have h3 := HK2.out.disk.map.lt
    simp
    omega)).trans (heap_alloc_new w2 _)
  have hblt := (Array.getElem?_eq_some_iff.1 Hgb.out).1
  have hb4 := (hk4.block b (by simp; omega) HbN.out).trans ((hbe.block b (by omega)).trans Hgb.out)
  have e3 : w4.cell? ⟨w2.heap.size, 3, none⟩ = some (.slice (some ⟨b, 0, none⟩) 2 2) := by rw [cell_of_row _ _ _ _ _ _ hE4]; rfl
  have el := (Array.getElem?_eq_some_iff.1 hE4).1
  have bl := (Array.getElem?_eq_some_iff.1 hb4).1
  have b0 : w4.cell? ⟨b, 0, none⟩ = some (.string ⟨#[97]⟩) := by rw [cell_of_row _ _ _ _ _ _ hb4]; exact hcb 0 _ rfl
  have bz : w4.frozen? ⟨b, 0, none⟩ = false := by simp [World.frozen?, hb4]
  obtain ⟨sx, hsx⟩ := hM.has ⟨⟨#[98]⟩, 4611686018427387904, 0⟩ (by simp)
  have Hsx := Lib.hid hsx
  have HK4 := Lib.hid hK4
  have Hb4 := Lib.hid hb4
  have HA2 : Hid (∀ a, A2 = some a → a.block ≠ b) := Lib.hid (fun a ha => by have h1 := hA2 a ha; simp at h1; omega)
  obtain ⟨er, her⟩ : ∃ er : ER, er = ⟨⟨#[102]⟩, ⟨#[120]⟩, 1, A2, C2, twoI⟩ := ⟨_, rfl⟩
  rw [← her] at HK4
  have Her := Lib.hid her
  clear hbe hk4 hA2 hv2 hM hK4 hE4 hb4 hsx her hblt hcb HK2 HB2 HH2 HbN Hgb HB1 HK1
  go_wp2_with fail
  have hK5 := HK4.out.setItem Hb4.out (fun r hr a ha => HA2.out a (by rw [List.mem_singleton] at hr; rw [hr, Her.out] at ha; exact ha)) 0 (.string ⟨#[122, 122]⟩)
  have HB5 := Lib.hid (Kept.below HB4.out ((Kept.refl [b] w4).setCell (p := ⟨b, 0, none⟩) (by simp) (.string ⟨#[122, 122]⟩)) HB4.out.size (fun j hj => by rw [List.mem_singleton] at hj; rw [hj]; exact HbW.out))
  have HK5 := Lib.hid hK5
  clear hK5 e3 el bl b0 bz
  obtain ⟨w5, hw5⟩ : ∃ w5, w5 = w4.setCell ⟨b, 0, none⟩ (.string ⟨#[122, 122]⟩) := ⟨_, rfl⟩
  rw [← hw5] at HK5 HB5 ⊢
  clear hw5
  refine entries_c w5 HK5.out _ (fun A6 c6 rs w6 hb6 ht6 ho6 => ?_)
  obtain ⟨g, gi, oi, ci, csR, csI, rfl, hg1, hgi1, hg, r0, r3, hgi, i0, i1⟩ := told_one ht6 ho6 (by rw [Her.out])
  have HB6 := Lib.hid (HB5.out.trans (hb6.mono HB5.out.size))
  have HK6 := Lib.hid (HK5.out.below hb6)
  have hne : g ≠ gi := fun e => by
    rw [e, hgi] at hg
    injection hg with hg
    injection hg with _ hg
    exact absurd hg (by decide)
  have gl := (Array.getElem?_eq_some_iff.1 hg).1
  have il := (Array.getElem?_eq_some_iff.1 hgi).1
  have g0 : w6.cell? ⟨g, 0, none⟩ = some (.string ⟨#[102]⟩) := by rw [cell_of_row _ _ _ _ _ _ hg, r0, Her.out]
  have g3 : w6.cell? ⟨g, 3, none⟩ = some (.slice (some ⟨gi, oi, none⟩) 2 ci) := by rw [cell_of_row _ _ _ _ _ _ hg]; exact r3
  have t0 : w6.cell? ⟨gi, oi, none⟩ = some (.string ⟨#[97]⟩) := by rw [cell_of_row _ _ _ _ _ _ hgi]; exact i0
  have t2 : w6.cell? ⟨gi, oi + 2, none⟩ = some (.string ⟨#[98]⟩) := by rw [cell_of_row _ _ _ _ _ _ hgi]; exact i1
  have gz : ∀ o, w6.frozen? ⟨g, o, none⟩ = false := fun o => by simp [World.frozen?, hg]
  have tz : ∀ o, w6.frozen? ⟨gi, o, none⟩ = false := fun o => by simp [World.frozen?, hgi]
  have Hg1 := Lib.hid (And.intro hg1 hgi1)
  have Hb6 := Lib.hid hb6
  clear hg1 hgi1 hb6 ht6 ho6 r0 r3 i0 i1 hg hgi
  have hl1 : [er].length = 1 := rfl
  rw [hl1]
  clear hl1
  go_wp2_with fail
  have hk7 : Kept [gi, g] w6 ((w6.setCell ⟨gi, oi + 2, none⟩ (.string ⟨#[121, 121]⟩)).setCell ⟨g, 0, none⟩ (.string ⟨#[103]⟩)) := ((Kept.refl _ _).setCell (by simp) _).setCell (by simp) _
  have hb7 := Kept.below Hb6.out hk7 Hb6.out.size (fun j hj => by simp at hj; rcases hj with rfl | rfl; exact Hg1.out.2; exact Hg1.out.1)
  have hX7 := heap_alloc_new ((w6.setCell ⟨gi, oi + 2, none⟩ (.string ⟨#[121, 121]⟩)).setCell ⟨g, 0, none⟩ (.string ⟨#[103]⟩)) (.cells #[.string ⟨#[102]⟩, .string ⟨#[98]⟩] 33)
  have hb7 := hb7.alloc hb7.size (.cells #[.string ⟨#[102]⟩, .string ⟨#[98]⟩] 33)
  have hsz : ((w6.setCell ⟨gi, oi + 2, none⟩ (.string ⟨#[121, 121]⟩)).setCell ⟨g, 0, none⟩ (.string ⟨#[103]⟩)).heap.size = w6.heap.size := by simp
  rw [hsz] at hX7
  obtain ⟨w7, hw7⟩ : ∃ w7, w7 = ((w6.setCell ⟨gi, oi + 2, none⟩ (.string ⟨#[121, 121]⟩)).setCell ⟨g, 0, none⟩ (.string ⟨#[103]⟩)).alloc (.cells #[.string ⟨#[102]⟩, .string ⟨#[98]⟩] 33) := ⟨_, rfl⟩
  rw [← hw7] at hX7 hb7 ⊢
  have HX7 : Hid (KeyAt w7 [(w6.heap.size, #[.string ⟨#[102]⟩, .string ⟨#[98]⟩])]) := Lib.hid (fun p hp => by rw [List.mem_singleton] at hp; rw [hp]; exact hX7)
  have HB7 := Lib.hid (HB5.out.trans (hb7.mono HB5.out.size))
  have HK7 := Lib.hid (HK5.out.below hb7)
  obtain ⟨x, hx⟩ : ∃ x, x = w6.heap.size := ⟨_, rfl⟩
  rw [← hx] at HX7 ⊢
  clear hk7 hb7 hX7 hsz hw7 hx g0 g3 t0 t2 gz tz gl il hne Hg1 Hb6 HB6 HK6 HB5 HK5
  refine entries_c w7 HK7.out _ (fun A8 c8 rs8 w8 hb8 ht8 ho8 => ?_)
  obtain ⟨g8, gi8, oi8, ci8, csR8, csI8, rfl, _, _, hg, r0, r3, hgi, i0, i1⟩ := told_one ht8 ho8 (by rw [Her.out])
  have HB8 := Lib.hid (HB7.out.trans (hb8.mono HB7.out.size))
  have HK8 := Lib.hid (HK7.out.below hb8)
  have hX8 := HX7.out.below hb8
  have HX8 := Lib.hid hX8
  have gl := (Array.getElem?_eq_some_iff.1 hg).1
  have il := (Array.getElem?_eq_some_iff.1 hgi).1
  have q0 : w8.cell? ⟨g8, 0, none⟩ = some (.string ⟨#[102]⟩) := by rw [cell_of_row _ _ _ _ _ _ hg, r0, Her.out]
  have q3 : w8.cell? ⟨g8, 3, none⟩ = some (.slice (some ⟨gi8, oi8, none⟩) 2 ci8) := by rw [cell_of_row _ _ _ _ _ _ hg]; exact r3
  have t2 : w8.cell? ⟨gi8, oi8 + 2, none⟩ = some (.string ⟨#[98]⟩) := by rw [cell_of_row _ _ _ _ _ _ hgi]; exact i1
  obtain ⟨x0, x1, xl⟩ := hX8.cell (List.mem_singleton.2 rfl)
  clear hb8 ht8 ho8 hX8 r0 r3 i0 i1 hg hgi HB7 HK7 HX7
  have hl1 : [er].length = 1 := rfl
  rw [hl1]
  clear hl1
  go_wp2_with fail
  refine update_c xFB (by decide +kernel) (by decide +kernel) (sx, freshS) 1 2 w8 HK8.out Hsx.out (show freshS.l.length + 1 ≤ 100 from by decide) (show mayB (stOf freshS) 2 = true from by decide) (show (1 : Int) = (freshS.l.length : Int) + 1 from by decide) (by omega) (by omega) (by have := HU4.out; omega) _ (fun v3 s9 w9 hk9 hv9 _ _ hK9 => ?_)
  have HU9 : Hid (usedL (mput [(pEpoch, v), (pAdmit 1, v2)] (logP xFB) v3) ≤ 20) := Lib.hid (by have h1 := used_grow HK8.out hK9 hv9; have h2 := HU4.out; have h3 : (recB [1, 1, 2]).length = 5 := rfl; omega)
  have HB9 := Lib.hid (Kept.below HB8.out hk9 HB8.out.size (fun j hj => by simp at hj; rcases hj with rfl | rfl; exact Hnk.out.2.1; exact Hnk.out.2.2))
  have hx9 := HX8.out.kept hk9 (HK8.out.no2 _)
  have HS9 : Hid (mget (mput ss xFB (s9, oS1)) xFB = some (s9, oS1)) := Lib.hid (mget_mput _ _ _)
  have HX9 := Lib.hid hx9
  obtain ⟨l9, hl9⟩ : ∃ l9, l9 = mput [(pEpoch, v), (pAdmit 1, v2)] (logP xFB) v3 := ⟨_, rfl⟩
  obtain ⟨ss9, hss9⟩ : ∃ ss9, ss9 = mput ss xFB (s9, oS1) := ⟨_, rfl⟩
  have hK9 : KeepAt w9 k d mb sm 1000 l9 1 [er] ss9 := by rw [hl9, hss9]; exact hK9
  rw [← hl9] at HU9
  rw [← hss9] at HS9
  have HK9 := Lib.hid hK9
  clear hk9 hv9 hK9 x0 x1 xl q0 q3 t2 gl il hl9 hss9 HB8 HK8 HX8
  obtain ⟨x0, x1, xl⟩ := hx9.cell (List.mem_singleton.2 rfl)
  clear hx9
  go_wp2_with fail
  refine update_c xFB (by decide +kernel) (by decide +kernel) (s9, oS1) 2 4 w9 HK9.out HS9.out (show oS1.l.length + 1 ≤ 100 from by decide) (show mayB (stOf oS1) 4 = true from by decide) (show (2 : Int) = (oS1.l.length : Int) + 1 from by decide) (by omega) (by omega) (by have := HU9.out; omega) _ (fun v4 s10 w10 hk10 hv10 _ _ hK10 => ?_)
  have HU10 : Hid (usedL (mput l9 (logP xFB) v4) ≤ 25) := Lib.hid (by have h1 := used_grow HK9.out hK10 hv10; have h2 := HU9.out; have h3 : (recB [1, 2, 4]).length = 5 := rfl; omega)
  have HB10 := Lib.hid (Kept.below HB9.out hk10 HB9.out.size (fun j hj => by simp at hj; rcases hj with rfl | rfl; exact Hnk.out.2.1; exact Hnk.out.2.2))
  have hx10 := HX9.out.kept hk10 (HK9.out.no2 _)
  have HS10 : Hid (mget (mput ss9 xFB (s10, oS2)) xFB = some (s10, oS2)) := Lib.hid (mget_mput _ _ _)
  have HX10 := Lib.hid hx10
  obtain ⟨l10, hl10⟩ : ∃ l10, l10 = mput l9 (logP xFB) v4 := ⟨_, rfl⟩
  obtain ⟨ss10, hss10⟩ : ∃ ss10, ss10 = mput ss9 xFB (s10, oS2) := ⟨_, rfl⟩
  have hK10 : KeepAt w10 k d mb sm 1000 l10 1 [er] ss10 := by rw [hl10, hss10]; exact hK10
  rw [← hl10] at HU10
  rw [← hss10] at HS10
  have HK10 := Lib.hid hK10
  clear hk10 hv10 hK10 x0 x1 xl hl10 hss10 HB9 HK9 HX9 HS9 HU9
  obtain ⟨x0, x1, xl⟩ := hx10.cell (List.mem_singleton.2 rfl)
  clear hx10
  have hxk : okK xFB := right_okK (by decide +kernel) (by decide +kernel)
  go_wp2_with fail
  refine update_bad_c xFB (s10, oS2) 3 6 w10 HK10.out hxk HS10.out (show oS2.l.length + 1 ≤ 1000 from by decide) (.inl (show mayB (stOf oS2) 6 = false from by decide)) _ (fun w11 hb11 => ?_)
  have HB11 := Lib.hid (HB10.out.trans (hb11.mono HB10.out.size))
  have HK11 := Lib.hid (HK10.out.below hb11)
  have hx11 := HX10.out.below hb11
  have HX11 := Lib.hid hx11
  clear hb11 x0 x1 xl HB10 HK10 HX10
  obtain ⟨x0, x1, xl⟩ := hx11.cell (List.mem_singleton.2 rfl)
  clear hx11
  go_wp2_with fail
  refine stream_c xFB (s10, oS2) w11 HK11.out hxk HS10.out _ (fun s12 w12 hb12 hs12 => ?_)
  have HB12 := Lib.hid hb12
  have HS12 := Lib.hid hs12
  clear hb12 hs12 x0 x1 xl
  go_wp2_with fail
  refine say_c w11.heap.size s12 oS2 (1, 2) 1 (by omega) (by omega) w12 HS12.out rfl rfl _ (fun w13 hk13 hs13 => ?_)
  have HB13 := Lib.hid (Kept.below HB12.out hk13 HB12.out.size (fun j hj => by rw [List.mem_singleton] at hj; rw [hj]; exact HS12.out.base))
  have HS13 := Lib.hid hs13
  clear hk13 hs13 HB12 HS12
  go_wp2_with fail
  refine ack_c w11.heap.size s12 _ (1, 2) 1 w13 HS13.out rfl rfl rfl _ (fun w14 hk14 _ => ?_)
  have hb14 := Kept.below HB13.out hk14 HB13.out.size (fun j hj => by rw [List.mem_singleton] at hj; rw [hj]; exact HS13.out.base)
  have HB14 := Lib.hid (HB11.out.trans (hb14.mono HB11.out.size))
  have HK14 := Lib.hid (HK11.out.below hb14)
  have hx14 := HX11.out.below hb14
  have HX14 := Lib.hid hx14
  clear hk14 hb14 HB13 HS13 HB11 HK11 HX11
  obtain ⟨x0, x1, xl⟩ := hx14.cell (List.mem_singleton.2 rfl)
  clear hx14
  go_wp2_with fail
  refine inside_c n 9 _ (by decide) (by decide) _ ?_
  have hm0 : 0 ≤ n % 9 := Int.emod_nonneg _ (by decide)
  have hm1 : n % 9 < 9 := Int.emod_lt_of_pos _ (by decide)
  obtain ⟨m, hm⟩ : ∃ m, m = n % 9 := ⟨_, rfl⟩
  rw [← hm] at hm0 hm1 ⊢
  clear hm
  have hw : IntKind.i64.wrap (2 + m) = 2 + m := Go.IntWalk.i64_in _ (by omega)
  go_wp2_with fail
  refine stream_c xFB (s10, oS2) w14 HK14.out hxk HS10.out _ (fun s15 w15 hb15 hs15 => ?_)
  have HB15 := Lib.hid (HB14.out.trans (hb15.mono HB14.out.size))
  have HK15 := Lib.hid (HK14.out.below hb15)
  have hx15 := HX14.out.below hb15
  have HX15 := Lib.hid hx15
  have HS15 := Lib.hid hs15
  clear hb15 hs15 x0 x1 xl HB14 HK14 HX14
  obtain ⟨x0, x1, xl⟩ := hx15.cell (List.mem_singleton.2 rfl)
  clear hx15
  go_wp2_with fail
  refine acked_c w14.heap.size s15 _ w15 HS15.out _ ?_
  clear HS15
  go_wp2_with fail
  refine ackk_bad_c xFB (s10, oS2) (2 + m) w15 HK15.out hxk HS10.out (fun u hu => by injection hu with hu; rw [← hu]; show (1 : Int) ≠ _; omega) _ (fun w16 hb16 => ?_)
  have HB16 := Lib.hid (HB15.out.trans (hb16.mono HB15.out.size))
  have HK16 := Lib.hid (HK15.out.below hb16)
  have hx16 := HX15.out.below hb16
  have HX16 := Lib.hid hx16
  clear hb16 x0 x1 xl HB15 HK15 HX15
  obtain ⟨x0, x1, xl⟩ := hx16.cell (List.mem_singleton.2 rfl)
  clear hx16
  go_wp2_with fail
  refine ackk_c xFB (by decide +kernel) (by decide +kernel) (s10, oS2) (1, 2) 1 w16 HK16.out HS10.out rfl rfl rfl (by omega) (by omega) (by have := HU10.out; omega) _ (fun v5 s17 w17 hk17 hv17 _ _ hK17 => ?_)
  have HU17 : Hid (usedL (mput l10 (logP xFB) v5) ≤ 29) := Lib.hid (by have h1 := used_grow HK16.out hK17 hv17; have h2 := HU10.out; have h3 : (recB [2, 1]).length = 4 := rfl; omega)
  have HB17 := Lib.hid (Kept.below HB16.out hk17 HB16.out.size (fun j hj => by simp at hj; rcases hj with rfl | rfl; exact Hnk.out.2.1; exact Hnk.out.2.2))
  have hx17 := HX16.out.kept hk17 (HK16.out.no2 _)
  have HS17 : Hid (mget (mput ss10 xFB (s17, oS3)) xFB = some (s17, oS3)) := Lib.hid (mget_mput _ _ _)
  have HX17 := Lib.hid hx17
  obtain ⟨l17, hl17⟩ : ∃ l17, l17 = mput l10 (logP xFB) v5 := ⟨_, rfl⟩
  obtain ⟨ss17, hss17⟩ : ∃ ss17, ss17 = mput ss10 xFB (s17, oS3) := ⟨_, rfl⟩
  have hK17 : KeepAt w17 k d mb sm 1000 l17 1 [er] ss17 := by rw [hl17, hss17]; exact hK17
  rw [← hl17] at HU17
  rw [← hss17] at HS17
  have HK17 := Lib.hid hK17
  clear hk17 hv17 hK17 x0 x1 xl hl17 hss17 HB16 HK16 HX16 HS10 HU10
  obtain ⟨x0, x1, xl⟩ := hx17.cell (List.mem_singleton.2 rfl)
  clear hx17
  go_wp2_with fail
  refine ackk_bad_c xFB (s17, oS3) 1 w17 HK17.out hxk HS17.out (fun u hu => by injection hu with hu; rw [← hu]; decide) _ (fun w18 hb18 => ?_)
  have HB18 := Lib.hid (HB17.out.trans (hb18.mono HB17.out.size))
  have HK18 := Lib.hid (HK17.out.below hb18)
  have hx18 := HX17.out.below hb18
  have HX18 := Lib.hid hx18
  clear hb18 x0 x1 xl HB17 HK17 HX17
  obtain ⟨x0, x1, xl⟩ := hx18.cell (List.mem_singleton.2 rfl)
  clear hx18
  go_wp2_with fail
  refine ackk_c xFB (by decide +kernel) (by decide +kernel) (s17, oS3) (2, 4) 2 w18 HK18.out HS17.out rfl rfl rfl (by omega) (by omega) (by have := HU17.out; omega) _ (fun v6 s19 w19 hk19 hv19 _ _ hK19 => ?_)
  have HB19 := Lib.hid (Kept.below HB18.out hk19 HB18.out.size (fun j hj => by simp at hj; rcases hj with rfl | rfl; exact Hnk.out.2.1; exact Hnk.out.2.2))
  have hx19 := HX18.out.kept hk19 (HK18.out.no2 _)
  have HS19 : Hid (mget (mput ss17 xFB (s19, oS4)) xFB = some (s19, oS4)) := Lib.hid (mget_mput _ _ _)
  have HX19 := Lib.hid hx19
  obtain ⟨l19, hl19⟩ : ∃ l19, l19 = mput l17 (logP xFB) v6 := ⟨_, rfl⟩
  obtain ⟨ss19, hss19⟩ : ∃ ss19, ss19 = mput ss17 xFB (s19, oS4) := ⟨_, rfl⟩
  have hK19 : KeepAt w19 k d mb sm 1000 l19 1 [er] ss19 := by rw [hl19, hss19]; exact hK19
  rw [← hss19] at HS19
  have HK19 := Lib.hid hK19
  clear hk19 hv19 hK19 x0 x1 xl hl19 hss19 HB18 HK18 HX18 HS17 HU17
  obtain ⟨x0, x1, xl⟩ := hx19.cell (List.mem_singleton.2 rfl)
  clear hx19
  go_wp2_with fail
  refine ackk_bad_c xFB (s19, oS4) 3 w19 HK19.out hxk HS19.out (fun u hu => by cases hu) _ (fun w20 hb20 => ?_)
  have HB20 := Lib.hid (HB19.out.trans (hb20.mono HB19.out.size))
  have HK20 := Lib.hid (HK19.out.below hb20)
  have hx20 := HX19.out.below hb20
  clear hb20 x0 x1 xl HB19 HK19 HX19
  obtain ⟨x0, x1, xl⟩ := hx20.cell (List.mem_singleton.2 rfl)
  clear hx20
  go_wp2_with fail
  refine stream_c xFB (s19, oS4) w20 HK20.out hxk HS19.out _ (fun s21 w21 hb21 hs21 => ?_)
  have HB21 := Lib.hid (HB20.out.trans (hb21.mono HB20.out.size))
  have HS21 := Lib.hid hs21
  clear hb21 hs21 x0 x1 xl HB20 HK20
  go_wp2_with fail
  refine closed_c w20.heap.size s21 oS4 w21 HS21.out (by decide) rfl _ (fun w22 hb22 => ?_)
  have HB22 := Lib.hid (HB21.out.trans (hb22.mono HB21.out.size))
  clear hb22 HB21 HS21
  go_wp2_with fail
  refine wakes14_c w22 _ (fun w23 hb23 => ?_)
  have HB23 := Lib.hid (H.out _ (HB22.out.trans (hb23.mono HB22.out.size)))
  clear hb23
  go_wp2_with fail
  exact HB23.out
end Go.Proofs.YtdmcponfodohaaaGreatDoor
