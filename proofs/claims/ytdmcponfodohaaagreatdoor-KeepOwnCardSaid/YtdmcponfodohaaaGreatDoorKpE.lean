/-
  package keep: Open of a disk that has no files.
-/
import Derived.Test.YtdmcponfodohaaaGreatDoorGk
namespace Go.Proofs.YtdmcponfodohaaaGreatDoor
open Go.RowKit Go.Shelf Go.ChangeMaps Go.MapKept
set_option maxRecDepth 100000

theorem numB_small (n : Int) (h0 : 0 ≤ n) (h1 : n < 128) : numB n = [n] := by
  unfold numB
  rw [if_neg (by omega)]
  unfold numN
  rw [dif_pos (by omega)]
  simp; omega
section
variable {k d mb sm : Nat} {q : Int} {l : List (ByteArray × FV)} {ep : Int} {es : List ER} {ss : SM}
set_option maxHeartbeats 2000000 in
theorem begin_new_c (w : World) (hK : KeepAt w k d mb sm q l 0 es ss) (hno : mget l pEpoch = none) (hfree : mget l (tempOf pEpoch) = none) (hroom : 1 ≤ q - (usedL l : Int)) (R : Ending → World → Prop)
    (h : ∀ v w', Kept [k, mb] w w' → v.b = [1] → KeepAt w' k d mb sm q (mput l pEpoch v) 1 es ss → R (.returned (.int .i64 0)) w') :
    Calls Tryz.prog 55 #[.pointer (some ⟨k, 0, none⟩)] w R := by
  have H := Lib.hid h
  have HK := Lib.hid hK
  obtain ⟨A, c, c0, c1, c2, c3, c4, z1, z2, z4, _⟩ := hK.cells
  have hlt := hK.lt.1
  have Hno := Lib.hid hno
  have Hful : Hid (full pEpoch) := Lib.hid (by unfold full; decide +kernel)
  clear h hK hno
  go_enter Tryz.func55, Tryz.ntmps55
  go_wp2_with fail
  go_region_with (first
    | (go_at_call 88; refine pathEpoch_c _ _ ?_)
    | (go_at_call 16; refine read_c d mb q l pEpoch _ HK.out.drew.disk (by decide) _ (fun A' c' w1 hB1 _ _ => ?_); rw [Hno.out]; have HK1 : Hid (KeepAt w1 k d mb sm q l 0 es ss) := Lib.hid (HK.out.drew.below hB1); have HB1 : Hid (Below w.heap.size w w1) := Lib.hid ((Below.refl _ _).drew.trans hB1); obtain ⟨A1, C1, x0, x1, x2, x3, x4, y1, y2, y4, _⟩ := HK1.out.cells; have hlt1 := HK1.out.lt.1; clear hB1))
  all_goals go_wp2_with fail
  all_goals
    have hkE : Kept [k] w1 (w1.setCell ⟨k, 1, none⟩ (.int .i64 1)) := (Kept.refl [k] w1).setCell (by simp) _
    have hKE : KeepAt (w1.setCell ⟨k, 1, none⟩ (.int .i64 1)) k d mb sm q l 1 es ss := HK1.out.own hkE (fun A c hb => by simp [World.setCell, Array.getElem?_modify, hb])
    clear x0 x1 x2 x3 x4 y1 y2 y4 hlt1
    generalize w1.setCell ⟨k, 1, none⟩ (.int .i64 1) = wE at hkE hKE ⊢
    have HkE := Lib.hid hkE
    have HKE := Lib.hid hKE
    obtain ⟨A1, C1, x0, x1, x2, x3, x4, y1, y2, y4, _⟩ := hKE.cells
    have hlt1 := hKE.lt.1
    clear hkE hKE
    go_region_with (first
      | (go_at_call 88; refine pathEpoch_c _ _ ?_)
      | (go_at_call 47; refine codeNumber_c 1 _ _ (fun v2 w2 hB2 hown => ?_); rw [numB_small 1 (by decide) (by decide)] at hown; obtain ⟨A2, c2, rfl, hr2, _⟩ := own_rd hown; have HK2 : Hid (KeepAt w2 k d mb sm q l 1 es ss) := Lib.hid (HKE.out.drew.below hB2); have HB2 : Hid (Kept [k] w w2) := Lib.hid ((Kept.of_below HB1.out).trans (HkE.out.trans (Kept.of_below ((Below.refl _ _).drew.trans hB2)))); have HR2 := Lib.hid hr2; obtain ⟨A3, C3, v0, v1, v2, v3, v4, u1, u2, u4, _⟩ := HK2.out.cells; have hlt2 := HK2.out.lt.1; clear hB2 hown hr2)
      | (go_at_call 67; refine write_c d mb q l pEpoch A2 1 c2 [1] w2 HK2.out.disk Hful.out (by decide) HR2.out hroom hfree _ (fun f w3 hk3 hfb _ _ hD3 => ?_); have HH := Lib.hid (H.out f w3 ((HB2.out.mono (S' := [k, mb]) (by simp)).trans (hk3.mono (S' := [k, mb]) (by simp))) hfb (HK2.out.files hk3 hD3)); clear hk3 hfb hD3))
    all_goals
      go_wp2_with fail
      refine bodyPost_ret (results_tmp rfl _ _ _) rfl ?_
      exact HH.out
end
end Go.Proofs.YtdmcponfodohaaaGreatDoor
