/-
  package keep: load and Open of a disk that has no files; Open's frame.
-/
import Derived.Test.YtdmcponfodohaaaGreatDoorKpE
namespace Go.Proofs.YtdmcponfodohaaaGreatDoor
open Go.RowKit Go.Shelf Go.ChangeMaps Go.MapKept
set_option maxRecDepth 100000

theorem mget_cons {κ ν : Type} [DecidableEq κ] (l : List (κ × ν)) (a k : κ) (v : ν) : mget ((a, v) :: l) k = if a = k then some v else mget l k := by
  unfold mget
  rw [List.find?_cons]
  by_cases h : a = k
  · simp [h]
  · simp [h]
theorem mget_cons_ne {κ ν : Type} [DecidableEq κ] {l : List (κ × ν)} {a k : κ} {v : ν} (h : a ≠ k) : mget ((a, v) :: l) k = mget l k := by rw [mget_cons, if_neg h]
theorem Kept.drop1 {a : Nat} {S : List Nat} {w0 w w2 : World} (hb : Below w0.heap.size w0 w) (h : Kept (a :: S) w w2) (ha : w0.heap.size ≤ a) : Kept S w0 w2 :=
  ⟨h.os.trans hb.os, h.tape.trans hb.tape, h.output.trans hb.output, Nat.le_trans hb.size h.size, fun k hk hs => (h.block k (Nat.lt_of_lt_of_le hk hb.size) (fun e => (List.mem_cons.1 e).elim (fun e => by omega) (fun e => hs e))).trans (hb.block k hk)⟩
section
variable {k d mb sm : Nat} {q : Int} {l : List (ByteArray × FV)} {ep : Int} {es : List ER} {ss : SM}
theorem load_none_c (w : World) (hK : KeepAt w k d mb sm q l ep [] ss) (hno : mget l (pAdmit 1) = none) (R : Ending → World → Prop)
    (h : ∀ w', Below w.heap.size w w' → R (.returned (.int .i64 0)) w') :
    Calls Tryz.prog 56 #[.pointer (some ⟨k, 0, none⟩)] w R := by
  have H := Lib.hid h
  have HK := Lib.hid hK
  obtain ⟨A, c, c0, c1, c2, c3, c4, z1, z2, z4, _⟩ := hK.cells
  have hlt := hK.lt.1
  have Hno := Lib.hid hno
  clear h hK hno
  go_enter Tryz.func56, Tryz.ntmps56
  go_wp2_with fail
  go_loopw [3] (fun i wr => i = .int .i64 1 ∧ wr = w) (fun _ _ => 0)
  case atStart => exact ⟨rfl, rfl⟩
  case round =>
    obtain ⟨rfl, rfl⟩ := hrel
    go_wp2_with fail
    go_region_with (first
      | (go_at_call 41; refine pathAdmit_c 1 (.inl rfl) _ _ ?_)
      | (go_at_call 16; refine read_c d mb q l (pAdmit 1) _ HK.out.drew.disk (by decide) _ (fun A' c' w1 hB1 _ _ => ?_); rw [Hno.out]; have HB1 := Lib.hid (H.out _ ((Below.refl _ _).drew.trans hB1)); clear hB1))
    all_goals go_wp2_with fail
    all_goals exact HB1.out

theorem KeepAt.fresh {w : World} (hD : DiskAt w d mb q []) : KeepAt ((w.alloc (.map #[] 0)).alloc (.cells #[.pointer (some ⟨d, 0, none⟩), .int .i64 0, .slice none 0 0, .map (some w.heap.size), .bool false] 74)) (w.heap.size + 1) d mb w.heap.size q [] 0 [] [] := by
  have hb : Below w.heap.size w ((w.alloc (.map #[] 0)).alloc (.cells #[.pointer (some ⟨d, 0, none⟩), .int .i64 0, .slice none 0 0, .map (some w.heap.size), .bool false] 74)) := ((Below.refl _ _).alloc (Nat.le_refl _) _).alloc (by simp) _
  refine ⟨⟨none, 0, heap_alloc2_new w _ _, by simp [erC], .inl ⟨rfl, rfl⟩⟩, hD.below hb, (MapAt.new w _ _ _).same (heap_alloc_old _ _ (by simp)), fun p hp => absurd hp List.not_mem_nil, fun p hp => absurd hp List.not_mem_nil, by simp, ?_, fun _ => by rw [cell_of_row _ _ _ _ _ _ (heap_alloc2_new w _ _)]; rfl⟩
  have := hD.lt.2
  omega

theorem open_new_c (d mb : Nat) (q : Int) (hq : 1 ≤ q) (w : World) (hD : DiskAt w d mb q []) (R : Ending → World → Prop)
    (h : ∀ k sm v w', Kept [mb] w w' → v.b = [1] → w.heap.size ≤ k → w.heap.size ≤ sm → KeepAt w' k d mb sm q [(pEpoch, v)] 1 [] [] → R (.returned (.tuple #[.pointer (some ⟨k, 0, none⟩), .int .i64 0])) w') :
    Calls Tryz.prog 15 #[.pointer (some ⟨d, 0, none⟩)] w R := by
  have H := Lib.hid h
  have HD := Lib.hid hD
  have hmm := @run_makeMap Tryz.prog
  clear h hD
  go_enter Tryz.func15, Tryz.ntmps15
  go_wp2_with fail
  have hK0 := KeepAt.fresh HD.out
  have hb0 : Below w.heap.size w ((w.alloc (.map #[] 0)).alloc (.cells #[.pointer (some ⟨d, 0, none⟩), .int .i64 0, .slice none 0 0, .map (some w.heap.size), .bool false] 74)) := ((Below.refl _ _).alloc (Nat.le_refl _) _).alloc (by simp) _
  refine clean_c d mb q [] _ hK0.disk (by simp) (fun p hp => absurd hp List.not_mem_nil) _ (fun w1 hb1 => ?_)
  have HK1 := Lib.hid (hK0.below hb1)
  have HB1 := Lib.hid (hb0.trans (hb1.mono hb0.size))
  clear hK0 hb0 hb1 hmm
  go_wp2_with fail
  refine begin_new_c w1 HK1.out rfl rfl (by simpa [usedL] using hq) _ (fun v w2 hk2 hv hK2 => ?_)
  have HK2 : Hid (KeepAt w2 (w.heap.size + 1) d mb w.heap.size q [(pEpoch, v)] 1 [] []) := Lib.hid hK2
  have Hk2 := Lib.hid hk2
  have Hv := Lib.hid hv
  clear hk2 hv hK2
  go_wp2_with fail
  refine load_none_c w2 HK2.out ((mget_cons_ne (by decide +kernel)).trans rfl) _ (fun w3 hb3 => ?_)
  have HK3 := Lib.hid (HK2.out.below hb3)
  have HB3 := Lib.hid hb3
  obtain ⟨A, c, c0, c1, c2, c3, c4, z1, z2, z4, _⟩ := HK3.out.cells
  have hlt := HK3.out.lt.1
  clear hb3
  go_wp2_with fail
  go_loopw [35] (fun i wr => i = .int .i64 0 ∧ wr = w3) (fun _ _ => 0)
  case atStart => exact ⟨rfl, rfl⟩
  case round =>
    obtain ⟨rfl, rfl⟩ := hrel
    go_wp2_with fail
    exact H.out (w.heap.size + 1) w.heap.size v _ (Kept.drop1 HB1.out (Hk2.out.trans (Kept.of_below HB3.out)) (Nat.le_succ _)) Hv.out (Nat.le_succ _) (Nat.le_refl _) HK3.out
end
end Go.Proofs.YtdmcponfodohaaaGreatDoor
