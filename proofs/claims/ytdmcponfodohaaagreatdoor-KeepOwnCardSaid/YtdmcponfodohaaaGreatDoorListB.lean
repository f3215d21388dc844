/-
  disk.List where no path begins so; hostlerkeep.Same at strings.
-/
import Derived.Test.YtdmcponfodohaaaGreatDoorGh
import Derived.Test.YtdmcponfodohaaaGreatDoorGc
import Derived.Lib.SliceRun
namespace Go.Proofs.YtdmcponfodohaaaGreatDoor
open Go.RowKit Go.Shelf Go.ChangeMaps Go.MapKept
set_option maxRecDepth 100000

theorem below_setCells (B b : Nat) (hb : B ≤ b) : ∀ (vs : List Value) (o : Nat) (w0 w : World), Below B w0 w → Below B w0 (w.setCells b o vs)
  | [], _, _, _, h => h
  | v :: vs, o, w0, w, h => by
    have h2 := h.setCell (p := ⟨b, o, none⟩) hb v
    exact below_setCells B b hb vs (o + 1) w0 _ h2
theorem zero_str (w : World) : (zeroValue 9).run Tryz.prog w = .ok (.string ⟨#[]⟩) w := by kernel_rfl
theorem indexFuncS1_c (A : Option Addr) (n c : Nat) (l : List ByteArray) (p : ByteArray → Bool) (g : Nat) (caps : Array Value) (hcf : ∀ (args : Array Value) (w : World), (callFunc g args).run Tryz.prog w = .ok (.enter g args) w) (w : World) (hS : StrsAt w A n l) (hn : n ≤ 1000000) (h0 : 0 < n)
    (hT : TellsS g caps w l p) (hall : ∀ x ∈ l, p x = true) (R : Ending → World → Prop) (h : R (.returned (.int .i64 0)) w) :
    Calls Tryz.prog 100 #[.slice A n c, .func (.func g) #[] caps] w R := by
  have HT := Lib.hid hT
  have H := Lib.hid h
  have Hall := Lib.hid hall
  clear h hT hall
  obtain ⟨b, o, x, rfl, hx, hb, hc1⟩ := hS.at_ h0
  have hxm := List.mem_of_getElem? hx
  have hn0 : (0 : Int) < (n : Int) := by omega
  rw [Nat.add_zero] at hc1
  clear hx
  go_enter Tryz.func100, Tryz.ntmps100
  go_wp2_with fail
  go_loop [8] (fun i => i = .int .i64 0) (fun _ => 0)
  case atStart => exact rfl
  case round =>
    subst hrel
    go_wp2_with fail
    refine HT.out x hxm w _ (Below.refl _ _) ?_
    rw [Hall.out x hxm]
    go_wp2_with fail
    exact H.out
theorem deleteAll_c (A : Option Addr) (n c : Nat) (l : List ByteArray) (p : ByteArray → Bool) (g : Nat) (caps : Array Value) (hcf : ∀ (args : Array Value) (w : World), (callFunc g args).run Tryz.prog w = .ok (.enter g args) w) (w : World) (B : Nat) (hS : StrsAt w A n l) (hn : n ≤ 1000000) (h0 : 0 < n) (hnc : n ≤ c)
    (hA : ∀ a, A = some a → B ≤ a.block ∧ w.frozen? a = false ∧ ∀ j, j < n → w.frozen? ⟨a.block, a.off + j, none⟩ = false)
    (hT : TellsS g caps w l p) (hall : ∀ x ∈ l, p x = true) (R : Ending → World → Prop) (h : ∀ w', Below B w w' → R (.returned (.slice A 0 c)) w') :
    Calls Tryz.prog 69 #[.slice A n c, .func (.func g) #[] caps] w R := by
  have HT := Lib.hid hT
  have H := Lib.hid h
  have Hall := Lib.hid hall
  have HS := Lib.hid hS
  obtain ⟨b, o, x, rfl, hx, hb, hc1⟩ := hS.at_ h0
  obtain ⟨hB, _, hfr⟩ := hA _ rfl
  simp only at hB hfr
  have hcl : ∀ ty, (Builtin.clear_ #[63] ty #[.slice (some ⟨b, o, none⟩) n c]).run Tryz.prog w = .ok (.tuple #[]) (w.setCells b o (List.replicate n (.string ⟨#[]⟩))) :=
    fun ty => Lib.run_clear_slice w _ _ ty _ Tryz.underlying63 zero_str rfl rfl b o n c h0 (fun j hj => by
      obtain ⟨b', o', y, e, _, _, hc⟩ := HS.out.at_ hj
      injection e with e
      injection e with e1 e2
      subst e1 e2
      rw [hc]
      rfl) hfr
  have HB := Lib.hid hB
  have Hcl := Lib.hid hcl
  clear h hT hall hS hx hcl hfr hA hB hc1
  have hn0 : (0 : Int) < (n : Int) := by omega
  go_enter Tryz.func69, Tryz.ntmps69
  go_wp2_with fail
  refine indexFuncS1_c _ n c l p g caps hcf w HS.out hn h0 HT.out Hall.out _ ?_
  go_wp2_with fail
  go_loop [5, 6, 7] (fun i j _ => i = .int .i64 0 ∧ ∃ k : Nat, 1 ≤ k ∧ k ≤ n ∧ j = .int .i64 k) (fun _ j _ => n - (RowKit.intOf j).toNat)
  case atStart => exact ⟨rfl, 1, Nat.le_refl _, h0, rfl⟩
  case round =>
    obtain ⟨rfl, k, hk1, hk, rfl⟩ := hrel
    by_cases hlt : k < n
    · obtain ⟨b', o', y, e, hy, _, hc2⟩ := HS.out.at_ hlt
      injection e with e
      injection e with e1 e2
      subst e1 e2
      have hym := List.mem_of_getElem? hy
      clear hy
      have hltI : (k : Int) < (n : Int) := by omega
      go_wp2_with fail
      refine HT.out y hym w _ (Below.refl _ _) ?_
      rw [Hall.out y hym]
      go_wp2_with fail
      exact ⟨⟨rfl, k + 1, by omega, by omega, by go_num⟩, by simp [RowKit.intOf]; omega⟩
    · have t1 : decide (k < n) = false := by simp [hlt]
      have hcl := Hcl.out
      have hc0 : (c = 0) = False := eq_false (by omega)
      go_wp2_with fail
      exact H.out _ (below_setCells B b HB.out _ _ _ _ (Below.refl _ _))
set_option maxHeartbeats 1000000 in
theorem list_none_c (pre : ByteArray) (d mb : Nat) (q : Int) (l : List (ByteArray × FV)) (w : World) (hD : DiskAt w d mb q l) (hl : l.length ≤ 1000) (h0 : 0 < l.length) (hno : ∀ p ∈ l, Lib.hasPrefix p.1.data.toList pre.data.toList = false) (R : Ending → World → Prop)
    (h : ∀ A c w', Below w.heap.size w w' → R (.returned (.slice A 0 c)) w') :
    Calls Tryz.prog 32 #[.pointer (some ⟨d, 0, none⟩), .string pre] w R := by
  have H := Lib.hid h
  have Hno := Lib.hid hno
  have hB0 : Below w.heap.size w (w.alloc (.cells #[.string pre] 9)) := (Below.refl _ _).alloc (Nat.le_refl _) _
  have hD0 := hD.below hB0
  obtain ⟨c0, c1, c2, c3⟩ := hD0.cells
  have hlt := hD.lt
  obtain ⟨nn, D0, hown, hmx, hby, hkeys⟩ := disk_own hD0 hl
  have Hown := Lib.hid hown
  have Hkeys := Lib.hid hkeys
  have Hmx := Lib.hid hmx
  have Hby := Lib.hid hby
  have HB0 := Lib.hid hB0
  clear h hD hD0 hown hkeys hmx hby hB0 hno
  go_enter Tryz.func32, Tryz.ntmps32
  go_wp2_with fail
  refine (callsIn_wide.1 (Tryz.maps_Keys_71 (some mb) _)).mono ?_
  rintro e w' ⟨rfl, rfl⟩
  go_wp2_with fail
  have hS := callsIn_wide.1 (Tryz.slices_Sorted_keys_70_71 mb nn D0 anyR _ Hown.out Hmx.out Hby.out)
  rw [World.size_alloc] at hS
  have HS := Lib.hid hS
  clear hS
  refine HS.out.mono ?_
  rintro e w2 ⟨v, ss, rfl, hperm, hrow, _, hb⟩
  have hsrt : ss.mergeSort (fun x y => decide (x ≤ y)) = sortedB l := mergeSort_of_perm (hperm.trans Hkeys.out)
  have hln : ss.length = l.length := by
    have h1 := (hperm.trans Hkeys.out).length_eq
    rw [h1]
    simp [keysB]
  rw [hsrt, hln] at hrow
  obtain ⟨A, c, rfl, hst⟩ := enc_strs hrow (by unfold sortedB; rw [List.length_mergeSort]; simp [keysB])
  have HB2 := Lib.hid (HB0.out.trans ((((Below.refl _ _).alloc (Nat.le_refl _) _).trans (hb.mono (by simp))).mono HB0.out.size))
  have hX : w2.heap[w.heap.size]? = some (.cells #[.string pre] 9) := (hb.block _ (by simp; omega)).trans (heap_alloc2_old w _ _)
  have Hst := Lib.hid hst
  have HX := Lib.hid hX
  have hA : ∀ a, A = some a → w.heap.size ≤ a.block ∧ w2.frozen? a = false ∧ ∀ j, j < l.length → w2.frozen? ⟨a.block, a.off + j, none⟩ = false := fun a ha => by
    subst ha
    rcases hrow.2 with ⟨e, _⟩ | ⟨g, cap, cur, e, hg, hh, _⟩
    · injection e with e; cases e
    · injection e with e _ _
      injection e with e
      subst e
      have : w.heap.size ≤ g := by simp at hg; omega
      exact ⟨this, by simp [World.frozen?, hh], fun j _ => by simp [World.frozen?, hh]⟩
  have hnc : l.length ≤ c := by
    obtain ⟨A1, c1, e, _, h⟩ := own_rd hrow
    injection e with _ _ e
    rw [e]
    exact h
  have HA := Lib.hid hA
  have Hnc := Lib.hid hnc
  clear hperm hrow hb hsrt hln hX hst c0 c1 c2 c3 hA hnc
  go_wp2_with fail
  have hT : TellsS 72 #[.pointer (some ⟨w.heap.size, 0, none⟩)] w2 ((sortedB l).map fun x => ⟨x.toArray⟩) (fun x => !(Lib.hasPrefix x.data.toList pre.data.toList)) := fun x _ W R' hW hh => by
    have hXW := (hW.block _ (Array.getElem?_eq_some_iff.1 HX.out).1).trans HX.out
    exact listPre_c x pre w.heap.size W (by rw [cell_of_row _ _ _ _ _ _ hXW]; rfl) (Array.getElem?_eq_some_iff.1 hXW).1 R' hh
  refine deleteAll_c A l.length c _ _ 72 _ cfL w2 w.heap.size Hst.out (by omega) h0 Hnc.out HA.out hT (fun x hx => ?_) _ (fun w3 hB3 => ?_)
  · obtain ⟨y, hy, rfl⟩ := List.mem_map.1 hx
    obtain ⟨p, hp, e⟩ := sorted_mem hy
    show (!(Lib.hasPrefix y pre.data.toList)) = true
    rw [← e, Hno.out p hp]
    rfl
  have HH := Lib.hid (H.out A c w3 (HB2.out.trans hB3))
  clear hB3 hT
  go_wp2_with fail
  exact HH.out

theorem sameStr_c (A B : Option Addr) (n c d : Nat) (xs : List ByteArray) (w : World) (hx : StrsAt w A n xs) (hy : StrsAt w B n xs) (hn : n ≤ 1000000) (R : Ending → World → Prop)
    (h : ∀ w', Below w.heap.size w w' → R (.returned (.bool true)) w') : Calls Tryz.prog 31 #[.slice A n c, .slice B n d] w R := by
  have H := Lib.hid h
  have Hx := Lib.hid hx
  have Hy := Lib.hid hy
  have t0 : ((n : Int) == (n : Int)) = true := by simp
  clear h hx hy
  go_enter Tryz.func31, Tryz.ntmps31
  go_wp2_with fail
  go_loopw [5] (fun i wr => ∃ k : Nat, k ≤ n ∧ i = .int .i64 k ∧ Below w.heap.size w wr) (fun i _ => n - (RowKit.intOf i).toNat)
  case atStart => exact ⟨0, by omega, rfl, Below.refl _ _⟩
  case round =>
    obtain ⟨k, hk, rfl, hB⟩ := hrel
    by_cases hc : k < n
    · have t1 : decide (k < n) = true := by simp; omega
      obtain ⟨g, o, s, rfl, hu, hg, hcell⟩ := (Hx.out.below hB).at_ hc
      obtain ⟨g', o', s', rfl, hu', hg', hcell'⟩ := (Hy.out.below hB).at_ hc
      obtain rfl : s = s' := by rw [hu] at hu'; injection hu'
      have t2 : (s.toList == s.toList) = true := by simp
      have t3 : (s.toList != s.toList) = false := by simp
      have hcn := Lib.hid hc
      clear hu hu'
      go_wp2_with fail
      go_region
      go_wp2_with fail
      exact ⟨⟨k + 1, by have := hcn.out; omega, by go_num, hB.drew⟩, by have := hcn.out; simp [RowKit.intOf]; omega⟩
    · have t1 : decide (k < n) = false := by simp; omega
      clear hc
      go_wp2_with fail
      exact H.out _ hB
end Go.Proofs.YtdmcponfodohaaaGreatDoor
