/-
  admit.Known: the first of some entries that has a task.
-/
import Derived.Test.YtjndigkphoiohaaDoorAdmPack
import Derived.Outline
namespace Go.Proofs.YtjndigkphoiohaaDoor
open Go.RowKit Go.Shelf
set_option maxRecDepth 100000

structure Ent where
  f : ByteArray
  e : ByteArray
  r : Int
  items : List Itm
def EntsAt (w : World) (A : Option Addr) (n : Nat) (L : List Ent) : Prop :=
  L.length = n ∧ (0 < n → ∃ b o, A = some ⟨b, o, none⟩ ∧ b < w.heap.size ∧ ∀ j x, L[j]? = some x → ∃ B c, w.cell? ⟨b, o + j * 4, none⟩ = some (.string x.f) ∧ w.cell? ⟨b, o + j * 4 + 1, none⟩ = some (.string x.e) ∧ w.cell? ⟨b, o + j * 4 + 2, none⟩ = some (.int .i64 x.r) ∧
    w.cell? ⟨b, o + j * 4 + 3, none⟩ = some (.slice B x.items.length c) ∧ ItmsAt w B x.items.length x.items ∧ x.items.length ≤ 1000000)
theorem EntsAt.at_ {w : World} {A : Option Addr} {n : Nat} {L : List Ent} (h : EntsAt w A n L) {k : Nat} (hk : k < n) : ∃ b o x B c, A = some ⟨b, o, none⟩ ∧ L[k]? = some x ∧ b < w.heap.size ∧ w.cell? ⟨b, o + k * 4, none⟩ = some (.string x.f) ∧ w.cell? ⟨b, o + k * 4 + 1, none⟩ = some (.string x.e) ∧ w.cell? ⟨b, o + k * 4 + 2, none⟩ = some (.int .i64 x.r) ∧
    w.cell? ⟨b, o + k * 4 + 3, none⟩ = some (.slice B x.items.length c) ∧ ItmsAt w B x.items.length x.items ∧ x.items.length ≤ 1000000 := by
  obtain ⟨b, o, e, hb, hc⟩ := h.2 (by omega)
  have hl : k < L.length := by have := h.1; omega
  obtain ⟨B, c, h1⟩ := hc k _ (List.getElem?_eq_getElem hl)
  exact ⟨b, o, _, B, c, e, List.getElem?_eq_getElem hl, hb, h1⟩
theorem EntsAt.below {w w' : World} {A : Option Addr} {n : Nat} {L : List Ent} (h : EntsAt w A n L) (hb : Below w.heap.size w w') : EntsAt w' A n L :=
  ⟨h.1, fun h0 => by
    obtain ⟨b, o, e, hlt, hc⟩ := h.2 h0
    refine ⟨b, o, e, Nat.lt_of_lt_of_le hlt hb.size, fun j x hx => ?_⟩
    obtain ⟨B, c, h1, h2, h3, h4, h5, h6⟩ := hc j x hx
    exact ⟨B, c, (hb.cell (p := ⟨b, _, none⟩) hlt).trans h1, (hb.cell (p := ⟨b, _, none⟩) hlt).trans h2, (hb.cell (p := ⟨b, _, none⟩) hlt).trans h3, (hb.cell (p := ⟨b, _, none⟩) hlt).trans h4, h5.below hb, h6⟩⟩

theorem known1_c (x : Itm) (kb : Nat) (t : ByteArray) (w : World) (hk : w.cell? ⟨kb, 1, none⟩ = some (.string t)) (hlt : kb < w.heap.size) (R : Ending → World → Prop) (h : ∀ w', Below w.heap.size w w' → R (.returned (.bool (x.t.toList == t.toList))) w') :
    Calls Tryd.prog 38 #[itmV x, .pointer (some ⟨kb, 0, none⟩)] w R := by
  have H := Lib.hid h
  clear h
  unfold itmV
  go_enter Tryd.func38, Tryd.ntmps38
  go_wp2_with fail
  exact H.out _ ((Below.refl _ _).alloc (Nat.le_refl _) _)

theorem results_tct {fn : Func} {p u v : Tmp} {ty : TypeId} (h : fn.results = #[.tmp u, .cell p ty, .tmp v]) {P : Program} (tmps : Array Value) (w : World) (a : Addr) (x : Value)
    (hp : tmps.getD p undef = .pointer (some a)) (hl : (loadVar ty a).run P w = .ok x w) :
    (results fn tmps).run P w = .ok (.tuple #[tmps.getD u undef, x, tmps.getD v undef]) w := by
  have hp' : tmps[p]?.getD undef = .pointer (some a) := by simpa using hp
  simp [results, h, hp', asAddr, hl, Result.andThen]

theorem no_more {L : List Ent} {p : Ent → Bool} {k : Nat} {x : Ent} (h : ∀ (k' : Nat) (y : Ent), k' < k → L[k']? = some y → p y = false) (hx : L[k]? = some x) (hp : p x = false) : ∀ (k' : Nat) (y : Ent), k' < k + 1 → L[k']? = some y → p y = false := by
  intro k' y hk hy
  by_cases e : k' < k
  · exact h k' y e hy
  · have : k' = k := by omega
    subst this
    rw [hx] at hy
    injection hy with hy
    rw [← hy]
    exact hp
theorem idx_some {p : Itm → Bool} {l : List Itm} (h : 0 ≤ idxS p l) : ∃ (j : Nat) (y : Itm), idxS p l = j ∧ l[j]? = some y ∧ j < l.length := by
  unfold idxS at h ⊢
  split at h
  · rename_i i hi
    have := (List.findIdx?_eq_some_iff_getElem.1 hi).1
    exact ⟨i, l[i], rfl, List.getElem?_eq_getElem this, this⟩
  · omega
def byT (t : ByteArray) (x : Itm) : Bool := x.t.toList == t.toList
def hit (f t : ByteArray) (e : Ent) : Bool := (e.f.toList == f.toList) && decide (0 ≤ idxS (byT t) e.items)
theorem cfK : ∀ (args : Array Value) (w : World), (callFunc 38 args).run Tryd.prog w = .ok (.enter 38 args) w := fun args w => by kernel_rfl
theorem known_c (A : Option Addr) (n c : Nat) (L : List Ent) (f t : ByteArray) (w : World) (hE : EntsAt w A n L) (hn : n ≤ 1000000) (R : Ending → World → Prop)
    (hnone : (∀ e ∈ L, hit f t e = false) → ∀ w', Below w.heap.size w w' → R (.returned (.tuple #[.int .i64 0, .agg #[.string ⟨#[]⟩, .complex .f64 0 0], .bool false])) w')
    (hsome : ∀ (i : Nat) (e : Ent) (j : Nat) (x : Itm), L[i]? = some e → hit f t e = true → (∀ (k : Nat) (y : Ent), k < i → L[k]? = some y → hit f t y = false) → e.items[j]? = some x → idxS (byT t) e.items = j → ∀ w', Below w.heap.size w w' → R (.returned (.tuple #[.int .i64 i, itmV x, .bool true])) w') :
    Calls Tryd.prog 17 #[.slice A n c, .agg #[.string f, .string t]] w R := by
  have Hnone := Lib.hid hnone
  have Hsome := Lib.hid hsome
  have HE := Lib.hid hE
  clear hnone hsome hE
  go_enter Tryd.func17, Tryd.ntmps17
  go_wp2_with fail
  have hB0 : Below w.heap.size w ((w.alloc (.cells #[.string f, .string t] 50)).alloc (.cells #[.string ⟨#[]⟩, .complex .f64 0 0] 25)) := ((Below.refl _ _).alloc (Nat.le_refl _) _).alloc (by simp) _
  go_loopw [12] (fun i wr => ∃ k : Nat, k ≤ n ∧ i = .int .i64 k ∧ Below w.heap.size w wr ∧ wr.heap[w.heap.size]? = some (.cells #[.string f, .string t] 50) ∧ wr.heap[w.heap.size + 1]? = some (.cells #[.string ⟨#[]⟩, .complex .f64 0 0] 25) ∧ Hid (∀ (k' : Nat) (y : Ent), k' < k → L[k']? = some y → hit f t y = false)) (fun i _ => n - (RowKit.intOf i).toNat)
  case atStart => exact ⟨0, by omega, rfl, hB0, heap_alloc2_old w _ _, heap_alloc2_new w _ _, Lib.hid (fun k' y h => by omega)⟩
  case round =>
    obtain ⟨k, hk, rfl, hB, hK, hI, Hno⟩ := hrel
    clear hB0
    by_cases hc : k < n
    · have t1 : decide (k < n) = true := by simp; omega
      obtain ⟨b, o, x, B, c', rfl, hx, hb, h1, h2, h3, h4, h5, h6⟩ := (HE.out.below hB).at_ hc
      have HI5 := Lib.hid h5
      have Hx := Lib.hid hx
      have Hc := Lib.hid hc
      have hlt0 : w.heap.size < wr.heap.size := (Array.getElem?_eq_some_iff.1 hK).1
      have HB := Lib.hid hB
      have HK := Lib.hid hK
      have HI := Lib.hid hI
      clear h5 hx hc hB hK hI
      go_wp2_with fail
      have hBe : Below wr.heap.size wr (wr.alloc (.cells #[.string x.f, .string x.e, .int .i64 x.r, .slice B x.items.length c'] 39)) := (Below.refl _ _).alloc (Nat.le_refl _) _
      have HT : Hid (Tells 38 #[.pointer (some ⟨w.heap.size, 0, none⟩)] (wr.alloc (.cells #[.string x.f, .string x.e, .int .i64 x.r, .slice B x.items.length c'] 39)) x.items (byT t)) := Lib.hid (fun y hy W R' hW hh => by
        have hKW : W.heap[w.heap.size]? = some (.cells #[.string f, .string t] 50) := (hW.block _ (by simp; omega)).trans ((heap_alloc_old _ _ hlt0).trans HK.out)
        exact known1_c y w.heap.size t W (by rw [cell_of_row W w.heap.size 1 _ _ _ hKW]; rfl) (Array.getElem?_eq_some_iff.1 hKW).1 R' hh)
      refine indexFunc_c B _ c' x.items (byT t) 38 _ cfK _ (HI5.out.below hBe) h6 HT.out _ (fun w2 hB2 => ?_)
      obtain ⟨ix, hix⟩ : ∃ ix, ix = idxS (byT t) x.items := ⟨_, rfl⟩
      rw [← hix]
      have hX2 : w2.heap[wr.heap.size]? = some (.cells #[.string x.f, .string x.e, .int .i64 x.r, .slice B x.items.length c'] 39) := (hB2.block _ (by simp)).trans (heap_alloc_new wr _)
      obtain ⟨q0, q1, q2, q3, q4⟩ := entry_cells hX2
      have hK2 : w2.heap[w.heap.size]? = some (.cells #[.string f, .string t] 50) := (hB2.block _ (by simp; omega)).trans ((heap_alloc_old _ _ hlt0).trans HK.out)
      have hltI : w.heap.size + 1 < wr.heap.size := (Array.getElem?_eq_some_iff.1 HI.out).1
      have hI2 : w2.heap[w.heap.size + 1]? = some (.cells #[.string ⟨#[]⟩, .complex .f64 0 0] 25) := (hB2.block _ (by simp; omega)).trans ((heap_alloc_old _ _ hltI).trans HI.out)
      have k0 : w2.cell? ⟨w.heap.size, 0, none⟩ = some (.string f) := by rw [cell_of_row w2 w.heap.size 0 _ _ _ hK2]; rfl
      have hlt2 : w.heap.size < w2.heap.size := (Array.getElem?_eq_some_iff.1 hK2).1
      have hlt3 : w.heap.size + 1 < w2.heap.size := (Array.getElem?_eq_some_iff.1 hI2).1
      have HB2 : Hid (Below wr.heap.size wr w2) := Lib.hid (hBe.trans (hB2.mono (by simp)))
      have HK2 := Lib.hid hK2
      have HI2 := Lib.hid hI2
      have HIx := Lib.hid hix
      clear hBe hB2 hX2 hK2 hI2 hix hltI h1 h2 h3 h4
      cases hb1 : (x.f.toList == f.toList) with
      | false =>
        go_wp2_with fail
        refine ⟨⟨k + 1, by have := Hc.out; omega, by go_num, HB.out.trans (HB2.out.mono HB.out.size), HK2.out, HI2.out, Lib.hid ?_⟩, by have := Hc.out; simp [RowKit.intOf]; omega⟩
        refine no_more Hno.out Hx.out ?_
        unfold hit
        rw [hb1]
        rfl
      | true =>
        by_cases hb2 : 0 ≤ ix
        · obtain ⟨j, y, hj, hy, hjl⟩ := idx_some (show 0 ≤ idxS (byT t) x.items by rw [← HIx.out]; exact hb2)
          have hixj : ix = (j : Int) := HIx.out.trans hj
          subst hixj
          obtain ⟨bb, oo, y', rfl, hy', hbb, hc1, hc2⟩ := (HI5.out.below HB2.out).at_ hjl
          obtain rfl : y' = y := by rw [hy] at hy'; injection hy' with e; exact e.symm
          have hS := Lib.hid (Hsome.out k x j y' Hx.out (by unfold hit; rw [hb1, hj]; simp) Hno.out hy hj)
          have t2 : decide (0 ≤ (j : Int)) = true := by simp
          have hjl2 : (j : Int) < (x.items.length : Int) := by omega
          have i0 : w2.cell? ⟨w.heap.size + 1, 0, none⟩ = some (.string ⟨#[]⟩) := by rw [cell_of_row w2 _ 0 _ _ _ HI2.out]; rfl
          have i1 : w2.cell? ⟨w.heap.size + 1, 1, none⟩ = some (.complex .f64 0 0) := by rw [cell_of_row w2 _ 1 _ _ _ HI2.out]; rfl
          have z0 : w2.frozen? ⟨w.heap.size + 1, 0, none⟩ = false := by have := HI2.out; simp [World.frozen?, this]
          have z1 : w2.frozen? ⟨w.heap.size + 1, 1, none⟩ = false := by have := HI2.out; simp [World.frozen?, this]
          clear hy hy' hj
          go_wp2_with fail
          go_region
          go_wp2_with fail
          have hW : ((w2.drew.setCell ⟨w.heap.size + 1, 0, none⟩ (.string y'.t)).setCell ⟨w.heap.size + 1, 1, none⟩ (.complex .f64 y'.re y'.im)).heap[w.heap.size + 1]? = some (.cells #[.string y'.t, .complex .f64 y'.re y'.im] 25) := by
            have h2 : w2.drew.heap[w.heap.size + 1]? = some (.cells #[.string ⟨#[]⟩, .complex .f64 0 0] 25) := HI2.out
            simp [World.setCell, Array.getElem?_modify, h2]
          (refine bodyPost_ret (results_tct rfl _ _ ⟨w.heap.size + 1, 0, none⟩ (itmV y') rfl (run_loadVar_row _ _ _ _ _ _ _ hW Tryd.underlying25 rfl (by kernel_rfl))) rfl ?_)
          exact hS.out _ ((((HB.out.trans (HB2.out.mono HB.out.size)).drew).setCell (Nat.le_succ _) _).setCell (Nat.le_succ _) _)
        · have t2 : decide (0 ≤ ix) = false := by simp [hb2]
          have Hb2 := Lib.hid hb2
          clear hb2
          go_wp2_with fail
          refine ⟨⟨k + 1, by have := Hc.out; omega, by go_num, HB.out.trans (HB2.out.mono HB.out.size), HK2.out, HI2.out, Lib.hid ?_⟩, by have := Hc.out; simp [RowKit.intOf]; omega⟩
          refine no_more Hno.out Hx.out ?_
          unfold hit
          rw [← HIx.out, t2]
          simp
    · have hk' : k = n := by omega
      have t1 : decide (k < n) = false := by simp; omega
      have HH := Lib.hid (Hnone.out (fun e he => by
        obtain ⟨j, hj⟩ := List.getElem?_of_mem he
        exact Hno.out j e (by have := (List.getElem?_eq_some_iff.1 hj).1; have := HE.out.1; omega) hj))
      have HBk := Lib.hid hB
      have hlt0 : w.heap.size + 1 < wr.heap.size := (Array.getElem?_eq_some_iff.1 hI).1
      have i0 : wr.cell? ⟨w.heap.size + 1, 0, none⟩ = some (.string ⟨#[]⟩) := by rw [cell_of_row wr _ 0 _ _ _ hI]; rfl
      have i1 : wr.cell? ⟨w.heap.size + 1, 1, none⟩ = some (.complex .f64 0 0) := by rw [cell_of_row wr _ 1 _ _ _ hI]; rfl
      have z0 : wr.frozen? ⟨w.heap.size + 1, 0, none⟩ = false := by simp [World.frozen?, hI]
      have z1 : wr.frozen? ⟨w.heap.size + 1, 1, none⟩ = false := by simp [World.frozen?, hI]
      clear hk' hc
      have HI := Lib.hid hI
      have HK := Lib.hid hK
      clear hI hK
      go_wp2_with fail
      have hW : ((wr.setCell ⟨w.heap.size + 1, 0, none⟩ (.string ⟨#[]⟩)).setCell ⟨w.heap.size + 1, 1, none⟩ (.complex .f64 0 0)).heap[w.heap.size + 1]? = some (.cells #[.string ⟨#[]⟩, .complex .f64 0 0] 25) := by simp [World.setCell, Array.getElem?_modify, HI.out]
      refine bodyPost_ret (results_tct rfl _ _ ⟨w.heap.size + 1, 0, none⟩ (.agg #[.string ⟨#[]⟩, .complex .f64 0 0]) rfl (run_loadVar_row _ _ _ _ _ _ _ hW Tryd.underlying25 rfl (by kernel_rfl))) rfl ?_
      exact HH.out _ ((HBk.out.setCell (Nat.le_succ _) _).setCell (Nat.le_succ _) _)
end Go.Proofs.YtjndigkphoiohaaDoor
