/-
  Several texts in one: RdItems, Read, UnA; each says at its head what it holds.
-/
import Derived.Test.YtdmcponfodohaaaGreatDoorGd
import Derived.Test.YtdmcponfodohaaaGreatDoorPack
import Derived.Test.YtdmcponfodohaaaGreatDoorGc
import Derived.Outline
import Derived.Deep.RegionWith
/-
  message.readItems: the next items, where the bytes begin with some.
-/
namespace Go.Proofs.YtdmcponfodohaaaGreatDoor
open Go.RowKit Go.Shelf
set_option maxRecDepth 100000

/-- Items that come back as they were packed. -/
def Back (l : List Itm) : Prop := l.length ≤ 4 ∧ ∀ x ∈ l, x.t.size ≤ 200 ∧ nofS (partsD x).1 (partsD x).2 = (x.re, x.im) ∧ 0 ≤ (partsD x).1 ∧ (partsD x).1 ≤ 100000 ∧ 0 ≤ (partsD x).2 ∧ (partsD x).2 ≤ 100000
theorem numB_nat {n : Int} (h0 : 0 ≤ n) (h1 : n ≤ 34359738367) : numB n = numN n.toNat := by unfold numB; rw [if_neg (by omega)]

theorem rdNum_c (r g : Nat) (n : Int) (rest : List Int) (w : World) (h0 : 0 ≤ n) (h1 : n ≤ 34359738367) (hR : RdrAt w r g (numB n ++ rest)) (R : Ending → World → Prop)
    (h : ∀ w', Kept [r] w w' → RdrAt w' r g rest → R (.returned (.int .i64 n)) w') :
    Calls Tryz.prog 90 #[.pointer (some ⟨r, 0, none⟩)] w R := by
  rw [numB_nat h0 h1] at hR
  obtain ⟨k, rfl⟩ := Int.eq_ofNat_of_zero_le h0
  exact rdNumber_c r g k rest w (by omega) hR R h

theorem Kept.grown {r : Nat} {w w' : World} (h : Kept [r] w w') : w.grownBy w' (some r) := ⟨h.os, h.tape, h.output, h.size, fun k hk hs => h.block k hk (fun e => hs (by simp at e; rw [e]))⟩
theorem Kept.grow {S : List Nat} {w0 w w' : World} {row : Option Nat} (h : Kept S w0 w) (hg : w.grownBy w' row) (hr : ∀ g, row = some g → w0.heap.size ≤ g) : Kept S w0 w' :=
  ⟨hg.os.trans h.os, hg.tape.trans h.tape, hg.output.trans h.output, Nat.le_trans h.size hg.size, fun k hk hs => (hg.block k (Nat.lt_of_lt_of_le hk h.size) (fun e => by have := hr k e.symm; omega)).trans (h.block k hk hs)⟩
theorem RdrAt.grow {w w' : World} {row : Option Nat} {r g B : Nat} {l : List Int} (h : RdrAt w r g l) (hg : w.grownBy w' row) (hb : ∀ k, row = some k → B ≤ k) (hr : r < B) (hgB : g < B) : RdrAt w' r g l := by
  obtain ⟨hne, A, n, c, hh, hnc, hR⟩ := h
  have hrl := (Array.getElem?_eq_some_iff.1 hh).1
  refine ⟨hne, A, n, c, (hg.block r hrl (fun e => by have := hb r e.symm; omega)).trans hh, hnc, hR.1, fun h0 => ?_⟩
  obtain ⟨o, e, hlt, hc⟩ := hR.2 h0
  exact ⟨o, e, Nat.lt_of_lt_of_le hlt hg.size, fun j u hu => hg.cell (hc j u hu) (fun e => by have := hb g e.symm; omega)⟩
/-- Items, their cells in a block of items. -/
def ItmsH (w : World) (A : Option Addr) (n : Nat) (l : List Itm) : Prop := ItmsAt w A n l ∧ (0 < (rowCells l).length → ∃ g o cs, A = some ⟨g, o, none⟩ ∧ w.heap[g]? = some (.cells cs 55) ∧ ∀ j u, (rowCells l)[j]? = some u → cs[o + j]? = some u)
theorem ItmsH.below {w w' : World} {A : Option Addr} {n : Nat} {l : List Itm} (h : ItmsH w A n l) (hb : Below w.heap.size w w') : ItmsH w' A n l :=
  ⟨h.1.below hb, fun h0 => by
    obtain ⟨g, o, cs, e, hg, hc⟩ := h.2 h0
    exact ⟨g, o, cs, e, (hb.block g (Array.getElem?_eq_some_iff.1 hg).1).trans hg, hc⟩⟩
theorem itms_kept {S : List Nat} {w w' : World} {A : Option Addr} {n : Nat} {l : List Itm} (h : ItmsH w A n l) (hk : Kept S w w') (hA : ∀ a, A = some a → 0 < n → a.block ∉ S) : ItmsH w' A n l :=
  ⟨⟨h.1.1, fun h0 => by
    obtain ⟨b, o, e, hb, hc⟩ := h.1.2 h0
    have hs : b ∉ S := hA _ e h0
    exact ⟨b, o, e, Nat.lt_of_lt_of_le hb hk.size, fun j x hx => ⟨(hk.cell (p := ⟨b, _, none⟩) hb hs).trans (hc j x hx).1, (hk.cell (p := ⟨b, _, none⟩) hb hs).trans (hc j x hx).2⟩⟩⟩, fun h0 => by
    obtain ⟨g, o, cs, e, hg, hc⟩ := h.2 h0
    have hn : 0 < n := by
      have h1 := h.1.1
      rcases l with _ | ⟨x, t⟩
      · exact absurd h0 (by simp [rowCells])
      · rw [← h1]; simp
    exact ⟨g, o, cs, e, (hk.block g (Array.getElem?_eq_some_iff.1 hg).1 (hA _ e hn)).trans hg, hc⟩⟩
/-- Items that a call has laid. -/
theorem own_itms {w : World} {base k : Nat} {v : Value} {l : List Itm} (h : w.ownsRow base 55 2 v k (rowCells l)) (hl : l.length = k) : ∃ A c, v = .slice A k c ∧ ItmsH w A k l ∧ ∀ a, A = some a → base ≤ a.block := by
  have hbase := fun k hk => (h.lt k hk).1
  obtain ⟨A, c, rfl, hs⟩ := own_shape' h
  refine ⟨A, c, rfl, ⟨⟨hl, fun h0 => ?_⟩, fun h0 => ?_⟩, fun a ha => hbase a.block (by rw [ha]; rfl)⟩
  · obtain ⟨g, rfl, _, hg⟩ := hs h0
    refine ⟨g, 0, rfl, hg, fun j x hj => ?_⟩
    obtain ⟨h1, h2⟩ := rowCells_at l j x hj
    have e1 := h.cells (g := g) rfl _ _ h1
    have e2 := h.cells (g := g) rfl _ _ h2
    rw [Addr.add_lit] at e1 e2
    exact ⟨e1, e2⟩
  · rcases h.2 with ⟨e, hn⟩ | ⟨g, cap, cur, e, hb, hh, hnc, _, _, ht⟩
    · have h1 := h.1
      omega
    · injection e with e _ _
      refine ⟨g, 0, cur, e, hh, fun j u hu => ?_⟩
      rw [← ht] at hu
      have hj := (List.getElem?_eq_some_iff.1 hu).1
      rw [List.length_take] at hj
      rw [List.getElem?_take_of_lt (by omega)] at hu
      rw [Nat.zero_add, ← Array.getElem?_toList]
      exact hu
theorem rowCells_snoc (l : List Itm) (x : Itm) : rowCells (l ++ [x]) = rowCells l ++ [.string x.t, .complex .f64 x.re x.im] := by simp [rowCells]

set_option maxHeartbeats 4000000 in
theorem readItems_c (r g : Nat) (l : List Itm) (rest : List Int) (w : World) (hb : Back l) (hR : RdrAt w r g (itemsB l ++ rest)) (hg : g < w.heap.size) (R : Ending → World → Prop)
    (h : ∀ A c w', Kept [r] w w' → RdrAt w' r g rest → ItmsH w' A l.length l → (∀ a, A = some a → w.heap.size ≤ a.block) → R (.returned (.slice A l.length c)) w') :
    Calls Tryz.prog 166 #[.pointer (some ⟨r, 0, none⟩)] w R := by
  have H := Lib.hid h
  have Hb := Lib.hid hb
  have hlt := hR.lt
  have hl4 := hb.1
  unfold itemsB at hR
  rw [List.append_assoc] at hR
  have HR := Lib.hid hR
  have hln : (l.length : Int) ≤ 4 := by omega
  obtain ⟨n, hn⟩ : ∃ n, n = l.length := ⟨_, rfl⟩
  rw [← hn] at HR hln hl4
  have Hnl := Lib.hid hn
  clear h hb hR hn
  go_enter Tryz.func166, Tryz.ntmps166
  go_wp2_with fail
  refine rdNum_c r g n _ w (by omega) (by omega) HR.out _ (fun w1 hk1 hR1 => ?_)
  have HK1 := Lib.hid hk1
  have HR1 := Lib.hid hR1
  clear hk1 hR1
  go_wp2_with fail
  go_loopw [3, 5] (fun v i wr => ∃ k : Nat, k ≤ n ∧ i = .int .i64 k ∧ Kept [r] w wr ∧ w1.heap.size ≤ wr.heap.size ∧ RdrAt wr r g (((l.drop k).map itemB).flatten ++ rest) ∧ Hid (wr.ownsRow w1.heap.size 55 2 v k (rowCells (l.take k)))) (fun _ i _ => n - (RowKit.intOf i).toNat)
  case atStart => exact ⟨0, Nat.zero_le _, rfl, HK1.out, Nat.le_refl _, by simpa using HR1.out, Lib.hid (own_nil' _ _ _ _)⟩
  case round =>
    obtain ⟨k, hk, rfl, hK, hsz, hRk, Hown⟩ := hrel
    by_cases hc : k < n
    · obtain ⟨x, hx⟩ : ∃ x, l[k]? = some x := ⟨_, List.getElem?_eq_getElem (by have := Hnl.out; omega)⟩
      obtain ⟨q1, q2, q3, q4, q5, q6⟩ := Hb.out.2 x (List.mem_of_getElem? hx)
      have hd : ((l.drop k).map itemB).flatten ++ rest = textB x.t ++ (numB (partsD x).1 ++ (numB (partsD x).2 ++ (((l.drop (k + 1)).map itemB).flatten ++ rest))) := by
        have hkl := (List.getElem?_eq_some_iff.1 hx).1
        rw [List.drop_eq_getElem_cons hkl, List.map_cons, List.flatten_cons, (List.getElem?_eq_some_iff.1 hx).2]
        simp [itemB]
      have htk : rowCells (l.take (k + 1)) = rowCells (l.take k) ++ [.string x.t, .complex .f64 x.re x.im] := by
        rw [List.take_add_one, hx]
        exact rowCells_snoc _ _
      rw [hd] at hRk
      have Htk := Lib.hid htk
      have HRk := Lib.hid hRk
      have HK := Lib.hid hK
      have hkI : (k : Int) ≤ 4 := by omega
      have t1 : decide (k < n) = true := by simp [hc]
      obtain ⟨p1, hp1⟩ : ∃ p1, p1 = (partsD x).1 := ⟨_, rfl⟩
      obtain ⟨p2, hp2⟩ : ∃ p2, p2 = (partsD x).2 := ⟨_, rfl⟩
      rw [← hp1, ← hp2] at HRk q2
      rw [← hp1] at q3 q4
      rw [← hp2] at q5 q6
      have Q2 := Lib.hid q2
      clear hx hd htk hRk hK hp1 hp2 q2
      go_wp2_with fail
      refine rdBad_c r g _ wr HRk.out _ ?_
      go_wp2_with fail
      refine rdText_c r g x.t _ wr q1 HRk.out _ (fun w2 hk2 hR2 => ?_)
      go_wp2_with fail
      refine rdNum_c r g p1 _ w2 q3 (by omega) hR2 _ (fun w3 hk3 hR3 => ?_)
      go_wp2_with fail
      refine rdNum_c r g p2 _ w3 q5 (by omega) hR3 _ (fun w4 hk4 hR4 => ?_)
      go_wp2_with fail
      refine of_c p1 p2 _ _ ?_
      rw [Q2.out]
      have hk24 := (hk2.trans hk3).trans hk4
      have hne : u3.ownBlock ≠ some r := fun e => by
        have := (Hown.out.lt r e).1
        have := HK1.out.size
        omega
      have hown4 := Hown.out.kept hk24.grown (.inr hne)
      have HK4 := Lib.hid (HK.out.trans hk24)
      have HR4 := Lib.hid hR4
      have HK24 := Lib.hid hk24
      have hbs : w1.heap.size ≤ w4.heap.size := Nat.le_trans hsz HK24.out.size
      clear hk2 hR2 hk3 hR3 hk4 hR4 hk24
      go_wp2_with (at_builtin; (refine app_one w1.heap.size rfl _ _ 28 55 (.agg #[.string ⟨#[]⟩, .complex .f64 0 0]) 2 32 rfl Tryz.underlying28 infoItm (by kernel_rfl) (by decide) (by decide) _ k _ #[.string x.t, .complex .f64 x.re x.im] rfl rfl _ rfl (by simp) (by simp [Value.oneCell']) (by exact hown4) hbs (by omega) ?_); intro v1 w5 hown5 hg5 hgb5)
      have hwb := HK1.out.size
      refine ⟨⟨k + 1, by omega, by go_num, HK4.out.grow hg5 (fun g hg => Nat.le_trans hwb (hgb5 g hg)), Nat.le_trans hbs hg5.size, HR4.out.grow hg5 hgb5 (by omega) (by omega), Lib.hid ?_⟩, by simp [RowKit.intOf]; omega⟩
      rw [Htk.out]
      exact hown5
    · obtain rfl : k = n := by omega
      have e1 : l.take k = l := List.take_of_length_le (by have := Hnl.out; omega)
      have e2 : l.drop k = [] := List.drop_eq_nil_of_le (by have := Hnl.out; omega)
      rw [e1] at Hown
      rw [e2] at hRk
      obtain ⟨A, c, rfl, hI, hA⟩ := own_itms Hown.out Hnl.out.symm
      have HI := Lib.hid hI
      have HA : Hid (∀ a, A = some a → w.heap.size ≤ a.block) := Lib.hid (fun a ha => Nat.le_trans HK1.out.size (hA a ha))
      have HK := Lib.hid hK
      have HRk := Lib.hid hRk
      have t1 : decide (k < k) = false := by simp
      clear e1 e2 hI hA hK hRk hc
      go_wp2_with fail
      have HH := H.out A c wr HK.out (by simpa using HRk.out)
      rw [← Hnl.out] at HH
      exact HH HI.out HA.out
end Go.Proofs.YtdmcponfodohaaaGreatDoor
/-
  message.read: one field of a message out of a reader.
-/
namespace Go.Proofs.YtdmcponfodohaaaGreatDoor
open Go.RowKit Go.Shelf
set_option maxRecDepth 100000

/-- The message in block mb. -/
def MB (w : World) (mb : Nat) (m : Msg) (A : Option Addr) (c : Nat) : Prop := w.heap[mb]? = some (.cells (msgCells m A c) 115)
theorem MB.kept {S : List Nat} {w w' : World} {mb : Nat} {m : Msg} {A : Option Addr} {c : Nat} (h : MB w mb m A c) (hk : Kept S w w') (hm : mb ∉ S) : MB w' mb m A c := (hk.block mb (Array.getElem?_eq_some_iff.1 h).1 hm).trans h
theorem MB.lt {w : World} {mb : Nat} {m : Msg} {A : Option Addr} {c : Nat} (h : MB w mb m A c) : mb < w.heap.size := (Array.getElem?_eq_some_iff.1 h).1
theorem MB.cell {w : World} {mb : Nat} {m : Msg} {A : Option Addr} {c : Nat} (h : MB w mb m A c) (k : Nat) {v : Value} (hv : (msgCells m A c)[k]? = some v) : w.cell? ⟨mb, k, none⟩ = some v ∧ w.frozen? ⟨mb, k, none⟩ = false := by
  refine ⟨by rw [cell_of_row w mb k _ _ _ h]; exact hv, ?_⟩
  have : w.heap[mb]? = some (.cells (msgCells m A c) 115) := h
  simp [World.frozen?, this]
def setT (m : Msg) (ch : Int) (t : ByteArray) : Msg := if ch = 70 then { m with f := t } else if ch = 69 then { m with e := t } else { m with t := t }
def setN (m : Msg) (ch n : Int) : Msg := if ch = 78 then { m with n := n } else if ch = 83 then { m with state := n } else if ch = 85 then { m with number := n } else { m with epoch := n }
theorem MB.setT {w : World} {mb : Nat} {m : Msg} {A : Option Addr} {c : Nat} (h : MB w mb m A c) {ch : Int} {off : Nat} (hc : (ch = 70 ∧ off = 1) ∨ (ch = 69 ∧ off = 2) ∨ (ch = 84 ∧ off = 3)) (t : ByteArray) : MB (w.setCell ⟨mb, off, none⟩ (.string t)) mb (setT m ch t) A c := by
  have h' : w.heap[mb]? = some (.cells (msgCells m A c) 115) := h
  unfold MB
  rcases hc with ⟨rfl, rfl⟩ | ⟨rfl, rfl⟩ | ⟨rfl, rfl⟩ <;> simp [World.setCell, Array.getElem?_modify, h', msgCells, Go.Proofs.YtdmcponfodohaaaGreatDoor.setT]
theorem MB.setN {w : World} {mb : Nat} {m : Msg} {A : Option Addr} {c : Nat} (h : MB w mb m A c) {ch : Int} {off : Nat} (hc : (ch = 78 ∧ off = 4) ∨ (ch = 83 ∧ off = 5) ∨ (ch = 85 ∧ off = 6) ∨ (ch = 80 ∧ off = 7)) (n : Int) : MB (w.setCell ⟨mb, off, none⟩ (.int .i64 n)) mb (setN m ch n) A c := by
  have h' : w.heap[mb]? = some (.cells (msgCells m A c) 115) := h
  unfold MB
  rcases hc with ⟨rfl, rfl⟩ | ⟨rfl, rfl⟩ | ⟨rfl, rfl⟩ | ⟨rfl, rfl⟩ <;> simp [World.setCell, Array.getElem?_modify, h', msgCells, Go.Proofs.YtdmcponfodohaaaGreatDoor.setN]
theorem txt_cell {m : Msg} {A : Option Addr} {c : Nat} {ch : Int} {off : Nat} (hc : (ch = 70 ∧ off = 1) ∨ (ch = 69 ∧ off = 2) ∨ (ch = 84 ∧ off = 3)) : ∃ s, (msgCells m A c)[off]? = some (.string s) := by
  rcases hc with ⟨rfl, rfl⟩ | ⟨rfl, rfl⟩ | ⟨rfl, rfl⟩ <;> exact ⟨_, rfl⟩
theorem num_cell9 {m : Msg} {A : Option Addr} {c : Nat} {ch : Int} {off : Nat} (hc : (ch = 78 ∧ off = 4) ∨ (ch = 83 ∧ off = 5) ∨ (ch = 85 ∧ off = 6) ∨ (ch = 80 ∧ off = 7)) : ∃ s, (msgCells m A c)[off]? = some (.int .i64 s) := by
  rcases hc with ⟨rfl, rfl⟩ | ⟨rfl, rfl⟩ | ⟨rfl, rfl⟩ | ⟨rfl, rfl⟩ <;> exact ⟨_, rfl⟩

/-- What the region's end wants of the world ahead of the store. -/
structure RdW (w : World) (r g mb : Nat) (rest : List Int) (m : Msg) (A : Option Addr) (c : Nat) (W : World) : Prop where
  kept : Kept [r] w W
  rdr : RdrAt W r g rest
  mem : MB W mb m A c


theorem RdW.mk1 {w wt W : World} {r g mb : Nat} {rest : List Int} {m : Msg} {A : Option Addr} {c : Nat} (hM : MB w mb m A c) (h1 : Below w.heap.size w wt) (hk : Kept [r] wt W) (hR : RdrAt W r g rest) (hmr : mb ≠ r) : RdW w r g mb rest m A c W :=
  ⟨(Kept.of_below h1).trans hk, hR, (hM.kept (Kept.of_below (S := []) h1) (by simp)).kept hk (by simpa using hmr)⟩
theorem RdW.mk2 {w wt W : World} {r g mb : Nat} {rest : List Int} {m : Msg} {A : Option Addr} {c : Nat} (h : RdW w r g mb rest m A c wt) (h1 : Below wt.heap.size wt W) : RdW w r g mb rest m A c W :=
  ⟨h.kept.trans (Kept.of_below h1), h.rdr.kept (Kept.of_below (S := []) h1) (by simp) (by simp), h.mem.kept (Kept.of_below (S := []) h1) (by simp)⟩
theorem RdW.fin {w W : World} {r g mb off : Nat} {rest : List Int} {m m' : Msg} {A A' : Option Addr} {c c' : Nat} (h : RdW w r g mb rest m A c W) (hmr : mb ≠ r) (hmg : mb ≠ g) (v : Value) (hM : MB (W.setCell ⟨mb, off, none⟩ v) mb m' A' c') : Kept [r, mb] w (W.setCell ⟨mb, off, none⟩ v) ∧ RdrAt (W.setCell ⟨mb, off, none⟩ v) r g rest ∧ MB (W.setCell ⟨mb, off, none⟩ v) mb m' A' c' :=
  ⟨(h.kept.mono (by simp)).setCell (by simp) _, h.rdr.kept ((Kept.refl [mb] W).setCell (by simp) _) (by simpa using fun e => hmr e.symm) (by simpa using fun e => hmg e.symm), hM⟩
theorem fin_t {w W : World} {r g mb off : Nat} {ch : Int} {rest : List Int} {m : Msg} {A : Option Addr} {c : Nat} {t : ByteArray} {R : Ending → World → Prop} (H : Hid (∀ w', Kept [r, mb] w w' → RdrAt w' r g rest → MB w' mb (setT m ch t) A c → R (.returned (.tuple #[])) w'))
    (h : Hid (RdW w r g mb rest m A c W)) (hmr : mb ≠ r) (hmg : mb ≠ g) (hc : (ch = 70 ∧ off = 1) ∨ (ch = 69 ∧ off = 2) ∨ (ch = 84 ∧ off = 3)) : R (.returned (.tuple #[])) (W.setCell ⟨mb, off, none⟩ (.string t)) := by
  obtain ⟨z1, z2, z3⟩ := h.out.fin hmr hmg (.string t) (h.out.mem.setT hc t)
  exact H.out _ z1 z2 z3
theorem fin_n {w W : World} {r g mb off : Nat} {ch : Int} {rest : List Int} {m : Msg} {A : Option Addr} {c : Nat} {n : Int} {R : Ending → World → Prop} (H : Hid (∀ w', Kept [r, mb] w w' → RdrAt w' r g rest → MB w' mb (setN m ch n) A c → R (.returned (.tuple #[])) w'))
    (h : Hid (RdW w r g mb rest m A c W)) (hmr : mb ≠ r) (hmg : mb ≠ g) (hc : (ch = 78 ∧ off = 4) ∨ (ch = 83 ∧ off = 5) ∨ (ch = 85 ∧ off = 6) ∨ (ch = 80 ∧ off = 7)) : R (.returned (.tuple #[])) (W.setCell ⟨mb, off, none⟩ (.int .i64 n)) := by
  obtain ⟨z1, z2, z3⟩ := h.out.fin hmr hmg (.int .i64 n) (h.out.mem.setN hc n)
  exact H.out _ z1 z2 z3

set_option maxHeartbeats 4000000 in
theorem readT_c (mb r g : Nat) (ch : Int) (off : Nat) (hc : (ch = 70 ∧ off = 1) ∨ (ch = 69 ∧ off = 2) ∨ (ch = 84 ∧ off = 3)) (m : Msg) (A : Option Addr) (c : Nat) (t : ByteArray) (rest : List Int) (w : World) (hs : t.size ≤ 200) (hR : RdrAt w r g (textB t ++ rest)) (hM : MB w mb m A c)
    (hmr : mb ≠ r) (hmg : mb ≠ g) (R : Ending → World → Prop)
    (h : ∀ w', Kept [r, mb] w w' → RdrAt w' r g rest → MB w' mb (setT m ch t) A c → R (.returned (.tuple #[])) w') :
    Calls Tryz.prog 140 #[.pointer (some ⟨mb, 0, none⟩), .int .i32 ch, .pointer (some ⟨r, 0, none⟩)] w R := by
  have H := Lib.hid h
  have HR := Lib.hid hR
  have HM := Lib.hid hM
  have hrl := hR.lt
  have hin : (ch, off) ∈ [((70 : Int), 1), (69, 2), (84, 3)] := by rcases hc with ⟨rfl, rfl⟩ | ⟨rfl, rfl⟩ | ⟨rfl, rfl⟩ <;> simp
  have hlk := fun (W : World) (es : Array MapEntry) (hes : IsFM mb [(70, 1), (69, 2), (84, 3)] es) (M : Nat) (hM : W.heap[M]? = some (.map es 3)) => IsFM.lookup (P := Tryz.prog) Tryz.underlying139 Tryz.underlying21 hes hM (by intro k o h; simp only [List.mem_cons, Prod.mk.injEq, List.mem_nil_iff, or_false] at h; omega) (by decide) hin
  have Hlk := Lib.hid hlk
  obtain ⟨s0, hs0⟩ := txt_cell (m := m) (A := A) (c := c) hc
  have Hs0 := Lib.hid hs0
  clear h hR hM hlk hs0 hin
  rcases hc with ⟨rfl, rfl⟩ | ⟨rfl, rfl⟩ | ⟨rfl, rfl⟩
  all_goals
    go_enter Tryz.func140, Tryz.ntmps140
    go_wp2_with fail
    go_region_with (first
      | (go_at_call 117; have Hx := Hm2; clear Hx; refine rdText_c r g t rest _ hs (HR.out.kept (Kept.of_below (S := []) Hb2.out) (by simp) (by simp)) _ (fun w3 hk3 hR3 => ?_); have HW : Hid (RdW w r g mb rest m A c w3) := Lib.hid (RdW.mk1 HM.out Hb2.out hk3 hR3 hmr); have hk := Hlk.out w3 es Hes.out w.heap.size ((hk3.block _ (Array.getElem?_eq_some_iff.1 Hm2.out).1 (by simp; omega)).trans Hm2.out); obtain ⟨q1, q2⟩ := HW.out.mem.cell _ Hs0.out; have q3 := HW.out.mem.lt; clear hk3 hR3 hk2)
      | (go_at_call 117; refine rdText_c r g t rest _ hs (HR.out.kept ((Kept.refl [] w).drew) (by simp) (by simp)) _ (fun w2 hk2 hR2 => ?_); have HT : Hid (RdW w r g mb rest m A c w2) := Lib.hid (RdW.mk1 HM.out (Below.refl _ w).drew hk2 hR2 hmr); clear hk2 hR2)
      | (go_at_call 108; have Hx := HT; clear Hx; refine texts_o mb _ _ (fun w3 es hes hB3 hM3 => ?_); have HW : Hid (RdW w r g mb rest m A c w3) := Lib.hid (HT.out.mk2 hB3); have hk := Hlk.out w3 es hes w2.heap.size hM3; obtain ⟨q1, q2⟩ := HW.out.mem.cell _ Hs0.out; have q3 := HW.out.mem.lt; clear hes hB3 hM3)
      | (go_at_call 108; refine texts_o mb _ _ (fun w2 es hes hB2 hM2 => ?_); have hk2 := Hlk.out w2 es hes w.heap.size hM2; have Hb2 : Hid (Below w.heap.size w w2) := Lib.hid ((Below.refl _ w).drew.trans hB2); have Hm2 : Hid (w2.heap[w.heap.size]? = some (.map es 3)) := Lib.hid hM2; have Hes := Lib.hid hes; clear hes hB2 hM2))
    all_goals
      go_end0
      exact fin_t H HW hmr hmg (by simp)

set_option maxHeartbeats 4000000 in
theorem readN_c (mb r g : Nat) (ch : Int) (off : Nat) (hc : (ch = 78 ∧ off = 4) ∨ (ch = 83 ∧ off = 5) ∨ (ch = 85 ∧ off = 6) ∨ (ch = 80 ∧ off = 7)) (m : Msg) (A : Option Addr) (c : Nat) (n : Int) (rest : List Int) (w : World) (hs : 0 ≤ n) (hs2 : n ≤ 34359738367) (hR : RdrAt w r g (numB n ++ rest)) (hM : MB w mb m A c)
    (hmr : mb ≠ r) (hmg : mb ≠ g) (R : Ending → World → Prop)
    (h : ∀ w', Kept [r, mb] w w' → RdrAt w' r g rest → MB w' mb (setN m ch n) A c → R (.returned (.tuple #[])) w') :
    Calls Tryz.prog 140 #[.pointer (some ⟨mb, 0, none⟩), .int .i32 ch, .pointer (some ⟨r, 0, none⟩)] w R := by
  have H := Lib.hid h
  have HR := Lib.hid hR
  have HM := Lib.hid hM
  have hrl := hR.lt
  have hin : (ch, off) ∈ [((78 : Int), 4), (83, 5), (85, 6), (80, 7)] := by rcases hc with ⟨rfl, rfl⟩ | ⟨rfl, rfl⟩ | ⟨rfl, rfl⟩ | ⟨rfl, rfl⟩ <;> simp
  have hlk := fun (W : World) (es : Array MapEntry) (hes : IsFM mb [(78, 4), (83, 5), (85, 6), (80, 7)] es) (M : Nat) (hM : W.heap[M]? = some (.map es 4)) => IsFM.lookup (P := Tryz.prog) Tryz.underlying144 Tryz.underlying21 hes hM (by intro k o h; simp only [List.mem_cons, Prod.mk.injEq, List.mem_nil_iff, or_false] at h; omega) (by decide) hin
  have Hlk := Lib.hid hlk
  obtain ⟨s0, hs0⟩ := num_cell9 (m := m) (A := A) (c := c) hc
  have Hs0 := Lib.hid hs0
  clear h hR hM hlk hs0 hin
  rcases hc with ⟨rfl, rfl⟩ | ⟨rfl, rfl⟩ | ⟨rfl, rfl⟩ | ⟨rfl, rfl⟩
  all_goals
    go_enter Tryz.func140, Tryz.ntmps140
    go_wp2_with fail
    go_region_with (first
      | (go_at_call 90; have Hx := Hm2; clear Hx; refine rdNum_c r g n rest _ hs hs2 (HR.out.kept (Kept.of_below (S := []) Hb2.out) (by simp) (by simp)) _ (fun w3 hk3 hR3 => ?_); have HW : Hid (RdW w r g mb rest m A c w3) := Lib.hid (RdW.mk1 HM.out Hb2.out hk3 hR3 hmr); have hk := Hlk.out w3 es Hes.out w.heap.size ((hk3.block _ (Array.getElem?_eq_some_iff.1 Hm2.out).1 (by simp; omega)).trans Hm2.out); obtain ⟨q1, q2⟩ := HW.out.mem.cell _ Hs0.out; have q3 := HW.out.mem.lt; clear hk3 hR3 hk2)
      | (go_at_call 90; refine rdNum_c r g n rest _ hs hs2 (HR.out.kept ((Kept.refl [] w).drew) (by simp) (by simp)) _ (fun w2 hk2 hR2 => ?_); have HT : Hid (RdW w r g mb rest m A c w2) := Lib.hid (RdW.mk1 HM.out (Below.refl _ w).drew hk2 hR2 hmr); clear hk2 hR2)
      | (go_at_call 110; have Hx := HT; clear Hx; refine numbers_o mb _ _ (fun w3 es hes hB3 hM3 => ?_); have HW : Hid (RdW w r g mb rest m A c w3) := Lib.hid (HT.out.mk2 hB3); have hk := Hlk.out w3 es hes w2.heap.size hM3; obtain ⟨q1, q2⟩ := HW.out.mem.cell _ Hs0.out; have q3 := HW.out.mem.lt; clear hes hB3 hM3)
      | (go_at_call 110; refine numbers_o mb _ _ (fun w2 es hes hB2 hM2 => ?_); have hk2 := Hlk.out w2 es hes w.heap.size hM2; have Hb2 : Hid (Below w.heap.size w w2) := Lib.hid ((Below.refl _ w).drew.trans hB2); have Hm2 : Hid (w2.heap[w.heap.size]? = some (.map es 4)) := Lib.hid hM2; have Hes := Lib.hid hes; clear hes hB2 hM2))
    all_goals
      go_end0
      exact fin_n H HW hmr hmg (by simp)

def setI (m : Msg) (l : List Itm) : Msg := { m with items := l }
theorem readI_c (mb r g : Nat) (m : Msg) (A : Option Addr) (c : Nat) (l : List Itm) (rest : List Int) (w : World) (hb : Back l) (hR : RdrAt w r g (itemsB l ++ rest)) (hM : MB w mb m A c)
    (hmr : mb ≠ r) (hmg : mb ≠ g) (hg : g < w.heap.size) (R : Ending → World → Prop)
    (h : ∀ A' c' w', Kept [r, mb] w w' → RdrAt w' r g rest → MB w' mb (setI m l) A' c' → ItmsH w' A' l.length l → (∀ a, A' = some a → w.heap.size ≤ a.block) → R (.returned (.tuple #[])) w') :
    Calls Tryz.prog 140 #[.pointer (some ⟨mb, 0, none⟩), .int .i32 73, .pointer (some ⟨r, 0, none⟩)] w R := by
  have H := Lib.hid h
  have HR := Lib.hid hR
  have HM := Lib.hid hM
  clear h hR hM
  go_enter Tryz.func140, Tryz.ntmps140
  go_wp2_with fail
  refine readItems_c r g l rest w hb HR.out hg _ (fun A1 c1 w1 hk1 hR1 hI1 hA1 => ?_)
  have HW : Hid (RdW w r g mb rest m A c w1) := Lib.hid (RdW.mk1 HM.out (Below.refl _ w) hk1 hR1 hmr)
  obtain ⟨q1, q2⟩ := HW.out.mem.cell 8 (v := .slice A m.items.length c) rfl
  have q3 := HW.out.mem.lt
  have HI1 := Lib.hid hI1
  have HA1 := Lib.hid hA1
  have hmb := HM.out.lt
  clear hk1 hR1 hI1 hA1
  go_wp2_with fail
  go_end0
  have hM' : MB (w1.setCell ⟨mb, 8, none⟩ (.slice A1 l.length c1)) mb (setI m l) A1 c1 := by
    have h' : w1.heap[mb]? = some (.cells (msgCells m A c) 115) := HW.out.mem
    unfold MB
    simp [World.setCell, Array.getElem?_modify, h', msgCells, setI]
  obtain ⟨z1, z2, z3⟩ := HW.out.fin hmr hmg (.slice A1 l.length c1) hM'
  have hk : Kept [mb] w1 (w1.setCell ⟨mb, 8, none⟩ (.slice A1 l.length c1)) := (Kept.refl _ _).setCell (by simp) _
  exact H.out A1 c1 _ z1 z2 z3 (itms_kept HI1.out hk (fun a ha h0 => by have := HA1.out _ ha; simp; omega)) HA1.out
end Go.Proofs.YtdmcponfodohaaaGreatDoor
/-
  A field of a message, read: whatever its letter; the message as far as it has been read.
-/
namespace Go.Proofs.YtdmcponfodohaaaGreatDoor
open Go.RowKit Go.Shelf
set_option maxRecDepth 100000

/-- One field more. -/
def put (m p : Msg) (ch : Int) : Msg := if ch = 70 ∨ ch = 69 ∨ ch = 84 then setT p ch (if ch = 70 then m.f else if ch = 69 then m.e else m.t) else if ch = 73 then setI p m.items else setN p ch (numOf m ch)
def blank (k : Int) : Msg := ⟨k, ⟨#[]⟩, ⟨#[]⟩, ⟨#[]⟩, 0, 0, 0, 0, []⟩
def partM (m : Msg) (l : List Int) : Msg := l.foldl (put m) (blank m.kind)
theorem partM_snoc (m : Msg) (l : List Int) (ch : Int) : partM m (l ++ [ch]) = put m (partM m l) ch := by
  unfold partM
  rw [List.foldl_append]
  rfl
/-- The items' slice, apart from the blocks that turn. -/
def Its (w : World) (r mb : Nat) (A : Option Addr) (l : List Itm) : Prop := ItmsH w A l.length l ∧ ∀ a, A = some a → 0 < l.length → a.block ≠ r ∧ mb < a.block
theorem Its.kept {w w' : World} {r mb : Nat} {A : Option Addr} {l : List Itm} (h : Its w r mb A l) (hk : Kept [r, mb] w w') : Its w' r mb A l :=
  ⟨itms_kept h.1 hk (fun a ha h0 => by have := h.2 a ha h0; simp; omega), h.2⟩
/-- What of a message is asked for its bytes to come back. -/
structure Good (m : Msg) : Prop where
  f : hasS (fieldsS m.kind) 70 = true → m.f.size ≤ 200
  e : hasS (fieldsS m.kind) 69 = true → m.e.size ≤ 200
  t : hasS (fieldsS m.kind) 84 = true → m.t.size ≤ 200
  n : ∀ ch, 0 ≤ numOf m ch ∧ numOf m ch ≤ 34359738367
  items : Back m.items
theorem numB_ne (n : Int) (h0 : 0 ≤ n) (h1 : n ≤ 34359738367) : 0 < (numB n).length := by
  rw [numB_nat h0 h1]
  rw [numN.eq_def]
  split <;> simp
theorem setT_items (p : Msg) (ch : Int) (t : ByteArray) : (setT p ch t).items = p.items := by unfold setT; split <;> (try split) <;> rfl
theorem setN_items (p : Msg) (ch n : Int) : (setN p ch n).items = p.items := by unfold setN; split <;> (try split) <;> (try split) <;> rfl

theorem readAny_c (mb r g : Nat) (ch : Int) (hch : ch ∈ fieldLetters) (m p : Msg) (A : Option Addr) (c : Nat) (rest : List Int) (w : World) (hG : Good m) (hhas : hasS (fieldsS m.kind) ch = true)
    (hR : RdrAt w r g (fieldB m ch ++ rest)) (hM : MB w mb p A c) (hI : Its w r mb A p.items) (hmr : mb ≠ r) (hmg : mb ≠ g) (R : Ending → World → Prop)
    (h : ∀ A' c' w', Kept [r, mb] w w' → RdrAt w' r g rest → MB w' mb (put m p ch) A' c' → Its w' r mb A' (put m p ch).items → R (.returned (.tuple #[])) w') :
    Calls Tryz.prog 140 #[.pointer (some ⟨mb, 0, none⟩), .int .i32 ch, .pointer (some ⟨r, 0, none⟩)] w R := by
  by_cases h73 : ch = 73
  · subst h73
    have hf : fieldB m 73 = itemsB m.items := by unfold fieldB; rw [if_neg (by decide), if_neg (by decide), if_neg (by decide), if_pos rfl]
    have hp : put m p 73 = setI p m.items := by unfold put; rw [if_neg (by decide), if_pos rfl]
    rw [hf] at hR
    rw [hp] at h
    have hgw : g < w.heap.size := by
      obtain ⟨_, A1, n1, c1, _, _, hRG⟩ := hR
      have h1 := hRG.1
      rw [u8s_length, List.length_append] at h1
      have h2 : 0 < (itemsB m.items).length := by
        unfold itemsB
        rw [List.length_append]
        have := numB_ne (m.items.length : Int) (by omega) (by have := hG.items.1; omega)
        omega
      obtain ⟨o, _, hlt, _⟩ := hRG.2 (by omega)
      exact hlt
    have hrl := hR.lt
    have hml := hM.lt
    exact readI_c mb r g p A c m.items rest w hG.items hR hM hmr hmg hgw R (fun A' c' w' hk hr hm hi ha => h A' c' w' hk hr hm ⟨hi, fun a e h0 => by have := ha a e; exact ⟨by omega, by omega⟩⟩)
  · by_cases ht : ch = 70 ∨ ch = 69 ∨ ch = 84
    · obtain ⟨t, ht0⟩ : ∃ t, t = (if ch = 70 then m.f else if ch = 69 then m.e else m.t) := ⟨_, rfl⟩
      have hf : fieldB m ch = textB t := by
        subst ht0
        unfold fieldB
        rcases ht with rfl | rfl | rfl <;> simp
      have hs : t.size ≤ 200 := by
        subst ht0
        rcases ht with rfl | rfl | rfl
        · exact hG.f hhas
        · exact hG.e hhas
        · exact hG.t hhas
      have hp : put m p ch = setT p ch t := by unfold put; rw [if_pos ht, ht0]
      rw [hf] at hR
      rw [hp] at h
      rw [setT_items] at h
      have hoff : ∃ off, (ch = 70 ∧ off = 1) ∨ (ch = 69 ∧ off = 2) ∨ (ch = 84 ∧ off = 3) := by
        rcases ht with rfl | rfl | rfl
        · exact ⟨1, by simp⟩
        · exact ⟨2, by simp⟩
        · exact ⟨3, by simp⟩
      obtain ⟨off, hoff⟩ := hoff
      exact readT_c mb r g ch off hoff p A c t rest w hs hR hM hmr hmg R (fun w' hk hr hm => h A c w' hk hr hm (hI.kept hk))
    · have hf : fieldB m ch = numB (numOf m ch) := by
        unfold fieldB
        rw [if_neg (by omega), if_neg (by omega), if_neg (by omega), if_neg h73]
      have hp : put m p ch = setN p ch (numOf m ch) := by unfold put; rw [if_neg ht, if_neg h73]
      rw [hf] at hR
      rw [hp] at h
      rw [setN_items] at h
      have hoff : ∃ off, (ch = 78 ∧ off = 4) ∨ (ch = 83 ∧ off = 5) ∨ (ch = 85 ∧ off = 6) ∨ (ch = 80 ∧ off = 7) := by
        simp only [fieldLetters, List.mem_cons, List.mem_nil_iff, or_false] at hch
        rcases hch with rfl | rfl | rfl | rfl | rfl | rfl | rfl | rfl
        all_goals first | exact absurd rfl h73 | exact absurd (by decide) ht | exact ⟨4, Or.inl ⟨rfl, rfl⟩⟩ | exact ⟨5, Or.inr (Or.inl ⟨rfl, rfl⟩)⟩ | exact ⟨6, Or.inr (Or.inr (Or.inl ⟨rfl, rfl⟩))⟩ | exact ⟨7, Or.inr (Or.inr (Or.inr ⟨rfl, rfl⟩))⟩
      obtain ⟨off, hoff⟩ := hoff
      exact readN_c mb r g ch off hoff p A c (numOf m ch) rest w (hG.n ch).1 (hG.n ch).2 hR hM hmr hmg R (fun w' hk hr hm => h A c w' hk hr hm (hI.kept hk))

def fsAll : List ByteArray := [⟨#[70, 69, 73]⟩, ⟨#[70, 84]⟩, ⟨#[70]⟩, ⟨#[70, 84, 85, 80]⟩, ⟨#[70, 73]⟩, ⟨#[]⟩, ⟨#[70, 69, 78]⟩, ⟨#[70, 69, 78, 84, 83]⟩, ⟨#[80]⟩, ⟨#[70, 84, 85, 80, 83]⟩, ⟨#[70, 84, 83]⟩, ⟨#[70, 69, 78, 73]⟩, ⟨#[70, 69, 78, 84]⟩]
theorem fields_in (k : Int) : isQ (fieldsS k) = true ∨ fieldsS k ∈ fsAll :=
  fields_P (p := fun s => isQ s = true ∨ s ∈ fsAll) k (by
    refine ⟨?_, ?_, ?_, ?_, ?_, ?_, ?_, ?_, ?_, ?_, ?_, ?_, ?_, ?_⟩
    all_goals first | (left; decide; done) | (right; simp [fsAll]; done))
theorem text_none {fs s : ByteArray} {k : Int} (h : textBad fs k s = false) (hh : hasS fs k = false) : s = ⟨#[]⟩ := by
  unfold textBad at h
  rw [hh] at h
  have h0 : s.size = 0 := by simpa using h
  obtain ⟨d⟩ := s
  have : d = #[] := Array.eq_empty_of_size_eq_zero h0
  rw [this]
theorem num_none {fs : ByteArray} {k n : Int} (h : numBad fs k n = false) (hh : hasS fs k = false) : n = 0 := by
  unfold numBad at h
  rw [hh] at h
  simpa using h
theorem valid_parts {m : Msg} (h : validS m = true) : isQ (fieldsS m.kind) = false ∧ (textBad (fieldsS m.kind) 70 m.f = false ∧ textBad (fieldsS m.kind) 69 m.e = false ∧ textBad (fieldsS m.kind) 84 m.t = false) ∧
    (numBad (fieldsS m.kind) 78 m.n = false ∧ numBad (fieldsS m.kind) 83 m.state = false ∧ numBad (fieldsS m.kind) 85 m.number = false ∧ numBad (fieldsS m.kind) 80 m.epoch = false) ∧ itemsBad m = false := by
  unfold validS textsBad numsBad at h
  simp only [Bool.and_eq_true, Bool.not_eq_true', Bool.or_eq_false_iff] at h
  obtain ⟨⟨⟨h1, ⟨h2, h3⟩, h4⟩, ⟨⟨h5, h6⟩, h7⟩, h8⟩, h9⟩ := h
  exact ⟨h1, ⟨h2, h3, h4⟩, ⟨h5, h6, h7, h8⟩, h9⟩
theorem items_none {fs : ByteArray} {m : Msg} (e : fieldsS m.kind = fs) (h : itemsBad m = false) (hh : hasIS fs = false) : m.items = [] := by
  unfold itemsBad at h
  rw [e, hh] at h
  have : m.items.length = 0 := by simpa using h
  exact List.eq_nil_of_length_eq_zero this
theorem partM_all (m : Msg) (hv : validS m = true) : partM m (bytesL (fieldsS m.kind)) = m := by
  obtain ⟨hq, ⟨h1, h2, h3⟩, ⟨h4, h5, h6, h7⟩, h8⟩ := valid_parts hv
  have hin := (fields_in m.kind).resolve_left (by rw [hq]; simp)
  obtain ⟨fs, hfs⟩ : ∃ fs, fieldsS m.kind = fs := ⟨_, rfl⟩
  rw [hfs] at h1 h2 h3 h4 h5 h6 h7 hin ⊢
  have h8' := fun hh => items_none hfs h8 hh
  clear hv hq h8 hfs
  simp only [fsAll, List.mem_cons, List.mem_nil_iff, or_false] at hin
  rcases hin with rfl | rfl | rfl | rfl | rfl | rfl | rfl | rfl | rfl | rfl | rfl | rfl | rfl
  all_goals
    obtain ⟨k, f, e, t, n, s, u, p, l⟩ := m
    try (have z := text_none h1 (by decide +kernel); simp only at z; subst z)
    try (have z := text_none h2 (by decide +kernel); simp only at z; subst z)
    try (have z := text_none h3 (by decide +kernel); simp only at z; subst z)
    try (have z := num_none h4 (by decide +kernel); simp only at z; subst z)
    try (have z := num_none h5 (by decide +kernel); simp only at z; subst z)
    try (have z := num_none h6 (by decide +kernel); simp only at z; subst z)
    try (have z := num_none h7 (by decide +kernel); simp only at z; subst z)
    try (have z := h8' (by decide +kernel); simp only at z; subst z)
    rfl
theorem valid_good {m : Msg} (hv : validS m = true) (hI : Back m.items) : Good m := by
  obtain ⟨hq, ⟨h1, h2, h3⟩, ⟨h4, h5, h6, h7⟩, h8⟩ := valid_parts hv
  have ht : ∀ {k : Int} {s : ByteArray}, textBad (fieldsS m.kind) k s = false → hasS (fieldsS m.kind) k = true → s.size ≤ 200 := fun {k s} h hh => by
    unfold textBad at h
    rw [hh] at h
    have hr : rightS s = true := by simpa using h
    unfold rightS at hr
    simp only [Bool.and_eq_true, decide_eq_true_eq] at hr
    omega
  have hn : ∀ {k n : Int}, numBad (fieldsS m.kind) k n = false → 0 ≤ n ∧ n ≤ 34359738367 := fun {k n} h => by
    unfold numBad numberS at h
    split at h
    · simp only [Bool.not_eq_false'] at h
      split at h
      · simp at h; omega
      · simp at h; omega
    · have : n = 0 := by simpa using h
      omega
  refine ⟨ht h1, ht h2, ht h3, fun ch => ?_, hI⟩
  unfold numOf
  split
  · exact hn h4
  · split
    · exact hn h5
    · split
      · exact hn h6
      · exact hn h7
end Go.Proofs.YtdmcponfodohaaaGreatDoor
