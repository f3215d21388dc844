/-
  message.read: one field of a message out of a reader.
-/
import Derived.Test.YtjndigkphoiohaaDoorRdItems
import Derived.Outline
import Derived.Deep.RegionWith
namespace Go.Proofs.YtjndigkphoiohaaDoor
open Go.RowKit Go.Shelf
set_option maxRecDepth 100000

/-- The message in block mb. -/
def MB (w : World) (mb : Nat) (m : Msg) (A : Option Addr) (c : Nat) : Prop := w.heap[mb]? = some (.cells (msgCells m A c) 28)
theorem MB.kept {S : List Nat} {w w' : World} {mb : Nat} {m : Msg} {A : Option Addr} {c : Nat} (h : MB w mb m A c) (hk : Kept S w w') (hm : mb ∉ S) : MB w' mb m A c := (hk.block mb (Array.getElem?_eq_some_iff.1 h).1 hm).trans h
theorem MB.lt {w : World} {mb : Nat} {m : Msg} {A : Option Addr} {c : Nat} (h : MB w mb m A c) : mb < w.heap.size := (Array.getElem?_eq_some_iff.1 h).1
theorem MB.cell {w : World} {mb : Nat} {m : Msg} {A : Option Addr} {c : Nat} (h : MB w mb m A c) (k : Nat) {v : Value} (hv : (msgCells m A c)[k]? = some v) : w.cell? ⟨mb, k, none⟩ = some v ∧ w.frozen? ⟨mb, k, none⟩ = false := by
  refine ⟨by rw [cell_of_row w mb k _ _ _ h]; exact hv, ?_⟩
  have : w.heap[mb]? = some (.cells (msgCells m A c) 28) := h
  simp [World.frozen?, this]
def setT (m : Msg) (ch : Int) (t : ByteArray) : Msg := if ch = 70 then { m with f := t } else if ch = 69 then { m with e := t } else { m with t := t }
def setN (m : Msg) (ch n : Int) : Msg := if ch = 78 then { m with n := n } else if ch = 83 then { m with state := n } else if ch = 85 then { m with number := n } else { m with epoch := n }
theorem MB.setT {w : World} {mb : Nat} {m : Msg} {A : Option Addr} {c : Nat} (h : MB w mb m A c) {ch : Int} {off : Nat} (hc : (ch = 70 ∧ off = 1) ∨ (ch = 69 ∧ off = 2) ∨ (ch = 84 ∧ off = 3)) (t : ByteArray) : MB (w.setCell ⟨mb, off, none⟩ (.string t)) mb (setT m ch t) A c := by
  have h' : w.heap[mb]? = some (.cells (msgCells m A c) 28) := h
  unfold MB
  rcases hc with ⟨rfl, rfl⟩ | ⟨rfl, rfl⟩ | ⟨rfl, rfl⟩ <;> simp [World.setCell, Array.getElem?_modify, h', msgCells, Go.Proofs.YtjndigkphoiohaaDoor.setT]
theorem MB.setN {w : World} {mb : Nat} {m : Msg} {A : Option Addr} {c : Nat} (h : MB w mb m A c) {ch : Int} {off : Nat} (hc : (ch = 78 ∧ off = 4) ∨ (ch = 83 ∧ off = 5) ∨ (ch = 85 ∧ off = 6) ∨ (ch = 80 ∧ off = 7)) (n : Int) : MB (w.setCell ⟨mb, off, none⟩ (.int .i64 n)) mb (setN m ch n) A c := by
  have h' : w.heap[mb]? = some (.cells (msgCells m A c) 28) := h
  unfold MB
  rcases hc with ⟨rfl, rfl⟩ | ⟨rfl, rfl⟩ | ⟨rfl, rfl⟩ | ⟨rfl, rfl⟩ <;> simp [World.setCell, Array.getElem?_modify, h', msgCells, Go.Proofs.YtjndigkphoiohaaDoor.setN]
theorem txt_cell {m : Msg} {A : Option Addr} {c : Nat} {ch : Int} {off : Nat} (hc : (ch = 70 ∧ off = 1) ∨ (ch = 69 ∧ off = 2) ∨ (ch = 84 ∧ off = 3)) : ∃ s, (msgCells m A c)[off]? = some (.string s) := by
  rcases hc with ⟨rfl, rfl⟩ | ⟨rfl, rfl⟩ | ⟨rfl, rfl⟩ <;> exact ⟨_, rfl⟩
theorem num_cell9 {m : Msg} {A : Option Addr} {c : Nat} {ch : Int} {off : Nat} (hc : (ch = 78 ∧ off = 4) ∨ (ch = 83 ∧ off = 5) ∨ (ch = 85 ∧ off = 6) ∨ (ch = 80 ∧ off = 7)) : ∃ s, (msgCells m A c)[off]? = some (.int .i64 s) := by
  rcases hc with ⟨rfl, rfl⟩ | ⟨rfl, rfl⟩ | ⟨rfl, rfl⟩ | ⟨rfl, rfl⟩ <;> exact ⟨_, rfl⟩

/-- What the region's end wants of the world ahead of the store. -/
structure RdW (w : World) (r g mb : Nat) (rest : List Int) (m : Msg) (A : Option Addr) (c : Nat) (W : World) : Prop where
  kept : Kept [r] w W
  rdr : RdrAt W r g rest
  mem : MB W mb m A c


theorem RdW.mk1 {w wt W : World} {r g mb : Nat} {rest : List Int} {m : Msg} {A : Option Addr} {c : Nat} (hM : MB w mb m A c) (h1 : Below w.heap.size w wt) (hk : Kept [r] wt W) (hR : RdrAt W r g rest) (hmr : mb ≠ r) : RdW w r g mb rest m A c W :=
  ⟨(Kept.of_below h1).trans hk, hR, (hM.kept (Kept.of_below (S := []) h1) (by simp)).kept hk (by simpa using hmr)⟩
theorem RdW.mk2 {w wt W : World} {r g mb : Nat} {rest : List Int} {m : Msg} {A : Option Addr} {c : Nat} (h : RdW w r g mb rest m A c wt) (h1 : Below wt.heap.size wt W) : RdW w r g mb rest m A c W :=
  ⟨h.kept.trans (Kept.of_below h1), h.rdr.kept (Kept.of_below (S := []) h1) (by simp) (by simp), h.mem.kept (Kept.of_below (S := []) h1) (by simp)⟩
theorem RdW.fin {w W : World} {r g mb off : Nat} {rest : List Int} {m m' : Msg} {A A' : Option Addr} {c c' : Nat} (h : RdW w r g mb rest m A c W) (hmr : mb ≠ r) (hmg : mb ≠ g) (v : Value) (hM : MB (W.setCell ⟨mb, off, none⟩ v) mb m' A' c') : Kept [r, mb] w (W.setCell ⟨mb, off, none⟩ v) ∧ RdrAt (W.setCell ⟨mb, off, none⟩ v) r g rest ∧ MB (W.setCell ⟨mb, off, none⟩ v) mb m' A' c' :=
  ⟨(h.kept.mono (by simp)).setCell (by simp) _, h.rdr.kept ((Kept.refl [mb] W).setCell (by simp) _) (by simpa using fun e => hmr e.symm) (by simpa using fun e => hmg e.symm), hM⟩
theorem fin_t {w W : World} {r g mb off : Nat} {ch : Int} {rest : List Int} {m : Msg} {A : Option Addr} {c : Nat} {t : ByteArray} {R : Ending → World → Prop} (H : Hid (∀ w', Kept [r, mb] w w' → RdrAt w' r g rest → MB w' mb (setT m ch t) A c → R (.returned (.tuple #[])) w'))
    (h : Hid (RdW w r g mb rest m A c W)) (hmr : mb ≠ r) (hmg : mb ≠ g) (hc : (ch = 70 ∧ off = 1) ∨ (ch = 69 ∧ off = 2) ∨ (ch = 84 ∧ off = 3)) : R (.returned (.tuple #[])) (W.setCell ⟨mb, off, none⟩ (.string t)) := by
  obtain ⟨z1, z2, z3⟩ := h.out.fin hmr hmg (.string t) (h.out.mem.setT hc t)
  exact H.out _ z1 z2 z3
theorem fin_n {w W : World} {r g mb off : Nat} {ch : Int} {rest : List Int} {m : Msg} {A : Option Addr} {c : Nat} {n : Int} {R : Ending → World → Prop} (H : Hid (∀ w', Kept [r, mb] w w' → RdrAt w' r g rest → MB w' mb (setN m ch n) A c → R (.returned (.tuple #[])) w'))
    (h : Hid (RdW w r g mb rest m A c W)) (hmr : mb ≠ r) (hmg : mb ≠ g) (hc : (ch = 78 ∧ off = 4) ∨ (ch = 83 ∧ off = 5) ∨ (ch = 85 ∧ off = 6) ∨ (ch = 80 ∧ off = 7)) : R (.returned (.tuple #[])) (W.setCell ⟨mb, off, none⟩ (.int .i64 n)) := by
  obtain ⟨z1, z2, z3⟩ := h.out.fin hmr hmg (.int .i64 n) (h.out.mem.setN hc n)
  exact H.out _ z1 z2 z3

set_option maxHeartbeats 4000000 in
theorem readT_c (mb r g : Nat) (ch : Int) (off : Nat) (hc : (ch = 70 ∧ off = 1) ∨ (ch = 69 ∧ off = 2) ∨ (ch = 84 ∧ off = 3)) (m : Msg) (A : Option Addr) (c : Nat) (t : ByteArray) (rest : List Int) (w : World) (hs : t.size ≤ 200) (hR : RdrAt w r g (textB t ++ rest)) (hM : MB w mb m A c)
    (hmr : mb ≠ r) (hmg : mb ≠ g) (R : Ending → World → Prop)
    (h : ∀ w', Kept [r, mb] w w' → RdrAt w' r g rest → MB w' mb (setT m ch t) A c → R (.returned (.tuple #[])) w') :
    Calls Tryd.prog 40 #[.pointer (some ⟨mb, 0, none⟩), .int .i32 ch, .pointer (some ⟨r, 0, none⟩)] w R := by
  have H := Lib.hid h
  have HR := Lib.hid hR
  have HM := Lib.hid hM
  have hrl := hR.lt
  have hin : (ch, off) ∈ [((70 : Int), 1), (69, 2), (84, 3)] := by rcases hc with ⟨rfl, rfl⟩ | ⟨rfl, rfl⟩ | ⟨rfl, rfl⟩ <;> simp
  have hlk := fun (W : World) (es : Array MapEntry) (hes : IsFM mb [(70, 1), (69, 2), (84, 3)] es) (M : Nat) (hM : W.heap[M]? = some (.map es 3)) => IsFM.lookup (P := Tryd.prog) Tryd.underlying60 Tryd.underlying21 hes hM (by intro k o h; simp only [List.mem_cons, Prod.mk.injEq, List.mem_nil_iff, or_false] at h; omega) (by decide) hin
  have Hlk := Lib.hid hlk
  obtain ⟨s0, hs0⟩ := txt_cell (m := m) (A := A) (c := c) hc
  have Hs0 := Lib.hid hs0
  clear h hR hM hlk hs0 hin
  rcases hc with ⟨rfl, rfl⟩ | ⟨rfl, rfl⟩ | ⟨rfl, rfl⟩
  all_goals
    go_enter Tryd.func40, Tryd.ntmps40
    go_wp2_with fail
    go_region_with (first
      | (go_at_call 51; have Hx := Hm2; clear Hx; refine rdText_c r g t rest _ hs (HR.out.kept (Kept.of_below (S := []) Hb2.out) (by simp) (by simp)) _ (fun w3 hk3 hR3 => ?_); have HW : Hid (RdW w r g mb rest m A c w3) := Lib.hid (RdW.mk1 HM.out Hb2.out hk3 hR3 hmr); have hk := Hlk.out w3 es Hes.out w.heap.size ((hk3.block _ (Array.getElem?_eq_some_iff.1 Hm2.out).1 (by simp; omega)).trans Hm2.out); obtain ⟨q1, q2⟩ := HW.out.mem.cell _ Hs0.out; have q3 := HW.out.mem.lt; clear hk3 hR3 hk2)
      | (go_at_call 51; refine rdText_c r g t rest _ hs (HR.out.kept ((Kept.refl [] w).drew) (by simp) (by simp)) _ (fun w2 hk2 hR2 => ?_); have HT : Hid (RdW w r g mb rest m A c w2) := Lib.hid (RdW.mk1 HM.out (Below.refl _ w).drew hk2 hR2 hmr); clear hk2 hR2)
      | (go_at_call 23; have Hx := HT; clear Hx; refine texts_o mb _ _ (fun w3 es hes hB3 hM3 => ?_); have HW : Hid (RdW w r g mb rest m A c w3) := Lib.hid (HT.out.mk2 hB3); have hk := Hlk.out w3 es hes w2.heap.size hM3; obtain ⟨q1, q2⟩ := HW.out.mem.cell _ Hs0.out; have q3 := HW.out.mem.lt; clear hes hB3 hM3)
      | (go_at_call 23; refine texts_o mb _ _ (fun w2 es hes hB2 hM2 => ?_); have hk2 := Hlk.out w2 es hes w.heap.size hM2; have Hb2 : Hid (Below w.heap.size w w2) := Lib.hid ((Below.refl _ w).drew.trans hB2); have Hm2 : Hid (w2.heap[w.heap.size]? = some (.map es 3)) := Lib.hid hM2; have Hes := Lib.hid hes; clear hes hB2 hM2))
    all_goals
      go_end0
      exact fin_t H HW hmr hmg (by simp)

set_option maxHeartbeats 4000000 in
theorem readN_c (mb r g : Nat) (ch : Int) (off : Nat) (hc : (ch = 78 ∧ off = 4) ∨ (ch = 83 ∧ off = 5) ∨ (ch = 85 ∧ off = 6) ∨ (ch = 80 ∧ off = 7)) (m : Msg) (A : Option Addr) (c : Nat) (n : Int) (rest : List Int) (w : World) (hs : 0 ≤ n) (hs2 : n ≤ 34359738367) (hR : RdrAt w r g (numB n ++ rest)) (hM : MB w mb m A c)
    (hmr : mb ≠ r) (hmg : mb ≠ g) (R : Ending → World → Prop)
    (h : ∀ w', Kept [r, mb] w w' → RdrAt w' r g rest → MB w' mb (setN m ch n) A c → R (.returned (.tuple #[])) w') :
    Calls Tryd.prog 40 #[.pointer (some ⟨mb, 0, none⟩), .int .i32 ch, .pointer (some ⟨r, 0, none⟩)] w R := by
  have H := Lib.hid h
  have HR := Lib.hid hR
  have HM := Lib.hid hM
  have hrl := hR.lt
  have hin : (ch, off) ∈ [((78 : Int), 4), (83, 5), (85, 6), (80, 7)] := by rcases hc with ⟨rfl, rfl⟩ | ⟨rfl, rfl⟩ | ⟨rfl, rfl⟩ | ⟨rfl, rfl⟩ <;> simp
  have hlk := fun (W : World) (es : Array MapEntry) (hes : IsFM mb [(78, 4), (83, 5), (85, 6), (80, 7)] es) (M : Nat) (hM : W.heap[M]? = some (.map es 4)) => IsFM.lookup (P := Tryd.prog) Tryd.underlying66 Tryd.underlying21 hes hM (by intro k o h; simp only [List.mem_cons, Prod.mk.injEq, List.mem_nil_iff, or_false] at h; omega) (by decide) hin
  have Hlk := Lib.hid hlk
  obtain ⟨s0, hs0⟩ := num_cell9 (m := m) (A := A) (c := c) hc
  have Hs0 := Lib.hid hs0
  clear h hR hM hlk hs0 hin
  rcases hc with ⟨rfl, rfl⟩ | ⟨rfl, rfl⟩ | ⟨rfl, rfl⟩ | ⟨rfl, rfl⟩
  all_goals
    go_enter Tryd.func40, Tryd.ntmps40
    go_wp2_with fail
    go_region_with (first
      | (go_at_call 53; have Hx := Hm2; clear Hx; refine rdNum_c r g n rest _ hs hs2 (HR.out.kept (Kept.of_below (S := []) Hb2.out) (by simp) (by simp)) _ (fun w3 hk3 hR3 => ?_); have HW : Hid (RdW w r g mb rest m A c w3) := Lib.hid (RdW.mk1 HM.out Hb2.out hk3 hR3 hmr); have hk := Hlk.out w3 es Hes.out w.heap.size ((hk3.block _ (Array.getElem?_eq_some_iff.1 Hm2.out).1 (by simp; omega)).trans Hm2.out); obtain ⟨q1, q2⟩ := HW.out.mem.cell _ Hs0.out; have q3 := HW.out.mem.lt; clear hk3 hR3 hk2)
      | (go_at_call 53; refine rdNum_c r g n rest _ hs hs2 (HR.out.kept ((Kept.refl [] w).drew) (by simp) (by simp)) _ (fun w2 hk2 hR2 => ?_); have HT : Hid (RdW w r g mb rest m A c w2) := Lib.hid (RdW.mk1 HM.out (Below.refl _ w).drew hk2 hR2 hmr); clear hk2 hR2)
      | (go_at_call 26; have Hx := HT; clear Hx; refine numbers_o mb _ _ (fun w3 es hes hB3 hM3 => ?_); have HW : Hid (RdW w r g mb rest m A c w3) := Lib.hid (HT.out.mk2 hB3); have hk := Hlk.out w3 es hes w2.heap.size hM3; obtain ⟨q1, q2⟩ := HW.out.mem.cell _ Hs0.out; have q3 := HW.out.mem.lt; clear hes hB3 hM3)
      | (go_at_call 26; refine numbers_o mb _ _ (fun w2 es hes hB2 hM2 => ?_); have hk2 := Hlk.out w2 es hes w.heap.size hM2; have Hb2 : Hid (Below w.heap.size w w2) := Lib.hid ((Below.refl _ w).drew.trans hB2); have Hm2 : Hid (w2.heap[w.heap.size]? = some (.map es 4)) := Lib.hid hM2; have Hes := Lib.hid hes; clear hes hB2 hM2))
    all_goals
      go_end0
      exact fin_n H HW hmr hmg (by simp)

def setI (m : Msg) (l : List Itm) : Msg := { m with items := l }
theorem readI_c (mb r g : Nat) (m : Msg) (A : Option Addr) (c : Nat) (l : List Itm) (rest : List Int) (w : World) (hb : Back l) (hR : RdrAt w r g (itemsB l ++ rest)) (hM : MB w mb m A c)
    (hmr : mb ≠ r) (hmg : mb ≠ g) (hg : g < w.heap.size) (R : Ending → World → Prop)
    (h : ∀ A' c' w', Kept [r, mb] w w' → RdrAt w' r g rest → MB w' mb (setI m l) A' c' → ItmsAt w' A' l.length l → (∀ a, A' = some a → w.heap.size ≤ a.block) → R (.returned (.tuple #[])) w') :
    Calls Tryd.prog 40 #[.pointer (some ⟨mb, 0, none⟩), .int .i32 73, .pointer (some ⟨r, 0, none⟩)] w R := by
  have H := Lib.hid h
  have HR := Lib.hid hR
  have HM := Lib.hid hM
  clear h hR hM
  go_enter Tryd.func40, Tryd.ntmps40
  go_wp2_with fail
  refine readItems_c r g l rest w hb HR.out hg _ (fun A1 c1 w1 hk1 hR1 hI1 hA1 => ?_)
  have HW : Hid (RdW w r g mb rest m A c w1) := Lib.hid (RdW.mk1 HM.out (Below.refl _ w) hk1 hR1 hmr)
  obtain ⟨q1, q2⟩ := HW.out.mem.cell 8 (v := .slice A m.items.length c) rfl
  have q3 := HW.out.mem.lt
  have HI1 := Lib.hid hI1
  have HA1 := Lib.hid hA1
  have hmb := HM.out.lt
  clear hk1 hR1 hI1 hA1
  go_wp2_with fail
  go_end0
  have hM' : MB (w1.setCell ⟨mb, 8, none⟩ (.slice A1 l.length c1)) mb (setI m l) A1 c1 := by
    have h' : w1.heap[mb]? = some (.cells (msgCells m A c) 28) := HW.out.mem
    unfold MB
    simp [World.setCell, Array.getElem?_modify, h', msgCells, setI]
  obtain ⟨z1, z2, z3⟩ := HW.out.fin hmr hmg (.slice A1 l.length c1) hM'
  refine H.out A1 c1 _ z1 z2 z3 ⟨rfl, fun h0 => ?_⟩ HA1.out
  obtain ⟨b, o, e, hb1, hc1⟩ := HI1.out.2 h0
  have hne : b ≠ mb := by have := HA1.out _ e; show b ≠ mb; intro e2; simp only at this; omega
  refine ⟨b, o, e, by simpa [World.setCell] using hb1, fun j x hx => ?_⟩
  obtain ⟨c2, c3⟩ := hc1 j x hx
  have hk : Kept [mb] w1 (w1.setCell ⟨mb, 8, none⟩ (.slice A1 l.length c1)) := (Kept.refl _ _).setCell (by simp) _
  exact ⟨(hk.cell (p := ⟨b, _, none⟩) hb1 (by simpa using hne)).trans c2, (hk.cell (p := ⟨b, _, none⟩) hb1 (by simpa using hne)).trans c3⟩
end Go.Proofs.YtjndigkphoiohaaDoor
