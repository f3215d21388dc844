/-
  message.readItems: the next items, where the bytes begin with some.
-/
import Derived.Test.YtjndigkphoiohaaDoorRdText
import Derived.Test.YtjndigkphoiohaaDoorPack
import Derived.Test.YtjndigkphoiohaaDoorErrA
import Derived.Outline
namespace Go.Proofs.YtjndigkphoiohaaDoor
open Go.RowKit Go.Shelf
set_option maxRecDepth 100000

/-- Items that come back as they were packed. -/
def Back (l : List Itm) : Prop := l.length ≤ 4 ∧ ∀ x ∈ l, x.t.size ≤ 200 ∧ nofS (partsD x).1 (partsD x).2 = (x.re, x.im) ∧ 0 ≤ (partsD x).1 ∧ (partsD x).1 ≤ 100000 ∧ 0 ≤ (partsD x).2 ∧ (partsD x).2 ≤ 100000
theorem numB_nat {n : Int} (h0 : 0 ≤ n) (h1 : n ≤ 34359738367) : numB n = numN n.toNat := by unfold numB; rw [if_neg (by omega)]

theorem rdNum_c (r g : Nat) (n : Int) (rest : List Int) (w : World) (h0 : 0 ≤ n) (h1 : n ≤ 34359738367) (hR : RdrAt w r g (numB n ++ rest)) (R : Ending → World → Prop)
    (h : ∀ w', Kept [r] w w' → RdrAt w' r g rest → R (.returned (.int .i64 n)) w') :
    Calls Tryd.prog 53 #[.pointer (some ⟨r, 0, none⟩)] w R := by
  rw [numB_nat h0 h1] at hR
  obtain ⟨k, rfl⟩ := Int.eq_ofNat_of_zero_le h0
  exact rdNumber_c r g k rest w (by omega) hR R h

theorem Kept.grown {r : Nat} {w w' : World} (h : Kept [r] w w') : w.grownBy w' (some r) := ⟨h.os, h.tape, h.output, h.size, fun k hk hs => h.block k hk (fun e => hs (by simp at e; rw [e]))⟩
theorem Kept.grow {S : List Nat} {w0 w w' : World} {row : Option Nat} (h : Kept S w0 w) (hg : w.grownBy w' row) (hr : ∀ g, row = some g → w0.heap.size ≤ g) : Kept S w0 w' :=
  ⟨hg.os.trans h.os, hg.tape.trans h.tape, hg.output.trans h.output, Nat.le_trans h.size hg.size, fun k hk hs => (hg.block k (Nat.lt_of_lt_of_le hk h.size) (fun e => by have := hr k e.symm; omega)).trans (h.block k hk hs)⟩
theorem RdrAt.grow {w w' : World} {row : Option Nat} {r g B : Nat} {l : List Int} (h : RdrAt w r g l) (hg : w.grownBy w' row) (hb : ∀ k, row = some k → B ≤ k) (hr : r < B) (hgB : g < B) : RdrAt w' r g l := by
  obtain ⟨hne, A, n, c, hh, hnc, hR⟩ := h
  have hrl := (Array.getElem?_eq_some_iff.1 hh).1
  refine ⟨hne, A, n, c, (hg.block r hrl (fun e => by have := hb r e.symm; omega)).trans hh, hnc, hR.1, fun h0 => ?_⟩
  obtain ⟨o, e, hlt, hc⟩ := hR.2 h0
  exact ⟨o, e, Nat.lt_of_lt_of_le hlt hg.size, fun j u hu => hg.cell (hc j u hu) (fun e => by have := hb g e.symm; omega)⟩
/-- Items that a call has laid. -/
theorem own_itms {w : World} {base k : Nat} {v : Value} {l : List Itm} (h : w.ownsRow base 25 2 v k (rowCells l)) (hl : l.length = k) : ∃ A c, v = .slice A k c ∧ ItmsAt w A k l ∧ ∀ a, A = some a → base ≤ a.block := by
  have hbase := fun k hk => (h.lt k hk).1
  obtain ⟨A, c, rfl, hs⟩ := own_shape' h
  refine ⟨A, c, rfl, ⟨hl, fun h0 => ?_⟩, fun a ha => hbase a.block (by rw [ha]; rfl)⟩
  obtain ⟨g, rfl, _, hg⟩ := hs h0
  refine ⟨g, 0, rfl, hg, fun j x hj => ?_⟩
  obtain ⟨h1, h2⟩ := rowCells_at l j x hj
  have e1 := h.cells (g := g) rfl _ _ h1
  have e2 := h.cells (g := g) rfl _ _ h2
  rw [Addr.add_lit] at e1 e2
  exact ⟨e1, e2⟩
theorem rowCells_snoc (l : List Itm) (x : Itm) : rowCells (l ++ [x]) = rowCells l ++ [.string x.t, .complex .f64 x.re x.im] := by simp [rowCells]

set_option maxHeartbeats 4000000 in
theorem readItems_c (r g : Nat) (l : List Itm) (rest : List Int) (w : World) (hb : Back l) (hR : RdrAt w r g (itemsB l ++ rest)) (hg : g < w.heap.size) (R : Ending → World → Prop)
    (h : ∀ A c w', Kept [r] w w' → RdrAt w' r g rest → ItmsAt w' A l.length l → (∀ a, A = some a → w.heap.size ≤ a.block) → R (.returned (.slice A l.length c)) w') :
    Calls Tryd.prog 52 #[.pointer (some ⟨r, 0, none⟩)] w R := by
  have H := Lib.hid h
  have Hb := Lib.hid hb
  have hlt := hR.lt
  have hl4 := hb.1
  unfold itemsB at hR
  rw [List.append_assoc] at hR
  have HR := Lib.hid hR
  have hln : (l.length : Int) ≤ 4 := by omega
  obtain ⟨n, hn⟩ : ∃ n, n = l.length := ⟨_, rfl⟩
  rw [← hn] at HR hln hl4
  have Hnl := Lib.hid hn
  clear h hb hR hn
  go_enter Tryd.func52, Tryd.ntmps52
  go_wp2_with fail
  refine rdNum_c r g n _ w (by omega) (by omega) HR.out _ (fun w1 hk1 hR1 => ?_)
  have HK1 := Lib.hid hk1
  have HR1 := Lib.hid hR1
  clear hk1 hR1
  go_wp2_with fail
  go_loopw [3, 5] (fun v i wr => ∃ k : Nat, k ≤ n ∧ i = .int .i64 k ∧ Kept [r] w wr ∧ w1.heap.size ≤ wr.heap.size ∧ RdrAt wr r g (((l.drop k).map itemB).flatten ++ rest) ∧ Hid (wr.ownsRow w1.heap.size 25 2 v k (rowCells (l.take k)))) (fun _ i _ => n - (RowKit.intOf i).toNat)
  case atStart => exact ⟨0, Nat.zero_le _, rfl, HK1.out, Nat.le_refl _, by simpa using HR1.out, Lib.hid (own_nil' _ _ _ _)⟩
  case round =>
    obtain ⟨k, hk, rfl, hK, hsz, hRk, Hown⟩ := hrel
    by_cases hc : k < n
    · obtain ⟨x, hx⟩ : ∃ x, l[k]? = some x := ⟨_, List.getElem?_eq_getElem (by have := Hnl.out; omega)⟩
      obtain ⟨q1, q2, q3, q4, q5, q6⟩ := Hb.out.2 x (List.mem_of_getElem? hx)
      have hd : ((l.drop k).map itemB).flatten ++ rest = textB x.t ++ (numB (partsD x).1 ++ (numB (partsD x).2 ++ (((l.drop (k + 1)).map itemB).flatten ++ rest))) := by
        have hkl := (List.getElem?_eq_some_iff.1 hx).1
        rw [List.drop_eq_getElem_cons hkl, List.map_cons, List.flatten_cons, (List.getElem?_eq_some_iff.1 hx).2]
        simp [itemB]
      have htk : rowCells (l.take (k + 1)) = rowCells (l.take k) ++ [.string x.t, .complex .f64 x.re x.im] := by
        rw [List.take_add_one, hx]
        exact rowCells_snoc _ _
      rw [hd] at hRk
      have Htk := Lib.hid htk
      have HRk := Lib.hid hRk
      have HK := Lib.hid hK
      have hkI : (k : Int) ≤ 4 := by omega
      have t1 : decide (k < n) = true := by simp [hc]
      obtain ⟨p1, hp1⟩ : ∃ p1, p1 = (partsD x).1 := ⟨_, rfl⟩
      obtain ⟨p2, hp2⟩ : ∃ p2, p2 = (partsD x).2 := ⟨_, rfl⟩
      rw [← hp1, ← hp2] at HRk q2
      rw [← hp1] at q3 q4
      rw [← hp2] at q5 q6
      have Q2 := Lib.hid q2
      clear hx hd htk hRk hK hp1 hp2 q2
      go_wp2_with fail
      refine rdBad_c r g _ wr HRk.out _ ?_
      go_wp2_with fail
      refine rdText_c r g x.t _ wr q1 HRk.out _ (fun w2 hk2 hR2 => ?_)
      go_wp2_with fail
      refine rdNum_c r g p1 _ w2 q3 (by omega) hR2 _ (fun w3 hk3 hR3 => ?_)
      go_wp2_with fail
      refine rdNum_c r g p2 _ w3 q5 (by omega) hR3 _ (fun w4 hk4 hR4 => ?_)
      go_wp2_with fail
      refine of_c p1 p2 _ _ ?_
      rw [Q2.out]
      have hk24 := (hk2.trans hk3).trans hk4
      have hne : u3.ownBlock ≠ some r := fun e => by
        have := (Hown.out.lt r e).1
        have := HK1.out.size
        omega
      have hown4 := Hown.out.kept hk24.grown (.inr hne)
      have HK4 := Lib.hid (HK.out.trans hk24)
      have HR4 := Lib.hid hR4
      have HK24 := Lib.hid hk24
      have hbs : w1.heap.size ≤ w4.heap.size := Nat.le_trans hsz HK24.out.size
      clear hk2 hR2 hk3 hR3 hk4 hR4 hk24
      go_wp2_with (at_builtin; (refine app_one w1.heap.size rfl _ _ 26 25 (.agg #[.string ⟨#[]⟩, .complex .f64 0 0]) 2 32 rfl Tryd.underlying26 infoItm (by kernel_rfl) (by decide) (by decide) _ k _ #[.string x.t, .complex .f64 x.re x.im] rfl rfl _ rfl (by simp) (by simp [Value.oneCell']) (by exact hown4) hbs (by omega) ?_); intro v1 w5 hown5 hg5 hgb5)
      have hwb := HK1.out.size
      refine ⟨⟨k + 1, by omega, by go_num, HK4.out.grow hg5 (fun g hg => Nat.le_trans hwb (hgb5 g hg)), Nat.le_trans hbs hg5.size, HR4.out.grow hg5 hgb5 (by omega) (by omega), Lib.hid ?_⟩, by simp [RowKit.intOf]; omega⟩
      rw [Htk.out]
      exact hown5
    · obtain rfl : k = n := by omega
      have e1 : l.take k = l := List.take_of_length_le (by have := Hnl.out; omega)
      have e2 : l.drop k = [] := List.drop_eq_nil_of_le (by have := Hnl.out; omega)
      rw [e1] at Hown
      rw [e2] at hRk
      obtain ⟨A, c, rfl, hI, hA⟩ := own_itms Hown.out Hnl.out.symm
      have HI := Lib.hid hI
      have HA : Hid (∀ a, A = some a → w.heap.size ≤ a.block) := Lib.hid (fun a ha => Nat.le_trans HK1.out.size (hA a ha))
      have HK := Lib.hid hK
      have HRk := Lib.hid hRk
      have t1 : decide (k < k) = false := by simp
      clear e1 e2 hI hA hK hRk hc
      go_wp2_with fail
      have HH := H.out A c wr HK.out (by simpa using HRk.out)
      rw [← Hnl.out] at HH
      exact HH HI.out HA.out
end Go.Proofs.YtjndigkphoiohaaDoor
