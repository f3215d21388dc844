/-
  admit.Pack: an entry as bytes.
-/
import Derived.Test.YtdmcponfodohaaaGreatDoorAdmit
import Derived.Outline
import Derived.Deep.RegionWith
namespace Go.Proofs.YtdmcponfodohaaaGreatDoor
open Go.RowKit Go.Shelf
set_option maxRecDepth 100000

def admB (f e : ByteArray) (r : Int) (l : List Itm) : List Int := textB f ++ textB e ++ (numB r ++ itemsB l)
theorem runM_pack (f e : ByteArray) (l : List Itm) : packB (runM f e l) = 1 :: (textB f ++ textB e ++ itemsB l) := by
  show (1 : Int) % 256 :: (([70, 69, 73] : List Int).map (fieldB (runM f e l))).flatten = _
  simp [fieldB, runM]

theorem numN_pos (n : Nat) : 0 < (numN n).length := by
  rw [numN.eq_def]
  split <;> simp
theorem itemsB_pos (l : List Itm) (h : l.length ≤ 1000000) : 0 < (itemsB l).length := by
  have : numB (l.length : Int) = numN l.length := by unfold numB; rw [if_neg (by omega)]; rfl
  unfold itemsB
  rw [List.length_append, this]
  have := numN_pos l.length
  omega
theorem rows_3l {A1 A2 A3 : Option Addr} {n1 n2 n3 c1 c2 c3 : Nat} {l1 l2 l3 : List Int} (w2 : World) (e1 : n1 = l1.length) (e2 : n2 = l2.length) (e3 : n3 = l3.length) (h1 : Rd w2 A1 l1.length (u8s l1)) (h2 : Rd w2 A2 l2.length (u8s l2)) (h3 : Rd w2 A3 l3.length (u8s l3)) :
    RdRows (w2.alloc (.cells #[.slice A1 n1 c1, .slice A2 n2 c2, .slice A3 n3 c3] 37)) (some ⟨w2.heap.size, 0, none⟩) 3 [l1, l2, l3] := by
  subst e1 e2 e3
  have hb : ∀ X, Below w2.heap.size w2 (w2.alloc X) := fun X => (Below.refl _ _).alloc (Nat.le_refl _) _
  refine ⟨rfl, fun _ => ⟨w2.heap.size, 0, rfl, by simp, fun j l hl => ?_⟩⟩
  rcases j with _ | _ | _ | j
  · cases hl; exact ⟨_, _, by rw [cell_of_row _ _ _ _ _ _ (heap_alloc_new w2 _)]; rfl, h1.below (hb _)⟩
  · cases hl; exact ⟨_, _, by rw [cell_of_row _ _ _ _ _ _ (heap_alloc_new w2 _)]; rfl, h2.below (hb _)⟩
  · cases hl; exact ⟨_, _, by rw [cell_of_row _ _ _ _ _ _ (heap_alloc_new w2 _)]; rfl, h3.below (hb _)⟩
  · cases hl
theorem three_total (f e : ByteArray) (r : Int) (l : List Itm) (h : l.length ≤ 1000000) : total [textB f ++ textB e, numB r, itemsB l] ≤ 1000000000 := by
  have h1 := textB_le f
  have h2 := textB_le e
  have h3 := numB_le r
  have h4 := itemsB_le l
  have h5 := numB_le (l.length : Int)
  simp only [total, itemsB, List.flatten_cons, List.flatten_nil, List.length_append, List.length_nil]
  omega
theorem run_slice_from {P : Program} {t e : TypeId} (ht : P.underlying t = some (.slice e)) (hs : (P.info? e).map (·.size) = some 1) (A : Option Addr) (n c k : Nat) (i : Int) (hi : i = k) (hk : k ≤ n) (w : World) :
    (Instr.slice t (.slice A n c) (some (.int .i64 i)) none none).run P w = .ok (.slice (if c = k then A else A.map (·.add k)) (n - k) (c - k)) w := by
  subst hi
  cases hq : P.info? e with
  | none => simp [hq] at hs
  | some ie =>
    have h1 : ie.size = 1 := by simpa [hq] using hs
    simp [Instr.slice, Sem.run_bind, run_underlying ht, Instr.sliceBounds, Instr.sliceBound, asIntOf, sizeOf, typeInfo, hq, h1, hk]
theorem adm_end (w : World) {w3 wa wb wc wd : World} {X : Obj} {v : Value} {l1 l2 l3 : List Int} (h3 : Below w.heap.size w w3) (ha : Below w3.heap.size w3 wa) (hb : Below wa.heap.size wa wb) (hc : Below wb.heap.size wb wc) (hd : Below (wc.alloc X).heap.size (wc.alloc X) wd)
    (ho : wd.ownsRow (wc.alloc X).heap.size 5 1 v [l1, l2, l3].flatten.length (u8s [l1, l2, l3].flatten)) : Below w.heap.size w wd ∧ wd.ownsRow w.heap.size 5 1 v (l1 ++ (l2 ++ l3)).length (u8s (l1 ++ (l2 ++ l3))) := by
  have h := ((h3.trans (ha.mono h3.size)).trans (hb.mono (Nat.le_trans h3.size ha.size))).trans (hc.mono (Nat.le_trans (Nat.le_trans h3.size ha.size) hb.size))
  have h' := h.alloc h.size X
  refine ⟨h'.trans (hd.mono h'.size), ?_⟩
  have := own_mono ho h'.size
  simpa using this
theorem entry_cells {w' : World} {b : Nat} {f e : ByteArray} {r : Int} {A : Option Addr} {n c : Nat} {t : TypeId} {fr : Nat × Nat} (hX : w'.heap[b]? = some (.cells #[.string f, .string e, .int .i64 r, .slice A n c] t fr)) :
    w'.cell? ⟨b, 0, none⟩ = some (.string f) ∧ w'.cell? ⟨b, 1, none⟩ = some (.string e) ∧ w'.cell? ⟨b, 2, none⟩ = some (.int .i64 r) ∧ w'.cell? ⟨b, 3, none⟩ = some (.slice A n c) ∧ b < w'.heap.size := by
  refine ⟨?_, ?_, ?_, ?_, (Array.getElem?_eq_some_iff.1 hX).1⟩
  all_goals rw [cell_of_row w' b _ _ _ _ hX]; rfl

set_option maxHeartbeats 4000000 in
theorem admPack_c (f e : ByteArray) (r : Int) (A : Option Addr) (c : Nat) (l : List Itm) (w : World) (hm : MsgOk (runM f e l)) (hI : ItmsAt w A l.length l) (hneed : validS (runM f e l) = true → ∀ x ∈ l, (npartsS x.re x.im).isSome = true) (R : Ending → World → Prop)
    (hbad : admOk f e r l = false → ∀ w', Below w.heap.size w w' → R (.returned (.tuple #[.slice none 0 0, .int .i64 1])) w')
    (hok : admOk f e r l = true → ∀ v w', Below w.heap.size w w' → w'.ownsRow w.heap.size 5 1 v (admB f e r l).length (u8s (admB f e r l)) → R (.returned (.tuple #[v, .int .i64 0])) w') :
    Calls Tryz.prog 39 #[entryV f e r A l.length c] w R := by
  have Hbad := Lib.hid hbad
  have Hok := Lib.hid hok
  have Hm := Lib.hid hm
  have HI := Lib.hid hI
  have Hneed := Lib.hid hneed
  clear hbad hok hm hI hneed
  unfold entryV
  go_enter Tryz.func39, Tryz.ntmps39
  go_wp2_with fail
  have hB0 : Below w.heap.size w (w.alloc (.cells #[.string f, .string e, .int .i64 r, .slice A l.length c] 30)) := (Below.refl _ _).alloc (Nat.le_refl _) _
  refine admCheck_c f e r A c l _ Hm.out (HI.out.below hB0) _ (fun w1 hB1 => ?_)
  have hX : w1.heap[w.heap.size]? = some (.cells #[.string f, .string e, .int .i64 r, .slice A l.length c] 30) := (hB1.block _ (by simp)).trans (heap_alloc_new w _)
  have HB1 : Hid (Below w.heap.size w w1) := Lib.hid (hB0.trans (hB1.mono (by simp)))
  clear hB0 hB1
  cases hv : admOk f e r l with
  | false =>
    rw [if_neg (by simp)]
    have H := Lib.hid (Hbad.out hv w1 HB1.out)
    clear hX hv
    go_wp2_with fail
    exact H.out
  | true =>
    rw [if_pos rfl]
    have hvS : validS (runM f e l) = true := by
      unfold admOk at hv
      cases h : validS (runM f e l)
      · rw [h] at hv; simp at hv
      · rfl
    have H := Lib.hid (Hok.out hv)
    have Hn := Lib.hid (Hneed.out hvS)
    have HvS := Lib.hid hvS
    have hlt : w.heap.size < w1.heap.size := (Array.getElem?_eq_some_iff.1 hX).1
    have e0 : w1.cell? ⟨w.heap.size, 0, none⟩ = some (.string f) := by rw [cell_of_row w1 w.heap.size 0 _ _ _ hX]; rfl
    have e1 : w1.cell? ⟨w.heap.size, 1, none⟩ = some (.string e) := by rw [cell_of_row w1 w.heap.size 1 _ _ _ hX]; rfl
    have e2 : w1.cell? ⟨w.heap.size, 2, none⟩ = some (.int .i64 r) := by rw [cell_of_row w1 w.heap.size 2 _ _ _ hX]; rfl
    have e3 : w1.cell? ⟨w.heap.size, 3, none⟩ = some (.slice A l.length c) := by rw [cell_of_row w1 w.heap.size 3 _ _ _ hX]; rfl
    have HX := Lib.hid hX
    clear hX hv hvS Hbad Hok Hneed
    go_wp2_with fail
    refine run_c f e r A _ c _ _ (fun w2 hB2 => ?_)
    have HB2 : Hid (Below w.heap.size w w2) := Lib.hid (HB1.out.trans (hB2.mono HB1.out.size))
    have HX2 : Hid (w2.heap[w.heap.size]? = some (.cells #[.string f, .string e, .int .i64 r, .slice A l.length c] 30)) := Lib.hid ((hB2.block _ hlt).trans HX.out)
    clear hB2 e0 e1 e2 e3 hlt
    go_wp2_with fail
    refine pack_c (runM f e l) A c _ Hm.out (HI.out.below HB2.out) (fun _ => Hn.out) _ (fun hx => by rw [HvS.out] at hx; cases hx) (fun _ v w3 hB3 hown => ?_)
    have HB3 : Hid (Below w.heap.size w w3) := Lib.hid (HB2.out.trans (hB3.mono HB2.out.size))
    have hX3 : w3.heap[w.heap.size]? = some (.cells #[.string f, .string e, .int .i64 r, .slice A l.length c] 30) := (hB3.block _ (Array.getElem?_eq_some_iff.1 HX2.out).1).trans HX2.out
    obtain ⟨Am, cm, rfl, hrd, hcm⟩ := own_rd hown
    have hpl : (packB (runM f e l)).length = 1 + (textB f ++ textB e).length + (itemsB l).length := by rw [runM_pack]; simp; omega
    have Hpl := Lib.hid hpl
    have Hrd := Lib.hid hrd
    have Hcm := Lib.hid hcm
    clear hpl hrd hcm hB3 hown
    have e0 : w3.cell? ⟨w.heap.size, 0, none⟩ = some (.string f) := by rw [cell_of_row w3 w.heap.size 0 _ _ _ hX3]; rfl
    have e1 : w3.cell? ⟨w.heap.size, 1, none⟩ = some (.string e) := by rw [cell_of_row w3 w.heap.size 1 _ _ _ hX3]; rfl
    have e2 : w3.cell? ⟨w.heap.size, 2, none⟩ = some (.int .i64 r) := by rw [cell_of_row w3 w.heap.size 2 _ _ _ hX3]; rfl
    have e3 : w3.cell? ⟨w.heap.size, 3, none⟩ = some (.slice A l.length c) := by rw [cell_of_row w3 w.heap.size 3 _ _ _ hX3]; rfl
    have hlt3 : w.heap.size < w3.heap.size := (Array.getElem?_eq_some_iff.1 hX3).1
    have HX3 := Lib.hid hX3
    clear hX3
    go_wp2_with fail
    obtain ⟨N, hN⟩ : ∃ N, N = (textB f ++ textB e).length := ⟨_, rfl⟩
    obtain ⟨n, hn⟩ : ∃ n, n = (packB (runM f e l)).length := ⟨_, rfl⟩
    have hNl : N ≤ 412 := by
      have h1 := textB_le f
      have h2 := textB_le e
      rw [hN, List.length_append]
      omega
    have hb1 : (1 + (N : Int)) ≤ (n : Int) := by have := Hpl.out; rw [← hn, ← hN] at this; omega
    have hb2 : (n : Int) ≤ (cm : Int) := by have := Hcm.out; rw [← hn] at this; omega
    have hb3 : n ≤ cm := by omega
    rw [← hn] at Hrd
    have hcne : cm ≠ 1 + N := by
      have h1 := Hpl.out
      have h2 := itemsB_pos l Hm.out.len
      rw [← hn, ← hN] at h1
      omega
    have hr4 : Rd w3 (Am.map (·.add (1 + N))) (n - (1 + N)) (u8s ((packB (runM f e l)).drop (1 + N))) := by
      have := Hrd.out.drop_ (c := cm) (k := 1 + N) (by omega) hb3
      rw [if_neg hcne] at this
      unfold u8s at this ⊢
      rw [List.map_drop]
      exact this
    have hcf : (cm = 1 + N) = False := eq_false hcne
    clear hcne
    have hm4 : n - (1 + N) = (itemsB l).length := by have := Hpl.out; rw [← hn, ← hN] at this; omega
    have hd4 : (packB (runM f e l)).drop (1 + N) = itemsB l := by
      rw [runM_pack, hN, Nat.add_comm, List.drop_succ_cons, List.drop_left]
    rw [hm4, hd4] at hr4
    have Hr4 := Lib.hid hr4
    have hwr : IntKind.i64.wrap (1 + (N : Int)) = 1 + (N : Int) := by rw [IntKind.wrap_i64]; omega
    have hb0 : (1 + (N : Int)) ≤ (n : Int) := by omega
    have hb00 : 0 ≤ 1 + (N : Int) := by omega
    have hto : (1 + (N : Int)).toNat = 1 + N := by omega
    have Hm4 := Lib.hid hm4
    clear hm4 hd4 hr4 hb1 hb2 hb3
    have HN := Lib.hid hN
    have Hnn := Lib.hid hn
    rw [← hn]
    clear hN hn e0 e1 e2 e3
    have HLT3 : Hid (w.heap.size < w3.heap.size) := Lib.hid hlt3
    have HXw3 := HX3
    have HLTw3 := HLT3
    obtain ⟨q0, q1, q2, q3, q4⟩ := entry_cells HX3.out
    go_region_with (first
      | (go_at_call 46; (refine concat_c _ 3 _ _ _ (rows_3l wc (by simp) rfl Hm4.out ((Ho1.out.below HBwb.out).below HBwc.out) (Ho2.out.below HBwc.out) (((Hr4.out.below HBwa.out).below HBwb.out).below HBwc.out)) (by omega) (three_total f e r l Hm.out.len) _ (fun v4 wd hBwd hown => ?_)); have Hfin := Lib.hid (adm_end w HB3.out HBwa.out HBwb.out HBwc.out hBwd hown); clear hBwd hown)
      | (go_at_call 78; have Hy := HBwb; clear Hy; refine names_c f e r A _ c _ _ (fun v3 wc hBwc hown => ?_); rw [← HN.out] at hown; obtain ⟨A3, c3, rfl, _⟩ := own_shape' hown; have HBwc := Lib.hid hBwc; have hXwc : wc.heap[w.heap.size]? = some (.cells #[.string f, .string e, .int .i64 r, .slice A l.length c] 30) := (hBwc.block _ HLTwb.out).trans HXwb.out; have HXwc := Lib.hid hXwc; obtain ⟨q0, q1, q2, q3, q4⟩ := entry_cells hXwc; have HLTwc := Lib.hid q4; clear hXwc; clear hBwc hown)
      | (go_at_call 47; refine codeNumber_c r _ _ (fun v2 wb hBwb hown => ?_); obtain ⟨A2, c2, rfl, hr2, _⟩ := own_rd hown; have HBwb := Lib.hid hBwb; have Ho2 := Lib.hid hr2; clear hr2; have hXwb : wb.heap[w.heap.size]? = some (.cells #[.string f, .string e, .int .i64 r, .slice A l.length c] 30) := (hBwb.block _ HLTwa.out).trans HXwa.out; have HXwb := Lib.hid hXwb; obtain ⟨q0, q1, q2, q3, q4⟩ := entry_cells hXwb; have HLTwb := Lib.hid q4; clear hXwb; clear hBwb hown)
      | (go_at_call 78; refine names_c f e r A _ c _ _ (fun v1 wa hBwa hown => ?_); obtain ⟨A1, c1, rfl, hr1, _⟩ := own_rd hown; have HBwa : Hid (Below w3.heap.size w3 wa) := Lib.hid ((Below.refl w3.heap.size w3).drew.trans hBwa); have Ho1 := Lib.hid hr1; clear hr1; have hXwa : wa.heap[w.heap.size]? = some (.cells #[.string f, .string e, .int .i64 r, .slice A l.length c] 30) := (hBwa.block _ HLTw3.out).trans HXw3.out; have HXwa := Lib.hid hXwa; obtain ⟨q0, q1, q2, q3, q4⟩ := entry_cells hXwa; have HLTwa := Lib.hid q4; clear hXwa; clear hBwa hown))
    all_goals
      go_wp2_with fail
      go_ret2
      exact H.out _ _ Hfin.out.1 Hfin.out.2
end Go.Proofs.YtdmcponfodohaaaGreatDoor
