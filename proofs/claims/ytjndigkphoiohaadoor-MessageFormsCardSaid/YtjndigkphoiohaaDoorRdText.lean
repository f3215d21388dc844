/-
  code.Reader.Text: the next text, where the bytes begin with one.
-/
import Derived.Test.YtjndigkphoiohaaDoorRdNum
import Derived.Outline
namespace Go.Proofs.YtjndigkphoiohaaDoor
open Go.RowKit Go.Shelf
set_option maxRecDepth 100000

theorem conv_text {w : World} {A : Option Addr} {n c : Nat} {xs : List Int} (hR : Rd w A n (u8s xs)) : (convert 30 9 (.slice A n c)).run Tryd.prog w = .ok (.string (strOfNums xs)) w := by
  have hl : xs.length = n := by have := hR.1; rwa [u8s_length] at this
  rcases A with _ | a
  · have h0 : n = 0 := by
      rcases Nat.eq_zero_or_pos n with h | h
      · exact h
      · obtain ⟨g, o, e, _⟩ := hR.2 h
        cases e
    subst h0
    obtain rfl : xs = [] := List.eq_nil_of_length_eq_zero hl
    exact run_convert_bytes_nil w _ _ Tryd.underlying30 Tryd.underlying5 _ _ _ Tryd.underlying9
  · have hld : (loadCells a n).run Tryd.prog w = .ok (u8s xs).toArray w := by
      have := run_loadCells_list (P := Tryd.prog) w a (u8s xs) (fun j v hj => by
        obtain ⟨g, o, e, _, hc⟩ := hR.2 (by have := (List.getElem?_eq_some_iff.1 hj).1; rw [u8s_length] at this; omega)
        injection e with e
        subst e
        rw [Addr.add_lit]
        exact hc j v hj)
      rwa [u8s_length, hl] at this
    rw [run_convert_bytes_string w _ _ _ _ n c Tryd.underlying30 Tryd.underlying5 Tryd.underlying9, run_bytesToString w _ n c xs hld, foldl_push_bytes]
    simp [strOfNums, ByteArray.empty, ByteArray.emptyWithCapacity]
    rfl
theorem str_bytes (t : ByteArray) : strOfNums (bytesL t) = t := by
  unfold strOfNums bytesL
  rw [List.map_map]
  have : ((fun n : Int => UInt8.ofNat n.toNat) ∘ fun b : UInt8 => (b.toNat : Int)) = id := by
    funext b
    simp
  rw [this, List.map_id, Array.toArray_toList]
theorem rd_end {w : World} {r g : Nat} {l : List Int} {A : Option Addr} {len c n : Nat} (h : RdrAt w r g l) (hG : RdG w g A len (u8s l)) (hk : n ≤ len) (hnc : len ≤ c) : RdrAt (w.setCell ⟨r, 0, none⟩ (.slice (if c = n then A else A.map (·.add n)) (len - n) (c - n))) r g (l.drop n) := by
  have := hG.drop_ hk hnc
  have e2 : (u8s l).drop n = u8s (l.drop n) := by unfold u8s; rw [← List.map_drop]
  rw [e2] at this
  exact h.step this (by omega)
theorem rdG_take {w : World} {g : Nat} {A : Option Addr} {len n : Nat} {l : List Int} (hG : RdG w g A len (u8s l)) (hk : n ≤ len) : Rd w A n (u8s (l.take n)) := by
  have := hG.rd.take_ hk
  have e2 : (u8s l).take n = u8s (l.take n) := by unfold u8s; rw [← List.map_take]
  rwa [e2] at this
theorem textB_eq {t : ByteArray} (hs : t.size ≤ 200) : textB t = numN t.size ++ bytesL t := by
  unfold textB numB
  rw [if_neg (by omega), if_neg (by omega)]
  rfl

set_option maxHeartbeats 4000000 in
theorem rdText_c (r g : Nat) (t : ByteArray) (rest : List Int) (w : World) (hs : t.size ≤ 200) (hR : RdrAt w r g (textB t ++ rest)) (R : Ending → World → Prop)
    (h : ∀ w', Kept [r] w w' → RdrAt w' r g rest → R (.returned (.string t)) w') :
    Calls Tryd.prog 51 #[.pointer (some ⟨r, 0, none⟩)] w R := by
  have H := Lib.hid h
  rw [textB_eq hs, List.append_assoc] at hR
  have HR := Lib.hid hR
  clear h hR
  go_enter Tryd.func51, Tryd.ntmps51
  go_wp2_with fail
  refine rdNumber_c r g t.size (bytesL t ++ rest) w (by omega) HR.out _ (fun w1 hk1 hR1 => ?_)
  have HK := Lib.hid hk1
  have HR1 := Lib.hid hR1
  clear hk1 hR1
  obtain ⟨A, len, c, c0, c1, f0, hlt, hlen, hnc, hG⟩ := HR1.out.open_
  have hfin := fun (h : t.size ≤ len) => rd_end HR1.out hG h hnc
  have hnl : t.size ≤ len := by rw [← hlen, List.length_append, bytesL_length]; omega
  have hcv := conv_text (c := c) (rdG_take hG hnl)
  have e1 : (bytesL t ++ rest).take t.size = bytesL t := by rw [List.take_append_of_le_length (by rw [bytesL_length]; omega), List.take_of_length_le (by rw [bytesL_length]; omega)]
  have e2 : (bytesL t ++ rest).drop t.size = rest := by rw [List.drop_append_of_le_length (by rw [bytesL_length]; omega), List.drop_eq_nil_of_le (by rw [bytesL_length]; omega)]; rfl
  rw [e1, str_bytes] at hcv
  have Hfin : Hid (RdrAt (w1.setCell ⟨r, 0, none⟩ (.slice (if c = t.size then A else A.map (·.add t.size)) (len - t.size) (c - t.size))) r g rest) := Lib.hid (by have := hfin hnl; rwa [e2] at this)
  have HG := Lib.hid hG
  obtain ⟨n, hn⟩ : ∃ n, n = t.size := ⟨_, rfl⟩
  rw [← hn] at Hfin hnl hcv hs ⊢
  have t1 : decide (200 < (n : Int)) = false := by simp; omega
  have t2 : decide (len < n) = false := by simp; omega
  clear hfin hlen hG e1 e2 hn
  rcases A with _ | a
  · go_wp2_with fail
    refine H.out _ (HK.out.setCell (by simp) _) ?_
    have hf := Hfin.out
    rw [show (if c = n then none else Option.map (fun x : Addr => x.add n) none) = none by split <;> rfl] at hf
    exact hf
  · go_wp2_with fail
    · have hc := h; clear h
      refine H.out _ (HK.out.setCell (by simp) _) ?_
      have hf := Hfin.out
      rw [if_pos hc, show c - n = 0 by omega] at hf
      exact hf
    · have hc := h; clear h
      refine H.out _ (HK.out.setCell (by simp) _) ?_
      have hf := Hfin.out
      rw [if_neg hc] at hf
      exact hf
end Go.Proofs.YtjndigkphoiohaaDoor
