/-
  admit.New$1, admit.New, admit.LastRun, hostlerplay.Task: what each answers; nothing that was there turns.
-/
import Derived.Test.YtjndigkphoiohaaDoorKnown
import Derived.Outline
namespace Go.Proofs.YtjndigkphoiohaaDoor
open Go.RowKit Go.Shelf
set_option maxRecDepth 100000

def knownB (L : List Ent) (f t : ByteArray) : Bool := L.any (hit f t)
theorem knownB_false {L : List Ent} {f t : ByteArray} (h : ∀ e ∈ L, hit f t e = false) : knownB L f t = false := by
  unfold knownB
  rw [List.any_eq_false]
  intro e he
  rw [h e he]
  simp
theorem knownB_true {L : List Ent} {f t : ByteArray} {i : Nat} {e : Ent} (hi : L[i]? = some e) (h : hit f t e = true) : knownB L f t = true := by
  unfold knownB
  rw [List.any_eq_true]
  exact ⟨e, List.mem_of_getElem? hi, h⟩

theorem cfN (args : Array Value) (w : World) : (callFunc 36 args).run Tryd.prog w = .ok (.enter 36 args) w := by
  kernel_rfl
theorem new1_c (x : Itm) (lb fb : Nat) (A : Option Addr) (n c : Nat) (L : List Ent) (f : ByteArray) (w : World) (hl : w.cell? ⟨lb, 0, none⟩ = some (.slice A n c)) (hf : w.cell? ⟨fb, 0, none⟩ = some (.string f)) (h1 : lb < w.heap.size) (h2 : fb < w.heap.size)
    (hE : EntsAt w A n L) (hn : n ≤ 1000000) (R : Ending → World → Prop) (h : ∀ w', Below w.heap.size w w' → R (.returned (.bool (knownB L f x.t))) w') :
    Calls Tryd.prog 36 #[itmV x, .pointer (some ⟨lb, 0, none⟩), .pointer (some ⟨fb, 0, none⟩)] w R := by
  have H := Lib.hid h
  have HE := Lib.hid hE
  clear h hE
  unfold itmV
  go_enter Tryd.func36, Tryd.ntmps36
  go_wp2_with fail
  have hB0 : Below w.heap.size w (w.alloc (.cells #[.string x.t, .complex .f64 x.re x.im] 25)) := (Below.refl _ _).alloc (Nat.le_refl _) _
  refine known_c A n c L f x.t _ (HE.out.below hB0) hn _ (fun hno w1 hB1 => ?_) (fun i e j y hi hh _ _ _ w1 hB1 => ?_)
  · have hk := knownB_false hno
    rw [hk] at H
    have hB : Below w.heap.size w w1 := hB0.trans (hB1.mono (by simp))
    have HB := Lib.hid hB
    clear hno hk hB1 hB0 hB
    go_wp2_with fail
    exact H.out _ (HB.out.alloc HB.out.size _)
  · have hk := knownB_true hi hh
    rw [hk] at H
    have hB : Below w.heap.size w w1 := hB0.trans (hB1.mono (by simp))
    have HB := Lib.hid hB
    clear hk hB1 hB0 hB hi hh
    unfold itmV
    go_wp2_with fail
    exact H.out _ (HB.out.alloc HB.out.size _)

theorem new_c (A B : Option Addr) (n c m d : Nat) (L : List Ent) (l : List Itm) (f : ByteArray) (w : World) (hE : EntsAt w A n L) (hI : ItmsAt w B m l) (hn : n ≤ 1000000) (hm : m ≤ 1000000) (R : Ending → World → Prop)
    (h : ∀ w', Below w.heap.size w w' → R (.returned (.bool (decide (n < 24) && !(l.any fun x => knownB L f x.t)))) w') :
    Calls Tryd.prog 16 #[.slice A n c, .string f, .slice B m d] w R := by
  have H := Lib.hid h
  have HE := Lib.hid hE
  have HI := Lib.hid hI
  clear h hE hI
  by_cases h24 : n < 24
  · have t1 : decide (n < 24) = true := by simp [h24]
    rw [t1] at H
    have t2 : decide ((n : Int) < 24) = true := by simp; omega
    clear t1
    go_enter Tryd.func16, Tryd.ntmps16
    go_wp2_with fail
    have hB0 : Below w.heap.size w ((w.alloc (.cells #[.slice A n c] 42)).alloc (.cells #[.string f] 9)) := ((Below.refl _ _).alloc (Nat.le_refl _) _).alloc (by simp) _
    have HB0 := Lib.hid hB0
    have HT : Hid (Tells 36 #[.pointer (some ⟨w.heap.size, 0, none⟩), .pointer (some ⟨w.heap.size + 1, 0, none⟩)] ((w.alloc (.cells #[.slice A n c] 42)).alloc (.cells #[.string f] 9)) l (fun x => knownB L f x.t)) := Lib.hid (fun y hy W R' hW hh => by
      have k1 : W.heap[w.heap.size]? = some (.cells #[.slice A n c] 42) := (hW.block _ (by simp; omega)).trans (heap_alloc2_old w _ _)
      have k2 : W.heap[w.heap.size + 1]? = some (.cells #[.string f] 9) := (hW.block _ (by simp)).trans (heap_alloc2_new w _ _)
      exact new1_c y w.heap.size (w.heap.size + 1) A n c L f W (by rw [cell_of_row W w.heap.size 0 _ _ _ k1]; rfl) (by rw [cell_of_row W (w.heap.size + 1) 0 _ _ _ k2]; rfl) (Array.getElem?_eq_some_iff.1 k1).1 (Array.getElem?_eq_some_iff.1 k2).1 ((HE.out.below HB0.out).below hW) hn R' hh)
    refine containsFunc_c B m d l (fun x => knownB L f x.t) 36 _ cfN _ (HI.out.below hB0) hm HT.out _ (fun w1 hB1 => ?_)
    have hB : Below w.heap.size w w1 := hB0.trans (hB1.mono (by simp; omega))
    have HB := Lib.hid hB
    clear hB0 hB1 hB
    cases hany : (l.any fun x => knownB L f x.t) with
    | false =>
      rw [hany] at H
      go_wp2_with fail
      exact H.out _ HB.out
    | true =>
      rw [hany] at H
      go_wp2_with fail
      exact H.out _ HB.out
  · have t1 : decide (n < 24) = false := by simp; omega
    rw [t1] at H
    have t2 : decide ((n : Int) < 24) = false := by simp; omega
    clear t1
    go_enter Tryd.func16, Tryd.ntmps16
    go_wp2_with fail
    exact H.out _ (((Below.refl _ _).alloc (Nat.le_refl _) _).alloc (by simp) _)

def lastS (f e : ByteArray) (L : List Ent) : Int := L.foldl (fun n x => if x.f.toList == f.toList && x.e.toList == e.toList then max n x.r else n) 0
theorem lastS_snoc (f e : ByteArray) (L : List Ent) (x : Ent) : lastS f e (L ++ [x]) = if x.f.toList == f.toList && x.e.toList == e.toList then max (lastS f e L) x.r else lastS f e L := by
  unfold lastS
  rw [List.foldl_append]
  rfl
theorem lastRun_c (A : Option Addr) (n c : Nat) (L : List Ent) (f e : ByteArray) (w : World) (hE : EntsAt w A n L) (hn : n ≤ 1000000) (R : Ending → World → Prop)
    (h : ∀ w', Below w.heap.size w w' → R (.returned (.int .i64 (lastS f e L))) w') :
    Calls Tryd.prog 18 #[.slice A n c, .string f, .string e] w R := by
  have H := Lib.hid h
  have HE := Lib.hid hE
  clear h hE
  go_enter Tryd.func18, Tryd.ntmps18
  go_wp2_with fail
  go_loopw [7, 12] (fun v i wr => ∃ (k : Nat) (q : Int), k ≤ n ∧ i = .int .i64 k ∧ v = .int .i64 q ∧ Below w.heap.size w wr ∧ Hid (q = lastS f e (L.take k))) (fun _ i _ => n - (RowKit.intOf i).toNat)
  case atStart => exact ⟨0, 0, by omega, rfl, rfl, Below.refl _ _, Lib.hid rfl⟩
  case round =>
    obtain ⟨k, q, hk, rfl, rfl, hB, Hq⟩ := hrel
    by_cases hc : k < n
    · have t1 : decide (k < n) = true := by simp; omega
      obtain ⟨b, o, x, B, c', rfl, hx, hb, h1, h2, h3, h4, h5, h6⟩ := (HE.out.below hB).at_ hc
      have Hx := Lib.hid hx
      have Hc := Lib.hid hc
      have HB := Lib.hid hB
      have hs : lastS f e (L.take (k + 1)) = if x.f.toList == f.toList && x.e.toList == e.toList then max q x.r else q := by
        rw [List.take_add_one, hx]
        show lastS f e (L.take k ++ [x]) = _
        rw [lastS_snoc, Hq.out]
      have Hs := Lib.hid hs
      clear h5 hx hc hB hs
      have hend : ∀ (W : World) (X : Obj), Below wr.heap.size wr W → Below w.heap.size w W := fun W X h => HB.out.trans (h.mono HB.out.size)
      have hBe : Below wr.heap.size wr (wr.alloc (.cells #[.string x.f, .string x.e, .int .i64 x.r, .slice B x.items.length c'] 39)) := (Below.refl _ _).alloc (Nat.le_refl _) _
      have HBe := Lib.hid (HB.out.trans (hBe.mono HB.out.size))
      clear hend hBe
      cases hb1 : (x.f.toList == f.toList) with
      | false =>
        rw [hb1] at Hs
        go_wp2_with fail
        refine ⟨⟨k + 1, q, by have := Hc.out; omega, by go_num, rfl, HBe.out, Lib.hid Hs.out.symm⟩, by have := Hc.out; simp [RowKit.intOf]; omega⟩
      | true =>
        cases hb2 : (x.e.toList == e.toList) with
        | false =>
          rw [hb1, hb2] at Hs
          go_wp2_with fail
          refine ⟨⟨k + 1, q, by have := Hc.out; omega, by go_num, rfl, HBe.out, Lib.hid Hs.out.symm⟩, by have := Hc.out; simp [RowKit.intOf]; omega⟩
        | true =>
          rw [hb1, hb2] at Hs
          go_wp2_with fail
          refine ⟨⟨k + 1, max q x.r, by have := Hc.out; omega, by go_num, ?_, HBe.out, Lib.hid Hs.out.symm⟩, by have := Hc.out; simp [RowKit.intOf]; omega⟩
          go_num
    · have hk' : k = n := by omega
      have t1 : decide (k < n) = false := by simp; omega
      have e : L.take k = L := by rw [hk', ← HE.out.1]; exact List.take_length
      rw [e] at Hq
      have HB := Lib.hid (H.out _ hB)
      clear e hk' hc
      go_wp2_with fail
      rw [Hq.out]
      exact HB.out

def tasks8 : List ByteArray := [⟨#[97]⟩, ⟨#[98]⟩, ⟨#[99]⟩, ⟨#[100]⟩, ⟨#[101]⟩, ⟨#[104]⟩, ⟨#[105]⟩, ⟨#[106]⟩]
def taskS (k : Int) : ByteArray := tasks8.getD k.toNat ⟨#[]⟩
theorem task_c (t : Int) (w : World) (R : Ending → World → Prop) (h : ∀ w', Below w.heap.size w w' → R (.returned (.string (taskS (t % 8)))) w') :
    Calls Tryd.prog 15 #[.int .i64 t] w R := by
  have H := Lib.hid h
  clear h
  go_enter Tryd.func15, Tryd.ntmps15
  go_wp2_with fail
  refine inside_c t 8 _ (by omega) (by omega) _ ?_
  have a0 := Int.emod_nonneg t (show (8 : Int) ≠ 0 by omega)
  have a1 := Int.emod_lt_of_pos t (show (0 : Int) < 8 by omega)
  obtain ⟨q, hq⟩ : ∃ q, t % 8 = q := ⟨_, rfl⟩
  rw [hq] at a0 a1 H ⊢
  clear hq
  obtain ⟨k, rfl⟩ := Int.eq_ofNat_of_zero_le a0
  have hX := heap_alloc_new w (.cells (tasks8.map Value.string).toArray 9)
  have hcell : (w.alloc (.cells (tasks8.map Value.string).toArray 9)).cell? ⟨w.heap.size, k, none⟩ = some (.string (taskS k)) := by
    rw [cell_of_row _ w.heap.size k _ _ _ hX]
    have hk : k < tasks8.length := by show k < 8; omega
    simp [taskS, List.getElem?_eq_getElem hk, List.getD_eq_getElem?_getD]
  simp only [tasks8, List.map_cons, List.map_nil] at hcell
  clear hX
  go_wp2_with fail
  exact H.out _ ((Below.refl _ _).alloc (Nat.le_refl _) _)
end Go.Proofs.YtjndigkphoiohaaDoor
