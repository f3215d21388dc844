/-
  slices.Equal at items; message.Same: alike messages.
-/
import Derived.Test.YtjndigkphoiohaaDoorUnpack
import Derived.Outline
namespace Go.Proofs.YtjndigkphoiohaaDoor
open Go.RowKit Go.Shelf
set_option maxRecDepth 100000

/-- A need's parts stand alike to themselves (no not-a-number). -/
def Self (l : List Itm) : Prop := ∀ x ∈ l, (FloatKind.f64.format.order x.re x.re == some .eq) = true ∧ (FloatKind.f64.format.order x.im x.im == some .eq) = true

theorem eq_complexD (d : Nat) (re im : Nat) (h1 : (FloatKind.f64.format.order re re == some .eq) = true) (h2 : (FloatKind.f64.format.order im im == some .eq) = true) (w : World) : (Op.equalIn (d + 1) 23 (.complex .f64 re im) (.complex .f64 re im)).run Tryd.prog w = .ok true w := by
  unfold Op.equalIn
  simp only [Sem.run_bind, run_underlying Tryd.underlying23, Result.andThen_ok, if_true, Op.floatEq, h1, h2, Bool.and_self, Sem.run_pure]
theorem eq_complex (re im : Nat) (h1 : (FloatKind.f64.format.order re re == some .eq) = true) (h2 : (FloatKind.f64.format.order im im == some .eq) = true) (w : World) : (Op.equalIn 9999 23 (.complex .f64 re im) (.complex .f64 re im)).run Tryd.prog w = .ok true w := eq_complexD 9998 re im h1 h2 w
theorem equalItems_c (A B : Option Addr) (n c d : Nat) (l : List Itm) (w : World) (hA : ItmsAt w A n l) (hB : ItmsAt w B n l) (hs : Self l) (hn : n ≤ 1000000) (R : Ending → World → Prop)
    (h : ∀ w', Below w.heap.size w w' → R (.returned (.bool true)) w') : Calls Tryd.prog 42 #[.slice A n c, .slice B n d] w R := by
  have H := Lib.hid h
  have HA := Lib.hid hA
  have HB := Lib.hid hB
  clear h hA hB
  have t0 : ((n : Int) == (n : Int)) = true := by simp
  go_enter Tryd.func42, Tryd.ntmps42
  go_wp2_with fail
  go_loopw [13] (fun i wr => ∃ k : Nat, k ≤ n ∧ i = .int .i64 k ∧ Below w.heap.size w wr) (fun i _ => n - (RowKit.intOf i).toNat)
  case atStart => exact ⟨0, by omega, rfl, Below.refl _ _⟩
  case round =>
    obtain ⟨k, hk, rfl, hB⟩ := hrel
    by_cases hc : k < n
    · obtain ⟨b, o, x, rfl, hx, hb, h1, h2⟩ := (HA.out.below hB).at_ hc
      obtain ⟨b', o', x', rfl, hx', hb', h1', h2'⟩ := (HB.out.below hB).at_ hc
      obtain rfl : x' = x := by rw [hx] at hx'; injection hx' with e; exact e.symm
      obtain ⟨s1, s2⟩ := hs x' (List.mem_of_getElem? hx)
      have t1 : decide (k < n) = true := by simp [hc]
      have t2 : (x'.t.toList == x'.t.toList) = true := by simp
      have t3 := eq_complex x'.re x'.im s1 s2
      have HBr := Lib.hid hB
      have Hc := Lib.hid hc
      have hcI : (k : Int) < (n : Int) := by omega
      clear hx hx' hB hc
      go_wp2_with fail
      go_region
      go_wp2_with fail
      refine ⟨⟨k + 1, by have := Hc.out; omega, by go_num, HBr.out.drew⟩, by have := Hc.out; simp [RowKit.intOf]; omega⟩
    · obtain rfl : k = n := by omega
      have t1 : decide (k < k) = false := by simp
      have HBr := Lib.hid hB
      clear hB hc
      go_wp2_with fail
      exact H.out _ HBr.out

theorem same_c (m : Msg) (A B : Option Addr) (c d : Nat) (w : World) (hA : ItmsAt w A m.items.length m.items) (hB : ItmsAt w B m.items.length m.items) (hs : Self m.items) (hn : m.items.length ≤ 1000000) (R : Ending → World → Prop)
    (h : ∀ w', Below w.heap.size w w' → R (.returned (.bool true)) w') : Calls Tryd.prog 20 #[msgV m A c, msgV m B d] w R := by
  have H := Lib.hid h
  have HA := Lib.hid hA
  have HB := Lib.hid hB
  have Hs := Lib.hid hs
  clear h hA hB hs
  have e0 : (m.kind == m.kind) = true := by simp
  have e1 : (m.f.toList == m.f.toList) = true := by simp
  have e2 : (m.e.toList == m.e.toList) = true := by simp
  have e3 : (m.t.toList == m.t.toList) = true := by simp
  have e4 : (m.n == m.n) = true := by simp
  have e5 : (m.state == m.state) = true := by simp
  have e6 : (m.number == m.number) = true := by simp
  have e7 : (m.epoch == m.epoch) = true := by simp
  have hB0 : Below w.heap.size w ((w.alloc (.cells (msgCells m A c) 28)).alloc (.cells (msgCells m B d) 28)) := ((Below.refl _ _).alloc (Nat.le_refl _) _).alloc (by simp) _
  unfold msgV msgCells
  go_enter Tryd.func20, Tryd.ntmps20
  go_wp2_with fail
  refine equalItems_c A B m.items.length c d m.items _ (HA.out.below hB0) (HB.out.below hB0) Hs.out hn _ (fun w1 hB1 => ?_)
  go_wp2_with fail
  exact H.out _ (hB0.trans (hB1.mono (by simp; omega)))
end Go.Proofs.YtjndigkphoiohaaDoor
