/-
  The wakes of hostlerlaw13.
-/
import Derived.Test.YtjndigkphoiohaaDoorKnown
import Derived.Test.YtjndigkphoiohaaDoorErrA
import Derived.Outline
namespace Go.Proofs.YtjndigkphoiohaaDoor
open Go.RowKit Go.Shelf
set_option maxRecDepth 100000

theorem w13_ok : MsgOk (runM ⟨#[102]⟩ ⟨#[120]⟩ one1) := it_ok 0 0 ⟨1, tF, tX, t0, 0, 0, 0, 0, []⟩ (Nat.le_of_ble_eq_true rfl) (Nat.le_of_ble_eq_true rfl) (Nat.le_of_ble_eq_true rfl)
theorem w13_need : ∀ x ∈ one1, (npartsS x.re x.im).isSome = true := by decide +kernel
theorem w13_adm : admOk ⟨#[102]⟩ ⟨#[120]⟩ 1 one1 = true := by decide +kernel
set_option maxHeartbeats 1000000 in
theorem wakes13_c (w : World) (R : Ending → World → Prop)
    (h : ∀ w', Below w.heap.size w w' → R (.returned (.bool true)) w') : Calls Tryd.prog 14 #[] w R := by
  have H := Lib.hid h
  clear h
  go_enter Tryd.func14, Tryd.ntmps14
  go_wp2_with fail
  refine known_c none 0 0 [] ⟨#[102]⟩ ⟨#[97]⟩ w ⟨rfl, fun h => absurd h (by omega)⟩ (by omega) _ (fun _ w1 hB1 => ?_) (fun i e j x hi => by simp at hi)
  go_wp2_with fail
  have hB2 := (hB1.alloc hB1.size (.cells #[.string ⟨#[]⟩, .complex .f64 0 0] 25)).alloc (by have := hB1.size; simp; omega) (.cells #[.string ⟨#[97]⟩, .complex .f64 4607182418800017408 0] 25)
  have hI : ItmsAt ((w1.alloc (.cells #[.string ⟨#[]⟩, .complex .f64 0 0] 25)).alloc (.cells #[.string ⟨#[97]⟩, .complex .f64 4607182418800017408 0] 25)) (some ⟨w1.heap.size + 1, 0, none⟩) one1.length one1 := itms_of (l := one1) (heap_alloc2_new w1 _ _)
  refine admPack_c ⟨#[102]⟩ ⟨#[120]⟩ 1 (some ⟨w1.heap.size + 1, 0, none⟩) 1 one1 _ w13_ok hI (fun _ => w13_need) _ (fun hx => by rw [w13_adm] at hx; cases hx) (fun _ v w2 hB3 hown => ?_)
  have HF := Lib.hid (H.out w2 (hB2.trans (hB3.mono hB2.size)))
  clear hI hB1 hB2 hB3 hown
  go_wp2_with fail
  exact HF.out
end Go.Proofs.YtjndigkphoiohaaDoor
