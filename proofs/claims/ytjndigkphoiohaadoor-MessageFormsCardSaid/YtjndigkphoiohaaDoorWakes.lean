/-
  The wakes of hostlerlaw04: the document's example.
-/
import Derived.Test.YtjndigkphoiohaaDoorKeepA
import Derived.Outline
namespace Go.Proofs.YtjndigkphoiohaaDoor
open Go.RowKit Go.Shelf
set_option maxRecDepth 100000

def welcome : Msg := ⟨6, ⟨#[]⟩, ⟨#[]⟩, ⟨#[]⟩, 0, 0, 0, 0, []⟩
theorem welcome_ok : MsgOk welcome := ⟨by decide, by decide, by decide, by decide, by decide, by decide⟩
theorem welcome_valid : validS welcome = true := by decide
theorem welcome_pack : packB welcome = [6] := by decide

theorem rd_new (w : World) (vs : Array Value) (t : TypeId) {l : List Value} (hl : l = vs.toList) : Rd (w.alloc (.cells vs t)) (some ⟨w.heap.size, 0, none⟩) vs.size l := by
  subst hl
  refine ⟨by simp, fun _ => ⟨w.heap.size, 0, rfl, by simp, fun j u hu => ?_⟩⟩
  rw [cell_of_row _ _ _ _ _ _ (heap_alloc_new w _), Nat.zero_add]
  simpa using hu
set_option maxHeartbeats 200000 in
theorem wakes04_c (w : World) (R : Ending → World → Prop)
    (h : ∀ w', Below w.heap.size w w' → R (.returned (.bool true)) w') : Calls Tryd.prog 10 #[] w R := by
  have H := Lib.hid h
  clear h
  go_enter Tryd.func10, Tryd.ntmps10
  go_wp2_with fail
  refine pack_c welcome none 0 w welcome_ok ⟨rfl, fun h => absurd h (by decide)⟩ (fun _ x hx => by cases hx) _ (fun hv => by rw [welcome_valid] at hv; cases hv) (fun _ v w1 hB1 hown => ?_)
  rw [welcome_pack] at hown
  obtain ⟨A, c, rfl, hrd, _⟩ := own_rd hown
  clear hown
  go_wp2_with fail
  have hB2 := hB1.alloc hB1.size (.cells #[Value.int .u8 6] 5)
  have hr1 : Rd (w1.alloc (.cells #[Value.int .u8 6] 5)) A 1 (u8s [6]) := hrd.below ((Below.refl _ _).alloc (Nat.le_refl _) _)
  have hr2 : Rd (w1.alloc (.cells #[Value.int .u8 6] 5)) (some ⟨w1.heap.size, 0, none⟩) 1 (u8s [6]) := rd_new w1 #[Value.int .u8 6] 5 rfl
  refine sameBytes_c _ _ _ _ _ _ [6] [6] _ hr1 hr2 (by omega) (by omega) _ (fun w3 hB3 => ?_)
  go_wp2_with fail
  exact H.out _ (hB2.trans (hB3.mono hB2.size))
end Go.Proofs.YtjndigkphoiohaaDoor
