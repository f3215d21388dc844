/-
  Plain facts for the walks of KeepBytes and KeepOwn: keys that are boxed.
-/
import Derived.Test.YtdmcponfodohaaaGreatDoorBytesA
namespace Go.Proofs.YtdmcponfodohaaaGreatDoor
open Go.RowKit Go.Shelf Go.ChangeMaps Go.MapKept
set_option maxRecDepth 100000

theorem KeepAt.no2 {k d mb sm : Nat} {q : Int} {l : List (ByteArray × FV)} {ep : Int} {es : List ER} {ss : SM} {w : World} (h : KeepAt w k d mb sm q l ep es ss) (T : TypeId) : NoT w T [mb, sm] := by
  obtain ⟨_, _, hm, _⟩ := h.disk.map
  obtain ⟨_, _, hs, _⟩ := h.map
  exact NoT.cons hm (fun cs e => by cases e) (NoT.one hs (fun cs e => by cases e))
theorem KeepAt.noK {k d mb sm : Nat} {q : Int} {l : List (ByteArray × FV)} {ep : Int} {es : List ER} {ss : SM} {w : World} (h : KeepAt w k d mb sm q l ep es ss) (T : TypeId) (hT : T ≠ 74) : NoT w T [k, mb] := by
  obtain ⟨_, _, hm, _⟩ := h.disk.map
  obtain ⟨A, c, hb, _⟩ := h.blk
  exact NoT.cons hb (fun cs e => by simp at e; exact hT e.2.symm) (NoT.one hm (fun cs e => by cases e))
theorem KeepAt.no3 {k d mb sm : Nat} {q : Int} {l : List (ByteArray × FV)} {ep : Int} {es : List ER} {ss : SM} {w : World} (h : KeepAt w k d mb sm q l ep es ss) (T : TypeId) (hT : T ≠ 74) : NoT w T [k, mb, sm] := by
  obtain ⟨A, c, hb, _⟩ := h.blk
  exact NoT.cons hb (fun cs e => by simp at e; exact hT e.2.symm) (h.no2 T)
/-- Boxed keys, where they lie. -/
def KeyAt (w : World) (xo : List (Nat × Array Value)) : Prop := ∀ p ∈ xo, w.heap[p.1]? = some (.cells p.2 33)
theorem KeyAt.kept {w w' : World} {xo : List (Nat × Array Value)} {S : List Nat} (h : KeyAt w xo) (hk : Kept S w w') (hS : NoT w 33 S) : KeyAt w' xo := fun p hp =>
  (hk.block p.1 (Array.getElem?_eq_some_iff.1 (h p hp)).1 (fun hs => hS p.1 hs p.2 (h p hp))).trans (h p hp)
theorem KeyAt.below {w w' : World} {xo : List (Nat × Array Value)} (h : KeyAt w xo) (hb : Below w.heap.size w w') : KeyAt w' xo := h.kept (Kept.of_below (S := []) hb) (NoT.nil _ _)
theorem KeyAt.cell {w : World} {b : Nat} {f t : ByteArray} {xo : List (Nat × Array Value)} (h : KeyAt w xo) (hm : (b, #[Value.string f, .string t]) ∈ xo) : w.cell? ⟨b, 0, none⟩ = some (.string f) ∧ w.cell? ⟨b, 1, none⟩ = some (.string t) ∧ b < w.heap.size := by
  have h1 := h _ hm
  refine ⟨?_, ?_, (Array.getElem?_eq_some_iff.1 h1).1⟩
  all_goals rw [cell_of_row _ _ _ _ _ _ h1]; rfl
abbrev rOK : RunOk ⟨#[102]⟩ ⟨#[120]⟩ 1 := ⟨.inl rfl, by decide +kernel, by decide +kernel⟩
end Go.Proofs.YtdmcponfodohaaaGreatDoor
