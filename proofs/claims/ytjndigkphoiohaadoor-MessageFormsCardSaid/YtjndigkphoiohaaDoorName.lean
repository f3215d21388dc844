/-
  Contracts of package name: Right (a name: 1 to 8 signs a to z and 0 to 9) and All (names, no two alike).
-/
import Derived.Test.YtjndigkphoiohaaDoorMsgA
namespace Go.Proofs.YtjndigkphoiohaaDoor
open Go.RowKit Go.Shelf Go.Lib
set_option maxRecDepth 100000

def signsL : List UInt8 := [97, 98, 99, 100, 101, 102, 103, 104, 105, 106, 107, 108, 109, 110, 111, 112, 113, 114, 115, 116, 117, 118, 119, 120, 121, 122, 48, 49, 50, 51, 52, 53, 54, 55, 56, 57]
def rightS (s : ByteArray) : Bool := decide (0 < s.size) && decide (s.size ≤ 8) && s.data.toList.all (signsL.contains ·)

theorem dropWhile_nil {α : Type} {p : α → Bool} : ∀ {l : List α}, l.dropWhile p = [] ↔ l.all p = true
  | [] => by simp
  | a :: r => by
    rw [List.dropWhile_cons]
    split
    · rename_i h; rw [dropWhile_nil (l := r)]; simp [h]
    · rename_i h; simp [h]
theorem trim_empty (l : List UInt8) : Lib.trimS l signsL = [] ↔ l.all (signsL.contains ·) = true := by
  unfold Lib.trimS Lib.trimLeftS Lib.trimRightS
  rw [dropWhile_nil, List.all_reverse]
  constructor
  · intro h
    have hsplit := List.takeWhile_append_dropWhile (p := (signsL.contains ·)) (l := l.reverse)
    have h1 : (l.reverse.takeWhile (signsL.contains ·)).all (signsL.contains ·) = true := List.all_takeWhile
    have : l.reverse.all (signsL.contains ·) = true := by rw [← hsplit, List.all_append, h1, h]; rfl
    rwa [List.all_reverse] at this
  · intro h
    have : l.reverse.dropWhile (signsL.contains ·) = [] := by rw [dropWhile_nil, List.all_reverse]; exact h
    rw [this]; rfl

theorem toList_nil_iff {s : ByteArray} : s.toList = [] ↔ s.size = 0 := by
  rw [ByteArray.toList_eq, ← data_length', List.length_eq_zero_iff]

theorem right_c (s : ByteArray) (hs : s.size ≤ 9223372036854775807) (w : World) (R : Ending → World → Prop)
    (h : ∀ w', Below w.heap.size w w' → R (.returned (.bool (rightS s))) w') :
    Calls Tryd.prog 28 #[.string s] w R := by
  have hcon := Any.strings_Trim_laid Tryd.lays160 (by kernel_rfl) s ⟨#[97, 98, 99, 100, 101, 102, 103, 104, 105, 106, 107, 108, 109, 110, 111, 112, 113, 114, 115, 116, 117, 118, 119, 120, 121, 122, 48, 49, 50, 51, 52, 53, 54, 55, 56, 57]⟩ w hs (by decide) (ascii_of_all (by decide))
  change Calls Tryd.prog 44 _ _ (fun e w' => e = .returned (.string ⟨(Lib.trimS s.data.toList signsL).toArray⟩) ∧ Below w.heap.size w w') at hcon
  have hr : (⟨(Lib.trimS s.data.toList signsL).toArray⟩ : ByteArray).toList = [] ↔ s.data.toList.all (signsL.contains ·) = true := by rw [ByteArray.toList_mk]; exact trim_empty _
  by_cases h0 : s.toList = []
  · have e : rightS s = false := by simp [rightS, toList_nil_iff.1 h0]
    rw [e] at h
    clear hr hcon e
    go_enter Tryd.func28, Tryd.ntmps28
    go_wp2_with fail
    exact Below.refl _ _
  have h0' : 0 < s.size := by
    rcases Nat.eq_zero_or_pos s.size with h1 | h1
    · exact absurd (toList_nil_iff.2 h1) h0
    · exact h1
  by_cases h8 : s.size ≤ 8
  · have e : rightS s = s.data.toList.all (signsL.contains ·) := by simp [rightS, h0', h8]
    rw [e] at h
    generalize (⟨(Lib.trimS s.data.toList signsL).toArray⟩ : ByteArray) = r at hcon hr
    have hE : s.toList.isEmpty = false := by simpa using h0
    by_cases hr0 : r.toList = []
    · rw [hr.1 hr0] at h
      have hRE : r.toList.isEmpty = true := by simpa using hr0
      clear hr e hr0
      go_enter Tryd.func28, Tryd.ntmps28
      go_wp2_with (go_at_call 44; refine hcon.mono ?_; rintro e w' ⟨rfl, hB⟩)
      exact hB
    · have hf : s.data.toList.all (signsL.contains ·) = false := by
        cases hh : s.data.toList.all (signsL.contains ·)
        · rfl
        · exact absurd (hr.2 hh) hr0
      rw [hf] at h
      have hRE : r.toList.isEmpty = false := by simpa using hr0
      clear hr e hf hr0
      go_enter Tryd.func28, Tryd.ntmps28
      go_wp2_with (go_at_call 44; refine hcon.mono ?_; rintro e w' ⟨rfl, hB⟩)
      exact hB
  · have e : rightS s = false := by simp [rightS, h8]
    rw [e] at h
    clear hr hcon e
    go_enter Tryd.func28, Tryd.ntmps28
    go_wp2_with fail
    exact Below.refl _ _
end Go.Proofs.YtjndigkphoiohaaDoor
