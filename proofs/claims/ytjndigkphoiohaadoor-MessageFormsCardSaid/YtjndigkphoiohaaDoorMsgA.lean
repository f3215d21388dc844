/-
  Contracts of the small functions of package message: fields, numbers, texts, numbers, holds. Each says what the call returns and what became of the world.
-/
import Derived.Test.YtjndigkphoiohaaDoorShelf
import Derived.Test.YtjndigkphoiohaaDoorBase
import Derived.Outline
import Derived.WalkLawsBesides
import Derived.WalkSpells
import Derived.Lib.Hide
import Derived.RegionTactic
import Derived.ChangeAlike
import Derived.BigRegion
import Derived.BigQuiet
import Derived.Deep.QuietTactic
import Derived.StillTailTactics
import Derived.OrdersHeld
import Derived.Deep.RegionHeld3
import Derived.Laws.RangeString
import Derived.Laws.RangeAny
import Derived.LoopTactic
namespace Go.Proofs.YtjndigkphoiohaaDoor
open Go.RowKit
set_option maxRecDepth 100000
attribute [local simp] freshB

def fieldsS (k : Int) : ByteArray :=
  if k = 1 then ⟨#[70, 69, 73]⟩ else if k = 2 then ⟨#[70, 84]⟩ else if k = 3 then ⟨#[70]⟩ else if k = 4 then ⟨#[70, 84, 85, 80]⟩
  else if k = 5 then ⟨#[70, 73]⟩ else if k = 6 then ⟨#[]⟩ else if k = 7 ∨ k = 9 ∨ k = 13 ∨ k = 16 ∨ k = 17 then ⟨#[70, 69, 78]⟩
  else if k = 8 then ⟨#[70, 69, 78, 84, 83]⟩ else if k = 10 then ⟨#[80]⟩ else if k = 11 then ⟨#[70, 84, 85, 80, 83]⟩ else if k = 12 then ⟨#[70, 84, 83]⟩
  else if k = 14 then ⟨#[70, 69, 78, 73]⟩ else if k = 15 then ⟨#[70, 69, 78, 84]⟩ else ⟨#[63]⟩
def numberS (f n : Int) : Bool := if f = 83 then decide (1 ≤ n) && decide (n ≤ 7) else decide (1 ≤ n) && decide (n ≤ 2147483647)

theorem number_c (field n : Int) (w : World) (R : Ending → World → Prop) (h : R (.returned (.bool (numberS field n))) w) :
    Calls Tryd.prog 29 #[.int .i32 field, .int .i64 n] w R := by
  by_cases hf : field = 83 <;> by_cases h1 : 1 ≤ n
  all_goals
    simp only [numberS, hf, h1, if_true, if_false, decide_true, decide_false, Bool.true_and, Bool.false_and] at h
    go_enter Tryd.func29, Tryd.ntmps29
    go_wp2
    exact h

theorem fields_c (k : Int) (w : World) (R : Ending → World → Prop) (h : R (.returned (.string (fieldsS k))) w) :
    Calls Tryd.prog 21 #[.int .i64 k] w R := by
  go_enter Tryd.func21, Tryd.ntmps21
  go_wp2
  all_goals
    have h' := h
    clear h
    simp_all [fieldsS]

theorem texts_c (b : Nat) (w : World) (R : Ending → World → Prop)
    (h : ∀ es, IsFM b [(70, 1), (69, 2), (84, 3)] es → R (.returned (.map (some w.heap.size))) (w.alloc (.map es 3)).drew) :
    Calls Tryd.prog 23 #[.pointer (some ⟨b, 0, none⟩)] w R := by
  have hmm := @run_makeMap Tryd.prog
  have hmu := fun (es : Array MapEntry) (c : Nat) (n : Int) (v : Value) (h0 : 0 ≤ n) (h1 : n < 128) (hes : freshB n es = true) => run_mapUpdate_fresh (P := Tryd.prog) Tryd.underlying60 Tryd.underlying21 w es c n v h0 h1 hes
  go_enter Tryd.func23, Tryd.ntmps23
  go_wp2_with fail
  go_region
  all_goals
    go_wp2
    first | exact ⟨[(70, 1), (69, 2), (84, 3)], by decide, rfl⟩ | exact ⟨[(70, 1), (84, 3), (69, 2)], by decide, rfl⟩ | exact ⟨[(69, 2), (70, 1), (84, 3)], by decide, rfl⟩ | exact ⟨[(69, 2), (84, 3), (70, 1)], by decide, rfl⟩ | exact ⟨[(84, 3), (70, 1), (69, 2)], by decide, rfl⟩ | exact ⟨[(84, 3), (69, 2), (70, 1)], by decide, rfl⟩

theorem numbers_c (b : Nat) (w : World) (R : Ending → World → Prop)
    (h : ∀ es, IsFM b [(78, 4), (83, 5), (85, 6), (80, 7)] es → R (.returned (.map (some w.heap.size))) (w.alloc (.map es 4)).drew) :
    Calls Tryd.prog 26 #[.pointer (some ⟨b, 0, none⟩)] w R := by
  have hmm := @run_makeMap Tryd.prog
  have hmu := fun (es : Array MapEntry) (c : Nat) (n : Int) (v : Value) (h0 : 0 ≤ n) (h1 : n < 128) (hes : freshB n es = true) => run_mapUpdate_fresh (P := Tryd.prog) Tryd.underlying66 Tryd.underlying21 w es c n v h0 h1 hes
  go_enter Tryd.func26, Tryd.ntmps26
  go_wp2_with fail
  go_region
  all_goals
    go_wp2
    first | exact ⟨[(78, 4), (83, 5), (85, 6), (80, 7)], by decide, rfl⟩ | exact ⟨[(78, 4), (83, 5), (80, 7), (85, 6)], by decide, rfl⟩ | exact ⟨[(78, 4), (85, 6), (83, 5), (80, 7)], by decide, rfl⟩ | exact ⟨[(78, 4), (85, 6), (80, 7), (83, 5)], by decide, rfl⟩ | exact ⟨[(78, 4), (80, 7), (83, 5), (85, 6)], by decide, rfl⟩ | exact ⟨[(78, 4), (80, 7), (85, 6), (83, 5)], by decide, rfl⟩ | exact ⟨[(83, 5), (78, 4), (85, 6), (80, 7)], by decide, rfl⟩ | exact ⟨[(83, 5), (78, 4), (80, 7), (85, 6)], by decide, rfl⟩ | exact ⟨[(83, 5), (85, 6), (78, 4), (80, 7)], by decide, rfl⟩ | exact ⟨[(83, 5), (85, 6), (80, 7), (78, 4)], by decide, rfl⟩ | exact ⟨[(83, 5), (80, 7), (78, 4), (85, 6)], by decide, rfl⟩ | exact ⟨[(83, 5), (80, 7), (85, 6), (78, 4)], by decide, rfl⟩ | exact ⟨[(85, 6), (78, 4), (83, 5), (80, 7)], by decide, rfl⟩ | exact ⟨[(85, 6), (78, 4), (80, 7), (83, 5)], by decide, rfl⟩ | exact ⟨[(85, 6), (83, 5), (78, 4), (80, 7)], by decide, rfl⟩ | exact ⟨[(85, 6), (83, 5), (80, 7), (78, 4)], by decide, rfl⟩ | exact ⟨[(85, 6), (80, 7), (78, 4), (83, 5)], by decide, rfl⟩ | exact ⟨[(85, 6), (80, 7), (83, 5), (78, 4)], by decide, rfl⟩ | exact ⟨[(80, 7), (78, 4), (83, 5), (85, 6)], by decide, rfl⟩ | exact ⟨[(80, 7), (78, 4), (85, 6), (83, 5)], by decide, rfl⟩ | exact ⟨[(80, 7), (83, 5), (78, 4), (85, 6)], by decide, rfl⟩ | exact ⟨[(80, 7), (83, 5), (85, 6), (78, 4)], by decide, rfl⟩ | exact ⟨[(80, 7), (85, 6), (78, 4), (83, 5)], by decide, rfl⟩ | exact ⟨[(80, 7), (85, 6), (83, 5), (78, 4)], by decide, rfl⟩

theorem data_length' (s : ByteArray) : s.data.toList.length = s.size := by rw [Array.length_toList]; rfl

def hasS (s : ByteArray) (f : Int) : Bool := s.data.toList.any fun c => (c.toNat : Int) == f

theorem hasS_of {s : ByteArray} {f : Int} {pos : Nat} (hp : pos < s.size) (h : ((s[pos]'hp).toNat : Int) = f) : hasS s f = true := by
  unfold hasS
  rw [List.any_eq_true]
  have hl : pos < s.data.toList.length := by rw [data_length']; exact hp
  refine ⟨s.data.toList[pos]'hl, List.getElem_mem _, ?_⟩
  rw [beq_iff_eq, ← h]
  rfl
theorem hasS_none {s : ByteArray} {f : Int} (h : ∀ i (hi : i < s.size), ((s[i]'hi).toNat : Int) ≠ f) : hasS s f = false := by
  unfold hasS
  rw [List.any_eq_false]
  intro c hc
  obtain ⟨i, hi, rfl⟩ := List.getElem_of_mem hc
  rw [data_length'] at hi
  rw [beq_iff_eq]
  exact h i hi

theorem holds_c (s : ByteArray) (f : Int) (hasc : ∀ i (h : i < s.size), (s[i]'h).toNat < 128) (w : World) (R : Ending → World → Prop)
    (h : ∀ w', Below w.heap.size w w' → R (.returned (.bool (hasS s f))) w') :
    Calls Tryd.prog 27 #[.string s, .int .i32 f] w R := by
  go_enter Tryd.func27, Tryd.ntmps27
  go_wp2
  go_loopw [] (fun w' => ∃ pos : Nat, w' = w.iter s pos ∧ pos ≤ s.size ∧ ∀ i (hi : i < s.size), i < pos → ((s[i]'hi).toNat : Int) ≠ f) (fun w' => s.size - w'.iterPos w.heap.size)
  case atStart => exact ⟨0, rfl, Nat.zero_le _, fun i _ h => absurd h (by omega)⟩
  case round =>
    obtain ⟨pos, rfl, hle, hno⟩ := hrel
    by_cases hp : pos < s.size
    · have hnx : ∀ ty, (Instr.next (.pointer (some ⟨w.heap.size, 0, none⟩)) true ty).run Tryd.prog (w.iter s pos) = _ := fun ty => run_next_ascii w s pos ty hp (hasc pos hp)
      by_cases hc : ((s[pos]'hp).toNat : Int) = f
      · have hb : (((s[pos]'hp).toNat : Int) == f) = true := by simpa using hc
        have h2 : ∀ w', Below w.heap.size w w' → R (.returned (.bool true)) w' := by rw [← hasS_of hp hc]; exact h
        clear h hc
        go_wp2
        exact (Below.refl _ _).alloc (Nat.le_refl _) _
      · have hb : (((s[pos]'hp).toNat : Int) == f) = false := by simpa using hc
        go_wp2
        go_roundw
        case rel => exact ⟨pos + 1, rfl, by omega, fun i hi h1 => by
          by_cases e : i = pos
          · subst e; exact hc
          · exact hno i hi (by omega)⟩
        case measure =>
          simp
          omega
    · have hnx : ∀ ty, (Instr.next (.pointer (some ⟨w.heap.size, 0, none⟩)) true ty).run Tryd.prog (w.iter s pos) = _ := fun ty => run_next_end w s pos ty hp
      have h2 : ∀ w', Below w.heap.size w w' → R (.returned (.bool false)) w' := by rw [← hasS_none (fun i hi => hno i hi (by omega))]; exact h
      clear h
      go_wp2
      exact (Below.refl _ _).alloc (Nat.le_refl _) _

end Go.Proofs.YtjndigkphoiohaaDoor
