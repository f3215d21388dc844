/-
  Plain facts for AdmitForms: whole numbers below 101 as floats; the entry that it packs, byte for byte.
-/
import Derived.Test.YtjndigkphoiohaaDoorWakes13
namespace Go.Proofs.YtjndigkphoiohaaDoor
open Go.RowKit Go.Shelf
set_option maxRecDepth 100000

theorem fint_all : ∀ k : Fin 101, partS (fint (k.val : Int)) 1000 = some true ∧ partS (fint (k.val : Int)) 100000 = some true ∧ floatToIntVal .f64 (fint (k.val : Int)) .i64 = some (k.val : Int) ∧ eq0 (ford (fint (k.val : Int)) 0) = decide (k.val = 0) := by
  decide +kernel
theorem fint_at {n : Int} (h0 : 0 ≤ n) (h1 : n < 101) : partS (fint n) 1000 = some true ∧ partS (fint n) 100000 = some true ∧ floatToIntVal .f64 (fint n) .i64 = some n ∧ eq0 (ford (fint n) 0) = decide (n = 0) := by
  obtain ⟨k, rfl⟩ := Int.eq_ofNat_of_zero_le h0
  obtain ⟨a, b, c, d⟩ := fint_all ⟨k, by omega⟩
  refine ⟨a, b, c, ?_⟩
  rw [d]
  simp
theorem fint_right {a b : Int} (h0 : 0 ≤ a) (h1 : a < 101) (h2 : 1 ≤ b) (h3 : b < 101) : nrightS (fint a) (fint b) = some true ∧ npartsS (fint a) (fint b) = some (a, b) := by
  obtain ⟨p1, p2, p3, p4⟩ := fint_at h0 h1
  obtain ⟨q1, q2, q3, q4⟩ := fint_at (show 0 ≤ b by omega) h3
  have hz : nzS (fint a) (fint b) = true := by
    unfold nzS
    rw [q4]
    have : decide (b = 0) = false := by simp; omega
    rw [this]
    simp
  constructor
  · unfold nrightS withinS
    rw [hz, p1, q1]
    rfl
  · unfold npartsS nroomS withinS
    rw [p2, q2, p3, q3]
    rfl
abbrev tEX : ByteArray := ⟨#[101, 120]⟩
abbrev tBC : ByteArray := ⟨#[98, 99]⟩
def two (x y : Nat) : List Itm := [⟨tA, x, y⟩, ⟨tBC, 4643985272004935680, 0⟩]
theorem two_valid {x y : Nat} (h : nrightS x y = some true) : validS (runM tF tEX (two x y)) = true := by
  have h1 : isQ (fieldsS 1) = false := by decide +kernel
  have h2 : textsBad (runM tF tEX (two x y)) = false := show (textBad (fieldsS 1) 70 tF || textBad (fieldsS 1) 69 tEX || textBad (fieldsS 1) 84 t0) = false by decide +kernel
  have h3 : numsBad (runM tF tEX (two x y)) = false := show (numBad (fieldsS 1) 78 0 || numBad (fieldsS 1) 83 0 || numBad (fieldsS 1) 85 0 || numBad (fieldsS 1) 80 0) = false by decide +kernel
  have h300 : nrightS 4643985272004935680 0 = some true := by decide +kernel
  have h4 : listS 1 (two x y) = true := by
    unfold listS
    have hn : ¬ ((!allS ((two x y).map Itm.t) || decide (4 < (two x y).length)) = true) := (by decide +kernel : ¬ ((!allS [tA, tBC] || decide (4 < 2)) = true))
    rw [if_neg hn, if_neg (by decide)]
    have : ((two x y).any fun x => !((nrightS x.re x.im).getD false)) = false := by simp [two, h, h300]
    rw [if_neg (by rw [this]; simp)]
    rfl
  have h5 : itemsBad (runM tF tEX (two x y)) = false := by
    show (if hasIS (fieldsS 1) then !listS 1 (two x y) else _) = false
    rw [if_pos (by decide +kernel), h4]
    rfl
  unfold validS
  rw [h2, h3, h5]
  show (!isQ (fieldsS 1) && _ && _ && _) = true
  rw [h1]
  rfl
theorem two_ok {x y : Nat} (h : nrightS x y = some true) : MsgOk (runM tF tEX (two x y)) := by
  have hm : maxLen = 9223372036854775807 := rfl
  refine ⟨Nat.le_of_ble_eq_true rfl, Nat.le_of_ble_eq_true rfl, Nat.le_of_ble_eq_true rfl, fun z hz => ?_, fun z hz => ?_, Nat.le_of_ble_eq_true rfl⟩
  · have hz' : z ∈ two x y := hz
    simp only [two, List.mem_cons, List.mem_nil_iff, or_false] at hz'
    rcases hz' with rfl | rfl <;> exact Nat.le_of_ble_eq_true rfl
  · have hz' : z ∈ two x y := hz
    simp only [two, List.mem_cons, List.mem_nil_iff, or_false] at hz'
    rcases hz' with rfl | rfl
    · show (nrightS x y).isSome = true
      rw [h]
      rfl
    · decide +kernel
theorem numB_small {n : Int} (h0 : 0 ≤ n) (h1 : n < 128) : numB n = [n] := by
  unfold numB
  rw [if_neg (by omega), numN.eq_def]
  rw [dif_pos (by omega)]
  have : ((n.toNat : Nat) : Int) = n := by omega
  simp [this]
theorem two_need {x y : Nat} {a b : Int} (h : npartsS x y = some (a, b)) : ∀ z ∈ two x y, (npartsS z.re z.im).isSome = true := by
  intro z hz
  simp only [two, List.mem_cons, List.mem_nil_iff, or_false] at hz
  rcases hz with rfl | rfl
  · show (npartsS x y).isSome = true
    rw [h]
    rfl
  · decide +kernel
theorem two_bytes {x y : Nat} {a b r : Int} (h : npartsS x y = some (a, b)) (h0 : 0 ≤ a) (h1 : a < 128) (h2 : 0 ≤ b) (h3 : b < 128) (h4 : 0 ≤ r) (h5 : r < 128) :
    admB tF tEX r (two x y) = [1, 102, 2, 101, 120, r, 2, 1, 97, a, b, 2, 98, 99, 172, 2, 0] := by
  have e1 : partsD ⟨tA, x, y⟩ = (a, b) := by unfold partsD; rw [h]; rfl
  have e2 : partsD ⟨tBC, 4643985272004935680, 0⟩ = (300, 0) := by decide +kernel
  have e3 : textB tF = [1, 102] := by decide +kernel
  have e4 : textB tEX = [2, 101, 120] := by decide +kernel
  have e5 : textB tA = [1, 97] := by decide +kernel
  have e6 : textB tBC = [2, 98, 99] := by decide +kernel
  have e7 : numB 2 = [2] := by decide +kernel
  have e8 : numB 300 = [172, 2] := by decide +kernel
  have e9 : numB 0 = [0] := by decide +kernel
  unfold admB itemsB
  rw [e3, e4, numB_small h4 h5]
  show _ ++ _ ++ ([r] ++ (numB 2 ++ (itemB ⟨tA, x, y⟩ ++ (itemB ⟨tBC, 4643985272004935680, 0⟩ ++ [])))) = _
  unfold itemB
  rw [e1, e2, e5, e6, e7]
  show _ ++ _ ++ ([r] ++ ([2] ++ (([1, 97] ++ numB a ++ numB b) ++ (([2, 98, 99] ++ numB 300 ++ numB 0) ++ [])))) = _
  rw [numB_small h0 h1, numB_small h2 h3, e8, e9]
  rfl
theorem two_adm {x y : Nat} {r : Int} (h : nrightS x y = some true) (h0 : 0 ≤ r) (h1 : r ≤ 24) : admOk tF tEX r (two x y) = true := by
  unfold admOk
  rw [two_valid h]
  simp
  omega
end Go.Proofs.YtjndigkphoiohaaDoor
