/-
  Contracts of package need: what each function answers as a function of the bits of the parts; each where the model names the answer (an int of a float that is in range).
-/
import Derived.Test.YtjndigkphoiohaaDoorMsgA
import Derived.Laws.ComplexArith
namespace Go.Proofs.YtjndigkphoiohaaDoor
open Go.RowKit
set_option maxRecDepth 100000

/-- How two floats stand to each other. -/
def ford (x y : Nat) : Option Ordering := FloatKind.f64.format.order x y
def fint (n : Int) : Nat := floatOfInt .f64 n
def ge0 (o : Option Ordering) : Bool := match o with | some .gt => true | some .eq => true | _ => false
def le0 (o : Option Ordering) : Bool := match o with | some .lt => true | some .eq => true | _ => false
def eq0 (o : Option Ordering) : Bool := match o with | some .eq => true | _ => false
def partS (x : Nat) (most : Int) : Option Bool :=
  if ge0 (ford x 0) && le0 (ford x (fint most)) then (floatToIntVal .f64 x .i64).bind fun n => some (eq0 (ford x (fint n))) else some false
def withinS (x y : Nat) (most : Int) : Option Bool := (partS x most).bind fun a => if a then partS y most else some false
def nzS (x y : Nat) : Bool := !(eq0 (ford x 0) && eq0 (ford y 0))
def nrightS (x y : Nat) : Option Bool := if nzS x y then withinS x y 1000 else some false
def nroomS (x y : Nat) : Option Bool := withinS x y 100000
def npartsS (x y : Nat) : Option (Int × Int) := (nroomS x y).bind fun a => if a then (floatToIntVal .f64 x .i64).bind fun n => (floatToIntVal .f64 y .i64).bind fun m => some (n, m) else some (0, 0)
def nofS (a b : Int) : Nat × Nat := if a < 0 ∨ 100000 < a ∨ b < 0 ∨ 100000 < b then (0, 0) else (fint a, fint b)

theorem part_c (x : Nat) (most : Int) (b : Bool) (hb : partS x most = some b) (w : World) (R : Ending → World → Prop) (h : R (.returned (.bool b)) w) :
    Calls Tryd.prog 74 #[.float .f64 x, .int .i64 most] w R := by
  unfold partS ford fint at hb
  cases h0 : FloatKind.f64.format.order x 0 with
  | none =>
    rw [h0] at hb
    obtain rfl : false = b := by simpa [ge0] using hb
    clear hb
    go_enter Tryd.func74, Tryd.ntmps74
    go_wp2_with fail
    exact h
  | some o0 =>
    by_cases hg : ge0 (some o0) = true
    · cases h1 : FloatKind.f64.format.order x (floatOfInt .f64 most) with
      | none =>
        rw [h0, h1] at hb
        obtain rfl : false = b := by simpa [le0] using hb
        clear hb
        cases o0 <;> first | (exact absurd hg (by decide)) | (clear hg; go_enter Tryd.func74, Tryd.ntmps74; go_wp2_with fail; exact h)
      | some o1 =>
        by_cases hl : le0 (some o1) = true
        · rw [h0, h1, hg, hl] at hb
          cases hi : floatToIntVal .f64 x .i64 with
          | none => rw [hi] at hb; cases hb
          | some n =>
            have hcv := fun w : World => run_convert_float_int (P := Tryd.prog) w 37 3 .f64 .i64 x n (by rw [Tryd.underlying37]; rfl) Tryd.underlying3 hi
            rw [hi] at hb
            simp only [Bool.and_self, if_true, Option.bind_some] at hb
            cases h2 : FloatKind.f64.format.order x (floatOfInt .f64 n) with
            | none =>
              rw [h2] at hb
              obtain rfl : false = b := by simpa [eq0] using hb
              clear hb hi
              cases o0 <;> first | (exact absurd hg (by decide)) | (clear hg; cases o1 <;> first | (exact absurd hl (by decide)) | (clear hl; go_enter Tryd.func74, Tryd.ntmps74; go_wp2_with fail; exact h))
            | some o2 =>
              rw [h2] at hb
              obtain rfl : eq0 (some o2) = b := by simpa using hb
              clear hb hi
              cases o0 <;> first | (exact absurd hg (by decide)) | (clear hg; cases o1 <;> first | (exact absurd hl (by decide)) | (clear hl; cases o2 <;> simp only [eq0] at h <;> (go_enter Tryd.func74, Tryd.ntmps74; go_wp2_with fail; exact h)))
        · have hl' : le0 (some o1) = false := by simpa using hl
          rw [h0, h1, hg, hl'] at hb
          obtain rfl : false = b := by simpa using hb
          clear hb
          cases o0 <;> first | (exact absurd hg (by decide)) | (clear hg; cases o1 <;> first | (exact absurd hl' (by decide)) | (clear hl hl'; go_enter Tryd.func74, Tryd.ntmps74; go_wp2_with fail; exact h))
    · have hg' : ge0 (some o0) = false := by simpa using hg
      rw [h0, hg'] at hb
      obtain rfl : false = b := by simpa using hb
      clear hb
      cases o0 <;> first | (exact absurd hg' (by decide)) | (clear hg hg'; go_enter Tryd.func74, Tryd.ntmps74; go_wp2_with fail; exact h)

theorem within_c (x y : Nat) (most : Int) (b : Bool) (hb : withinS x y most = some b) (w : World) (R : Ending → World → Prop) (h : R (.returned (.bool b)) w) :
    Calls Tryd.prog 66 #[.complex .f64 x y, .int .i64 most] w R := by
  unfold withinS at hb
  cases h1 : partS x most with
  | none => rw [h1] at hb; cases hb
  | some a =>
    rw [h1] at hb
    simp only [Option.bind_some] at hb
    cases a with
    | false =>
      simp only [Bool.false_eq_true, if_false, Option.some.injEq] at hb
      subst hb
      go_enter Tryd.func66, Tryd.ntmps66
      go_wp2_with (go_at_call 74; refine part_c _ _ _ h1 _ _ ?_)
      exact h
    | true =>
      simp only [if_true] at hb
      go_enter Tryd.func66, Tryd.ntmps66
      go_wp2_with fail
      refine part_c _ _ _ h1 _ _ ?_
      go_wp2_with fail
      refine part_c _ _ _ hb _ _ ?_
      go_wp2_with fail
      exact h

theorem nright_c (x y : Nat) (b : Bool) (hb : nrightS x y = some b) (w : World) (R : Ending → World → Prop) (h : R (.returned (.bool b)) w) :
    Calls Tryd.prog 49 #[.complex .f64 x y] w R := by
  unfold nrightS at hb
  cases hz : nzS x y with
  | false =>
    rw [hz] at hb
    obtain rfl : false = b := by simpa using hb
    clear hb
    have h0 : FloatKind.f64.format.order x 0 = some .eq ∧ FloatKind.f64.format.order y 0 = some .eq := by
      unfold nzS ford eq0 at hz
      simp only [Bool.not_eq_false', Bool.and_eq_true] at hz
      refine ⟨?_, ?_⟩
      · have := hz.1; split at this <;> first | assumption | cases this
      · have := hz.2; split at this <;> first | assumption | cases this
    obtain ⟨h1, h2⟩ := h0
    clear hz
    go_enter Tryd.func49, Tryd.ntmps49
    go_wp2_with fail
    exact h
  | true =>
    rw [hz] at hb
    simp only [if_true] at hb
    have h0 : (!(FloatKind.f64.format.order x 0 == some .eq) || !(FloatKind.f64.format.order y 0 == some .eq)) = true := by
      unfold nzS ford eq0 at hz
      cases h1 : FloatKind.f64.format.order x 0 with
      | none => rfl
      | some o1 => cases h2 : FloatKind.f64.format.order y 0 with
        | none => simp
        | some o2 => rw [h1, h2] at hz; cases o1 <;> cases o2 <;> first | rfl | cases hz
    clear hz
    go_enter Tryd.func49, Tryd.ntmps49
    go_wp2_with (go_at_call 66; refine within_c _ _ _ _ hb _ _ ?_)
    exact h

theorem nroom_c (x y : Nat) (b : Bool) (hb : nroomS x y = some b) (w : World) (R : Ending → World → Prop) (h : R (.returned (.bool b)) w) :
    Calls Tryd.prog 54 #[.complex .f64 x y] w R := by
  go_enter Tryd.func54, Tryd.ntmps54
  go_wp2_with (go_at_call 66; refine within_c _ _ _ _ hb _ _ ?_)
  exact h

theorem of_c (a b : Int) (w : World) (R : Ending → World → Prop) (h : R (.returned (.complex .f64 (nofS a b).1 (nofS a b).2)) w) :
    Calls Tryd.prog 69 #[.int .i64 a, .int .i64 b] w R := by
  unfold nofS fint at h
  by_cases h1 : 0 ≤ a ∧ a ≤ 100000 ∧ 0 ≤ b ∧ b ≤ 100000
  · rw [if_neg (by omega)] at h
    obtain ⟨a1, a2, b1, b2⟩ := h1
    go_enter Tryd.func69, Tryd.ntmps69
    go_wp2_with fail
    exact h
  · rw [if_pos (by omega)] at h
    go_enter Tryd.func69, Tryd.ntmps69
    go_wp2_with fail
    all_goals first | exact h | (exfalso; omega)

theorem parts_c (x y : Nat) (n m : Int) (hb : npartsS x y = some (n, m)) (w : World) (R : Ending → World → Prop) (h : R (.returned (.tuple #[.int .i64 n, .int .i64 m])) w) :
    Calls Tryd.prog 43 #[.complex .f64 x y] w R := by
  unfold npartsS at hb
  cases h1 : nroomS x y with
  | none => rw [h1] at hb; cases hb
  | some a =>
    rw [h1] at hb
    simp only [Option.bind_some] at hb
    cases a with
    | false =>
      obtain ⟨rfl, rfl⟩ : 0 = n ∧ 0 = m := by simpa using hb
      go_enter Tryd.func43, Tryd.ntmps43
      go_wp2_with (go_at_call 54; refine nroom_c _ _ _ h1 _ _ ?_)
      exact h
    | true =>
      simp only [if_true] at hb
      cases hx : floatToIntVal .f64 x .i64 with
      | none => rw [hx] at hb; cases hb
      | some n' =>
        cases hy : floatToIntVal .f64 y .i64 with
        | none => rw [hx, hy] at hb; cases hb
        | some m' =>
          rw [hx, hy] at hb
          obtain ⟨rfl, rfl⟩ : n' = n ∧ m' = m := by simpa using hb
          have hcx := fun w : World => run_convert_float_int (P := Tryd.prog) w 37 3 .f64 .i64 x n' (by rw [Tryd.underlying37]; rfl) Tryd.underlying3 hx
          have hcy := fun w : World => run_convert_float_int (P := Tryd.prog) w 37 3 .f64 .i64 y m' (by rw [Tryd.underlying37]; rfl) Tryd.underlying3 hy
          clear hb hx hy
          go_enter Tryd.func43, Tryd.ntmps43
          go_wp2_with (go_at_call 54; refine nroom_c _ _ _ h1 _ _ ?_)
          exact h

end Go.Proofs.YtjndigkphoiohaaDoor
