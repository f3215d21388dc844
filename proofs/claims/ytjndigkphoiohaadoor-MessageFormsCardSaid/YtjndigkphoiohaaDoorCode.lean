/-
  Contracts of package code: numbers and texts as bytes.
-/
import Derived.Test.YtjndigkphoiohaaDoorCheck
import Derived.Lib.AppendStr
namespace Go.Proofs.YtjndigkphoiohaaDoor
open Go.RowKit Go.Shelf
set_option maxRecDepth 100000

def numN (n : Nat) : List Int := if h : n < 128 then [(n : Int)] else ((n % 128 + 128 : Nat) : Int) :: numN (n / 128)
termination_by n
decreasing_by omega
def numB (n : Int) : List Int := if n < 0 ∨ 34359738367 < n then [] else numN n.toNat
def u8s (l : List Int) : List Value := l.map fun x => .int .u8 x
theorem infoU8 : (Tryd.prog.info? 5).map (fun i => (i.zero, i.size, i.bytes)) = some (some (.int .u8 0), 1, 1) := by kernel_rfl

theorem or128 (a : Int) (h0 : 0 ≤ a) (h1 : a < 128) : bits .or .u8 a 128 = a + 128 := by
  obtain ⟨n, rfl⟩ := Int.eq_ofNat_of_zero_le h0
  have : ∀ m : Fin 128, bits .or .u8 ((m.val : Nat) : Int) 128 = ((m.val : Nat) : Int) + 128 := by decide +kernel
  exact this ⟨n, by omega⟩

theorem codeNumber_c (n : Int) (w : World) (R : Ending → World → Prop)
    (h : ∀ v w', Below w.heap.size w w' → w'.ownsRow w.heap.size 5 1 v (numB n).length (u8s (numB n)) → R (.returned v) w') :
    Calls Tryd.prog 25 #[.int .i64 n] w R := by
  have H := Lib.hid h
  clear h
  by_cases hn : n < 0 ∨ 34359738367 < n
  · have hb : numB n = [] := by unfold numB; rw [if_pos hn]
    rw [hb] at H
    clear hb
    rcases hn with hn | hn
    · go_enter Tryd.func25, Tryd.ntmps25
      go_wp2_with fail
      exact H.out _ _ (Below.refl _ _) (own_nil' _ _ _ _)
    · have h0 : 0 ≤ n := by omega
      go_enter Tryd.func25, Tryd.ntmps25
      go_wp2_with fail
      exact H.out _ _ (Below.refl _ _) (own_nil' _ _ _ _)
  · have h0 : 0 ≤ n := by omega
    have h1 : n ≤ 34359738367 := by omega
    have hb1 : decide (n < 0) = false := by simp; omega
    have hb2 : decide (34359738367 < n) = false := by simp; omega
    have hbn : numB n = numN n.toNat := by unfold numB; rw [if_neg hn]
    have Hbn := Lib.hid hbn
    clear hn hbn
    go_enter Tryd.func25, Tryd.ntmps25
    go_wp2_with fail
    go_loopw [0, 3] (fun x v wr => ∃ (k : Int) (pre : List Int), x = .int .i64 k ∧ 0 ≤ k ∧ k ≤ 34359738367 ∧ Below w.heap.size w wr ∧ wr.ownsRow w.heap.size 5 1 v pre.length (u8s pre) ∧ (pre.length : Int) + k ≤ n ∧ Hid (pre ++ numN k.toNat = numN n.toNat)) (fun x _ _ => (intOf x).toNat)
    case atStart => exact ⟨n, [], rfl, h0, h1, Below.refl _ _, own_nil' _ _ _ _, by simp, Lib.hid rfl⟩
    case round =>
      obtain ⟨k, pre, rfl, hk0, hk1, hB, hown, hpl, Hpre⟩ := hrel
      by_cases hlt : 128 ≤ k
      · have hBs := hB.size
        go_wp2_with (at_builtin; (refine app_one w.heap.size rfl _ _ 30 5 (.int .u8 0) 1 1 rfl Tryd.underlying30 infoU8 rfl (by decide) (by decide) _ pre.length _ _ rfl rfl _ rfl (by simp) (by simp [Value.oneCell']) (by exact hown) (by omega) (by omega) ?_); intro v1 w1 hown1 hg1 hgb)
        refine ⟨⟨k / 128, pre ++ [k % 128 + 128], rfl, by omega, by omega, below_grown' hB hBs hg1 hgb, ?_, by simp; omega, Lib.hid ?_⟩, by simp [intOf]; omega⟩
        · rw [or128 _ (by omega) (by omega)] at hown1
          simp only [List.length_append, List.length_cons, List.length_nil, u8s, List.map_append, List.map_cons, List.map_nil]
          exact hown1
        · rw [← Hpre.out, List.append_assoc]
          congr 1
          rw [numN.eq_def k.toNat, dif_neg (by omega)]
          have e1 : (k / 128).toNat = k.toNat / 128 := by omega
          have e2 : k % 128 + 128 = ((k.toNat % 128 + 128 : Nat) : Int) := by omega
          rw [e1, e2]
          rfl
      · have hBs := hB.size
        go_wp2_with (at_builtin; (refine app_one w.heap.size rfl _ _ 30 5 (.int .u8 0) 1 1 rfl Tryd.underlying30 infoU8 rfl (by decide) (by decide) _ pre.length _ _ rfl rfl _ rfl (by simp) (by simp [Value.oneCell']) (by exact hown) (by omega) (by omega) ?_); intro v1 w1 hown1 hg1 hgb)
        have e : numB n = pre ++ [k] := by
          rw [Hbn.out, ← Hpre.out, numN.eq_def k.toNat, dif_pos (by omega)]
          congr 2
          omega
        refine H.out _ _ (below_grown' hB hBs hg1 hgb) ?_
        rw [e]
        simp only [List.length_append, List.length_cons, List.length_nil, u8s, List.map_append, List.map_cons, List.map_nil]
        exact hown1

def bytesL (s : ByteArray) : List Int := s.data.toList.map fun b => (b.toNat : Int)
def textB (s : ByteArray) : List Int := if 200 < s.size then [] else numB s.size ++ bytesL s
theorem bytesL_length (s : ByteArray) : (bytesL s).length = s.size := by rw [bytesL, List.length_map, data_length']
theorem u8s_length (l : List Int) : (u8s l).length = l.length := by simp [u8s]
theorem u8s_append (l k : List Int) : u8s (l ++ k) = u8s l ++ u8s k := by simp [u8s]
theorem u8s_one (l : List Int) : ∀ u ∈ u8s l, u.oneCell' = true := by
  intro u hu
  obtain ⟨x, _, rfl⟩ := List.mem_map.1 hu
  rfl
theorem numN_length (n : Nat) : (numN n).length ≤ n + 1 := by
  induction n using Nat.strongRecOn with
  | ind n ih =>
    rw [numN.eq_def]
    split
    · simp
    · have := ih (n / 128) (by omega)
      rw [List.length_cons]
      omega
theorem numB_length {n : Int} (h0 : 0 ≤ n) : ((numB n).length : Int) ≤ n + 1 := by
  unfold numB
  split
  · simp; omega
  · have := numN_length n.toNat
    omega

theorem codeText_c (s : ByteArray) (w : World) (R : Ending → World → Prop)
    (h : ∀ v w', Below w.heap.size w w' → w'.ownsRow w.heap.size 5 1 v (textB s).length (u8s (textB s)) → R (.returned v) w') :
    Calls Tryd.prog 22 #[.string s] w R := by
  have H := Lib.hid h
  clear h
  by_cases hn : 200 < s.size
  · have hb : textB s = [] := by unfold textB; rw [if_pos hn]
    rw [hb] at H
    clear hb
    go_enter Tryd.func22, Tryd.ntmps22
    go_wp2_with fail
    exact H.out _ _ (Below.refl _ _) (own_nil' _ _ _ _)
  · have hb : textB s = numB s.size ++ bytesL s := by unfold textB; rw [if_neg hn]
    rw [hb] at H
    clear hb
    have hs : s.size ≤ 200 := by omega
    clear hn
    obtain ⟨i0, hi, hz0, hz1, hz2⟩ := info_parts infoU8
    go_enter Tryd.func22, Tryd.ntmps22
    go_wp2_with fail
    refine codeNumber_c _ _ _ (fun v w1 hB1 hown => ?_)
    have hl := numB_length (n := s.size) (by omega)
    obtain ⟨xs, hxs⟩ : ∃ xs, xs = numB (s.size : Int) := ⟨_, rfl⟩
    rw [← hxs] at hown hl H
    clear hxs
    go_wp2_with (at_builtin; (refine Lib.wpList_append_own_string _ rfl _ _ 30 9 rfl w.heap.size 5 i0 Tryd.underlying30 Tryd.underlying9 hi hz0 hz1 hz2 v xs.length (u8s xs) rfl hown s rfl (by unfold maxLen; omega) (by omega) hB1.size ?_); intro v1 w1 hown1 hg1 _)
    refine H.out _ _ (below_grown' hB1 hB1.size hg1 (fun g hg => (hown.lt g hg).1)) ?_
    rw [List.length_append, bytesL_length, u8s_append]
    have e : u8s (bytesL s) = Lib.strCells s := by simp [u8s, bytesL, Lib.strCells]
    rw [e]
    exact hown1

end Go.Proofs.YtjndigkphoiohaaDoor
