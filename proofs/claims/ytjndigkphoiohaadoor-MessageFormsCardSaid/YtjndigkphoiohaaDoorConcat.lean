/-
  slices.Grow and slices.Concat at []byte: what a call answers, and that nothing that was there turns.
-/
import Derived.Test.YtjndigkphoiohaaDoorCode
import Derived.Deep.OwnRows
namespace Go.Proofs.YtjndigkphoiohaaDoor
open Go.RowKit Go.Shelf
set_option maxRecDepth 100000

theorem grow_c (n : Nat) (hn : n ≤ 1000000000) (w : World) (R : Ending → World → Prop)
    (h : ∀ v w', Below w.heap.size w w' → w'.ownsRow w.heap.size 5 1 v 0 [] → R (.returned v) w') :
    Calls Tryd.prog 50 #[.slice none 0 0, .int .i64 n] w R := by
  have H := Lib.hid h
  clear h
  have hmk := fun w : World => run_make_row' (P := Tryd.prog) 30 5 (.int .u8 0) 1 Tryd.underlying30 infoU8 rfl .i64 .i64 n (by omega) (by omega) w
  by_cases h0 : 0 < n
  · have ht5 : Tryd.t5.bytes = 1 := rfl
    have hnx : Builtin.nextslicecap n 0 = n := by unfold Builtin.nextslicecap; rw [if_pos (by omega)]
    go_enter Tryd.func50, Tryd.ntmps50
    go_wp2_with fail
    all_goals first | (exfalso; omega) | skip
    have hcc : ∀ t, n ≤ (Question.appendCap n 0 5).cut t ∧ (Question.appendCap n 0 5).cut t ≤ maxLen := by
      intro t
      simp only [Question.cut, maxLen]
      have := Nat.mod_lt t (show 0 < 2 ^ 63 - n by omega)
      omega
    have hcc1 := hcc (w.tape w.drawn (Question.appendCap n 0 5))
    generalize (Question.appendCap n 0 5).cut (w.tape w.drawn (Question.appendCap n 0 5)) = cc at hcc1 ⊢
    refine H.out _ _ ((Below.refl _ _).alloc (Nat.le_refl _) _).drew ⟨by simp, .inr ⟨w.heap.size, cc, _, rfl, Nat.le_refl _, heap_alloc_new w _, Nat.zero_le _, hcc1.2, ?_, by simp⟩⟩
    simp [size_zeroCells]
    omega
  · obtain rfl : n = 0 := by omega
    go_enter Tryd.func50, Tryd.ntmps50
    go_wp2_with fail
    exact H.out _ _ (Below.refl _ _) (own_nil' _ _ _ _)

/-- A list of slices of bytes that is read. -/
def RdRows (w : World) (A : Option Addr) (n : Nat) (ls : List (List Int)) : Prop :=
  ls.length = n ∧ (0 < n → ∃ g o, A = some ⟨g, o, none⟩ ∧ g < w.heap.size ∧ ∀ j l, ls[j]? = some l → ∃ Aj cj, w.cell? ⟨g, o + j, none⟩ = some (.slice Aj l.length cj) ∧ Rd w Aj l.length (u8s l))
theorem RdRows.at_ {w : World} {A : Option Addr} {n : Nat} {ls : List (List Int)} (h : RdRows w A n ls) {k : Nat} (hk : k < n) :
    ∃ g o l Aj cj, A = some ⟨g, o, none⟩ ∧ g < w.heap.size ∧ ls[k]? = some l ∧ w.cell? ⟨g, o + k, none⟩ = some (.slice Aj l.length cj) ∧ Rd w Aj l.length (u8s l) := by
  obtain ⟨g, o, e, hlt, hc⟩ := h.2 (by omega)
  have hl : k < ls.length := by have := h.1; omega
  obtain ⟨Aj, cj, h1, h2⟩ := hc k ls[k] (List.getElem?_eq_getElem hl)
  exact ⟨g, o, ls[k], Aj, cj, e, hlt, List.getElem?_eq_getElem hl, h1, h2⟩
theorem rows_of {W : World} {g : Nat} {vs : Array Value} {t : TypeId} {fr : Nat × Nat} (hg : W.heap[g]? = some (.cells vs t fr)) (ls : List (List Int)) (hlen : ls.length = vs.size)
    (h : ∀ (j : Nat) (l : List Int), ls[j]? = some l → ∃ base v, vs[j]? = some v ∧ W.ownsRow base 5 1 v l.length (u8s l)) : RdRows W (some ⟨g, 0, none⟩) vs.size ls :=
  ⟨hlen, fun _ => ⟨g, 0, rfl, (Array.getElem?_eq_some_iff.1 hg).1, fun j l hl => by
    obtain ⟨base, v, hv, ho⟩ := h j l hl
    obtain ⟨A, c, rfl, hr, _⟩ := own_rd ho
    exact ⟨A, c, by rw [cell_of_row W g _ _ _ _ hg, Nat.zero_add]; exact hv, hr⟩⟩⟩
def total (ls : List (List Int)) : Nat := ls.flatten.length
theorem total_take {ls : List (List Int)} {k : Nat} {l : List Int} (h : ls[k]? = some l) : total (ls.take (k + 1)) = total (ls.take k) + l.length := by
  unfold total
  rw [List.take_add_one, h]
  simp
theorem total_le (ls : List (List Int)) (k : Nat) : total (ls.take k) ≤ total ls := by
  unfold total
  conv => rhs; rw [← List.take_append_drop k ls]
  rw [List.flatten_append, List.length_append]
  omega

theorem concat_c (A : Option Addr) (n c : Nat) (ls : List (List Int)) (w : World) (hR : RdRows w A n ls) (hn : n ≤ 1000000) (ht : total ls ≤ 1000000000) (R : Ending → World → Prop)
    (h : ∀ v w', Below w.heap.size w w' → w'.ownsRow w.heap.size 5 1 v ls.flatten.length (u8s ls.flatten) → R (.returned v) w') :
    Calls Tryd.prog 33 #[.slice A n c] w R := by
  have H := Lib.hid h
  have HT := Lib.hid ht
  clear h ht
  go_enter Tryd.func33, Tryd.ntmps33
  go_wp2_with fail
  go_loop [3, 11] (fun sz i => ∃ k : Nat, k ≤ n ∧ i = .int .i64 k ∧ sz = .int .i64 (total (ls.take k))) (fun _ i => n - (RowKit.intOf i).toNat)
  case atStart => exact ⟨0, Nat.zero_le _, rfl, rfl⟩
  case round =>
    obtain ⟨k, hk, rfl, rfl⟩ := hrel
    by_cases hlt : k < n
    · obtain ⟨g, o, l, Aj, cj, rfl, hg, hl, hc, hr⟩ := hR.at_ hlt
      have hll := Lib.hid (total_take hl)
      have hb1 := Nat.le_trans (total_le ls (k + 1)) HT.out
      have hb0 := Nat.le_trans (total_le ls k) HT.out
      have hb2 : total (ls.take k) + l.length ≤ 1000000000 := by rw [← hll.out]; exact hb1
      clear hl hb1
      go_wp2_with fail
      refine ⟨⟨k + 1, by omega, by go_num, ?_⟩, by simp [RowKit.intOf]; omega⟩
      rw [hll.out]
      go_num
    · obtain rfl : k = n := by omega
      have hls : ls.take k = ls := by rw [← hR.1]; exact List.take_length
      rw [hls]
      clear hls
      obtain ⟨tt, htt⟩ : ∃ tt, tt = total ls := ⟨_, rfl⟩
      rw [← htt]
      have HTT := Lib.hid htt
      have hbt : tt ≤ 1000000000 := by rw [htt]; exact HT.out
      clear htt
      go_wp2_with fail
      refine grow_c tt hbt _ _ (fun v0 w1 hB1 hown0 => ?_)
      go_wp2_with fail
      have hRk := Lib.hid hR
      go_loopw [6, 27] (fun v i wr => ∃ j : Nat, j ≤ k ∧ i = .int .i64 j ∧ Below w.heap.size w wr ∧ wr.ownsRow w.heap.size 5 1 v (total (ls.take j)) (u8s (ls.take j).flatten)) (fun _ i _ => k - (RowKit.intOf i).toNat)
      case atStart => exact ⟨0, Nat.zero_le _, rfl, hB1, hown0⟩
      case round =>
        obtain ⟨j, hj, rfl, hB, hown⟩ := hrel
        by_cases hlt2 : j < k
        · obtain ⟨g, o, l, Aj, cj, rfl, hg, hl, hc, hr⟩ := hRk.out.at_ hlt2
          have hcx : wr.cell? ⟨g, o + j, none⟩ = some (.slice Aj l.length cj) := (hB.cell (p := ⟨g, _, none⟩) hg).trans hc
          have hrx := hr.below hB
          have hll := Lib.hid (total_take hl)
          have Hl := Lib.hid hl
          have hb1 := Nat.le_trans (total_le ls (j + 1)) HT.out
          have hb2 : total (ls.take j) + l.length ≤ 1000000000 := by rw [← hll.out]; exact hb1
          have hBs := hB.size
          clear hl hb1 hc
          go_wp2_with (at_builtin; (refine app_rd w.heap.size rfl _ _ 30 5 (.int .u8 0) 1 rfl Tryd.underlying30 infoU8 rfl (by decide) _ _ _ _ _ _ _ rfl rfl (u8s_one l) (by exact hown) (by exact hrx) hBs (by omega) ?_); intro v1 w2 hown1 hg1 hgb)
          refine ⟨⟨j + 1, by omega, by go_num, below_grown' hB hBs hg1 hgb, ?_⟩, by simp [RowKit.intOf]; omega⟩
          rw [hll.out, List.take_add_one, Hl.out, List.flatten_append, u8s_append]
          simpa using hown1
        · obtain rfl : j = k := by omega
          have hls : ls.take j = ls := by rw [← hRk.out.1]; exact List.take_length
          rw [hls] at hown
          go_wp2_with fail
          exact H.out _ _ hB hown
end Go.Proofs.YtjndigkphoiohaaDoor
