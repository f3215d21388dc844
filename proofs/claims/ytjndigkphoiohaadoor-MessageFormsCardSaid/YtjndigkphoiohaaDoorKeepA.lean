/-
  hostlerkeep.Within and hostlerkeep.Same[byte].
-/
import Derived.Test.YtjndigkphoiohaaDoorPack
import Derived.Outline
namespace Go.Proofs.YtjndigkphoiohaaDoor
open Go.RowKit Go.Shelf
set_option maxRecDepth 100000

theorem inside_c (v n : Int) (w : World) (hn : 1 ≤ n) (hn' : n ≤ 2 ^ 40) (R : Ending → World → Prop)
    (h : R (.returned (.int .i64 (v % n))) w) : Calls Tryd.prog 7 #[.int .i64 v, .int .i64 n] w R := by
  have H := Lib.hid h
  clear h
  have t0 : decide (n < 1) = false := by simp; omega
  have e := @Int.tmod_eq_emod v n
  have hlt := Int.emod_lt_of_pos v (show 0 < n by omega)
  have hge := Int.emod_nonneg v (show n ≠ 0 by omega)
  go_enter Tryd.func7, Tryd.ntmps7
  by_cases hm : v.tmod n < 0
  · have t1 : decide (v.tmod n < 0) = true := by simp [hm]
    have hw : wrap64 (v.tmod n + n) = v % n := by
      rw [e] at hm ⊢
      split at hm
      · omega
      · rename_i hc
        rw [if_neg hc, Go.IntWalk.wrap64_in _ (by omega)]
        omega
    clear e hm
    go_wp2_with fail
    rw [← hw] at H
    exact H.out
  · have t1 : decide (v.tmod n < 0) = false := by simp [hm]
    have hw : v.tmod n = v % n := by
      rw [e] at hm ⊢
      split at hm
      · rename_i hc
        rw [if_pos hc]
        omega
      · rename_i hc
        rw [if_neg hc]
        omega
    clear e hm
    go_wp2_with fail
    exact H.out

theorem u8s_at {xs : List Int} {k : Nat} {u : Value} (h : (u8s xs)[k]? = some u) : ∃ x, xs[k]? = some x ∧ u = .int .u8 x := by
  unfold u8s at h
  rw [List.getElem?_map] at h
  cases hx : xs[k]? with
  | none => rw [hx] at h; cases h
  | some x => rw [hx] at h; injection h with h; exact ⟨x, rfl, h.symm⟩

theorem sameBytes_c (A B : Option Addr) (n c m d : Nat) (xs ys : List Int) (w : World) (hx : Rd w A n (u8s xs)) (hy : Rd w B m (u8s ys)) (hn : n < 2 ^ 40) (hm : m < 2 ^ 40) (R : Ending → World → Prop)
    (h : ∀ w', Below w.heap.size w w' → R (.returned (.bool (decide (xs = ys)))) w') : Calls Tryd.prog 12 #[.slice A n c, .slice B m d] w R := by
  have H := Lib.hid h
  have Hx := Lib.hid hx
  have Hy := Lib.hid hy
  have hlx : xs.length = n := by have := hx.1; simpa [u8s] using this
  have hly : ys.length = m := by have := hy.1; simpa [u8s] using this
  clear h hx hy
  go_enter Tryd.func12, Tryd.ntmps12
  by_cases hnm : n = m
  · subst hnm
    have t0 : ((n : Int) == (n : Int)) = true := by simp
    have hlx' := Lib.hid hlx
    have hly' := Lib.hid hly
    clear hlx hly
    go_wp2_with fail
    go_loopw [5] (fun i wr => ∃ k : Nat, k ≤ n ∧ i = .int .i64 k ∧ Below w.heap.size w wr ∧ Hid (∀ j, j < k → xs[j]? = ys[j]?)) (fun i _ => n - (RowKit.intOf i).toNat)
    case atStart => exact ⟨0, by omega, rfl, Below.refl _ _, Lib.hid (fun j hj => by omega)⟩
    case round =>
      obtain ⟨k, hk, rfl, hB, Hk⟩ := hrel
      by_cases hc : k < n
      · have t1 : decide (k < n) = true := by simp; omega
        obtain ⟨g, o, u, rfl, hg, hu, hcell⟩ := (Hx.out.below hB).at_ hc
        obtain ⟨g', o', u', rfl, hg', hu', hcell'⟩ := (Hy.out.below hB).at_ hc
        obtain ⟨x, hx, rfl⟩ := u8s_at hu
        obtain ⟨y, hy, rfl⟩ := u8s_at hu'
        have hx' := Lib.hid hx
        have hy' := Lib.hid hy
        have hcn := Lib.hid hc
        clear hx hy hu hu'
        by_cases hxy : x = y
        · have t2 : (x == y) = true := by simp [hxy]
          have hxy' := Lib.hid hxy
          clear hxy
          go_wp2_with fail
          go_region
          go_wp2_with fail
          refine ⟨⟨k + 1, by have := hcn.out; omega, by go_num, hB.drew, Lib.hid ?_⟩, ?_⟩
          · intro j hj
            by_cases hjk : j < k
            · exact Hk.out j hjk
            · have : j = k := by omega
              subst this
              rw [hx'.out, hy'.out, hxy'.out]
          · have := hcn.out
            simp [RowKit.intOf]
            omega
        · have t2 : (x == y) = false := by simp [hxy]
          have hne : decide (xs = ys) = false := by
            simp only [decide_eq_false_iff_not]
            intro e
            rw [e] at hx'
            have := hx'.out.symm.trans hy'.out
            injection this with this
            exact hxy this
          rw [hne] at H
          clear hxy hne
          go_wp2_with fail
          go_region
          go_wp2_with fail
          exact H.out _ hB.drew
      · have t1 : decide (k < n) = false := by simp; omega
        have he : decide (xs = ys) = true := by
          simp only [decide_eq_true_eq]
          apply List.ext_getElem?
          intro j
          by_cases hj : j < k
          · exact Hk.out j hj
          · rw [List.getElem?_eq_none (by have := hlx'.out; omega), List.getElem?_eq_none (by have := hly'.out; omega)]
        rw [he] at H
        clear he hc
        go_wp2_with fail
        exact H.out _ hB
  · have t0 : ((n : Int) == (m : Int)) = false := by simp; omega
    have hne : decide (xs = ys) = false := by simp; intro e; rw [e] at hlx; omega
    rw [hne] at H
    clear hnm hne hlx hly
    go_wp2_with fail
    exact H.out _ (Below.refl _ _)
end Go.Proofs.YtjndigkphoiohaaDoor
