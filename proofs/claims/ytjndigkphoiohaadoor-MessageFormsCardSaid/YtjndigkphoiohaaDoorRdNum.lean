/-
  code.Reader.Number: the next number, where the bytes begin with one.
-/
import Derived.Test.YtjndigkphoiohaaDoorRd
import Derived.Outline
namespace Go.Proofs.YtjndigkphoiohaaDoor
open Go.RowKit Go.Shelf
set_option maxRecDepth 100000

/-- Behind k bytes of a number: what was read of it, and what is left. -/
structure NumSt (n : Nat) (l rest : List Int) (k acc cur : Nat) : Prop where
  drop : l.drop k = numN cur ++ rest
  sum : acc + 2 ^ (7 * k) * cur = n
  low : acc < 2 ^ (7 * k)
  high : cur < 2 ^ (35 - 7 * k)
  pos : k = 0 ∨ 1 ≤ cur
  four : k ≤ 4
theorem NumSt.start {n : Nat} (hn : n < 2 ^ 35) (rest : List Int) : NumSt n (numN n ++ rest) rest 0 0 n := ⟨rfl, by simp, by simp, by simpa using hn, .inl rfl, by omega⟩
theorem drop_cons {l t : List Int} {c : Int} {k : Nat} (h : l.drop k = c :: t) : l[k]? = some c ∧ l.drop (k + 1) = t := by
  constructor
  · have := congrArg (fun x => x[0]?) h
    simpa using this
  · have := congrArg (List.drop 1) h
    simpa using this
theorem NumSt.last {n : Nat} {l rest : List Int} {k acc cur : Nat} (h : NumSt n l rest k acc cur) (hc : cur < 128) : l[k]? = some (cur : Int) ∧ l.drop (k + 1) = rest := by
  have := h.drop
  rw [numN.eq_def, dif_pos hc] at this
  exact drop_cons this
theorem NumSt.more {n : Nat} {l rest : List Int} {k acc cur : Nat} (h : NumSt n l rest k acc cur) (hc : ¬ cur < 128) : l[k]? = some ((cur % 128 + 128 : Nat) : Int) ∧ k ≤ 3 ∧ NumSt n l rest (k + 1) (acc + 2 ^ (7 * k) * (cur % 128)) (cur / 128) := by
  have h1 := h.drop
  rw [numN.eq_def, dif_neg hc] at h1
  obtain ⟨h2, h3⟩ := drop_cons h1
  obtain ⟨_, hs, hl, hh, _, h4⟩ := h
  have hk : k ≤ 3 := by
    rcases Nat.lt_or_ge k 4 with hk | hk
    · omega
    · have : k = 4 := by omega
      subst this
      simp at hh
      omega
  refine ⟨h2, hk, h3, ?_, ?_, ?_, .inr (by omega), by omega⟩
  · have : 2 ^ (7 * (k + 1)) = 2 ^ (7 * k) * 128 := by rw [Nat.mul_add, Nat.pow_add]
    rw [this, ← hs, Nat.mul_assoc, Nat.add_assoc, ← Nat.mul_add]
    congr 2
    omega
  · have : 2 ^ (7 * (k + 1)) = 2 ^ (7 * k) * 128 := by rw [Nat.mul_add, Nat.pow_add]
    rw [this]
    have h5 : cur % 128 ≤ 127 := by omega
    have := Nat.mul_le_mul_left (2 ^ (7 * k)) h5
    omega
  · have : 2 ^ (35 - 7 * k) = 2 ^ (35 - 7 * (k + 1)) * 128 := by
      rw [show 35 - 7 * k = (35 - 7 * (k + 1)) + 7 by omega, Nat.pow_add]
    rw [this] at hh
    exact Nat.div_lt_of_lt_mul (by rw [Nat.mul_comm]; exact hh)
theorem num_in {k acc x n : Nat} (h : acc + 2 ^ (7 * k) * x ≤ n) (hn : n < 2 ^ 35) (hl : acc < 2 ^ (7 * k)) {a : Int} (ha : a = (acc : Int)) {y : Int} (hy : y = ((2 ^ (7 * k) * x : Nat) : Int)) : bits .or .i64 a y = ((acc + 2 ^ (7 * k) * x : Nat) : Int) := by
  subst ha hy
  exact or_low (7 * k) acc x hl (by omega)

theorem num_end {w : World} {r g : Nat} {l rest : List Int} {o len c k : Nat} (h : RdrAt w r g l) (hG : RdG w g (some ⟨g, o, none⟩) len (u8s l)) (e : l.drop (k + 1) = rest) (hk : k + 1 ≤ len) (hnc : len ≤ c) (hc : c = k + 1) : RdrAt (w.setCell ⟨r, 0, none⟩ (.slice (some ⟨g, o, none⟩) (len - (k + 1)) 0)) r g rest := by
  have := hG.drop_ hk hnc
  rw [if_pos hc] at this
  have e2 : (u8s l).drop (k + 1) = u8s rest := by unfold u8s; rw [← List.map_drop, e]
  rw [e2] at this
  exact h.step this (by omega)
theorem num_end' {w : World} {r g : Nat} {l rest : List Int} {o len c k : Nat} (h : RdrAt w r g l) (hG : RdG w g (some ⟨g, o, none⟩) len (u8s l)) (e : l.drop (k + 1) = rest) (hk : k + 1 ≤ len) (hnc : len ≤ c) (hc : ¬ c = k + 1) : RdrAt (w.setCell ⟨r, 0, none⟩ (.slice (some ⟨g, o + (k + 1), none⟩) (len - (k + 1)) (c - (k + 1)))) r g rest := by
  have := hG.drop_ hk hnc
  rw [if_neg hc] at this
  have e2 : (u8s l).drop (k + 1) = u8s rest := by unfold u8s; rw [← List.map_drop, e]
  rw [e2, Option.map_some, Addr.add_lit] at this
  exact h.step this (by omega)
theorem fin_num {R : Ending → World → Prop} {W : World} {a : Int} {n : Nat} (h : R (.returned (.int .i64 n)) W) (e : a = n) : R (.returned (.int .i64 a)) W := by subst e; exact h
theorem NumSt.fin {n : Nat} {l rest : List Int} {k acc cur : Nat} (h : NumSt n l rest k acc cur) (hn : n < 2 ^ 35) {a : Int} (ha : a = (acc : Int)) {y : Int} (hy : y = ((2 ^ (7 * k) * cur : Nat) : Int)) : bits .or .i64 a y = (n : Int) := by
  rw [num_in (n := n) (by have := h.sum; omega) hn h.low ha hy, h.sum]
theorem NumSt.mid {n : Nat} {l rest : List Int} {k acc cur : Nat} (h : NumSt n l rest k acc cur) (hn : n < 2 ^ 35) {a : Int} (ha : a = (acc : Int)) {y : Int} (hy : y = ((2 ^ (7 * k) * (cur % 128) : Nat) : Int)) : bits .or .i64 a y = ((acc + 2 ^ (7 * k) * (cur % 128) : Nat) : Int) := by
  refine num_in (n := n) ?_ hn h.low ha hy
  have := Nat.mul_le_mul_left (2 ^ (7 * k)) (Nat.mod_le cur 128)
  have := h.sum
  omega

def numJ (r n : Nat) (l rest : List Int) (w : World) (a' : Act) (w' : World) : Prop :=
  w' = w ∧ ∃ (k acc cur : Nat) (accI : Int), 1 ≤ k ∧ NumSt n l rest k acc cur ∧ accI = (acc : Int) ∧ ∃ (u1 u5 u6 u7 u8 u9 u10 u11 u12 u13 u14 u15 u16 u17 u18 u19 u20 u21 u22 u23 u24 u25 u26 u27 u28 u29 u30 u31 u32 u33 u34 u35 u36 u37 u38 u39 u40 u41 u42 u43 u44 u45 u46 u47 u48 u49 u50 u51 u52 u53 u54 u55 u56 u57 u58 u59 u60 u61 : Value), a' = { tmps := #[.pointer (some ⟨r, 0, none⟩), u1, .int .i64 0, .int .i64 accI, .int .i64 k, u5, u6, u7, u8, u9, u10, u11, u12, u13, u14, u15, u16, u17, u18, u19, u20, u21, u22, u23, u24, u25, u26, u27, u28, u29, u30, u31, u32, u33, u34, u35, u36, u37, u38, u39, u40, u41, u42, u43, u44, u45, u46, u47, u48, u49, u50, u51, u52, u53, u54, u55, u56, u57, u58, u59, u60, u61], defers := [] }

set_option maxHeartbeats 4000000 in
theorem rdNumber_c (r g : Nat) (n : Nat) (rest : List Int) (w : World) (hn : n < 2 ^ 35) (hR : RdrAt w r g (numN n ++ rest)) (R : Ending → World → Prop)
    (h : ∀ w', Kept [r] w w' → RdrAt w' r g rest → R (.returned (.int .i64 n)) w') :
    Calls Tryd.prog 53 #[.pointer (some ⟨r, 0, none⟩)] w R := by
  have H := Lib.hid h
  have HR := Lib.hid hR
  have Hn := Lib.hid hn
  have Hst := Lib.hid (NumSt.start hn rest)
  obtain ⟨l, hll⟩ : ∃ l, l = numN n ++ rest := ⟨_, rfl⟩
  rw [← hll] at HR Hst
  clear h hR hll hn
  obtain ⟨A, len, c, c0, c1, f0, hlt, hlen, hnc, hG⟩ := HR.out.open_
  have HG := Lib.hid hG
  have Hlen := Lib.hid hlen
  clear hG hlen
  go_enter Tryd.func53, Tryd.ntmps53
  go_wp2_with fail
  refine wp_scope_jumps 0 (numJ r n l rest w) (fun a' _ => 5 - (RowKit.intOf (a'.tmps.getD 4 undef)).toNat) rfl ?_ ?_
  · by_cases hc : n < 128
    · obtain ⟨e1, e2⟩ := Hst.out.last hc
      obtain ⟨o, rfl, hgl, hcell⟩ := HG.out.at_ (k := 0) (u := .int .u8 n) (by unfold u8s; rw [List.getElem?_map, e1]; rfl)
      rw [Nat.add_zero] at hcell
      have hk : 0 < len := by rw [← Hlen.out]; exact (List.getElem?_eq_some_iff.1 e1).1
      have t1 : decide (len ≤ 0) = false := by simp; omega
      have E2 := Lib.hid e2
      clear e1 e2
      go_wp2_with fail
      go_step3
      go_wp2_with fail
      all_goals
        refine fin_num (H.out _ ((Kept.refl [r] w).setCell (by simp) _) ?_) (Hst.out.fin Hn.out rfl ?_)
        · first | exact num_end (k := 0) HR.out HG.out E2.out hk hnc (by assumption) | exact num_end' (k := 0) HR.out HG.out E2.out hk hnc (by assumption)
        · simp
          omega
    · obtain ⟨e1, _, hst⟩ := Hst.out.more hc
      obtain ⟨ci, hci⟩ : ∃ ci : Int, ci = ((n % 128 + 128 : Nat) : Int) := ⟨_, rfl⟩
      rw [← hci] at e1
      obtain ⟨o, rfl, hgl, hcell⟩ := HG.out.at_ (k := 0) (u := .int .u8 ci) (by unfold u8s; rw [List.getElem?_map, e1]; rfl)
      rw [Nat.add_zero] at hcell
      have hk : 0 < len := by rw [← Hlen.out]; exact (List.getElem?_eq_some_iff.1 e1).1
      have t1 : decide (len ≤ 0) = false := by simp; omega
      have b1 : 128 ≤ ci := by omega
      have b2 : ci < 256 := by omega
      have Hci := Lib.hid hci
      have Hs2 := Lib.hid hst
      clear e1 hci hst hc
      go_wp2_with fail
      go_step3
      go_wp2_with fail
      go_step3
      refine ⟨rfl, rfl, 1, _, _, _, by omega, Hs2.out, Hst.out.mid Hn.out rfl ?_, _, _, _, _, _, _, _, _, _, _, _, _, _, _, _, _, _, _, _, _, _, _, _, _, _, _, _, _, _, _, _, _, _, _, _, _, _, _, _, _, _, _, _, _, _, _, _, _, _, _, _, _, _, _, _, _, _, _, rfl⟩
      have := Hci.out
      simp
      omega
  · rintro a' w' ⟨rfl, k, acc, cur, accI, hk1, hst, hacc, u1, u5, u6, u7, u8, u9, u10, u11, u12, u13, u14, u15, u16, u17, u18, u19, u20, u21, u22, u23, u24, u25, u26, u27, u28, u29, u30, u31, u32, u33, u34, u35, u36, u37, u38, u39, u40, u41, u42, u43, u44, u45, u46, u47, u48, u49, u50, u51, u52, u53, u54, u55, u56, u57, u58, u59, u60, u61, rfl⟩
    have hk4 := hst.four
    have Hs := Lib.hid hst
    have Ha := Lib.hid hacc
    clear hst hacc
    by_cases hc : cur < 128
    · obtain ⟨e1, e2⟩ := Hs.out.last hc
      obtain ⟨o, rfl, hgl, hcell⟩ := HG.out.at_ (k := k) (u := .int .u8 cur) (by unfold u8s; rw [List.getElem?_map, e1]; rfl)
      have hk : k < len := by rw [← Hlen.out]; exact (List.getElem?_eq_some_iff.1 e1).1
      have hp : 1 ≤ cur := by rcases Hs.out.pos with h | h <;> omega
      have E2 := Lib.hid e2
      clear e1 e2
      have hkk : k = 1 ∨ k = 2 ∨ k = 3 ∨ k = 4 := by omega
      rcases hkk with rfl | rfl | rfl | rfl
      all_goals
        go_wp2_with fail
      all_goals
        refine fin_num (H.out _ ((Kept.refl [r] _).setCell (by simp) _) ?_) (Hs.out.fin Hn.out Ha.out ?_)
        · first | exact num_end HR.out HG.out E2.out hk hnc (by assumption) | exact num_end' HR.out HG.out E2.out hk hnc (by assumption)
        · simp
          omega
    · obtain ⟨e1, hk3, hst⟩ := Hs.out.more hc
      obtain ⟨ci, hci⟩ : ∃ ci : Int, ci = ((cur % 128 + 128 : Nat) : Int) := ⟨_, rfl⟩
      rw [← hci] at e1
      obtain ⟨o, rfl, hgl, hcell⟩ := HG.out.at_ (k := k) (u := .int .u8 ci) (by unfold u8s; rw [List.getElem?_map, e1]; rfl)
      have hk : k < len := by rw [← Hlen.out]; exact (List.getElem?_eq_some_iff.1 e1).1
      have b1 : 128 ≤ ci := by omega
      have b2 : ci < 256 := by omega
      have Hci := Lib.hid hci
      have Hs2 := Lib.hid hst
      clear e1 hci hst hc
      have hkk : k = 1 ∨ k = 2 ∨ k = 3 := by omega
      rcases hkk with rfl | rfl | rfl
      all_goals
        go_wp2_with fail
        go_step3
        refine ⟨rfl, ⟨rfl, _, _, _, _, ?_, Hs2.out, Hs.out.mid Hn.out Ha.out ?_, _, _, _, _, _, _, _, _, _, _, _, _, _, _, _, _, _, _, _, _, _, _, _, _, _, _, _, _, _, _, _, _, _, _, _, _, _, _, _, _, _, _, _, _, _, _, _, _, _, _, _, _, _, _, _, _, _, _, rfl⟩, ?_⟩
        · omega
        · have := Hci.out
          simp
          omega
        · simp [RowKit.intOf]
end Go.Proofs.YtjndigkphoiohaaDoor
