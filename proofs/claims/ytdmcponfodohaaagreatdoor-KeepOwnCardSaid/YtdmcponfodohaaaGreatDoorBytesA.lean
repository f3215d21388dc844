/-
  KeepBytes: what the files are, plainly.
-/
import Derived.Test.YtdmcponfodohaaaGreatDoorGn
import Derived.Test.YtdmcponfodohaaaGreatDoorListB
namespace Go.Proofs.YtdmcponfodohaaaGreatDoor
open Go.RowKit Go.Shelf Go.ChangeMaps Go.MapKept
set_option maxRecDepth 100000

abbrev xFA : TKey := ⟨⟨#[102]⟩, ⟨#[97]⟩⟩
abbrev pGone1 : ByteArray := ofS hGone ⟨#[102]⟩ ⟨#[120]⟩ 1
abbrev pBox1 : ByteArray := ofS hBox ⟨#[102]⟩ ⟨#[120]⟩ 1
theorem mget_no {ν : Type} {l : List (ByteArray × ν)} {k : ByteArray} {ks : List ByteArray} (h : l.map Prod.fst = ks) (hk : ks.all (fun x => decide (x ≠ k)) = true) : mget l k = none := by
  cases hm : mget l k with
  | none => rfl
  | some v =>
    have h1 := List.all_eq_true.1 hk k (by rw [← h]; exact List.mem_map.2 ⟨_, mget_some hm, rfl⟩)
    simp at h1
section
variable {v v2 v3 v4 v5 v6 : FV}
theorem b_l1 : mput [(pEpoch, v)] (pAdmit 1) v2 = [(pEpoch, v), (pAdmit 1, v2)] := mput_new (mget_no (ks := [pEpoch]) rfl (by decide +kernel)) _
theorem b_no_log : mget [(pEpoch, v), (pAdmit 1, v2)] (logP xFA) = none := mget_no (ks := [pEpoch, pAdmit 1]) rfl (by decide +kernel)
theorem b_l2 : mput [(pEpoch, v), (pAdmit 1, v2)] (logP xFA) v3 = [(pEpoch, v), (pAdmit 1, v2), (logP xFA, v3)] := mput_new b_no_log _
theorem b_l3 : mput [(pEpoch, v), (pAdmit 1, v2), (logP xFA, v3)] (logP xFA) v4 = [(pEpoch, v), (pAdmit 1, v2), (logP xFA, v4)] := by rw [← b_l2, mput_mput, b_l2]
theorem b_no_gone : mget [(pEpoch, v), (pAdmit 1, v2), (logP xFA, v4)] pGone1 = none := mget_no (ks := [pEpoch, pAdmit 1, logP xFA]) rfl (by decide +kernel)
theorem b_no_gonet : mget [(pEpoch, v), (pAdmit 1, v2), (logP xFA, v4)] (tempOf pGone1) = none := mget_no (ks := [pEpoch, pAdmit 1, logP xFA]) rfl (by decide +kernel)
theorem b_l4 : mput [(pEpoch, v), (pAdmit 1, v2), (logP xFA, v4)] pGone1 v5 = [(pEpoch, v), (pAdmit 1, v2), (logP xFA, v4), (pGone1, v5)] := mput_new b_no_gone _
theorem b_no_box : mget [(pEpoch, v), (pAdmit 1, v2), (logP xFA, v4), (pGone1, v5)] pBox1 = none := mget_no (ks := [pEpoch, pAdmit 1, logP xFA, pGone1]) rfl (by decide +kernel)
theorem b_no_boxt : mget [(pEpoch, v), (pAdmit 1, v2), (logP xFA, v4), (pGone1, v5)] (tempOf pBox1) = none := mget_no (ks := [pEpoch, pAdmit 1, logP xFA, pGone1]) rfl (by decide +kernel)
theorem b_l5 : mput [(pEpoch, v), (pAdmit 1, v2), (logP xFA, v4), (pGone1, v5)] pBox1 v6 = [(pEpoch, v), (pAdmit 1, v2), (logP xFA, v4), (pGone1, v5), (pBox1, v6)] := mput_new b_no_box _
theorem b_del : mdel [(pEpoch, v), (pAdmit 1, v2), (logP xFA, v4), (pGone1, v5), (pBox1, v6)] pBox1 = [(pEpoch, v), (pAdmit 1, v2), (logP xFA, v4), (pGone1, v5)] := mdel_back [(pEpoch, v), (pAdmit 1, v2), (logP xFA, v4), (pGone1, v5)] pBox1 v6 b_no_box
/-- The paths, as they are compared. -/
abbrev bPaths : List ByteArray := [pAdmit 1, pBox1, pEpoch, pGone1, logP xFA]
theorem mergeSort_sorted {l s : List (List UInt8)} (hp : l.Perm s) (hs : s.Pairwise (fun x y => decide (x ≤ y) = true)) : l.mergeSort (fun x y => decide (x ≤ y)) = s :=
  (mergeSort_of_perm hp).trans (List.mergeSort_of_pairwise hs)
theorem b_sorted : (sortedB [(pEpoch, v), (pAdmit 1, v2), (logP xFA, v4), (pGone1, v5), (pBox1, v6)]).map (fun x => (⟨x.toArray⟩ : ByteArray)) = bPaths := by
  have h : sortedB [(pEpoch, v), (pAdmit 1, v2), (logP xFA, v4), (pGone1, v5), (pBox1, v6)] = bPaths.map fun p => p.data.toList := by
    unfold sortedB
    refine mergeSort_sorted ?_ (by decide +kernel)
    show ([pEpoch, pAdmit 1, logP xFA, pGone1, pBox1].map fun p : ByteArray => p.data.toList).Perm _
    decide +kernel
  rw [h]
  decide +kernel
theorem pre_of {l : List (ByteArray × FV)} {ks : List ByteArray} {pre : List UInt8} (h : l.map Prod.fst = ks) (hk : ks.all (fun p => !(Lib.hasPrefix p.data.toList pre)) = true) : ∀ p ∈ l, Lib.hasPrefix p.1.data.toList pre = false := fun p hp => by
  have h1 := List.all_eq_true.1 hk p.1 (by rw [← h]; exact List.mem_map.2 ⟨p, hp, rfl⟩)
  simpa using h1
theorem b_pre : ∀ p ∈ [(pEpoch, v), (pAdmit 1, v2), (logP xFA, v4), (pGone1, v5)], Lib.hasPrefix p.1.data.toList (⟨#[98, 111, 120, 47]⟩ : ByteArray).data.toList = false := pre_of (ks := [pEpoch, pAdmit 1, logP xFA, pGone1]) rfl (by decide +kernel)
theorem mget_cons_eq {ν : Type} {l : List (ByteArray × ν)} {a : ByteArray} {u : ν} : mget ((a, u) :: l) a = some u := by unfold mget; simp
theorem mget_cons_no {ν : Type} {l : List (ByteArray × ν)} {a k : ByteArray} {u : ν} (h : a ≠ k) : mget ((a, u) :: l) k = mget l k := mget_cons_ne h
theorem b_get (p : ByteArray) (f : FV) (h : (p, f) ∈ [(pEpoch, v), (pAdmit 1, v2), (logP xFA, v4), (pGone1, v5), (pBox1, v6)]) : mget [(pEpoch, v), (pAdmit 1, v2), (logP xFA, v4), (pGone1, v5), (pBox1, v6)] p = some f := mget_mem (by
    show [pEpoch, pAdmit 1, logP xFA, pGone1, pBox1].Nodup
    decide +kernel) h
end
theorem fresh_may (m : Int) (h0 : 0 ≤ m) (h1 : m < 5) : mayB (stOf freshS) (2 + m) = true := by
  have e : stOf freshS = 1 := rfl
  rw [e]
  unfold mayB overB
  rw [if_pos rfl]
  by_cases h : m = 0
  · subst h; rfl
  · have h3 : decide (3 ≤ 2 + m) = true := by simp; omega
    have h4 : decide (2 + m ≤ 7) = true := by simp; omega
    rw [h3, h4]
    simp
/-- One row: a path, and bytes that its file has. -/
structure RowOk (W : World) (cs : Array Value) (l : List (ByteArray × FV)) (j : Nat) (p : ByteArray) (A : Option Addr) (n c : Nat) (b : List Int) : Prop where
  p0 : cs[j * 2]? = some (.string p)
  p1 : cs[j * 2 + 1]? = some (.slice A n c)
  rd : Rd W A n (u8s b)
  is : (mget l p).isSome = true
  eq : (fileOf l p).b = b
  sm : p.size ≤ maxLen
  few : n ≤ 100
theorem RowOk.below {W W' : World} {cs : Array Value} {l : List (ByteArray × FV)} {j : Nat} {p : ByteArray} {A : Option Addr} {n c : Nat} {b : List Int} (h : RowOk W cs l j p A n c b) (hb : Below W.heap.size W W') : RowOk W' cs l j p A n c b := ⟨h.p0, h.p1, h.rd.below hb, h.is, h.eq, h.sm, h.few⟩
end Go.Proofs.YtdmcponfodohaaaGreatDoor
