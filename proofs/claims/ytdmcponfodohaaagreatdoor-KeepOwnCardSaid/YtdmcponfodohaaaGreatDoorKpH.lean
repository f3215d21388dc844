/-
  keep.Admit, when it is done.
-/
import Derived.Test.YtdmcponfodohaaaGreatDoorKpG
namespace Go.Proofs.YtdmcponfodohaaaGreatDoor
open Go.RowKit Go.Shelf Go.ChangeMaps Go.MapKept
set_option maxRecDepth 100000

def freshS : Strm := ⟨[], 0, false, 0, 0⟩
/-- There is a fresh stream for each of the items, and for nothing else. -/
structure Made (f : ByteArray) (il : List Itm) (ss : SM) : Prop where
  has : ∀ it ∈ il, ∃ s, mget ss ⟨f, it.t⟩ = some (s, freshS)
  no : ∀ x, (∀ it ∈ il, x ≠ ⟨f, it.t⟩) → mget ss x = none
theorem made_there {f : ByteArray} {il : List Itm} {ss : SM} {it : Itm} {j : Nat} (h : Made f (il.take j) ss) (hj : il[j]? = some it) (hin : (mget ss ⟨f, it.t⟩).isSome = true) : Made f (il.take (j + 1)) ss := by
  have e : il.take (j + 1) = il.take j ++ [it] := by rw [List.take_add_one, hj]; rfl
  refine ⟨fun x hx => ?_, fun x hx => h.no x (fun y hy => hx y (by rw [e]; exact List.mem_append_left _ hy))⟩
  rw [e] at hx
  rcases List.mem_append.1 hx with h1 | h1
  · exact h.has x h1
  · rw [List.mem_singleton] at h1
    subst h1
    by_cases hall : ∀ y ∈ il.take j, (⟨f, x.t⟩ : TKey) ≠ ⟨f, y.t⟩
    · rw [h.no _ hall] at hin
      cases hin
    · simp only [Classical.not_forall, Classical.not_not] at hall
      obtain ⟨y, hy, hey⟩ := hall
      rw [hey]
      exact h.has y hy
theorem find_put {κ ν : Type} [DecidableEq κ] (k k' : κ) (v : ν) (h : k' ≠ k) : ∀ l : List (κ × ν), (l.map (fun p => if p.1 = k then (k, v) else p)).find? (fun p => decide (p.1 = k')) = l.find? (fun p => decide (p.1 = k'))
  | [] => rfl
  | x :: r => by
    rw [List.map_cons, List.find?_cons, List.find?_cons, find_put k k' v h r]
    by_cases hx : x.1 = k
    · rw [if_pos hx]
      have e1 : decide (k = k') = false := decide_eq_false (Ne.symm h)
      have e2 : decide (x.1 = k') = false := decide_eq_false (by rw [hx]; exact Ne.symm h)
      simp only [e1, e2]
    · rw [if_neg hx]
theorem mget_mput_ne {κ ν : Type} [DecidableEq κ] (l : List (κ × ν)) (k k' : κ) (v : ν) (h : k' ≠ k) : mget (mput l k v) k' = mget l k' := by
  unfold mput
  split
  · unfold mget
    rw [find_put k k' v h]
  · unfold mget
    rw [List.find?_append]
    simp [Ne.symm h]
theorem made_new {f : ByteArray} {il : List Itm} {ss : SM} {it : Itm} {j s : Nat} (h : Made f (il.take j) ss) (hj : il[j]? = some it) : Made f (il.take (j + 1)) (mput ss ⟨f, it.t⟩ (s, freshS)) := by
  have e : il.take (j + 1) = il.take j ++ [it] := by rw [List.take_add_one, hj]; rfl
  refine ⟨fun x hx => ?_, fun x hx => ?_⟩
  · by_cases he : (⟨f, x.t⟩ : TKey) = ⟨f, it.t⟩
    · rw [he, mget_mput]
      exact ⟨s, rfl⟩
    · rw [mget_mput_ne _ _ _ _ he]
      rw [e] at hx
      rcases List.mem_append.1 hx with h1 | h1
      · exact h.has x h1
      · rw [List.mem_singleton] at h1
        subst h1
        exact absurd rfl he
  · rw [e] at hx
    rw [mget_mput_ne _ _ _ _ (hx it (List.mem_append_right _ (List.mem_singleton.2 rfl)))]
    exact h.no x (fun y hy => hx y (List.mem_append_left _ hy))
section
variable {k d mb sm : Nat} {q : Int} {l : List (ByteArray × FV)} {ep : Int} {es : List ER} {ss : SM}
theorem KeepAt.put {w8 : World} {ob : Obj} {x : TKey} {s8 N : Nat} {st : Strm} (h : KeepAt w8 k d mb sm q l ep es ss) (hM : MapAt (setBlock w8 sm ob) sm TKey.v strV okK (mput ss x (s8, st))) (hs : StrmAt w8 N s8 st) : KeepAt (setBlock w8 sm ob) k d mb sm q l ep es (mput ss x (s8, st)) :=
  h.mapped (kept_set _ _ _) hM (fun p hp => by
    rcases mput_mem hp with rfl | h1
    · exact hs.mono (Nat.zero_le _)
    · exact h.strs p h1)
theorem KeepAt.put_other {w8 : World} {ob : Obj} {g : Nat} {cs : Array Value} {T : TypeId} (h : KeepAt w8 k d mb sm q l ep es ss) (hg : w8.heap[g]? = some (.cells cs T)) : (setBlock w8 sm ob).heap[g]? = some (.cells cs T) := by
  refine ((kept_set w8 sm ob).block g (Array.getElem?_eq_some_iff.1 hg).1 (fun e => ?_)).trans hg
  rw [List.mem_singleton] at e
  obtain ⟨_, _, hsm, _⟩ := h.map
  rw [e, hsm] at hg
  simp at hg
end
section
variable {k d mb sm : Nat} {q : Int} {l : List (ByteArray × FV)} {ep : Int} {es : List ER} {ss : SM}
set_option maxHeartbeats 8000000 in
theorem admit_c (f e : ByteArray) (r : Int) (A : Option Addr) (c : Nat) (il : List Itm) (w : World) (hK : KeepAt w k d mb sm q l ep es ss) (hm : MsgOk (runM f e il)) (hI : ItmsAt w A il.length il) (hH : Hard w 55 A (rowCells il)) (hlen : il.length ≤ 1000) (hneed : validS (runM f e il) = true → ∀ x ∈ il, (npartsS x.re x.im).isSome = true)
    (hok : admOk f e r il = true) (hes : es = []) (hss : ss = []) (hfree : mget l (tempOf (pAdmit 1)) = none) (hroom : ((admB f e r il).length : Int) + 32 ≤ q - usedL l) (R : Ending → World → Prop)
    (h : ∀ v A' c' ss' w', Kept [k, mb, sm] w w' → (∀ a, A' = some a → w.heap.size ≤ a.block) → v.b = admB f e r il → Made f il ss' → KeepAt w' k d mb sm q (mput l (pAdmit 1) v) ep [⟨f, e, r, A', c', il⟩] ss' → R (.returned (.int .i64 0)) w') :
    Calls Tryz.prog 9 #[.pointer (some ⟨k, 0, none⟩), entryV f e r A il.length c] w R := by
  subst hes hss
  have H := Lib.hid h
  have HK := Lib.hid hK
  obtain ⟨A0, C0, c0, c1, c2, c3, c4, z1, z2, z4, _⟩ := hK.cells
  have hlt := hK.lt.1
  have HI := Lib.hid hI
  have Hok := Lib.hid hok
  clear h hK hI hok
  unfold entryV
  go_enter Tryz.func9, Tryz.ntmps9
  go_wp2_with fail
  have hB0 : Below w.heap.size w (w.alloc (.cells #[.string f, .string e, .int .i64 r, .slice A il.length c] 30)) := (Below.refl _ _).alloc (Nat.le_refl _) _
  refine admPack_c f e r A c il _ hm (HI.out.below hB0) hneed _ (fun h => by rw [Hok.out] at h; cases h) (fun _ v w1 hB1 hown => ?_)
  rw [World.size_alloc] at hB1
  have hx1 := (hB1.block w.heap.size (by omega)).trans (heap_alloc_new w _)
  obtain ⟨A1, C1, rfl, hr1, _⟩ := own_rd hown
  have HB1 := Lib.hid (hB0.trans (hB1.mono (Nat.le_succ _)))
  have HK1 := Lib.hid (HK.out.below HB1.out)
  obtain ⟨A2, C2, x0, x1, x2, x3, x4, y1, y2, y4, _⟩ := HK1.out.cells
  have hlt1 := HK1.out.lt.1
  have HR1 := Lib.hid hr1
  have HX1 := Lib.hid hx1
  clear hB0 hB1 hown hr1 hx1
  go_wp2_with fail
  refine pathAdmit_c 1 (.inl rfl) _ _ ?_
  go_wp2_with fail
  refine write_k_c k d mb sm q l ep [] [] (pAdmit 1) A1 _ C1 (admB f e r il) w1 HK1.out (by unfold full; decide +kernel) (by decide) HR1.out hroom hfree _ (fun v w2 hk2 hvb _ _ hK2 => ?_)
  have HK2 := Lib.hid hK2
  have Hk2 := Lib.hid hk2
  have HV := Lib.hid hvb
  have hne : w.heap.size ∉ [mb] := by
    have := HK.out.disk.lt.2
    simp
    omega
  have hx2 := (hk2.block w.heap.size (by have := (Array.getElem?_eq_some_iff.1 HX1.out).1; exact this) hne).trans HX1.out
  have e0 : w2.cell? ⟨w.heap.size, 0, none⟩ = some (.string f) := by rw [cell_of_row _ _ _ _ _ _ hx2]; rfl
  have e1 : w2.cell? ⟨w.heap.size, 1, none⟩ = some (.string e) := by rw [cell_of_row _ _ _ _ _ _ hx2]; rfl
  have e2 : w2.cell? ⟨w.heap.size, 2, none⟩ = some (.int .i64 r) := by rw [cell_of_row _ _ _ _ _ _ hx2]; rfl
  have e3 : w2.cell? ⟨w.heap.size, 3, none⟩ = some (.slice A il.length c) := by rw [cell_of_row _ _ _ _ _ _ hx2]; rfl
  have el := (Array.getElem?_eq_some_iff.1 hx2).1
  have HX2 := Lib.hid hx2
  have hnoT : NoT w 55 [mb] := HK.out.disk.noT _
  have hH2 := hH.kept ((Kept.of_below HB1.out).trans hk2) hnoT
  have HH2 := Lib.hid (hH2.rd (rowCells_length il))
  have hrow : ∃ A c, w2.heap[k]? = some (.cells #[.pointer (some ⟨d, 0, none⟩), .int .i64 ep, .slice A 0 c, .map (some sm), .bool false] 74) ∧ w2.ownsRow k 30 4 (.slice A 0 c) 0 (erC []) ∧ ∀ g, (Value.slice A 0 c).ownBlock ≠ some g := by
    obtain ⟨A9, C9, hb9, ho9⟩ := HK.out.blk
    have hk02 : Kept [mb] w w2 := (Kept.of_below HB1.out).trans hk2
    have hkm : k ∉ [mb] := by simpa using HK.out.ncells.1
    have hnil := HK.out.nil rfl
    rw [cell_of_row _ _ _ _ _ _ hb9] at hnil
    have hA9 : A9 = none := by injection hnil with h; injection h
    refine ⟨A9, C9, (hk02.block k HK.out.lt.1 hkm).trans hb9, ⟨ho9.1, ?_⟩, fun g hg => by rw [hA9] at hg; simp [Value.ownBlock] at hg⟩
    rcases ho9.2 with h1 | ⟨g, cap, cur, e, hB, hg, h2⟩
    · exact .inl h1
    · exact .inr ⟨g, cap, cur, e, hB, (hk02.block g (Array.getElem?_eq_some_iff.1 hg).1 (fun hs => HK.out.disk.noT 30 g hs cur hg)).trans hg, h2⟩
  have HRow := Lib.hid hrow
  clear hk2 hvb hK2 hx2 hne hH2 hnoT hrow
  go_wp2_with fail
  refine cloneI_c A il.length c il w2 HH2.out ?_ rfl hlen _ (fun A3 C3 w3 hb3 ho3 => ?_)
  · intro hA0
    by_cases h0 : 0 < il.length
    · obtain ⟨b, o, x, e, _⟩ := HI.out.at_ h0
      rw [hA0] at e
      cases e
    · omega
  have hx3 := (hb3.block w.heap.size el).trans HX2.out
  have HK3 := Lib.hid (HK2.out.below hb3)
  obtain ⟨A9, C9, hr0, hr1, hr2⟩ := HRow.out
  have hr3 := (hb3.block k HK2.out.lt.1).trans hr0
  have ho4 := own_below' hr1 hb3
  have s0 : w3.cell? ⟨w.heap.size, 0, none⟩ = some (.string f) := by rw [cell_of_row _ _ _ _ _ _ hx3]; rfl
  have s1 : w3.cell? ⟨w.heap.size, 1, none⟩ = some (.string e) := by rw [cell_of_row _ _ _ _ _ _ hx3]; rfl
  have s2 : w3.cell? ⟨w.heap.size, 2, none⟩ = some (.int .i64 r) := by rw [cell_of_row _ _ _ _ _ _ hx3]; rfl
  have s3 : w3.cell? ⟨w.heap.size, 3, none⟩ = some (.slice A il.length c) := by rw [cell_of_row _ _ _ _ _ _ hx3]; rfl
  have sf : w3.frozen? ⟨w.heap.size, 3, none⟩ = false := by simp [World.frozen?, hx3]
  have sl := (Array.getElem?_eq_some_iff.1 hx3).1
  have HX3 := Lib.hid hx3
  have HO3 := Lib.hid ho3
  have HO4 := Lib.hid ho4
  have HR3 := Lib.hid hr3
  have HR2 := Lib.hid hr2
  have HB3 := Lib.hid hb3
  obtain ⟨W4, hW4⟩ : ∃ W4, W4 = w3.setCell ⟨w.heap.size, 3, none⟩ (.slice A3 il.length C3) := ⟨_, rfl⟩
  have hk4 : Kept [w.heap.size] w3 W4 := by rw [hW4]; exact (Kept.refl _ _).setCell (by simp) _
  have hx4 : W4.heap[w.heap.size]? = some (.cells #[.string f, .string e, .int .i64 r, .slice A3 il.length C3] 30) := by
    rw [hW4]
    simp [World.setCell, Array.getElem?_modify, hx3]
  have hT4 : ∀ T, T ≠ 30 → NoT w3 T [w.heap.size] := fun T hT => NoT.one hx3 (fun cs e => by simp at e; exact hT e.2.symm)
  have hne4 : ∀ b o, w3.heap[b]? = some o → (∀ cs, o ≠ .cells cs 30) → b ∉ [w.heap.size] := fun b o hbo hne hm => by
    rw [List.mem_singleton] at hm
    rw [hm, hx3] at hbo
    injection hbo with hbo
    exact hne _ hbo.symm
  obtain ⟨_, _, hmb4, _⟩ := HK3.out.disk.map
  obtain ⟨_, _, hsm4, _⟩ := HK3.out.map
  have hr4 : W4.heap[k]? = some (.cells #[.pointer (some ⟨d, 0, none⟩), .int .i64 ep, .slice A9 0 C9, .map (some sm), .bool false] 74) := (hk4.block k HK3.out.lt.1 (hne4 k _ hr3 (fun cs e => by simp at e))).trans hr3
  have ho5 : W4.ownsRow k 30 4 (.slice A9 0 C9) 0 (erC []) := by
    refine ⟨ho4.1, ?_⟩
    rcases ho4.2 with h1 | ⟨g, cap, cur, e, hB, hg, h2⟩
    · exact .inl h1
    · exact .inr ⟨g, cap, cur, e, hB, absurd (by rw [e]; rfl) (hr2 g), h2⟩
  have hN4 : Kept [k, mb, sm] w W4 := by rw [hW4]; exact (((Kept.of_below HB1.out).trans (Hk2.out.mono (by simp))).trans (Kept.of_below hb3)).setNew (Nat.le_refl _) _
  have hK4 : KeepAt W4 k d mb sm q (mput l (pAdmit 1) v) ep [] [] :=
    ⟨⟨A9, C9, hr4, ho5⟩, HK3.out.disk.kept hk4 (hne4 d _ HK3.out.disk.blk (fun cs e => by simp at e)) (hne4 mb _ hmb4 (fun cs e => by simp at e)) (hT4 _ (by decide)), HK3.out.map.same (hk4.block sm HK3.out.map.lt (hne4 sm _ hsm4 (fun cs e => by simp at e))),
      fun p hp => by
        obtain ⟨A8, C8, hb8, _⟩ := (HK3.out.strs p hp).blk
        exact (HK3.out.strs p hp).kept hk4 (hne4 _ _ hb8 (fun cs e => by simp at e)) (hT4 _ (by decide)), fun r hr => absurd hr List.not_mem_nil, by simp, HK3.out.ne, fun _ => (hk4.cell (p := ⟨k, 2, none⟩) HK3.out.lt.1 (by have := HK.out.lt.1; simp; omega)).trans (HK3.out.nil rfl)⟩
  obtain ⟨AI, CI, eI, hhI, hcI⟩ := hard_own ho3
  injection eI with eI1 _ eI3
  subst eI1 eI3
  have herW : ER.ok W4 ⟨f, e, r, A3, C3, il⟩ := ⟨hhI.kept hk4 (hT4 _ (by decide)), hlen, hm.f, hm.its⟩
  have q0 : W4.drew.cell? ⟨w.heap.size, 0, none⟩ = some (.string f) := by rw [cell_of_row W4.drew _ _ _ _ _ hx4]; rfl
  have q1 : W4.drew.cell? ⟨w.heap.size, 1, none⟩ = some (.string e) := by rw [cell_of_row W4.drew _ _ _ _ _ hx4]; rfl
  have q2 : W4.drew.cell? ⟨w.heap.size, 2, none⟩ = some (.int .i64 r) := by rw [cell_of_row W4.drew _ _ _ _ _ hx4]; rfl
  have q3 : W4.drew.cell? ⟨w.heap.size, 3, none⟩ = some (.slice A3 il.length C3) := by rw [cell_of_row W4.drew _ _ _ _ _ hx4]; rfl
  have q4 : W4.drew.cell? ⟨k, 2, none⟩ = some (.slice A9 0 C9) := by rw [cell_of_row W4.drew _ _ _ _ _ hr4]; rfl
  have j0 : W4.cell? ⟨w.heap.size, 0, none⟩ = some (.string f) := q0
  have j1 : W4.cell? ⟨w.heap.size, 1, none⟩ = some (.string e) := q1
  have j2 : W4.cell? ⟨w.heap.size, 2, none⟩ = some (.int .i64 r) := q2
  have j3 : W4.cell? ⟨w.heap.size, 3, none⟩ = some (.slice A3 il.length C3) := q3
  have j4 : W4.cell? ⟨k, 2, none⟩ = some (.slice A9 0 C9) := q4
  have hWlt : w.heap.size < W4.heap.size := (Array.getElem?_eq_some_iff.1 hx4).1
  have HA3 : Hid (∀ a, A3 = some a → w.heap.size ≤ a.block) := Lib.hid (fun a ha => by
    rcases HO3.out.2 with ⟨e, _⟩ | ⟨g, cap, cur, e, hgB, _⟩
    · injection e with e
      rw [e] at ha
      cases ha
    · injection e with e
      rw [e] at ha
      injection ha with ha
      rw [← ha]
      have := HB1.out.size
      have := Hk2.out.size
      simp only
      omega)
  have HoU := Lib.hid ho5
  have HrB : Hid (∀ g, (Value.slice A9 0 C9).ownBlock ≠ some g) := Lib.hid hr2
  have HF : Hid (∀ w5 : World, W4.drew.grownBy w5 (Value.slice A9 0 C9).ownBlock → w5.heap[w.heap.size]? = some (.cells #[.string f, .string e, .int .i64 r, .slice A3 il.length C3] 30) ∧ w5.heap[k]? = some (.cells #[.pointer (some ⟨d, 0, none⟩), .int .i64 ep, .slice A9 0 C9, .map (some sm), .bool false] 74) ∧ Kept [k, mb, sm] w w5 ∧
      ∀ A5 C5, w5.ownsRow k 30 4 (.slice A5 1 C5) 1 ([] ++ [.string f, .string e, .int .i64 r, .slice A3 il.length C3]) → KeepAt (w5.setCell ⟨k, 2, none⟩ (.slice A5 1 C5)) k d mb sm q (mput l (pAdmit 1) v) ep [⟨f, e, r, A3, C3, il⟩] []) :=
    Lib.hid (fun w5 hg => by
      have hkd : k ∉ growS (.slice A9 0 C9) := fun hm => by
        obtain ⟨cs, hcs⟩ := growS_block ho5 hm
        rw [hr4] at hcs
        simp at hcs
      have hkw : w.heap.size ∉ growS (.slice A9 0 C9) := fun hm => by
        unfold growS at hm
        exact hr2 w.heap.size (by simpa using hm)
      exact ⟨((Kept.of_grow hg).block w.heap.size hWlt hkw).trans hx4, ((Kept.of_grow hg).block k hK4.lt.1 hkd).trans hr4, hN4.drew.trans ((Kept.of_grow hg).mono (fun g hg2 => absurd (show (Value.slice A9 0 C9).ownBlock = some g by unfold growS at hg2; simpa using hg2) (hr2 g))), fun A5 C5 h5 => hK4.drew.push hr4 ho5 hg h5 (herW.kept (Kept.refl [] _).drew (NoT.nil _ _)) (by simp)⟩)
  have hWk : k < W4.heap.size := hK4.lt.1
  have HW4 := Lib.hid hW4
  clear hb3 ho3 hx3 hr0 hr1 hr2 hr3 ho4 hk4 hx4 hT4 hne4 hmb4 hsm4 hr4 ho5 hK4 hhI hcI herW hN4 e0 e1 e2 e3
  go_wp2_with fail
  rw [← HW4.out]
  clear HW4 hW4
  go_region_law ((refine step_app_one k (by rfl) (.tmp 54) (.tmp 56) 49 30 (.agg #[.string ⟨#[]⟩, .string ⟨#[]⟩, .int .i64 0, .slice none 0 0]) 4 64 (by rfl) Tryz.underlying49 infoEnt (by kernel_rfl) (by decide) (by decide) W4.drew (.slice A9 0 C9) 0 [] #[.string f, .string e, .int .i64 r, .slice A3 il.length C3] (by rfl) rfl (by rfl) W4.heap.size (by rfl) (by rfl) (by simp [Value.oneCell']) (by exact HoU.out) (Nat.le_of_lt hWk) (by omega) ?_); intro v1 w5 hown1 hg1 hgb hgo; clear hgb hgo; obtain ⟨y0, y1, y9, y2⟩ := HF.out w5 hg1; obtain ⟨A5, C5, rfl, _⟩ := own_shape' hown1; have yl := (Array.getElem?_eq_some_iff.1 y1).1; have z0 : w5.frozen? ⟨k, 2, none⟩ = false := (by simp [World.frozen?, y1]); have p4 : w5.cell? ⟨k, 2, none⟩ = some (.slice A9 0 C9) := (by rw [cell_of_row _ _ _ _ _ _ y1]; rfl); have p0 : w5.cell? ⟨w.heap.size, 0, none⟩ = some (.string f) := (by rw [cell_of_row _ _ _ _ _ _ y0]; rfl); have p1 : w5.cell? ⟨w.heap.size, 1, none⟩ = some (.string e) := (by rw [cell_of_row _ _ _ _ _ _ y0]; rfl); have p2 : w5.cell? ⟨w.heap.size, 2, none⟩ = some (.int .i64 r) := (by rw [cell_of_row _ _ _ _ _ _ y0]; rfl); have p3 : w5.cell? ⟨w.heap.size, 3, none⟩ = some (.slice A3 il.length C3) := (by rw [cell_of_row _ _ _ _ _ _ y0]; rfl); have Y := Lib.hid (And.intro y0 (And.intro y9 (y2 A5 C5 hown1))); clear y0 y1 y9 y2 hown1 hg1)
  all_goals
    obtain ⟨y0, y1, hK6⟩ := Y.out
    have hB6 : Kept [k, mb, sm] w (w5.setCell ⟨k, 2, none⟩ (.slice A5 1 C5)) := y1.setCell (by simp) _
    have hx6 : (w5.setCell ⟨k, 2, none⟩ (.slice A5 1 C5)).heap[w.heap.size]? = some (.cells #[.string f, .string e, .int .i64 r, .slice A3 il.length C3] 30) := by
      rw [Below.heap_setCell _ _ _ _ (by have := HK.out.lt.1; simp only; omega)]
      exact y0
    clear p0 p1 p2 p3 p4 y0 y1 Y z0 yl
    generalize w5.setCell ⟨k, 2, none⟩ (.slice A5 1 C5) = W6 at hK6 hx6 hB6 ⊢
    clear j0 j1 j2 j3 j4 q0 q1 q2 q3 q4 s0 s1 s2 s3 sf sl x0 x1 x2 x3 x4 y2 y4 c0 c1 c2 c3 c4 z1 z2 z4 HF HrB HoU HX3 HO3 HO4 HR3 HR2 HB3 HRow HH2 HX2 hWlt hWk el HX1 HR1
    have s0 : W6.cell? ⟨w.heap.size, 0, none⟩ = some (.string f) := by rw [cell_of_row _ _ _ _ _ _ hx6]; rfl
    have s3 : W6.cell? ⟨w.heap.size, 3, none⟩ = some (.slice A3 il.length C3) := by rw [cell_of_row _ _ _ _ _ _ hx6]; rfl
    have sl : w.heap.size < W6.heap.size := (Array.getElem?_eq_some_iff.1 hx6).1
    have HK6 := Lib.hid hK6
    have HX6 := Lib.hid hx6
    have HB6 := Lib.hid hB6
    clear hK6 hx6 hB6
    go_wp2_with fail
    go_loopw [63] (fun i wr => ∃ (j : Nat) (ss' : SM), j ≤ il.length ∧ i = .int .i64 j ∧ KeepAt wr k d mb sm q (mput l (pAdmit 1) v) ep [⟨f, e, r, A3, C3, il⟩] ss' ∧ wr.heap[w.heap.size]? = some (.cells #[.string f, .string e, .int .i64 r, .slice A3 il.length C3] 30) ∧ Hid (Made f (il.take j) ss') ∧ Hid (Kept [k, mb, sm] w wr)) (fun i _ => il.length - (RowKit.intOf i).toNat)
    case atStart => exact ⟨0, [], Nat.zero_le _, rfl, HK6.out, HX6.out, Lib.hid ⟨fun x hx => absurd hx (by simp), fun x _ => rfl⟩, HB6⟩
    case round =>
      obtain ⟨j, ss', hj, rfl, hKr, hxr, HM, HBN⟩ := hrel
      have hwrs : w.heap.size ≤ wr.heap.size := HBN.out.size
      by_cases hc : j < il.length
      · have her := (hKr.ents _ (List.mem_singleton.2 rfl)).hard
        obtain ⟨it, hit⟩ : ∃ it, il[j]? = some it := ⟨il[j], List.getElem?_eq_getElem hc⟩
        obtain ⟨r0, r1⟩ := rowCells_at il j it hit
        obtain ⟨gI, oI, rfl, hgI, hcI⟩ := (her.rd (rowCells_length il)).2 (by omega)
        have i0 := hcI _ _ r0
        have i1 := hcI _ _ r1
        rw [← Nat.add_assoc] at i1
        have hjI : (j : Int) < (il.length : Int) := by omega
        have t0 : wr.cell? ⟨w.heap.size, 0, none⟩ = some (.string f) := by rw [cell_of_row _ _ _ _ _ _ hxr]; rfl
        have tl := (Array.getElem?_eq_some_iff.1 hxr).1
        obtain ⟨A8, C8, c0, c1, c2, c3, c4, z1, z2, z4, _⟩ := hKr.cells
        have hklt := hKr.lt.1
        have HKr := Lib.hid hKr
        have HXr := Lib.hid hxr
        have hb2 := below2 wr (.cells #[.string it.t, .complex .f64 it.re it.im] 55) (.cells #[.string f, .string it.t] 33)
        have hok2 : okK ⟨f, it.t⟩ := ⟨hm.f, hm.its it (List.mem_of_getElem? hit)⟩
        have hK7 := hKr.below hb2
        have Hit := Lib.hid hit
        clear hKr hxr her r0 r1 hcI hit
        rcases hg : mget ss' ⟨f, it.t⟩ with _ | p
        · have hlk := MapAt.lookup_none keyKey Tryz.underlying72 hK7.map hok2 hg (zeroS _) true
          rw [if_pos rfl] at hlk
          unfold TKey.v at hlk
          have HK7 := Lib.hid hK7
          have HB2 := Lib.hid hb2
          clear hK7 hb2 hg
          simp only at hlk
          go_wp2_with fail
          go_region
          all_goals go_wp2_with fail
          have hx7 := heap_alloc_new (wr.alloc (.cells #[.string it.t, .complex .f64 it.re it.im] 55)) (.cells #[.string f, .string it.t] 33)
          rw [World.size_alloc] at hx7
          clear hlk c0 c1 c2 c3 c4 z1 z2 z4
          obtain ⟨W7, hW7⟩ : ∃ W7, W7 = ((wr.alloc (.cells #[.string it.t, .complex .f64 it.re it.im] 55)).alloc (.cells #[.string f, .string it.t] 33)).drew := ⟨_, rfl⟩
          have hx7 : W7.heap[wr.heap.size + 1]? = some (.cells #[.string f, .string it.t] 33) := by rw [hW7]; exact hx7
          rw [← hW7] at HK7 HB2 ⊢
          clear hW7
          have HX7 := Lib.hid hx7
          have k0 : W7.cell? ⟨wr.heap.size + 1, 0, none⟩ = some (.string f) := by rw [cell_of_row _ _ _ _ _ _ hx7]; rfl
          have k1 : W7.cell? ⟨wr.heap.size + 1, 1, none⟩ = some (.string it.t) := by rw [cell_of_row _ _ _ _ _ _ hx7]; rfl
          have kl := (Array.getElem?_eq_some_iff.1 hx7).1
          obtain ⟨A9', C9', c0, c1, c2, c3, c4, z1, z2, z4, _⟩ := HK7.out.cells
          have hlt7 := HK7.out.lt.1
          clear hx7
          go_region_with (go_at_call 43; refine strmNew_c _ _ (fun s8 w8 hb8 hs8 => ?_); have HK8 : Hid (KeepAt w8 k d mb sm q (mput l (pAdmit 1) v) ep [⟨f, e, r, _, C3, il⟩] ss') := Lib.hid (HK7.out.drew.below hb8); have HB8 : Hid (Below W7.heap.size W7 w8) := Lib.hid ((Below.refl _ _).drew.trans hb8); have HS8 : Hid (StrmAt w8 W7.heap.size s8 freshS) := Lib.hid hs8; have hx8 : w8.heap[wr.heap.size + 1]? = some (.cells #[.string f, .string it.t] 33) := ((HB8.out.block _ kl).trans HX7.out); obtain ⟨ob, hup, hM8⟩ := MapAt.update keyKey Tryz.underlying72 HK8.out.map hok2 (s8, freshS); unfold TKey.v strV at hup; have HM8 := Lib.hid hM8; have k3 : w8.cell? ⟨wr.heap.size + 1, 0, none⟩ = some (.string f) := (by rw [cell_of_row _ _ _ _ _ _ hx8]; rfl); have k4 : w8.cell? ⟨wr.heap.size + 1, 1, none⟩ = some (.string it.t) := (by rw [cell_of_row _ _ _ _ _ _ hx8]; rfl); have kl8 := (Array.getElem?_eq_some_iff.1 hx8).1; obtain ⟨A10, C10, v0, v1, v2, v3, v4, u1, u2, u4, _⟩ := HK8.out.cells; have hlt8 := HK8.out.lt.1; clear hb8 hs8 hx8 hM8)
          all_goals go_wp2_with fail
          all_goals exact ⟨⟨j + 1, mput ss' ⟨f, it.t⟩ (s8, freshS), by omega, by go_num, HK8.out.put HM8.out HS8.out, HK8.out.put_other ((HB8.out.block _ (Nat.lt_of_lt_of_le tl HB2.out.size)).trans ((HB2.out.block _ tl).trans HXr.out)), Lib.hid (made_new HM.out Hit.out), Lib.hid (((HBN.out.trans (Kept.of_below HB2.out)).trans (Kept.of_below HB8.out)).trans ((kept_set w8 sm ob).mono (by simp)))⟩, by simp [RowKit.intOf]; omega⟩
        · have hlk := MapAt.lookup_some keyKey Tryz.underlying72 hK7.map hok2 hg true
          rw [if_pos rfl] at hlk
          unfold TKey.v strV at hlk
          have HK7 := Lib.hid hK7
          have HB2 := Lib.hid hb2
          have HM2 := Lib.hid (made_there HM.out Hit.out (by rw [hg]; rfl))
          clear hK7 hb2 hg
          simp only at hlk
          go_wp2_with fail
          go_region
          all_goals go_wp2_with fail
          all_goals exact ⟨⟨j + 1, ss', by omega, by go_num, HK7.out, (HB2.out.block _ tl).trans HXr.out, HM2, Lib.hid (HBN.out.trans (Kept.of_below HB2.out))⟩, by simp [RowKit.intOf]; omega⟩
      · obtain rfl : j = il.length := by omega
        have hjI : decide ((il.length : Int) < (il.length : Int)) = false := by simp
        have HH := Lib.hid (H.out v A3 C3 ss' wr HBN.out HA3.out HV.out (by rw [List.take_length] at HM; exact HM.out) hKr)
        go_wp2_with fail
        all_goals exact HH.out
end
end Go.Proofs.YtdmcponfodohaaaGreatDoor
