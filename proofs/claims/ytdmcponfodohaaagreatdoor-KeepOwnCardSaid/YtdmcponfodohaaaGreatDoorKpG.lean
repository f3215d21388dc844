/-
  slices.Clone at items; keep.Admit.
-/
import Derived.Test.YtdmcponfodohaaaGreatDoorKpF
import Derived.Test.YtdmcponfodohaaaGreatDoorAdmPack
namespace Go.Proofs.YtdmcponfodohaaaGreatDoor
open Go.RowKit Go.Shelf Go.ChangeMaps Go.MapKept
set_option maxRecDepth 100000

theorem rowCells_one (l : List Itm) : ∀ u ∈ rowCells l, u.oneCell' = true := by
  intro u hu
  simp only [rowCells, List.mem_flatMap, List.mem_cons, List.mem_nil_iff, or_false] at hu
  obtain ⟨x, _, rfl | rfl⟩ := hu <;> rfl
theorem rowCells_length (l : List Itm) : (rowCells l).length = l.length * 2 := by
  induction l with
  | nil => rfl
  | cons x r ih => simp [rowCells] at ih ⊢; omega
theorem ItmsAt.rd {w : World} {A : Option Addr} {n : Nat} {l : List Itm} (h : ItmsAt w A n l) : Rd w A (n * 2) (rowCells l) := by
  refine ⟨by rw [rowCells_length, h.1], fun h0 => ?_⟩
  obtain ⟨b, o, x, rfl, _, hb, _⟩ := h.at_ (k := 0) (by omega)
  refine ⟨b, o, rfl, hb, fun j u hu => ?_⟩
  have hj := (List.getElem?_eq_some_iff.1 hu).1
  rw [rowCells_length, h.1] at hj
  obtain ⟨b', o', y, e, hy, _, y0, y1⟩ := h.at_ (k := j / 2) (by omega)
  injection e with e
  injection e with e1 e2
  subst e1 e2
  obtain ⟨r0, r1⟩ := rowCells_at l (j / 2) y hy
  rcases Nat.mod_two_eq_zero_or_one j with hm | hm
  · have e : j = j / 2 * 2 := by omega
    rw [e, r0] at hu
    injection hu with hu
    rw [← hu, e, y0]
  · have e : j = j / 2 * 2 + 1 := by omega
    rw [e, r1] at hu
    injection hu with hu
    rw [← hu, e, ← Nat.add_assoc, y1]
theorem nilI (w : World) (A : Option Addr) (n c : Nat) : (binOp .eql 28 (.slice A n c) (.slice none 0 0)).run Tryz.prog w = .ok (.bool A.isNone) w := by
  rcases A with _ | a <;> kernel_rfl
set_option maxHeartbeats 1000000 in
theorem cloneI_c (A : Option Addr) (n c : Nat) (l : List Itm) (w : World) (hR : Rd w A (n * 2) (rowCells l)) (hA : A = none → n = 0) (hl : l.length = n) (hn : n ≤ 1000) (R : Ending → World → Prop)
    (h : ∀ A' c' w', Below w.heap.size w w' → w'.ownsRow w.heap.size 55 2 (.slice A' n c') n (rowCells l) → R (.returned (.slice A' n c')) w') :
    Calls Tryz.prog 42 #[.slice A n c] w R := by
  have H := Lib.hid h
  have HR := Lib.hid hR
  have HA := Lib.hid hA
  have Hl := Lib.hid hl
  clear h hR hA hl
  have hq := fun W => nilI W A n c
  rcases A with _ | a
  · have h0 := HA.out rfl
    subst h0
    obtain rfl : l = [] := List.eq_nil_of_length_eq_zero Hl.out
    go_enter Tryz.func42, Tryz.ntmps42
    go_wp2_with fail
    exact H.out none 0 _ (Below.refl _ _) ⟨by simp [rowCells], .inl ⟨rfl, rfl⟩⟩
  · go_enter Tryz.func42, Tryz.ntmps42
    have hown0 := own_empty w 55 2
    have Hown0 := Lib.hid hown0
    have Hb0 : Hid (Below w.heap.size w (w.alloc (.cells #[] 55))) := Lib.hid ((Below.refl _ _).alloc (Nat.le_refl _) _)
    clear hown0
    go_wp2_with (at_builtin; (refine app_rdN w.heap.size rfl _ _ 28 55 (.agg #[.string ⟨#[]⟩, .complex .f64 0 0]) 2 32 rfl Tryz.underlying28 infoItm (by kernel_rfl) (by decide) (by decide) _ 0 [] _ _ _ (rowCells l) rfl rfl (rowCells_one l) (by exact Hown0.out) (by exact HR.out.below Hb0.out) (fun e => by cases e) (by simp) (by omega) ?_); intro v1 w1 hown1 hg1 hgb; obtain ⟨A', c', rfl, hown2, hB2⟩ := own_new Hb0.out hown1 hg1 hgb; clear hown1 hg1 hgb)
    all_goals exact H.out A' c' _ hB2 hown2

theorem own_setO {w : World} {B n s i size : Nat} {T : TypeId} {v : Value} {xs : List Value} {o : Obj} (ho : w.ownsRow B T size v n xs) (hs : w.heap[s]? = some o) (hne : ∀ cs, o ≠ .cells cs T) (u : Value) : (w.setCell ⟨s, i, none⟩ u).ownsRow B T size v n xs := by
  refine ⟨ho.1, ?_⟩
  rcases ho.2 with h | ⟨g, cap, cur, e, hB, hh, h⟩
  · exact .inl h
  · refine .inr ⟨g, cap, cur, e, hB, ?_, h⟩
    rw [Below.heap_setCell _ _ _ _ ?_, hh]
    rintro rfl
    rw [hh] at hs
    injection hs with hs
    exact hne _ hs.symm
/-- The blocks that an append may write. -/
def growS (v : Value) : List Nat := v.ownBlock.toList
theorem Kept.of_grow {w w' : World} {v : Value} (h : w.grownBy w' v.ownBlock) : Kept (growS v) w w' :=
  ⟨h.os, h.tape, h.output, h.size, fun k hk hs => h.block k hk (fun e => hs (by unfold growS; rw [← e]; simp))⟩
theorem growS_block {w : World} {B n size : Nat} {T : TypeId} {v : Value} {xs : List Value} (ho : w.ownsRow B T size v n xs) {g : Nat} (hg : g ∈ growS v) : ∃ cs, w.heap[g]? = some (.cells cs T) := by
  unfold growS at hg
  rcases ho.2 with ⟨rfl, _⟩ | ⟨g', cap, cur, rfl, _, hh, _⟩
  · simp [Value.ownBlock] at hg
  · simp [Value.ownBlock] at hg
    subst hg
    exact ⟨_, hh⟩
section
variable {k d mb sm : Nat} {q : Int} {l : List (ByteArray × FV)} {ep : Int} {es : List ER} {ss : SM}
theorem KeepAt.push {U w2 : World} {A A5 : Option Addr} {c C5 : Nat} {er : ER} (h : KeepAt U k d mb sm q l ep es ss) (hb : U.heap[k]? = some (.cells #[.pointer (some ⟨d, 0, none⟩), .int .i64 ep, .slice A es.length c, .map (some sm), .bool false] 74))
    (ho : U.ownsRow k 30 4 (.slice A es.length c) es.length (erC es)) (hg : U.grownBy w2 (Value.slice A es.length c).ownBlock) (hown : w2.ownsRow k 30 4 (.slice A5 (es.length + 1) C5) (es.length + 1) (erC es ++ ER.cs er)) (hr : er.ok U) (hf : es.length + 1 ≤ 24) :
    KeepAt (w2.setCell ⟨k, 2, none⟩ (.slice A5 (es.length + 1) C5)) k d mb sm q l ep (es ++ [er]) ss := by
  have hn := h.ncells
  have hk0 := Kept.of_grow hg
  have hS : ∀ b o, U.heap[b]? = some o → (∀ cs, o ≠ .cells cs 30) → b ∉ growS (.slice A es.length c) := fun b o hbo hne hm => by
    obtain ⟨cs, hcs⟩ := growS_block ho hm
    rw [hbo] at hcs
    injection hcs with hcs
    exact hne cs hcs
  have hkS := hS k _ hb (fun cs e => by simp at e)
  have hk : Kept (k :: growS (.slice A es.length c)) U (w2.setCell ⟨k, 2, none⟩ (.slice A5 (es.length + 1) C5)) := (hk0.mono (fun x hx => List.mem_cons_of_mem _ hx)).setCell (by simp) _
  have hT : ∀ T, T ≠ 74 → T ≠ 30 → NoT U T (k :: growS (.slice A es.length c)) := fun T h1 h2 s hs cs hcs => by
    rcases List.mem_cons.1 hs with rfl | hs
    · rw [hb] at hcs
      simp at hcs
      exact h1 hcs.2.symm
    · obtain ⟨cs', hcs'⟩ := growS_block ho hs
      rw [hcs'] at hcs
      simp at hcs
      exact h2 hcs.2.symm
  have hw2k : w2.heap[k]? = some (.cells #[.pointer (some ⟨d, 0, none⟩), .int .i64 ep, .slice A es.length c, .map (some sm), .bool false] 74) := (hk0.block k h.lt.1 hkS).trans hb
  have hin : ∀ b o, U.heap[b]? = some o → b ≠ k → (∀ cs, o ≠ .cells cs 30) → b ∉ k :: growS (.slice A es.length c) := fun b o hbo hbk hne hm => by
    rcases List.mem_cons.1 hm with e | hm
    · exact hbk e
    · exact hS b o hbo hne hm
  obtain ⟨_, _, hmb, _⟩ := h.disk.map
  obtain ⟨_, _, hsm, _⟩ := h.map
  refine ⟨⟨A5, C5, ?_, ?_⟩, h.disk.kept hk (hin d _ h.disk.blk (Ne.symm hn.2.2) (fun cs e => by simp at e)) (hin mb _ hmb (Ne.symm hn.1) (fun cs e => by simp at e)) (hT _ (by decide) (by decide)),
    h.map.same (hk.block sm h.map.lt (hin sm _ hsm (Ne.symm hn.2.1) (fun cs e => by simp at e))), fun p hp => ?_, fun r hr' => ?_, by simpa using hf, h.ne, fun e => absurd e (by simp)⟩
  · simp [World.setCell, Array.getElem?_modify, hw2k]
  · have h1 := own_setO (i := 2) hown hw2k (fun cs e => by simp at e) (.slice A5 (es.length + 1) C5)
    simpa [erC] using h1
  · obtain ⟨A2, c2, hb2, _⟩ := (h.strs p hp).blk
    refine (h.strs p hp).kept hk (hin _ _ hb2 (fun e => ?_) (fun cs e => by simp at e)) (hT _ (by decide) (by decide))
    rw [e, hb] at hb2
    simp at hb2
  · rcases List.mem_append.1 hr' with h1 | h1
    · exact (h.ents r h1).kept hk (hT _ (by decide) (by decide))
    · rw [List.mem_singleton] at h1
      subst h1
      exact hr.kept hk (hT _ (by decide) (by decide))
theorem KeepAt.mapped {w w' : World} {ss' : SM} (h : KeepAt w k d mb sm q l ep es ss) (hk : Kept [sm] w w') (hM : MapAt w' sm TKey.v strV okK ss') (hs : ∀ p ∈ ss', StrmAt w 0 p.2.1 p.2.2) : KeepAt w' k d mb sm q l ep es ss' := by
  obtain ⟨A, c, hb, ho⟩ := h.blk
  have hn := h.ncells
  obtain ⟨_, _, hsm, _⟩ := h.map
  have hT : ∀ T, NoT w T [sm] := fun T => NoT.one hsm (fun cs e => by simp at e)
  refine ⟨⟨A, c, (hk.block k h.lt.1 (by simpa using hn.2.1)).trans hb, ho.1, ?_⟩, h.disk.kept hk (fun e => ?_) (by simpa using h.ne.symm) (hT _), hM, fun p hp => (hs p hp).kept hk (fun e => ?_) (hT _), fun r hr => (h.ents r hr).kept hk (hT _), h.few, h.ne, fun e => (hk.cell (p := ⟨k, 2, none⟩) h.lt.1 (by simpa using hn.2.1)).trans (h.nil e)⟩
  · rcases ho.2 with h1 | ⟨g, cap, cur, e, hB, hg, h2⟩
    · exact .inl h1
    · exact .inr ⟨g, cap, cur, e, hB, (hk.block g (Array.getElem?_eq_some_iff.1 hg).1 (fun hs => hT 30 g hs cur hg)).trans hg, h2⟩
  · rw [List.mem_singleton] at e
    have := h.disk.blk
    rw [e, hsm] at this
    simp at this
  · rw [List.mem_singleton] at e
    obtain ⟨A2, c2, hb2, _⟩ := (hs p hp).blk
    rw [e, hsm] at hb2
    simp at hb2
theorem admit_bad_c (f e : ByteArray) (r : Int) (A : Option Addr) (c : Nat) (il : List Itm) (w : World) (hK : KeepAt w k d mb sm q l ep es ss) (hm : MsgOk (runM f e il)) (hI : ItmsAt w A il.length il) (hneed : validS (runM f e il) = true → ∀ x ∈ il, (npartsS x.re x.im).isSome = true)
    (hbad : admOk f e r il = false) (R : Ending → World → Prop) (h : ∀ w', Below w.heap.size w w' → R (.returned (.int .i64 1)) w') :
    Calls Tryz.prog 9 #[.pointer (some ⟨k, 0, none⟩), entryV f e r A il.length c] w R := by
  have H := Lib.hid h
  have HK := Lib.hid hK
  obtain ⟨A0, C0, c0, c1, c2, c3, c4, z1, z2, z4, _⟩ := hK.cells
  have hlt := hK.lt.1
  have HI := Lib.hid hI
  have Hbad := Lib.hid hbad
  clear h hK hI hbad
  unfold entryV
  go_enter Tryz.func9, Tryz.ntmps9
  go_wp2_with fail
  have hB0 : Below w.heap.size w (w.alloc (.cells #[.string f, .string e, .int .i64 r, .slice A il.length c] 30)) := (Below.refl _ _).alloc (Nat.le_refl _) _
  refine admPack_c f e r A c il _ hm (HI.out.below hB0) hneed _ (fun _ w1 hB1 => ?_) (fun h => by rw [Hbad.out] at h; cases h)
  rw [World.size_alloc] at hB1
  have HB := Lib.hid (H.out _ (hB0.trans (hB1.mono (Nat.le_succ _))))
  clear hB0 hB1
  go_wp2_with fail
  exact HB.out

end
end Go.Proofs.YtdmcponfodohaaaGreatDoor
