/-
  Several texts in one: KpA, KpB, KpC, KpD; each says at its head what it holds.
-/
import Derived.Test.YtdmcponfodohaaaGreatDoorGj
import Derived.Test.YtdmcponfodohaaaGreatDoorGh
/-
  package keep: what is kept: the map of streams by api.Key.
-/
namespace Go.Proofs.YtdmcponfodohaaaGreatDoor
open Go.RowKit Go.Shelf Go.ChangeMaps Go.MapKept
set_option maxRecDepth 100000

structure TKey where
  f : ByteArray
  t : ByteArray
  deriving DecidableEq
def TKey.v (k : TKey) : Value := .agg #[.string k.f, .string k.t]
def okK (k : TKey) : Prop := k.f.size ≤ maxLen ∧ k.t.size ≤ maxLen
theorem key_lits (k : TKey) (h : okK k) (d : Nat) : Tryz.prog.keyLits (d + 2) 33 k.v.cells.toList = some [.string k.f.data.toList, .string k.t.data.toList] := by
  obtain ⟨h1, h2⟩ := h
  unfold TKey.v
  have hu := Tryz.underlying33
  have hs := Tryz.underlying9
  have hc : Tryz.prog.cellsOf 33 = 2 := by kernel_rfl
  have hc2 : Tryz.prog.cellsOf 9 = 1 := by kernel_rfl
  unfold Program.keyLits
  simp [hu, hc, hc2, Value.cells, Program.keyLits, hs, h1, h2]
theorem keyKey : KeyE Tryz.prog 33 TKey.v okK where
  keyed := Go.Maps.Keyed.of_law (deep_law_laid (by kernel_rfl) (m := 2) (by decide) (of_decide_eq_true (by kernel_rfl)) (by kernel_rfl) (by kernel_rfl))
  inj a b h := by
    unfold TKey.v at h
    obtain ⟨a1, a2⟩ := a
    obtain ⟨b1, b2⟩ := b
    simpa using h
  lit a h := by
    have hu := Tryz.underlying33
    have hk : Tryz.prog.keyType 33 = true := by kernel_rfl
    have hf : a.v.formed Tryz.prog 33 = true := by unfold TKey.v; kernel_rfl
    have hn : Tryz.prog.types.size + 1 = (Tryz.prog.types.size - 1) + 2 := by have : 0 < Tryz.prog.types.size := of_decide_eq_true (by kernel_rfl); omega
    refine ⟨.string (keyBytes [.string a.f.data.toList, .string a.t.data.toList]), ?_⟩
    unfold keyOf
    rw [hu]
    simp only [hk, hf, Bool.and_true, if_true]
    rw [hn, key_lits a h]
    rfl

/-- An entry, and where its items lie. -/
structure ER where
  f : ByteArray
  e : ByteArray
  run : Int
  A : Option Addr
  c : Nat
  items : List Itm
def ER.cs (r : ER) : List Value := [.string r.f, .string r.e, .int .i64 r.run, .slice r.A r.items.length r.c]
def erC (l : List ER) : List Value := l.flatMap ER.cs
structure ER.ok (w : World) (r : ER) : Prop where
  hard : Hard w 55 r.A (rowCells r.items)
  few : r.items.length ≤ 1000
  okF : r.f.size ≤ maxLen
  okT : ∀ x ∈ r.items, x.t.size ≤ maxLen
theorem ER.ok.kept {w w' : World} {r : ER} {S : List Nat} (h : r.ok w) (hk : Kept S w w') (hS : NoT w 55 S) : r.ok w' := ⟨h.hard.kept hk hS, h.few, h.okF, h.okT⟩
theorem erC_len (l : List ER) : (erC l).length = l.length * 4 := by
  induction l with
  | nil => rfl
  | cons x r ih => simp [erC, ER.cs] at ih ⊢; omega
theorem erC_at : ∀ (l : List ER) (j : Nat) (r : ER), l[j]? = some r → (erC l)[j * 4]? = some (.string r.f) ∧ (erC l)[j * 4 + 1]? = some (.string r.e) ∧ (erC l)[j * 4 + 2]? = some (.int .i64 r.run) ∧ (erC l)[j * 4 + 3]? = some (.slice r.A r.items.length r.c)
  | [], j, u, h => by simp at h
  | y :: l, 0, u, h => by
    simp at h
    subst h
    simp [erC, ER.cs]
  | y :: l, j + 1, u, h => by
    have := erC_at l j u (by simpa using h)
    have e : erC (y :: l) = ER.cs y ++ erC l := rfl
    have e0 : (ER.cs y).length = 4 := rfl
    rw [e, List.getElem?_append_right (by rw [e0]; omega), List.getElem?_append_right (by rw [e0]; omega), List.getElem?_append_right (by rw [e0]; omega), List.getElem?_append_right (by rw [e0]; omega), e0]
    have e1 : (j + 1) * 4 - 4 = j * 4 := by omega
    have e2 : (j + 1) * 4 + 1 - 4 = j * 4 + 1 := by omega
    have e3 : (j + 1) * 4 + 2 - 4 = j * 4 + 2 := by omega
    have e4 : (j + 1) * 4 + 3 - 4 = j * 4 + 3 := by omega
    rw [e1, e2, e3, e4]
    exact this
theorem erC_one (l : List ER) : ∀ u ∈ erC l, u.oneCell' = true := by
  intro u hu
  simp only [erC, ER.cs, List.mem_flatMap, List.mem_cons, List.mem_nil_iff, or_false] at hu
  obtain ⟨x, _, rfl | rfl | rfl | rfl⟩ := hu <;> rfl

abbrev SM := List (TKey × (Nat × Strm))
def strV (p : Nat × Strm) : Value := .pointer (some ⟨p.1, 0, none⟩)
structure KeepAt (w : World) (k d mb sm : Nat) (q : Int) (l : List (ByteArray × FV)) (ep : Int) (es : List ER) (ss : SM) : Prop where
  blk : ∃ A c, w.heap[k]? = some (.cells #[.pointer (some ⟨d, 0, none⟩), .int .i64 ep, .slice A es.length c, .map (some sm), .bool false] 74) ∧ w.ownsRow k 30 4 (.slice A es.length c) es.length (erC es)
  disk : DiskAt w d mb q l
  map : MapAt w sm TKey.v strV okK ss
  strs : ∀ p ∈ ss, StrmAt w 0 p.2.1 p.2.2
  ents : ∀ r ∈ es, r.ok w
  few : es.length ≤ 24
  ne : sm ≠ mb
  nil : es = [] → w.cell? ⟨k, 2, none⟩ = some (.slice none 0 0)
theorem KeepAt.lt {w : World} {k d mb sm : Nat} {q : Int} {l : List (ByteArray × FV)} {ep : Int} {es : List ER} {ss : SM} (h : KeepAt w k d mb sm q l ep es ss) : k < w.heap.size ∧ sm < w.heap.size := by
  obtain ⟨A, c, hb, _⟩ := h.blk
  exact ⟨(Array.getElem?_eq_some_iff.1 hb).1, h.map.lt⟩
theorem KeepAt.ncells {w : World} {k d mb sm : Nat} {q : Int} {l : List (ByteArray × FV)} {ep : Int} {es : List ER} {ss : SM} (h : KeepAt w k d mb sm q l ep es ss) : k ≠ mb ∧ k ≠ sm ∧ k ≠ d := by
  obtain ⟨A, c, hb, _⟩ := h.blk
  obtain ⟨_, _, hm, _⟩ := h.disk.map
  obtain ⟨_, _, hs, _⟩ := h.map
  have hd := h.disk.blk
  refine ⟨fun e => ?_, fun e => ?_, fun e => ?_⟩
  · rw [e, hm] at hb; simp at hb
  · rw [e, hs] at hb; simp at hb
  · rw [e, hd] at hb; simp at hb
/-- Nothing of what is kept has changed but the disk's files. -/
theorem KeepAt.kept {w w' : World} {k d mb sm : Nat} {q : Int} {l l' : List (ByteArray × FV)} {ep : Int} {es : List ER} {ss : SM} {S : List Nat} (h : KeepAt w k d mb sm q l ep es ss) (hk : Kept S w w') (h1 : k ∉ S) (h2 : sm ∉ S)
    (hst : ∀ p ∈ ss, p.2.1 ∉ S) (hu : NoT w 36 S) (he : NoT w 30 S) (hi : NoT w 55 S) (hD : DiskAt w' d mb q l') : KeepAt w' k d mb sm q l' ep es ss := by
  obtain ⟨A, c, hb, ho⟩ := h.blk
  refine ⟨⟨A, c, (hk.block k (Array.getElem?_eq_some_iff.1 hb).1 h1).trans hb, ho.1, ?_⟩, hD, h.map.same (hk.block sm h.map.lt h2), fun p hp => (h.strs p hp).kept hk (hst p hp) hu, fun r hr => (h.ents r hr).kept hk hi, h.few, h.ne, fun e => (hk.cell (p := ⟨k, 2, none⟩) (Array.getElem?_eq_some_iff.1 hb).1 h1).trans (h.nil e)⟩
  rcases ho.2 with h1 | ⟨g, cap, cur, e, hB, hg, h2⟩
  · exact .inl h1
  · exact .inr ⟨g, cap, cur, e, hB, (hk.block g (Array.getElem?_eq_some_iff.1 hg).1 (fun hs => he g hs cur hg)).trans hg, h2⟩
theorem KeepAt.below {w w' : World} {k d mb sm : Nat} {q : Int} {l : List (ByteArray × FV)} {ep : Int} {es : List ER} {ss : SM} (h : KeepAt w k d mb sm q l ep es ss) (hb : Below w.heap.size w w') : KeepAt w' k d mb sm q l ep es ss :=
  h.kept (Kept.of_below (S := []) hb) (by simp) (by simp) (by simp) (NoT.nil _ _) (NoT.nil _ _) (NoT.nil _ _) (h.disk.below hb)
theorem KeepAt.drew {w : World} {k d mb sm : Nat} {q : Int} {l : List (ByteArray × FV)} {ep : Int} {es : List ER} {ss : SM} (h : KeepAt w k d mb sm q l ep es ss) : KeepAt w.drew k d mb sm q l ep es ss := h.below (Below.refl _ _).drew
theorem KeepAt.files {w w' : World} {k d mb sm : Nat} {q : Int} {l l' : List (ByteArray × FV)} {ep : Int} {es : List ER} {ss : SM} (h : KeepAt w k d mb sm q l ep es ss) (hk : Kept [mb] w w') (hD : DiskAt w' d mb q l') : KeepAt w' k d mb sm q l' ep es ss := by
  refine h.kept hk (by simpa using h.ncells.1) (by simpa using h.ne) (fun p hp => ?_) (h.disk.noT _) (h.disk.noT _) (h.disk.noT _) hD
  obtain ⟨_, _, hm, _⟩ := h.disk.map
  obtain ⟨A, c, hb, _⟩ := (h.strs p hp).blk
  simp only [List.mem_singleton]
  intro e
  rw [e, hm] at hb
  simp at hb
theorem KeepAt.cells {w : World} {k d mb sm : Nat} {q : Int} {l : List (ByteArray × FV)} {ep : Int} {es : List ER} {ss : SM} (h : KeepAt w k d mb sm q l ep es ss) : ∃ A c, w.cell? ⟨k, 0, none⟩ = some (.pointer (some ⟨d, 0, none⟩)) ∧ w.cell? ⟨k, 1, none⟩ = some (.int .i64 ep) ∧ w.cell? ⟨k, 2, none⟩ = some (.slice A es.length c) ∧ w.cell? ⟨k, 3, none⟩ = some (.map (some sm)) ∧ w.cell? ⟨k, 4, none⟩ = some (.bool false) ∧ w.frozen? ⟨k, 1, none⟩ = false ∧ w.frozen? ⟨k, 2, none⟩ = false ∧ w.frozen? ⟨k, 4, none⟩ = false ∧ w.ownsRow k 30 4 (.slice A es.length c) es.length (erC es) := by
  obtain ⟨A, c, hb, ho⟩ := h.blk
  refine ⟨A, c, ?_, ?_, ?_, ?_, ?_, ?_, ?_, ?_, ho⟩
  · rw [cell_of_row w k _ _ _ _ hb]; rfl
  · rw [cell_of_row w k _ _ _ _ hb]; rfl
  · rw [cell_of_row w k _ _ _ _ hb]; rfl
  · rw [cell_of_row w k _ _ _ _ hb]; rfl
  · rw [cell_of_row w k _ _ _ _ hb]; rfl
  all_goals simp [World.frozen?, hb]
/-- The keep's own block changes, but for its lists. -/
theorem KeepAt.own {w w' : World} {k d mb sm : Nat} {q : Int} {l : List (ByteArray × FV)} {ep ep' : Int} {es : List ER} {ss : SM} (h : KeepAt w k d mb sm q l ep es ss) (hk : Kept [k] w w')
    (hnew : ∀ A c, w.heap[k]? = some (.cells #[.pointer (some ⟨d, 0, none⟩), .int .i64 ep, .slice A es.length c, .map (some sm), .bool false] 74) → w'.heap[k]? = some (.cells #[.pointer (some ⟨d, 0, none⟩), .int .i64 ep', .slice A es.length c, .map (some sm), .bool false] 74)) : KeepAt w' k d mb sm q l ep' es ss := by
  obtain ⟨A, c, hb, ho⟩ := h.blk
  have hn := h.ncells
  have hT : ∀ T, T ≠ 74 → NoT w T [k] := fun T hT => NoT.one hb (fun cs e => by simp at e; exact hT e.2.symm)
  have hD : DiskAt w' d mb q l := h.disk.kept hk (by simpa using (Ne.symm hn.2.2)) (by simpa using (Ne.symm hn.1)) (hT _ (by decide))
  refine ⟨⟨A, c, hnew A c hb, ho.1, ?_⟩, hD, h.map.same (hk.block sm h.map.lt (by simpa using (Ne.symm hn.2.1))), fun p hp => (h.strs p hp).kept hk ?_ (hT _ (by decide)), fun r hr => (h.ents r hr).kept hk (hT _ (by decide)), h.few, h.ne, fun e => (by rw [cell_of_row _ _ _ _ _ _ (hnew A c hb), ← h.nil e, cell_of_row _ _ _ _ _ _ hb]; rfl)⟩
  · rcases ho.2 with h1 | ⟨g, cap, cur, e, hB, hg, h2⟩
    · exact .inl h1
    · exact .inr ⟨g, cap, cur, e, hB, (hk.block g (Array.getElem?_eq_some_iff.1 hg).1 (fun hs => hT 30 (by decide) g hs cur hg)).trans hg, h2⟩
  · obtain ⟨A2, c2, hb2, _⟩ := (h.strs p hp).blk
    simp only [List.mem_singleton]
    intro e
    rw [e, hb] at hb2
    simp at hb2
theorem KeepAt.dead {w : World} {k d mb sm : Nat} {q : Int} {l : List (ByteArray × FV)} {ep : Int} {es : List ER} {ss : SM} (h : KeepAt w k d mb sm q l ep es ss) : KeepAt (w.setCell ⟨k, 4, none⟩ (.bool false)) k d mb sm q l ep es ss :=
  h.own ((Kept.refl [k] w).setCell (by simp) _) (fun A c hb => by simp [World.setCell, Array.getElem?_modify, hb])

theorem KeepAt.same {w : World} {k d mb sm : Nat} {q : Int} {l : List (ByteArray × FV)} {ep : Int} {es : List ER} {ss : SM} (h : KeepAt w k d mb sm q l ep es ss) : Kept [] w (w.setCell ⟨k, 4, none⟩ (.bool false)) := by
  obtain ⟨A, c, hb, _⟩ := h.blk
  refine ⟨rfl, rfl, rfl, by simp [World.setCell], fun i hi _ => ?_⟩
  by_cases e : i = k
  · subst e
    rw [hb]
    simp [World.setCell, Array.getElem?_modify, hb]
  · exact Below.heap_setCell _ _ _ _ e

theorem done_c (k d mb sm : Nat) (q : Int) (l : List (ByteArray × FV)) (ep : Int) (es : List ER) (ss : SM) (e : Int) (he : e ≠ 7) (w : World) (hK : KeepAt w k d mb sm q l ep es ss) (R : Ending → World → Prop)
    (h : ∀ w', Kept [] w w' → KeepAt w' k d mb sm q l ep es ss → R (.returned (.int .i64 e)) w') :
    Calls Tryz.prog 66 #[.pointer (some ⟨k, 0, none⟩), .int .i64 e] w R := by
  have H := Lib.hid h
  obtain ⟨A, c, c0, c1, c2, c3, c4, z1, z2, z4, _⟩ := hK.cells
  have HK := Lib.hid hK
  have hlt := hK.lt.1
  have t1 : (e == 7) = false := by simp [he]
  clear h hK
  go_enter Tryz.func66, Tryz.ntmps66
  go_wp2_with fail
  exact H.out _ HK.out.same HK.out.dead

theorem write_k_c (k d mb sm : Nat) (q : Int) (l : List (ByteArray × FV)) (ep : Int) (es : List ER) (ss : SM) (p : ByteArray) (Ab : Option Addr) (nb cb : Nat) (bs : List Int) (w : World) (hK : KeepAt w k d mb sm q l ep es ss)
    (hp : full p) (hps : p.size ≤ 1000) (hR : Rd w Ab nb (u8s bs)) (hroom : (nb : Int) + 32 ≤ q - usedL l) (hfree : mget l (tempOf p) = none) (R : Ending → World → Prop)
    (h : ∀ f w', Kept [mb] w w' → f.b = bs → f.sy = (bs.length : Int) → f.fi = true → KeepAt w' k d mb sm q (mput l p f) ep es ss → R (.returned (.int .i64 0)) w') :
    Calls Tryz.prog 40 #[.pointer (some ⟨k, 0, none⟩), .string p, .slice Ab nb cb] w R := by
  have H := Lib.hid h
  obtain ⟨A, c, c0, c1, c2, c3, c4, z1, z2, z4, _⟩ := hK.cells
  have HK := Lib.hid hK
  have hlt := hK.lt.1
  clear h hK
  go_enter Tryz.func40, Tryz.ntmps40
  go_wp2_with fail
  refine room_c d mb q l w HK.out.disk _ (fun w1 hB1 => ?_)
  have hroom2 : decide (q - (usedL l : Int) < (nb : Int) + 32) = false := by simp; omega
  obtain ⟨rm, hrm⟩ : ∃ rm, rm = q - (usedL l : Int) := ⟨_, rfl⟩
  rw [← hrm] at hroom2 hroom ⊢
  have Hrm := Lib.hid hrm
  have hnb : nb ≤ 65536 := by have h1 := HK.out.disk.quota; have h2 : (0 : Int) ≤ usedL l := Int.natCast_nonneg _; omega
  have hw : IntKind.i64.wrap ((nb : Int) + 32) = (nb : Int) + 32 := Go.IntWalk.i64_in _ (by omega)
  have hw2 : wrap64 ((nb : Int) + 32) = (nb : Int) + 32 := Go.IntWalk.wrap64_in _ (by omega)
  obtain ⟨A1, C1, x0, x1, x2, x3, x4, y1, y2, y4, _⟩ := (HK.out.below hB1).cells
  have HK1 := Lib.hid (HK.out.below hB1)
  have hlt1 := HK1.out.lt.1
  have HB1 := Lib.hid hB1
  have HR1 := Lib.hid (hR.below hB1)
  clear hB1 hR hrm
  go_wp2_with fail
  refine write_c d mb q l p Ab nb cb bs w1 HK1.out.disk hp hps HR1.out (by rw [← Hrm.out]; omega) hfree _ (fun f w2 hk2 hfb hfs hfi hD2 => ?_)
  have HK2 := Lib.hid (HK1.out.files hk2 hD2)
  have HF := Lib.hid (And.intro hfb (And.intro hfs hfi))
  have Hk2 := Lib.hid ((Kept.of_below HB1.out).trans hk2)
  clear hk2 hfb hfs hfi hD2
  go_wp2_with fail
  refine done_c k d mb sm q _ ep es ss 0 (by decide) w2 HK2.out _ (fun w3 hk3 hK3 => ?_)
  have HH := Lib.hid (H.out f w3 (Hk2.out.trans (hk3.mono (by simp))) HF.out.1 HF.out.2.1 HF.out.2.2 hK3)
  clear hk3 hK3
  go_wp2_with fail
  exact HH.out
end Go.Proofs.YtdmcponfodohaaaGreatDoor
/-
  package keep: Gone, IsGone, Box, HasBox; paths of what may not be.
-/
namespace Go.Proofs.YtdmcponfodohaaaGreatDoor
open Go.RowKit Go.Shelf Go.ChangeMaps Go.MapKept
set_option maxRecDepth 100000

theorem make64 (w : World) : (Instr.makeSlice 37 (.int .i64 64) (.int .i64 64)).run Tryz.prog w = .ok (.slice (some ⟨w.heap.size, 0, none⟩) 64 64) (w.alloc (.cells (u8s (List.replicate 64 0)).toArray 5)) := by
  obtain ⟨i, hi, hz0, hz1, hz2⟩ := info_parts infoU8
  have h := run_make (P := Tryz.prog) w 37 5 i _ Tryz.underlying37 hi hz0 .i64 .i64 64 64 (by omega) (by omega) (by rw [hz2]; decide) (by decide)
  have hc : (Value.int .u8 0).cells = #[Value.int .u8 0] := by simp [Value.cells]
  rw [h, hz1, hc]
  congr 3
  kernel_rfl
/-- No run has these. -/
def noRun (f e : ByteArray) (n : Int) : Prop := rightS f = false ∨ rightS e = false ∨ n < 1 ∨ 24 < n
theorem of_none_c (head f e : ByteArray) (n : Int) (hfs : f.size ≤ 1000) (hes : e.size ≤ 1000) (hn : noRun f e n) (w : World) (R : Ending → World → Prop) (h : ∀ w', Below w.heap.size w w' → R (.returned (.string ⟨#[]⟩)) w') :
    Calls Tryz.prog 97 #[.string head, .string f, .string e, .int .i64 n] w R := by
  have H := Lib.hid h
  clear h
  go_enter Tryz.func97, Tryz.ntmps97
  go_wp2_with fail
  refine right_c f (by omega) _ _ (fun w1 hB1 => ?_)
  have HB1 := Lib.hid hB1
  clear hB1
  rcases hf : rightS f with _ | _
  · go_wp2_with fail
    exact H.out _ HB1.out
  · go_wp2_with fail
    refine right_c e (by omega) _ _ (fun w2 hB2 => ?_)
    have HB2 := Lib.hid (HB1.out.trans (hB2.mono HB1.out.size))
    clear hB2
    rcases he : rightS e with _ | _
    · go_wp2_with fail
      exact H.out _ HB2.out
    · have h3 : n < 1 ∨ 24 < n := by
        rcases hn with h | h | h
        · rw [hf] at h; cases h
        · rw [he] at h; cases h
        · exact h
      go_wp2_with fail
      refine two0_c n h3 w2 _ ?_
      go_wp2_with fail
      exact H.out _ HB2.out
theorem pathGone_none_c (f e : ByteArray) (n : Int) (hfs : f.size ≤ 1000) (hes : e.size ≤ 1000) (hn : noRun f e n) (w : World) (R : Ending → World → Prop) (h : ∀ w', Below w.heap.size w w' → R (.returned (.string ⟨#[]⟩)) w') :
    Calls Tryz.prog 64 #[.string f, .string e, .int .i64 n] w R := by
  have H := Lib.hid h
  clear h
  go_enter Tryz.func64, Tryz.ntmps64
  go_wp2_with fail
  refine of_none_c hGone f e n hfs hes hn _ _ (fun w1 hB1 => ?_)
  have HB := Lib.hid (H.out _ hB1)
  clear hB1
  go_wp2_with fail
  exact HB.out
theorem pathBox_none_c (f e : ByteArray) (n : Int) (hfs : f.size ≤ 1000) (hes : e.size ≤ 1000) (hn : noRun f e n) (w : World) (R : Ending → World → Prop) (h : ∀ w', Below w.heap.size w w' → R (.returned (.string ⟨#[]⟩)) w') :
    Calls Tryz.prog 68 #[.string f, .string e, .int .i64 n] w R := by
  have H := Lib.hid h
  clear h
  go_enter Tryz.func68, Tryz.ntmps68
  go_wp2_with fail
  refine of_none_c hBox f e n hfs hes hn _ _ (fun w1 hB1 => ?_)
  have HB := Lib.hid (H.out _ hB1)
  clear hB1
  go_wp2_with fail
  exact HB.out

theorem full_empty {p : ByteArray} (h : full p) : p.toList.isEmpty = false := by
  unfold full at h
  simpa using h
section
variable {k d mb sm : Nat} {q : Int} {l : List (ByteArray × FV)} {ep : Int} {es : List ER} {ss : SM}
theorem there_c (p : ByteArray) (w : World) (hK : KeepAt w k d mb sm q l ep es ss) (hp : full p) (hps : p.size ≤ 1000) (R : Ending → World → Prop)
    (h : ∀ w', Below w.heap.size w w' → R (.returned (.bool (mget l p).isSome)) w') :
    Calls Tryz.prog 65 #[.pointer (some ⟨k, 0, none⟩), .string p] w R := by
  have H := Lib.hid h
  obtain ⟨A, c, c0, c1, c2, c3, c4, z1, z2, z4, _⟩ := hK.cells
  have HK := Lib.hid hK
  have hlt := hK.lt.1
  clear h hK
  go_enter Tryz.func65, Tryz.ntmps65
  go_wp2_with fail
  refine read_c d mb q l p w HK.out.disk (by unfold maxLen; omega) _ (fun A' c' w1 hB1 _ _ => ?_)
  have HB := Lib.hid (H.out _ hB1)
  clear hB1
  rcases hg : mget l p with _ | f
  · rw [hg] at HB
    go_wp2_with fail
    exact HB.out
  · rw [hg] at HB
    go_wp2_with fail
    have e : (!p.toList.isEmpty) = true := by rw [full_empty hp]; rfl
    show R (.returned (.bool (!p.toList.isEmpty))) w1
    rw [e]
    exact HB.out

theorem gone_none_c (f e : ByteArray) (n : Int) (hfs : f.size ≤ 1000) (hes : e.size ≤ 1000) (hn : noRun f e n) (w : World) (hK : KeepAt w k d mb sm q l ep es ss) (R : Ending → World → Prop)
    (h : ∀ w', Below w.heap.size w w' → R (.returned (.int .i64 1)) w') :
    Calls Tryz.prog 29 #[.pointer (some ⟨k, 0, none⟩), .string f, .string e, .int .i64 n] w R := by
  have H := Lib.hid h
  have HK := Lib.hid hK
  clear h hK
  go_enter Tryz.func29, Tryz.ntmps29
  go_wp2_with fail
  refine pathGone_none_c f e n hfs hes hn w _ (fun w1 hB1 => ?_)
  obtain ⟨A, c, c0, c1, c2, c3, c4, z1, z2, z4, _⟩ := (HK.out.below hB1).cells
  have hlt := (HK.out.below hB1).lt.1
  have HB := Lib.hid (H.out _ hB1)
  clear hB1
  go_wp2_with fail
  exact HB.out

/-- The path of a run that may be. -/
structure RunOk (f e : ByteArray) (n : Nat) : Prop where
  n : n = 1 ∨ n = 2
  f : rightS f = true
  e : rightS e = true
theorem of_full (head f e : ByteArray) (n : Nat) : full (ofS head f e n) := by
  unfold full
  rw [beq_eq_false_iff_ne]
  intro h
  have h1 := congrArg List.length h
  rw [Lib.toList_data, Lib.toList_data] at h1
  simp [ofS, Lib.join] at h1
theorem of_size (head f e : ByteArray) (n : Nat) (h : RunOk f e n) (hh : head.size ≤ 8) : (ofS head f e n).size ≤ 1000 := by
  have hf := h.f
  have he := h.e
  have hfs : f.size ≤ 8 := by unfold rightS at hf; simp only [Bool.and_eq_true, decide_eq_true_eq] at hf; omega
  have hes : e.size ≤ 8 := by unfold rightS at he; simp only [Bool.and_eq_true, decide_eq_true_eq] at he; omega
  have hts : (twoP n).size = 2 := by rcases h.n with rfl | rfl <;> rfl
  have h1 := data_length' head
  have h2 := data_length' f
  have h3 := data_length' e
  have h4 := data_length' (twoP n)
  have h5 := data_length' (ofS head f e n)
  rw [← h5]
  simp [ofS, Lib.join, -Array.length_toList] at h1 h2 h3 h4 ⊢
  omega
theorem gone_there_c (f e : ByteArray) (n : Nat) (ho : RunOk f e n) (w : World) (hK : KeepAt w k d mb sm q l ep es ss) (hin : (mget l (ofS hGone f e n)).isSome = true) (R : Ending → World → Prop)
    (h : ∀ w', Below w.heap.size w w' → R (.returned (.int .i64 4)) w') :
    Calls Tryz.prog 29 #[.pointer (some ⟨k, 0, none⟩), .string f, .string e, .int .i64 n] w R := by
  have H := Lib.hid h
  have HK := Lib.hid hK
  have hfl := of_full hGone f e n
  have hsz := of_size hGone f e n ho (by decide)
  have hem := full_empty hfl
  obtain ⟨p, hp⟩ : ∃ p, p = ofS hGone f e n := ⟨_, rfl⟩
  rw [← hp] at hfl hsz hin hem
  have Hp := Lib.hid hp
  clear h hK hp
  go_enter Tryz.func29, Tryz.ntmps29
  go_wp2_with fail
  refine pathGone_c f e n ho.n ho.f ho.e w _ (fun w1 hB1 => ?_)
  rw [← Hp.out]
  have HK1 := Lib.hid (HK.out.below hB1)
  obtain ⟨A, c, c0, c1, c2, c3, c4, z1, z2, z4, _⟩ := HK1.out.cells
  have hlt := HK1.out.lt.1
  have HB := Lib.hid hB1
  clear hB1
  go_wp2_with fail
  refine there_c p w1 HK1.out hfl hsz _ (fun w2 hB2 => ?_)
  rw [hin]
  have HB2 := Lib.hid (H.out _ (HB.out.trans (hB2.mono HB.out.size)))
  clear hB2
  go_wp2_with fail
  exact HB2.out

theorem gone_c (f e : ByteArray) (n : Nat) (ho : RunOk f e n) (w : World) (hK : KeepAt w k d mb sm q l ep es ss) (hin : mget l (ofS hGone f e n) = none) (hfree : mget l (tempOf (ofS hGone f e n)) = none) (R : Ending → World → Prop)
    (h : ∀ v w', Kept [k, mb] w w' → v.b = [] → KeepAt w' k d mb sm q (mput l (ofS hGone f e n) v) ep es ss → R (.returned (.int .i64 0)) w') :
    Calls Tryz.prog 29 #[.pointer (some ⟨k, 0, none⟩), .string f, .string e, .int .i64 n] w R := by
  have H := Lib.hid h
  have HK := Lib.hid hK
  have hfl := of_full hGone f e n
  have hsz := of_size hGone f e n ho (by decide)
  have hem := full_empty hfl
  obtain ⟨p, hp⟩ : ∃ p, p = ofS hGone f e n := ⟨_, rfl⟩
  rw [← hp] at hfl hsz hin hem hfree H
  have Hp := Lib.hid hp
  clear h hK hp
  go_enter Tryz.func29, Tryz.ntmps29
  go_wp2_with fail
  refine pathGone_c f e n ho.n ho.f ho.e w _ (fun w1 hB1 => ?_)
  rw [← Hp.out]
  have HK1 := Lib.hid (HK.out.below hB1)
  obtain ⟨A, c, c0, c1, c2, c3, c4, z1, z2, z4, _⟩ := HK1.out.cells
  have hlt := HK1.out.lt.1
  have HB := Lib.hid hB1
  clear hB1
  go_wp2_with fail
  refine there_c p w1 HK1.out hfl hsz _ (fun w2 hB2 => ?_)
  rw [hin]
  have HB2 := Lib.hid (HB.out.trans (hB2.mono HB.out.size))
  have HK2 := Lib.hid (HK1.out.below hB2)
  obtain ⟨A2, C2, x0, x1, x2, x3, x4, y1, y2, y4, _⟩ := HK2.out.cells
  have hlt2 := HK2.out.lt.1
  clear hB2
  go_wp2_with fail
  refine write_c d mb q l p none 0 0 [] w2 HK2.out.disk hfl hsz (Rd.nil_ _ _) (by have := HK2.out.disk.used; simpa using this) hfree _ (fun v w3 hk3 hvb hvs hvi hD3 => ?_)
  have HK3 := Lib.hid (HK2.out.files hk3 hD3)
  have HF := Lib.hid hvb
  have Hk3 := Lib.hid ((Kept.of_below HB2.out).trans (hk3.mono (S' := [k, mb]) (by simp)))
  clear hk3 hvb hvs hvi hD3
  go_wp2_with fail
  refine done_c k d mb sm q _ ep es ss 0 (by decide) w3 HK3.out _ (fun w4 hk4 hK4 => ?_)
  have HH := Lib.hid (H.out v w4 (Hk3.out.trans (hk4.mono (by simp))) HF.out hK4)
  clear hk4 hK4
  go_wp2_with fail
  exact HH.out

theorem isGone_c (f e : ByteArray) (n : Nat) (ho : RunOk f e n) (w : World) (hK : KeepAt w k d mb sm q l ep es ss) (R : Ending → World → Prop)
    (h : ∀ w', Below w.heap.size w w' → R (.returned (.bool (mget l (ofS hGone f e n)).isSome)) w') :
    Calls Tryz.prog 36 #[.pointer (some ⟨k, 0, none⟩), .string f, .string e, .int .i64 n] w R := by
  have H := Lib.hid h
  have HK := Lib.hid hK
  have hfl := of_full hGone f e n
  have hsz := of_size hGone f e n ho (by decide)
  obtain ⟨p, hp⟩ : ∃ p, p = ofS hGone f e n := ⟨_, rfl⟩
  rw [← hp] at hfl hsz H
  have Hp := Lib.hid hp
  clear h hK hp
  go_enter Tryz.func36, Tryz.ntmps36
  go_wp2_with fail
  refine pathGone_c f e n ho.n ho.f ho.e w _ (fun w1 hB1 => ?_)
  rw [← Hp.out]
  have HK1 := Lib.hid (HK.out.below hB1)
  have HB := Lib.hid hB1
  clear hB1
  go_wp2_with fail
  refine there_c p w1 HK1.out hfl hsz _ (fun w2 hB2 => ?_)
  have HB2 := Lib.hid (H.out _ (HB.out.trans (hB2.mono HB.out.size)))
  clear hB2
  go_wp2_with fail
  exact HB2.out
theorem box_none_c (f e : ByteArray) (n : Int) (hfs : f.size ≤ 1000) (hes : e.size ≤ 1000) (hn : noRun f e n) (w : World) (hK : KeepAt w k d mb sm q l ep es ss) (R : Ending → World → Prop)
    (h : ∀ w', Below w.heap.size w w' → R (.returned (.int .i64 1)) w') :
    Calls Tryz.prog 30 #[.pointer (some ⟨k, 0, none⟩), .string f, .string e, .int .i64 n] w R := by
  have H := Lib.hid h
  have HK := Lib.hid hK
  clear h hK
  go_enter Tryz.func30, Tryz.ntmps30
  go_wp2_with fail
  refine pathBox_none_c f e n hfs hes hn w _ (fun w1 hB1 => ?_)
  obtain ⟨A, c, c0, c1, c2, c3, c4, z1, z2, z4, _⟩ := (HK.out.below hB1).cells
  have hlt := (HK.out.below hB1).lt.1
  have HB := Lib.hid (H.out _ hB1)
  clear hB1
  go_wp2_with fail
  exact HB.out

theorem box_there_c (f e : ByteArray) (n : Nat) (ho : RunOk f e n) (w : World) (hK : KeepAt w k d mb sm q l ep es ss) (hin : (mget l (ofS hBox f e n)).isSome = true) (R : Ending → World → Prop)
    (h : ∀ w', Below w.heap.size w w' → R (.returned (.int .i64 0)) w') :
    Calls Tryz.prog 30 #[.pointer (some ⟨k, 0, none⟩), .string f, .string e, .int .i64 n] w R := by
  have H := Lib.hid h
  have HK := Lib.hid hK
  have hfl := of_full hBox f e n
  have hsz := of_size hBox f e n ho (by decide)
  have hem := full_empty hfl
  obtain ⟨p, hp⟩ : ∃ p, p = ofS hBox f e n := ⟨_, rfl⟩
  rw [← hp] at hfl hsz hin hem
  have Hp := Lib.hid hp
  clear h hK hp
  go_enter Tryz.func30, Tryz.ntmps30
  go_wp2_with fail
  refine pathBox_c f e n ho.n ho.f ho.e w _ (fun w1 hB1 => ?_)
  rw [← Hp.out]
  have HK1 := Lib.hid (HK.out.below hB1)
  obtain ⟨A, c, c0, c1, c2, c3, c4, z1, z2, z4, _⟩ := HK1.out.cells
  have hlt := HK1.out.lt.1
  have HB := Lib.hid hB1
  clear hB1
  go_wp2_with fail
  refine there_c p w1 HK1.out hfl hsz _ (fun w2 hB2 => ?_)
  rw [hin]
  have HB2 := Lib.hid (H.out _ (HB.out.trans (hB2.mono HB.out.size)))
  clear hB2
  go_wp2_with fail
  exact HB2.out

theorem box_c (f e : ByteArray) (n : Nat) (ho : RunOk f e n) (w : World) (hK : KeepAt w k d mb sm q l ep es ss) (hin : mget l (ofS hBox f e n) = none) (hfree : mget l (tempOf (ofS hBox f e n)) = none) (hroom : 96 ≤ q - (usedL l : Int)) (R : Ending → World → Prop)
    (h : ∀ v w', Kept [k, mb] w w' → v.b = List.replicate 64 0 → KeepAt w' k d mb sm q (mput l (ofS hBox f e n) v) ep es ss → R (.returned (.int .i64 0)) w') :
    Calls Tryz.prog 30 #[.pointer (some ⟨k, 0, none⟩), .string f, .string e, .int .i64 n] w R := by
  have H := Lib.hid h
  have HK := Lib.hid hK
  have hfl := of_full hBox f e n
  have hsz := of_size hBox f e n ho (by decide)
  have hem := full_empty hfl
  obtain ⟨p, hp⟩ : ∃ p, p = ofS hBox f e n := ⟨_, rfl⟩
  rw [← hp] at hfl hsz hin hem hfree H
  have Hp := Lib.hid hp
  clear h hK hp
  go_enter Tryz.func30, Tryz.ntmps30
  go_wp2_with fail
  refine pathBox_c f e n ho.n ho.f ho.e w _ (fun w1 hB1 => ?_)
  rw [← Hp.out]
  have HK1 := Lib.hid (HK.out.below hB1)
  obtain ⟨A, c, c0, c1, c2, c3, c4, z1, z2, z4, _⟩ := HK1.out.cells
  have hlt := HK1.out.lt.1
  have HB := Lib.hid hB1
  clear hB1
  go_wp2_with fail
  refine there_c p w1 HK1.out hfl hsz _ (fun w2 hB2 => ?_)
  rw [hin]
  have HB2 := Lib.hid (HB.out.trans (hB2.mono HB.out.size))
  have HK2 := Lib.hid (HK1.out.below hB2)
  obtain ⟨A2, C2, x0, x1, x2, x3, x4, y1, y2, y4, _⟩ := HK2.out.cells
  have hlt2 := HK2.out.lt.1
  clear hB2
  go_wp2_with fail
  have hm := make64 w2
  have hX := heap_alloc_new w2 (.cells (u8s (List.replicate 64 0)).toArray 5)
  have hR3 : Rd (w2.alloc (.cells (u8s (List.replicate 64 0)).toArray 5)) (some ⟨w2.heap.size, 0, none⟩) 64 (u8s (List.replicate 64 0)) := (hard_new w2 (u8s (List.replicate 64 0)).toArray 5 (by simp)).rd (by rw [u8s_length, List.length_replicate])
  have HR3 := Lib.hid hR3
  have HBa := Lib.hid ((Below.refl w2.heap.size w2).alloc (Nat.le_refl _) (.cells (u8s (List.replicate 64 0)).toArray 5))
  obtain ⟨ob, hob⟩ : ∃ ob, ob = Obj.cells (u8s (List.replicate 64 0)).toArray 5 := ⟨_, rfl⟩
  rw [← hob] at HR3 HBa hm
  clear hX hR3 hob
  rw [hm]
  go_wp2_with fail
  refine write_k_c k d mb sm q l ep es ss p _ 64 64 (List.replicate 64 0) _ (HK2.out.below HBa.out) hfl hsz HR3.out (by omega) hfree _ (fun v w3 hk3 hvb hvs hvi hK3 => ?_)
  have HH := Lib.hid (H.out v w3 (((Kept.of_below HB2.out).trans (Kept.of_below HBa.out)).trans (hk3.mono (S' := [k, mb]) (by simp))) hvb hK3)
  clear hk3 hvb hvs hvi hK3
  go_wp2_with fail
  exact HH.out
theorem hasBox_c (f e : ByteArray) (n : Nat) (ho : RunOk f e n) (w : World) (hK : KeepAt w k d mb sm q l ep es ss) (R : Ending → World → Prop)
    (h : ∀ w', Below w.heap.size w w' → R (.returned (.bool (mget l (ofS hBox f e n)).isSome)) w') :
    Calls Tryz.prog 37 #[.pointer (some ⟨k, 0, none⟩), .string f, .string e, .int .i64 n] w R := by
  have H := Lib.hid h
  have HK := Lib.hid hK
  have hfl := of_full hBox f e n
  have hsz := of_size hBox f e n ho (by decide)
  obtain ⟨p, hp⟩ : ∃ p, p = ofS hBox f e n := ⟨_, rfl⟩
  rw [← hp] at hfl hsz H
  have Hp := Lib.hid hp
  clear h hK hp
  go_enter Tryz.func37, Tryz.ntmps37
  go_wp2_with fail
  refine pathBox_c f e n ho.n ho.f ho.e w _ (fun w1 hB1 => ?_)
  rw [← Hp.out]
  have HK1 := Lib.hid (HK.out.below hB1)
  have HB := Lib.hid hB1
  clear hB1
  go_wp2_with fail
  refine there_c p w1 HK1.out hfl hsz _ (fun w2 hB2 => ?_)
  have HB2 := Lib.hid (H.out _ (HB.out.trans (hB2.mono HB.out.size)))
  clear hB2
  go_wp2_with fail
  exact HB2.out
end
end Go.Proofs.YtdmcponfodohaaaGreatDoor
/-
  package keep: Drop, Stream, what Update and Ack refuse.
-/
namespace Go.Proofs.YtdmcponfodohaaaGreatDoor
open Go.RowKit Go.Shelf Go.ChangeMaps Go.MapKept
set_option maxRecDepth 100000

section
variable {k d mb sm : Nat} {q : Int} {l : List (ByteArray × FV)} {ep : Int} {es : List ER} {ss : SM}
theorem drop_none_c (f e : ByteArray) (n : Nat) (ho : RunOk f e n) (w : World) (hK : KeepAt w k d mb sm q l ep es ss) (hin : mget l (ofS hBox f e n) = none) (R : Ending → World → Prop)
    (h : ∀ w', Below w.heap.size w w' → R (.returned (.int .i64 3)) w') :
    Calls Tryz.prog 34 #[.pointer (some ⟨k, 0, none⟩), .string f, .string e, .int .i64 n] w R := by
  have H := Lib.hid h
  have HK := Lib.hid hK
  obtain ⟨A, c, c0, c1, c2, c3, c4, z1, z2, z4, _⟩ := hK.cells
  have hlt := hK.lt.1
  have Hin := Lib.hid hin
  clear h hK hin
  go_enter Tryz.func34, Tryz.ntmps34
  go_wp2_with fail
  refine hasBox_c f e n ho w HK.out _ (fun w1 hB1 => ?_)
  rw [Hin.out]
  have HB := Lib.hid (H.out _ hB1)
  clear hB1
  go_wp2_with fail
  exact HB.out

set_option maxHeartbeats 2000000 in
theorem drop_c (f e : ByteArray) (n : Nat) (ho : RunOk f e n) (w : World) (hK : KeepAt w k d mb sm q l ep es ss) (hin : (mget l (ofS hBox f e n)).isSome = true) (R : Ending → World → Prop)
    (h : ∀ w', Kept [k, mb] w w' → KeepAt w' k d mb sm q (mdel l (ofS hBox f e n)) ep es ss → R (.returned (.int .i64 0)) w') :
    Calls Tryz.prog 34 #[.pointer (some ⟨k, 0, none⟩), .string f, .string e, .int .i64 n] w R := by
  have H := Lib.hid h
  have HK := Lib.hid hK
  obtain ⟨A, c, c0, c1, c2, c3, c4, z1, z2, z4, _⟩ := hK.cells
  have hlt := hK.lt.1
  have Hin := Lib.hid hin
  have Hsz : Hid ((ofS hBox f e n).size ≤ maxLen) := Lib.hid (by have := of_size hBox f e n ho (by decide); unfold maxLen; omega)
  clear h hK hin
  go_enter Tryz.func34, Tryz.ntmps34
  go_wp2_with fail
  refine hasBox_c f e n ho w HK.out _ (fun w1 hB1 => ?_)
  rw [Hin.out]
  have HB := Lib.hid hB1
  have HK1 := Lib.hid (HK.out.below hB1)
  obtain ⟨A2, C2, x0, x1, x2, x3, x4, y1, y2, y4, _⟩ := HK1.out.cells
  have hlt2 := HK1.out.lt.1
  clear hB1
  go_wp2_with fail
  go_region_with (first
    | (go_at_call 68; refine pathBox_c f e n ho.n ho.f ho.e _ _ (fun w2 hB2 => ?_); have HK2 : Hid (KeepAt w2 k d mb sm q l ep es ss) := Lib.hid (HK1.out.drew.below hB2); have HB2 : Hid (Below w1.heap.size w1 w2) := Lib.hid ((Below.refl _ _).drew.trans hB2); obtain ⟨A3, C3, v0, v1, v2, v3, v4, u1, u2, u4, _⟩ := HK2.out.cells; have hlt3 := HK2.out.lt.1; clear hB2)
    | (go_at_call 74; (refine remove_c d mb q l _ w2 HK2.out.disk (of_full _ _ _ _) Hsz.out Hin.out _ (fun w3 hk3 hD3 => ?_)); have HK3 : Hid (KeepAt w3 k d mb sm q (mdel l (ofS hBox f e n)) ep es ss) := Lib.hid (HK2.out.files hk3 hD3); have Hk3 : Hid (Kept [k, mb] w1 w3) := Lib.hid ((Kept.of_below HB2.out).trans (hk3.mono (S' := [k, mb]) (by simp))); obtain ⟨A4, C4, t0, t1, t2, t3, t4, s1, s2, s4, _⟩ := HK3.out.cells; have hlt4 := HK3.out.lt.1; clear hk3 hD3)
    | (go_at_call 66; refine done_c k d mb sm q _ ep es ss 0 (by decide) w3 HK3.out _ (fun w4 hk4 hK4 => ?_); have HH := Lib.hid (H.out w4 ((Kept.of_below HB.out).trans (Hk3.out.trans (hk4.mono (S' := [k, mb]) (by simp)))) hK4); clear hk4 hK4))
  all_goals
    go_wp2_with fail
    refine bodyPost_ret (results_tmp rfl _ _ _) rfl ?_
    exact HH.out

theorem KeepAt.cons {w : World} (h : KeepAt w k d mb sm q l ep es ss) (o : Obj) : KeepAt (w.alloc o).drew k d mb sm q l ep es ss := h.below ((Below.refl _ _).alloc (Nat.le_refl _) _).drew
theorem zeroS (w : World) : (zeroValue 51).run Tryz.prog w = .ok (.pointer none) w := by kernel_rfl
theorem stream_none_c (x : TKey) (w : World) (hK : KeepAt w k d mb sm q l ep es ss) (hx : okK x) (hin : mget ss x = none) (R : Ending → World → Prop)
    (h : ∀ w', Below w.heap.size w w' → R (.returned (.pointer none)) w') :
    Calls Tryz.prog 21 #[.pointer (some ⟨k, 0, none⟩), x.v] w R := by
  have H := Lib.hid h
  obtain ⟨A, c, c0, c1, c2, c3, c4, z1, z2, z4, _⟩ := hK.cells
  have hlt := hK.lt.1
  have hK1 := hK.cons (.cells #[.string x.f, .string x.t] 33)
  have hlk := MapAt.lookup_none keyKey Tryz.underlying72 hK1.map hx hin (zeroS _) true
  rw [if_pos rfl] at hlk
  obtain ⟨xf, xt⟩ := x
  unfold TKey.v at hlk ⊢
  clear h hK hK1
  go_enter Tryz.func21, Tryz.ntmps21
  go_wp2_with fail
  go_region
  all_goals go_wp2_with fail
  exact H.out _ (((Below.refl _ _).alloc (Nat.le_refl _) _).drew)
theorem stream_c (x : TKey) (p : Nat × Strm) (w : World) (hK : KeepAt w k d mb sm q l ep es ss) (hx : okK x) (hin : mget ss x = some p) (R : Ending → World → Prop)
    (h : ∀ s' w', Below w.heap.size w w' → StrmAt w' w.heap.size s' p.2 → R (.returned (.pointer (some ⟨s', 0, none⟩))) w') :
    Calls Tryz.prog 21 #[.pointer (some ⟨k, 0, none⟩), x.v] w R := by
  have H := Lib.hid h
  obtain ⟨A, c, c0, c1, c2, c3, c4, z1, z2, z4, _⟩ := hK.cells
  have hlt := hK.lt.1
  have hK1 := hK.cons (.cells #[.string x.f, .string x.t] 33)
  have hlk := MapAt.lookup_some keyKey Tryz.underlying72 hK1.map hx hin true
  rw [if_pos rfl] at hlk
  have HS := Lib.hid (hK1.strs _ (mget_some hin))
  obtain ⟨xf, xt⟩ := x
  unfold TKey.v strV at hlk
  unfold TKey.v
  clear h hK hK1
  go_enter Tryz.func21, Tryz.ntmps21
  go_wp2_with fail
  go_region
  all_goals go_wp2_with fail
  refine clone_strm_c 0 p.1 p.2 _ HS.out _ (fun s' w1 hb1 hs1 => ?_)
  rw [show ((w.alloc (.cells #[.string xf, .string xt] 33)).drew).heap.size = w.heap.size + 1 from World.size_alloc _ _] at hb1 hs1
  have HH := Lib.hid (H.out s' w1 ((((Below.refl _ _).alloc (Nat.le_refl _) _).drew).trans (hb1.mono (Nat.le_succ _))) (hs1.mono (Nat.le_succ _)))
  clear hb1 hs1
  go_wp2_with fail
  exact HH.out

end
end Go.Proofs.YtdmcponfodohaaaGreatDoor
/-
  package keep: what Update and Ack refuse.
-/
namespace Go.Proofs.YtdmcponfodohaaaGreatDoor
open Go.RowKit Go.Shelf Go.ChangeMaps Go.MapKept
set_option maxRecDepth 100000

section
variable {k d mb sm : Nat} {q : Int} {l : List (ByteArray × FV)} {ep : Int} {es : List ER} {ss : SM}
theorem below2 (w : World) (o1 o2 : Obj) : Below w.heap.size w ((w.alloc o1).alloc o2).drew := (((Below.refl _ _).alloc (Nat.le_refl _) _).alloc (by simp) _).drew
theorem update_none_c (x : TKey) (n st : Int) (w : World) (hK : KeepAt w k d mb sm q l ep es ss) (hx : okK x) (hin : mget ss x = none) (R : Ending → World → Prop)
    (h : ∀ w', Below w.heap.size w w' → R (.returned (.int .i64 3)) w') :
    Calls Tryz.prog 11 #[.pointer (some ⟨k, 0, none⟩), x.v, .agg #[.int .i64 n, .int .i64 st]] w R := by
  have H := Lib.hid h
  obtain ⟨A, c, c0, c1, c2, c3, c4, z1, z2, z4, _⟩ := hK.cells
  have hlt := hK.lt.1
  have hb2 := below2 w (.cells #[.string x.f, .string x.t] 33) (.cells #[.int .i64 n, .int .i64 st] 36)
  have hlk := MapAt.lookup_none keyKey Tryz.underlying72 (hK.below hb2).map hx hin (zeroS _) true
  rw [if_pos rfl] at hlk
  have HB2 := Lib.hid hb2
  obtain ⟨xf, xt⟩ := x
  unfold TKey.v at hlk ⊢
  clear h hK hb2
  go_enter Tryz.func11, Tryz.ntmps11
  go_wp2_with fail
  go_region
  all_goals go_wp2_with fail
  exact H.out _ HB2.out
theorem update_bad_c (x : TKey) (p : Nat × Strm) (n st : Int) (w : World) (hK : KeepAt w k d mb sm q l ep es ss) (hx : okK x) (hin : mget ss x = some p) (hfew : p.2.l.length + 1 ≤ 1000) (hbad : mayB (stOf p.2) st = false ∨ n ≠ (p.2.l.length : Int) + 1) (R : Ending → World → Prop)
    (h : ∀ w', Below w.heap.size w w' → R (.returned (.int .i64 1)) w') :
    Calls Tryz.prog 11 #[.pointer (some ⟨k, 0, none⟩), x.v, .agg #[.int .i64 n, .int .i64 st]] w R := by
  have H := Lib.hid h
  obtain ⟨A, c, c0, c1, c2, c3, c4, z1, z2, z4, _⟩ := hK.cells
  have hlt := hK.lt.1
  have hb2 := below2 w (.cells #[.string x.f, .string x.t] 33) (.cells #[.int .i64 n, .int .i64 st] 36)
  have hlk := MapAt.lookup_some keyKey Tryz.underlying72 (hK.below hb2).map hx hin true
  rw [if_pos rfl] at hlk
  have HS := Lib.hid ((hK.below hb2).strs _ (mget_some hin))
  have HB2 := Lib.hid hb2
  have hu0 := (heap_alloc_new (w.alloc (.cells #[.string x.f, .string x.t] 33)) (.cells #[.int .i64 n, .int .i64 st] 36))
  rw [World.size_alloc] at hu0
  obtain ⟨xf, xt⟩ := x
  unfold TKey.v strV at hlk
  unfold TKey.v
  obtain ⟨W2, hW2⟩ : ∃ W2, W2 = ((w.alloc (.cells #[.string xf, .string xt] 33)).alloc (.cells #[.int .i64 n, .int .i64 st] 36)).drew := ⟨_, rfl⟩
  have hu1 : W2.heap[w.heap.size + 1]? = some (.cells #[.int .i64 n, .int .i64 st] 36) := by rw [hW2]; exact hu0
  simp only [] at HS HB2
  rw [← hW2] at HS HB2
  have HW := Lib.hid hW2
  have HU1 := Lib.hid hu1
  have hs2 : W2.heap.size = w.heap.size + 2 := by rw [hW2]; exact (World.size_alloc _ _).trans (by rw [World.size_alloc])
  clear h hK hb2 hu0 hW2 hu1
  go_enter Tryz.func11, Tryz.ntmps11
  go_wp2_with fail
  go_region
  all_goals go_wp2_with fail
  rw [← HW.out]
  clear hlk
  refine clone_strm_c 0 p.1 p.2 _ HS.out _ (fun s' w1 hb1 hs1 => ?_)
  have hu2 := (hb1.block (w.heap.size + 1) (by omega)).trans HU1.out
  have d0 : w1.cell? ⟨w.heap.size + 1, 0, none⟩ = some (.int .i64 n) := by rw [cell_of_row _ _ _ _ _ _ hu2]; rfl
  have d1 : w1.cell? ⟨w.heap.size + 1, 1, none⟩ = some (.int .i64 st) := by rw [cell_of_row _ _ _ _ _ _ hu2]; rfl
  have hl1 := (Array.getElem?_eq_some_iff.1 hu2).1
  have HB1 := Lib.hid (HB2.out.trans (hb1.mono HB2.out.size))
  have HS1 := Lib.hid hs1
  have HU2 := Lib.hid hu2
  have Hw1 := Lib.hid hb1.size
  clear hb1 hs1 hu2
  go_wp2_with fail
  by_cases hm : mayB (stOf p.2) st = true
  · have hne : n ≠ (p.2.l.length : Int) + 1 := hbad.resolve_left (by rw [hm]; decide)
    refine add_c _ s' p.2 st _ HS1.out (by have := Hw1.out; exact this) hfew hm _ (fun w3 hb3 hs3 _ => ?_)
    have hu3 := (hb3.block (w.heap.size + 1) (by omega)).trans HU2.out
    have e0 : w3.cell? ⟨w.heap.size + 1, 0, none⟩ = some (.int .i64 n) := by rw [cell_of_row _ _ _ _ _ _ hu3]; rfl
    have e1 : w3.cell? ⟨w.heap.size + 1, 1, none⟩ = some (.int .i64 st) := by rw [cell_of_row _ _ _ _ _ _ hu3]; rfl
    have hl3 := (Array.getElem?_eq_some_iff.1 hu3).1
    have HB3 := Lib.hid (HB1.out.trans (hb3.mono HB2.out.size))
    have hne2 : ((p.2.l.length : Int) + 1 == n) = false := by rw [beq_eq_false_iff_ne]; exact fun e => hne e.symm
    have hne3 : ((p.2.l.length : Int) + 1 != n) = true := by rw [bne, hne2]; rfl
    clear hb3 hs3 hu3 d0 d1 hbad hin hx
    go_wp2_with fail
    exact H.out _ (HB3.out.alloc HB3.out.size _)
  · refine add_bad_c _ s' p.2 st _ HS1.out (by simpa using hm) _ (fun w3 hb3 => ?_)
    have hu3 := (hb3.block (w.heap.size + 1) (by omega)).trans HU2.out
    have e0 : w3.cell? ⟨w.heap.size + 1, 0, none⟩ = some (.int .i64 n) := by rw [cell_of_row _ _ _ _ _ _ hu3]; rfl
    have e1 : w3.cell? ⟨w.heap.size + 1, 1, none⟩ = some (.int .i64 st) := by rw [cell_of_row _ _ _ _ _ _ hu3]; rfl
    have hl3 := (Array.getElem?_eq_some_iff.1 hu3).1
    have HB3 := Lib.hid (HB1.out.trans (hb3.mono HB1.out.size))
    clear hb3 hu3 d0 d1 hbad hin hx
    go_wp2_with fail
    exact H.out _ (HB3.out.alloc HB3.out.size _)

theorem below1 (w : World) (o1 : Obj) : Below w.heap.size w (w.alloc o1).drew := ((Below.refl _ _).alloc (Nat.le_refl _) _).drew
theorem ackk_none_c (x : TKey) (n : Int) (w : World) (hK : KeepAt w k d mb sm q l ep es ss) (hx : okK x) (hin : mget ss x = none) (R : Ending → World → Prop)
    (h : ∀ w', Below w.heap.size w w' → R (.returned (.int .i64 3)) w') :
    Calls Tryz.prog 27 #[.pointer (some ⟨k, 0, none⟩), x.v, .int .i64 n] w R := by
  have H := Lib.hid h
  obtain ⟨A, c, c0, c1, c2, c3, c4, z1, z2, z4, _⟩ := hK.cells
  have hlt := hK.lt.1
  have hb2 := below1 w (.cells #[.string x.f, .string x.t] 33)
  have hlk := MapAt.lookup_none keyKey Tryz.underlying72 (hK.below hb2).map hx hin (zeroS _) true
  rw [if_pos rfl] at hlk
  have HB2 := Lib.hid hb2
  obtain ⟨xf, xt⟩ := x
  unfold TKey.v at hlk ⊢
  clear h hK hb2
  go_enter Tryz.func27, Tryz.ntmps27
  go_wp2_with fail
  go_region
  all_goals go_wp2_with fail
  exact H.out _ HB2.out
theorem ackk_bad_c (x : TKey) (p : Nat × Strm) (n : Int) (w : World) (hK : KeepAt w k d mb sm q l ep es ss) (hx : okK x) (hin : mget ss x = some p) (hbad : ∀ u, p.2.l[p.2.acked]? = some u → u.1 ≠ n) (R : Ending → World → Prop)
    (h : ∀ w', Below w.heap.size w w' → R (.returned (.int .i64 3)) w') :
    Calls Tryz.prog 27 #[.pointer (some ⟨k, 0, none⟩), x.v, .int .i64 n] w R := by
  have H := Lib.hid h
  obtain ⟨A, c, c0, c1, c2, c3, c4, z1, z2, z4, _⟩ := hK.cells
  have hlt := hK.lt.1
  have hb2 := below1 w (.cells #[.string x.f, .string x.t] 33)
  have hlk := MapAt.lookup_some keyKey Tryz.underlying72 (hK.below hb2).map hx hin true
  rw [if_pos rfl] at hlk
  have HS := Lib.hid ((hK.below hb2).strs _ (mget_some hin))
  have HB2 := Lib.hid hb2
  have Hbad := Lib.hid hbad
  obtain ⟨xf, xt⟩ := x
  unfold TKey.v strV at hlk
  unfold TKey.v
  obtain ⟨W2, hW2⟩ : ∃ W2, W2 = (w.alloc (.cells #[.string xf, .string xt] 33)).drew := ⟨_, rfl⟩
  simp only [] at HS HB2
  rw [← hW2] at HS HB2
  have HW := Lib.hid hW2
  clear h hK hb2 hW2 hbad hin
  go_enter Tryz.func27, Tryz.ntmps27
  go_wp2_with fail
  go_region
  all_goals go_wp2_with fail
  rw [← HW.out]
  clear hlk
  refine clone_strm_c 0 p.1 p.2 _ HS.out _ (fun s' w1 hb1 hs1 => ?_)
  have HB1 := Lib.hid (HB2.out.trans (hb1.mono HB2.out.size))
  have HS1 := Lib.hid hs1
  clear hb1 hs1
  go_wp2_with fail
  refine passed_none_c _ s' p.2 n _ HS1.out Hbad.out _ (fun w3 hb3 => ?_)
  have HB3 := Lib.hid (HB1.out.trans (hb3.mono HB1.out.size))
  clear hb3
  go_wp2_with fail
  exact H.out _ HB3.out
end
end Go.Proofs.YtdmcponfodohaaaGreatDoor
