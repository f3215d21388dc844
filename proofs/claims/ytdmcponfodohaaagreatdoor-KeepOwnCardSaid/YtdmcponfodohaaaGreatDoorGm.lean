/-
  Several texts in one: KpI, LawA, LawB; each says at its head what it holds.
-/
import Derived.Test.YtdmcponfodohaaaGreatDoorKpH
/-
  keep.Entries.
-/
namespace Go.Proofs.YtdmcponfodohaaaGreatDoor
open Go.RowKit Go.Shelf Go.ChangeMaps Go.MapKept
set_option maxRecDepth 100000

/-- Entries told: the keep's, each with items in memory from B on. -/
structure Told (w : World) (B : Nat) (es rs : List ER) : Prop where
  len : rs.length = es.length
  same : ∀ (i : Nat) (a b : ER), es[i]? = some a → rs[i]? = some b → b.f = a.f ∧ b.e = a.e ∧ b.run = a.run ∧ b.items = a.items
  ok : ∀ r ∈ rs, r.ok w
  new : ∀ r ∈ rs, ∀ a, r.A = some a → B ≤ a.block
theorem Told.below {w w' : World} {B : Nat} {es rs : List ER} (h : Told w B es rs) (hb : Below w.heap.size w w') : Told w' B es rs :=
  ⟨h.len, h.same, fun r hr => (h.ok r hr).kept (Kept.of_below (S := []) hb) (NoT.nil _ _), h.new⟩
theorem told_push {w w' : World} {B j : Nat} {es rs : List ER} {a b : ER} (h : Told w B (es.take j) rs) (hok : ∀ r ∈ rs, r.ok w') (ha : es[j]? = some a) (hb : b.f = a.f ∧ b.e = a.e ∧ b.run = a.run ∧ b.items = a.items) (hbo : b.ok w') (hbn : ∀ x, b.A = some x → B ≤ x.block) : Told w' B (es.take (j + 1)) (rs ++ [b]) := by
  have hj := (List.getElem?_eq_some_iff.1 ha).1
  have hl : rs.length = j := by rw [h.len, List.length_take]; omega
  have e : es.take (j + 1) = es.take j ++ [a] := by rw [List.take_add_one, ha]; rfl
  refine ⟨by simp [hl]; omega, fun i x y hx hy => ?_, fun r hr => ?_, fun r hr => ?_⟩
  · rw [e] at hx
    by_cases hi : i < j
    · rw [List.getElem?_append_left (by rw [List.length_take]; omega)] at hx
      rw [List.getElem?_append_left (by omega)] at hy
      exact h.same i x y hx hy
    · have hi2 : i = j := by
        have := (List.getElem?_eq_some_iff.1 hy).1
        simp at this
        omega
      subst hi2
      rw [List.getElem?_append_right (by rw [List.length_take]; omega)] at hx
      rw [List.getElem?_append_right (by omega)] at hy
      have e1 : i - (es.take i).length = 0 := by rw [List.length_take]; omega
      have e2 : i - rs.length = 0 := by omega
      rw [e1] at hx
      rw [e2] at hy
      cases hx
      cases hy
      exact hb
  · rcases List.mem_append.1 hr with h1 | h1
    · exact hok r h1
    · rw [List.mem_singleton] at h1
      subst h1
      exact hbo
  · rcases List.mem_append.1 hr with h1 | h1
    · exact h.new r h1
    · rw [List.mem_singleton] at h1
      subst h1
      exact hbn
theorem set3E {w : World} {s : Nat} {a0 a1 a2 a3 : Value} (h : w.heap[s]? = some (.cells #[a0, a1, a2, a3] 30)) (u : Value) : (w.setCell ⟨s, 3, none⟩ u).heap[s]? = some (.cells #[a0, a1, a2, u] 30) := by
  simp [World.setCell, Array.getElem?_modify, h]
section
variable {k d mb sm : Nat} {q : Int} {l : List (ByteArray × FV)} {ep : Int} {es : List ER} {ss : SM}
set_option maxHeartbeats 4000000 in
theorem entries_c (w : World) (hK : KeepAt w k d mb sm q l ep es ss) (R : Ending → World → Prop)
    (h : ∀ A' c' rs w', Below w.heap.size w w' → Told w' w.heap.size es rs → w'.ownsRow w.heap.size 30 4 (.slice A' es.length c') es.length (erC rs) → R (.returned (.slice A' es.length c')) w') :
    Calls Tryz.prog 20 #[.pointer (some ⟨k, 0, none⟩)] w R := by
  have H := Lib.hid h
  have HK := Lib.hid hK
  obtain ⟨A0, C0, c0, c1, c2, c3, c4, z1, z2, z4, hrow⟩ := hK.cells
  have hlt := hK.lt.1
  have hfew := hK.few
  have HRow := Lib.hid hrow
  clear h hK hrow
  go_enter Tryz.func20, Tryz.ntmps20
  go_wp2_with fail
  go_loopw [3, 11] (fun v i wr => ∃ (j : Nat) (rs : List ER), j ≤ es.length ∧ i = .int .i64 j ∧ Below w.heap.size w wr ∧ wr.ownsRow w.heap.size 30 4 v j (erC rs) ∧ Told wr w.heap.size (es.take j) rs) (fun _ i _ => es.length - (RowKit.intOf i).toNat)
  case atStart => exact ⟨0, [], Nat.zero_le _, rfl, Below.refl _ _, own_nil' _ _ _ _, ⟨rfl, fun i a b ha hb => by simp at hb, fun r hr => absurd hr List.not_mem_nil, fun r hr => absurd hr List.not_mem_nil⟩⟩
  case round =>
    obtain ⟨j, rs, hj, rfl, hB, hown, hT⟩ := hrel
    by_cases hc : j < es.length
    · obtain ⟨er, her⟩ : ∃ er, es[j]? = some er := ⟨es[j], List.getElem?_eq_getElem hc⟩
      have hok := (HK.out.ents er (List.mem_of_getElem? her)).kept (Kept.of_below (S := []) hB) (NoT.nil _ _)
      obtain ⟨A1, C1, e1, hrd, _, _⟩ := own_rdN (own_below' HRow.out hB)
      injection e1 with e1 e2 e3
      subst e1 e3
      obtain ⟨gI, oI, rfl, hgI, hcI⟩ := hrd.2 (by omega)
      obtain ⟨r0, r1, r2, r3⟩ := erC_at es j er her
      have i0 := hcI _ _ r0
      have i1 := hcI _ _ r1
      have i2 := hcI _ _ r2
      have i3 := hcI _ _ r3
      rw [← Nat.add_assoc] at i1 i2 i3
      have hjI : (j : Int) < (es.length : Int) := by omega
      have HB := Lib.hid hB
      have HT := Lib.hid hT
      have HO := Lib.hid hown
      have Hok := Lib.hid hok
      have Her := Lib.hid her
      clear hB hT hown hok hrd hcI r0 r1 r2 r3 her c0 c1 c2 c3 c4 z1 z2 z4
      go_wp2_with fail
      have hb1 : Below wr.heap.size wr (wr.alloc (.cells #[.string er.f, .string er.e, .int .i64 er.run, .slice er.A er.items.length er.c] 30)) := (Below.refl _ _).alloc (Nat.le_refl _) _
      refine cloneI_c er.A er.items.length er.c er.items _ ((Hok.out.hard.rd (rowCells_length _)).below hb1) ?_ rfl Hok.out.few _ (fun A3 C3 w3 hb3 ho3 => ?_)
      · intro hA0
        by_cases h0 : 0 < er.items.length
        · obtain ⟨g9, o9, _, e9, _⟩ := Hok.out.hard (by rw [rowCells_length]; omega)
          rw [hA0] at e9
          cases e9
        · omega
      have hx3 := (hb3.block wr.heap.size (by simp)).trans (heap_alloc_new wr _)
      rw [World.size_alloc] at hb3 ho3
      have hB3 : Below wr.heap.size wr w3 := hb1.trans (hb3.mono (Nat.le_succ _))
      have s0 : w3.cell? ⟨wr.heap.size, 0, none⟩ = some (.string er.f) := by rw [cell_of_row _ _ _ _ _ _ hx3]; rfl
      have s1 : w3.cell? ⟨wr.heap.size, 1, none⟩ = some (.string er.e) := by rw [cell_of_row _ _ _ _ _ _ hx3]; rfl
      have s2 : w3.cell? ⟨wr.heap.size, 2, none⟩ = some (.int .i64 er.run) := by rw [cell_of_row _ _ _ _ _ _ hx3]; rfl
      have s3 : w3.cell? ⟨wr.heap.size, 3, none⟩ = some (.slice er.A er.items.length er.c) := by rw [cell_of_row _ _ _ _ _ _ hx3]; rfl
      have sf : w3.frozen? ⟨wr.heap.size, 3, none⟩ = false := by simp [World.frozen?, hx3]
      have sl := (Array.getElem?_eq_some_iff.1 hx3).1
      obtain ⟨AI, CI, eI, hhI, hcI⟩ := hard_own ho3
      injection eI with eI1 _ eI3
      subst eI1 eI3
      have hk4 : Kept [wr.heap.size] w3 (w3.setCell ⟨wr.heap.size, 3, none⟩ (.slice A3 er.items.length C3)) := (Kept.refl _ _).setCell (by simp) _
      have hT4 : NoT w3 55 [wr.heap.size] := NoT.one hx3 (fun cs e => by simp at e)
      have hB4 : Below wr.heap.size wr (w3.setCell ⟨wr.heap.size, 3, none⟩ (.slice A3 er.items.length C3)) := hB3.setCell (Nat.le_refl _) _
      have hO4 := own_below' HO.out hB4
      have hbo : ER.ok (w3.setCell ⟨wr.heap.size, 3, none⟩ (.slice A3 er.items.length C3)) ⟨er.f, er.e, er.run, A3, C3, er.items⟩ := ⟨hhI.kept hk4 hT4, Hok.out.few, Hok.out.okF, Hok.out.okT⟩
      have hbn : ∀ x, A3 = some x → w.heap.size ≤ x.block := fun x hx => by
        rcases ho3.2 with ⟨e, _⟩ | ⟨g, cap, cur, e, hgB, _⟩
        · injection e with e
          rw [e] at hx
          cases hx
        · injection e with e
          rw [e] at hx
          injection hx with hx
          rw [← hx]
          have := HB.out.size
          simp only
          omega
      have HO4 := Lib.hid hO4
      have HB4 := Lib.hid hB4
      have Hbo := Lib.hid hbo
      have Hbn := Lib.hid hbn
      have hwr := HB.out.size
      have hsz4 : w.heap.size ≤ (w3.setCell ⟨wr.heap.size, 3, none⟩ (.slice A3 er.items.length C3)).heap.size := Nat.le_trans hwr hB4.size
      clear hb3 ho3 hx3 hB3 hhI hcI hk4 hT4 hB4 hO4 hbo hbn hb1
      go_wp2_with (at_builtin; (refine app_one w.heap.size rfl _ _ 49 30 (.agg #[.string ⟨#[]⟩, .string ⟨#[]⟩, .int .i64 0, .slice none 0 0]) 4 64 rfl Tryz.underlying49 infoEnt (by kernel_rfl) (by decide) (by decide) _ j _ #[.string er.f, .string er.e, .int .i64 er.run, .slice A3 er.items.length C3] rfl rfl _ rfl (by simp) (by simp [Value.oneCell']) (by exact HO4.out) hsz4 (by omega) ?_); intro v1 w5 hown1 hg1 hgb)
      have hB5 : Below w.heap.size w w5 := below_grown' (HB.out.trans (HB4.out.mono hwr)) hsz4 hg1 hgb
      have hk5 := Kept.of_grow hg1
      have hT5 : NoT (w3.setCell ⟨wr.heap.size, 3, none⟩ (.slice A3 er.items.length C3)) 55 (growS u3) := fun s hs cs hcs => by
        obtain ⟨cs', hcs'⟩ := growS_block HO4.out hs
        rw [hcs'] at hcs
        simp at hcs
      have e5 : erC rs ++ #[Value.string er.f, .string er.e, .int .i64 er.run, .slice A3 er.items.length C3].toList = erC (rs ++ [⟨er.f, er.e, er.run, A3, C3, er.items⟩]) := by simp [erC, ER.cs]
      rw [e5] at hown1
      refine ⟨⟨j + 1, rs ++ [⟨er.f, er.e, er.run, A3, C3, er.items⟩], by omega, by go_num, hB5, hown1, told_push HT.out (fun r hr => ?_) Her.out ⟨rfl, rfl, rfl, rfl⟩ (Hbo.out.kept hk5 hT5) Hbn.out⟩, by simp [RowKit.intOf]; omega⟩
      exact ((HT.out.ok r hr).kept (Kept.of_below (S := []) HB4.out) (NoT.nil _ _)).kept hk5 hT5
    · obtain rfl : j = es.length := by omega
      rw [List.take_length] at hT
      obtain ⟨A1, C1, rfl, _⟩ := own_shape' hown
      have hjI : decide ((es.length : Int) < (es.length : Int)) = false := by simp
      have HH := Lib.hid (H.out A1 C1 rs wr hB hT hown)
      clear hB hT hown
      go_wp2_with fail
      exact HH.out
end
end Go.Proofs.YtdmcponfodohaaaGreatDoor
/-
  hostlerlaw14: one, fresh, wakes.
-/
namespace Go.Proofs.YtdmcponfodohaaaGreatDoor
open Go.RowKit Go.Shelf Go.ChangeMaps Go.MapKept
set_option maxRecDepth 100000

abbrev twoI : List Itm := [⟨⟨#[97]⟩, 4607182418800017408, 0⟩, ⟨⟨#[98]⟩, 4611686018427387904, 0⟩]
theorem one_c (f : ByteArray) (r : Int) (w : World) (R : Ending → World → Prop)
    (h : ∀ b w', Below w.heap.size w w' → w.heap.size ≤ b → Hard w' 55 (some ⟨b, 0, none⟩) (rowCells twoI) → R (.returned (entryV f ⟨#[120]⟩ r (some ⟨b, 0, none⟩) 2 2)) w') :
    Calls Tryz.prog 10 #[.string f, .int .i64 r] w R := by
  have H := Lib.hid h
  clear h
  unfold entryV at H
  go_enter Tryz.func10, Tryz.ntmps10
  go_wp2_with fail
  refine bodyPost_ret (results_cell_row rfl _ _ w.heap.size 30 #[.string f, .string ⟨#[120]⟩, .int .i64 r, .slice (some ⟨w.heap.size + 1, 0, none⟩) 2 2] (0, 0) _ rfl ((heap_alloc_old _ _ (by simp)).trans (heap_alloc_new w _)) Tryz.underlying30 rfl (by kernel_rfl)) rfl ?_
  have hN := hard_new (w.alloc (.cells #[.string f, .string ⟨#[120]⟩, .int .i64 r, .slice (some ⟨w.heap.size + 1, 0, none⟩) 2 2] 30)) #[.string ⟨#[97]⟩, .complex .f64 4607182418800017408 0, .string ⟨#[98]⟩, .complex .f64 4611686018427387904 0] 55 (l := rowCells twoI) rfl
  rw [World.size_alloc] at hN
  exact H.out (w.heap.size + 1) _ (((Below.refl _ _).alloc (Nat.le_refl _) _).alloc (by simp) _) (Nat.le_succ _) hN
theorem epoch_c {k d mb sm : Nat} {q : Int} {l : List (ByteArray × FV)} {ep : Int} {es : List ER} {ss : SM} (w : World) (hK : KeepAt w k d mb sm q l ep es ss) (R : Ending → World → Prop) (h : R (.returned (.int .i64 ep)) w) :
    Calls Tryz.prog 19 #[.pointer (some ⟨k, 0, none⟩)] w R := by
  have H := Lib.hid h
  obtain ⟨A0, C0, c0, c1, c2, c3, c4, z1, z2, z4, hrow⟩ := hK.cells
  have hlt := hK.lt.1
  clear h hK
  go_enter Tryz.func19, Tryz.ntmps19
  go_wp2_with fail
  exact H.out
theorem fresh_c (q : Int) (h0 : 1 ≤ q) (h1 : q ≤ 65536) (w : World) (R : Ending → World → Prop)
    (h : ∀ d mb k sm v w', Below w.heap.size w w' → w.heap.size ≤ d → w.heap.size ≤ mb → w.heap.size ≤ k → w.heap.size ≤ sm → v.b = [1] → KeepAt w' k d mb sm q [(pEpoch, v)] 1 [] [] → R (.returned (.tuple #[.pointer (some ⟨d, 0, none⟩), .pointer (some ⟨k, 0, none⟩), .bool true])) w') :
    Calls Tryz.prog 8 #[.int .i64 q] w R := by
  have H := Lib.hid h
  clear h
  go_enter Tryz.func8, Tryz.ntmps8
  go_wp2_with fail
  refine diskNew_c q (by omega) h1 _ _ (fun d mb w1 hb1 hd hmb hD => ?_)
  have HD := Lib.hid hD
  have HB1 := Lib.hid hb1
  clear hD hb1
  go_wp2_with fail
  refine open_new_c d mb q h0 w1 HD.out _ (fun k sm v w2 hk2 hv hk hsm hK => ?_)
  have HH := Lib.hid (H.out d mb k sm v w2 (Kept.below HB1.out hk2 HB1.out.size (fun x hx => by rw [List.mem_singleton] at hx; rw [hx]; exact hmb)) hd hmb (Nat.le_trans HB1.out.size hk) (Nat.le_trans HB1.out.size hsm) hv hK)
  clear hk2 hv hK
  go_wp2_with fail
  refine bodyPost_ret (results_tmp3 rfl _ _ _) rfl ?_
  exact HH.out
theorem wakes14_c (w : World) (R : Ending → World → Prop) (h : ∀ w', Below w.heap.size w w' → R (.returned (.bool true)) w') : Calls Tryz.prog 17 #[] w R := by
  have H := Lib.hid h
  clear h
  go_enter Tryz.func17, Tryz.ntmps17
  go_wp2_with fail
  refine diskNew_c 1000 (by omega) (by omega) _ _ (fun d mb w1 hb1 hd hmb hD => ?_)
  have HD := Lib.hid hD
  have HB1 := Lib.hid hb1
  clear hD hb1
  go_wp2_with fail
  refine open_new_c d mb 1000 (by omega) w1 HD.out _ (fun k sm v w2 hk2 hv hk hsm hK => ?_)
  have HB2 := Lib.hid (Kept.below HB1.out hk2 HB1.out.size (fun x hx => by rw [List.mem_singleton] at hx; rw [hx]; exact hmb))
  have HK := Lib.hid hK
  clear hk2 hv hK
  go_wp2_with fail
  refine epoch_c w2 HK.out _ ?_
  go_wp2_with fail
  refine entries_c w2 HK.out _ (fun A' c' rs w3 hb3 _ _ => ?_)
  have HB3 := Lib.hid (H.out _ (HB2.out.trans (hb3.mono HB2.out.size)))
  clear hb3
  go_wp2_with fail
  exact HB3.out
end Go.Proofs.YtdmcponfodohaaaGreatDoor
/-
  hostlerlaw14: plain facts on the entry of two items, and on what is used.
-/
namespace Go.Proofs.YtdmcponfodohaaaGreatDoor
open Go.RowKit Go.Shelf Go.ChangeMaps Go.MapKept
set_option maxRecDepth 100000

theorem one_ok (f : ByteArray) (hf : f.size ≤ 8) : MsgOk (runM f ⟨#[120]⟩ twoI) :=
  ⟨by show f.size ≤ maxLen; unfold maxLen; omega, by show (⟨#[120]⟩ : ByteArray).size ≤ maxLen; decide, by show (⟨#[]⟩ : ByteArray).size ≤ maxLen; decide, by show ∀ x ∈ twoI, x.t.size ≤ maxLen; decide, by show ∀ x ∈ twoI, (nrightS x.re x.im).isSome = true; decide +kernel, by show twoI.length ≤ 1000000; decide⟩
theorem one_need : ∀ x ∈ twoI, (npartsS x.re x.im).isSome = true := by decide +kernel
theorem one_f1 : admOk ⟨#[102]⟩ ⟨#[120]⟩ 1 twoI = true := by decide +kernel
theorem one_g25 : admOk ⟨#[103]⟩ ⟨#[120]⟩ 25 twoI = false := by decide +kernel
theorem Hard.itms {w : World} {b : Nat} {il : List Itm} (h : Hard w 55 (some ⟨b, 0, none⟩) (rowCells il)) : ItmsAt w (some ⟨b, 0, none⟩) il.length il := by
  refine ⟨rfl, fun h0 => ?_⟩
  obtain ⟨g, o, cs, e, hg, hc⟩ := h (by rw [rowCells_length]; omega)
  injection e with e
  injection e with e1 e2
  subst e1 e2
  refine ⟨b, 0, rfl, (Array.getElem?_eq_some_iff.1 hg).1, fun j x hx => ?_⟩
  obtain ⟨r0, r1⟩ := rowCells_at il j x hx
  have c0 := hc _ _ r0
  have c1 := hc _ _ r1
  refine ⟨?_, ?_⟩
  · rw [cell_of_row w b _ _ _ _ hg]; exact c0
  · rw [cell_of_row w b _ _ _ _ hg, Nat.add_assoc]; exact c1

theorem zero_ok : MsgOk (runM ⟨#[]⟩ ⟨#[]⟩ []) := ⟨by show (⟨#[]⟩ : ByteArray).size ≤ maxLen; decide, by show (⟨#[]⟩ : ByteArray).size ≤ maxLen; decide, by show (⟨#[]⟩ : ByteArray).size ≤ maxLen; decide, fun x hx => absurd hx List.not_mem_nil, fun x hx => absurd hx List.not_mem_nil, by show ([] : List Itm).length ≤ 1000000; decide⟩
theorem zero_bad : admOk ⟨#[]⟩ ⟨#[]⟩ 0 [] = false := by decide +kernel
theorem okK_small (a b : UInt8) : okK ⟨⟨#[a]⟩, ⟨#[b]⟩⟩ := ⟨by show 1 ≤ maxLen; decide, by show 1 ≤ maxLen; decide⟩
/-- What is used behind the first file. -/
theorem used_one {k d mb sm : Nat} {q : Int} {ep : Int} {es : List ER} {ss : SM} {w : World} {v : FV} (h : KeepAt w k d mb sm q [(pEpoch, v)] ep es ss) (hv : v.b = [1]) : usedL [(pEpoch, v)] = 1 := by
  have h1 := (h.disk.files (pEpoch, v) (by simp)).len
  rw [hv] at h1
  simp [usedL]
  exact h1.symm
theorem used_put_le {k d mb sm : Nat} {q : Int} {l : List (ByteArray × FV)} {p : ByteArray} {v : FV} {ep ep' : Int} {es es' : List ER} {ss ss' : SM} {w w' : World} (h : KeepAt w k d mb sm q l ep es ss) (h' : KeepAt w' k d mb sm q (mput l p v) ep' es' ss') : usedL (mput l p v) ≤ usedL l + v.b.length := by
  have h1 := (h'.disk.files _ (mget_some (mget_mput l p v))).len
  have h2 := used_mput (p := p) h.disk.map.nodup v
  simp only at h1
  omega
end Go.Proofs.YtdmcponfodohaaaGreatDoor
