/-
  Several texts in one: StrmB, StrmD; each says at its head what it holds.
-/
import Derived.Test.YtdmcponfodohaaaGreatDoorGi
import Derived.Test.YtdmcponfodohaaaGreatDoorUnpack
/-
  package stream: Clone, State, Pending, Front; life.
-/
namespace Go.Proofs.YtdmcponfodohaaaGreatDoor
open Go.RowKit Go.Shelf Go.ChangeMaps Go.MapKept
set_option maxRecDepth 100000

theorem StrmAt.cells {w : World} {B s : Nat} {x : Strm} (h : StrmAt w B s x) : ∃ A c, w.cell? ⟨s, 0, none⟩ = some (.slice A x.l.length c) ∧ w.cell? ⟨s, 1, none⟩ = some (.int .i64 x.acked) ∧ w.cell? ⟨s, 2, none⟩ = some (.bool x.said) ∧ w.cell? ⟨s, 3, none⟩ = some (.int .i64 x.dl) ∧ w.cell? ⟨s, 4, none⟩ = some (.int .i64 x.due) ∧ w.ownsRow B 36 2 (.slice A x.l.length c) x.l.length (updC x.l) := by
  obtain ⟨A, c, hb, ho⟩ := h.blk
  refine ⟨A, c, ?_, ?_, ?_, ?_, ?_, ho⟩
  all_goals rw [cell_of_row w s _ _ _ _ hb]; rfl

theorem clone_strm_c (B s : Nat) (x : Strm) (w : World) (hS : StrmAt w B s x) (R : Ending → World → Prop)
    (h : ∀ s' w', Below w.heap.size w w' → StrmAt w' w.heap.size s' x → R (.returned (.pointer (some ⟨s', 0, none⟩))) w') :
    Calls Tryz.prog 44 #[.pointer (some ⟨s, 0, none⟩)] w R := by
  have H := Lib.hid h
  have HS := Lib.hid hS
  obtain ⟨A, c, c0, c1, c2, c3, c4, ho⟩ := hS.cells
  have hlt := hS.lt
  have hfew := hS.few
  obtain ⟨A', c', e, hrd, hnc, hA0⟩ := own_rdN ho
  injection e with e1 e2 e3
  subst e1 e3
  have hb1 : Below w.heap.size w (w.alloc (.cells #[.slice A x.l.length c, .int .i64 x.acked, .bool x.said, .int .i64 x.dl, .int .i64 x.due] 99)) := (Below.refl _ _).alloc (Nat.le_refl _) _
  have HB1 := Lib.hid hb1
  have HR := Lib.hid (hrd.below hb1)
  have HA := Lib.hid hA0
  have hack := hS.ack
  clear hb1 hrd hA0
  go_enter Tryz.func44, Tryz.ntmps44
  go_wp2_with fail
  refine cloneU_c A x.l.length c x.l _ HR.out HA.out rfl hfew _ (fun A2 c2 w2 hb2 ho2 => ?_)
  have hn := (Kept.of_below (S := []) hb2).block w.heap.size (by simp) (by simp)
  rw [heap_alloc_new] at hn
  rw [World.size_alloc] at hb2 ho2
  have HB2 := Lib.hid (HB1.out.trans (hb2.mono (Nat.le_succ _)))
  have HO2 := Lib.hid ho2
  have c5 := cell_of_row w2 _ 0 _ _ _ hn
  have hlt2 : w.heap.size < w2.heap.size := (Array.getElem?_eq_some_iff.1 hn).1
  have z0 : w2.frozen? ⟨w.heap.size, 0, none⟩ = false := by simp [World.frozen?, hn]
  have HN := Lib.hid hn
  clear hb2 ho2 hn
  go_wp2_with fail
  have hW : (w2.setCell ⟨w.heap.size, 0, none⟩ (.slice A2 x.l.length c2)).heap[w.heap.size]? = some (.cells #[.slice A2 x.l.length c2, .int .i64 x.acked, .bool x.said, .int .i64 x.dl, .int .i64 x.due] 99) := by
    have h2 := HN.out
    simp [World.setCell, Array.getElem?_modify, h2]
  refine H.out w.heap.size _ (HB2.out.setCell (Nat.le_refl _) _) ⟨⟨A2, c2, hW, own_mono ?_ (Nat.le_succ _)⟩, Nat.le_refl _, hfew, hack⟩
  refine ⟨HO2.out.1, ?_⟩
  rcases HO2.out.2 with h1 | ⟨g, cap, cur, e, hB, hg, h2⟩
  · exact .inl h1
  · exact .inr ⟨g, cap, cur, e, hB, by rw [Below.heap_setCell _ _ _ _ (by simp only; omega)]; exact hg, h2⟩

def stOf (x : Strm) : Int := (x.l.getLast?.map Prod.snd).getD 1
theorem state_c (B s : Nat) (x : Strm) (w : World) (hS : StrmAt w B s x) (R : Ending → World → Prop)
    (h : ∀ w', Below w.heap.size w w' → R (.returned (.int .i64 (stOf x))) w') :
    Calls Tryz.prog 22 #[.pointer (some ⟨s, 0, none⟩)] w R := by
  have H := Lib.hid h
  have HS := Lib.hid hS
  obtain ⟨A, c, c0, c1, c2, c3, c4, ho⟩ := hS.cells
  have hlt := hS.lt
  have hfew := hS.few
  clear h hS
  obtain ⟨l, acked, said, dl, due⟩ := x
  simp only at *
  obtain ⟨N, hN⟩ : ∃ N, l.length = N := ⟨_, rfl⟩
  have hst : stOf ⟨l, acked, said, dl, due⟩ = (l[N - 1]?.map Prod.snd).getD 1 := by unfold stOf; rw [List.getLast?_eq_getElem?, hN]
  rw [hst] at H
  rw [hN] at c0 ho hfew
  rcases N with _ | n
  · obtain rfl : l = [] := List.eq_nil_of_length_eq_zero hN
    go_enter Tryz.func22, Tryz.ntmps22
    go_wp2_with fail
    exact H.out _ (Below.refl _ _)
  · obtain ⟨A', c', e, hrd, _, _⟩ := own_rdN ho
    injection e with e2 e3 e4
    subst e2
    obtain ⟨g, o, rfl, hg, hc⟩ := hrd.2 (by omega)
    obtain ⟨u, hlu⟩ : ∃ u, l[n]? = some u := ⟨l[n], List.getElem?_eq_getElem (by omega)⟩
    have hcell := hc _ _ (updC_at l n _ hlu).2
    rw [Nat.add_sub_cancel, hlu, Option.map_some, Option.getD_some] at H
    rw [← Nat.add_assoc] at hcell
    have hw : IntKind.i64.wrap (n : Int) = (n : Int) := Go.IntWalk.i64_in _ (by omega)
    have hw2 : wrap64 (n : Int) = (n : Int) := Go.IntWalk.wrap64_in _ (by omega)
    obtain ⟨us, hus⟩ : ∃ us, us = u.2 := ⟨_, rfl⟩
    rw [← hus] at hcell H
    clear hc hrd ho hlu hst hN hus HS
    go_enter Tryz.func22, Tryz.ntmps22
    go_wp2_with fail
    go_region
    go_wp2_with fail
    exact H.out _ (Below.refl _ _).drew

theorem pending_c (B s : Nat) (x : Strm) (w : World) (hS : StrmAt w B s x) (R : Ending → World → Prop)
    (h : ∀ w', Below w.heap.size w w' → R (.returned (.int .i64 ((x.l.length : Int) - x.acked))) w') :
    Calls Tryz.prog 63 #[.pointer (some ⟨s, 0, none⟩)] w R := by
  have H := Lib.hid h
  have HS := Lib.hid hS
  obtain ⟨A, c, c0, c1, c2, c3, c4, ho⟩ := hS.cells
  have hlt := hS.lt
  have hfew := hS.few
  have hack := hS.ack
  clear h hS
  go_enter Tryz.func63, Tryz.ntmps63
  obtain ⟨n, hn⟩ : ∃ n, x.l.length = n := ⟨_, rfl⟩
  obtain ⟨m, hm⟩ : ∃ m, x.acked = m := ⟨_, rfl⟩
  rw [hn, hm] at H
  rw [hn] at c0 hfew hack
  rw [hm] at c1 hack
  clear HS ho
  have hw : IntKind.i64.wrap ((n : Int) - (m : Int)) = (n : Int) - (m : Int) := Go.IntWalk.i64_in _ (by omega)
  go_wp2_with fail
  go_region
  go_wp2_with fail
  exact H.out _ (Below.refl _ _).drew

def overB (t : Int) : Bool := decide (3 ≤ t) && decide (t ≤ 7)
def mayB (f t : Int) : Bool := if f = 1 then decide (t = 2) || overB t else if f = 2 then overB t && !decide (t = 7) else false
theorem over_c (t : Int) (w : World) (R : Ending → World → Prop) (h : R (.returned (.bool (overB t))) w) : Calls Tryz.prog 62 #[.int .i64 t] w R := by
  have H := Lib.hid h
  clear h
  go_enter Tryz.func62, Tryz.ntmps62
  go_wp2_with fail
  · have h := H.out
    unfold overB at h
    rwa [decide_eq_true (by assumption), Bool.true_and] at h
  · have h := H.out
    unfold overB at h
    rwa [decide_eq_false (by omega), Bool.false_and] at h
theorem may_life_c (f t : Int) (w : World) (R : Ending → World → Prop) (h : R (.returned (.bool (mayB f t))) w) : Calls Tryz.prog 81 #[.int .i64 f, .int .i64 t] w R := by
  have H := Lib.hid h
  clear h
  by_cases h1 : f = 1
  · subst h1
    by_cases h2 : t = 2
    · subst h2
      go_enter Tryz.func81, Tryz.ntmps81
      go_wp2_with fail
      exact H.out
    · have t2 : decide (t = 2) = false := by simp [h2]
      go_enter Tryz.func81, Tryz.ntmps81
      go_wp2_with fail
      all_goals (first | (exact absurd (by assumption) h2) | skip)
      refine over_c t _ _ ?_
      have H2 := H.out
      unfold mayB at H2
      rw [if_pos rfl, t2, Bool.false_or] at H2
      have H3 := Lib.hid H2
      clear H2
      go_wp2_with fail
      show R (.returned (.bool (t == 2 || overB t))) w
      rw [beq_eq_false_iff_ne.2 h2, Bool.false_or]
      exact H3.out
  · by_cases h3 : f = 2
    · subst h3
      have H2 := H.out
      unfold mayB at H2
      rw [if_neg (by decide), if_pos rfl] at H2
      have H3 := Lib.hid H2
      clear H2 H
      go_enter Tryz.func81, Tryz.ntmps81
      go_wp2_with fail
      refine over_c t _ _ ?_
      obtain ⟨o, ho⟩ : ∃ o, overB t = o := ⟨_, rfl⟩
      rw [ho] at H3 ⊢
      clear ho
      cases o
      · go_wp2_with fail
        exact H3.out
      · go_wp2_with fail
        have h4 := H3.out
        show R (.returned (.bool (t != 7))) w
        have e : (t != 7) = (true && !decide (t = 7)) := by by_cases h : t = 7 <;> simp [h]
        rw [e]
        exact h4
    · have H2 := H.out
      unfold mayB at H2
      rw [if_neg h1, if_neg h3] at H2
      have H3 := Lib.hid H2
      clear H2 H
      go_enter Tryz.func81, Tryz.ntmps81
      go_wp2_with fail
      all_goals exact H3.out

theorem set2U {w : World} {k : Nat} {a b : Value} (h : w.heap[k]? = some (.cells #[a, b] 36)) (u v : Value) : ((w.setCell ⟨k, 0, none⟩ u).setCell ⟨k, 1, none⟩ v).heap[k]? = some (.cells #[u, v] 36) := by
  simp [World.setCell, Array.getElem?_modify, h]
theorem front_none_c (B s : Nat) (x : Strm) (w : World) (hS : StrmAt w B s x) (h0 : x.l.length = x.acked) (R : Ending → World → Prop)
    (h : ∀ w', Below w.heap.size w w' → R (.returned (.tuple #[.agg #[.int .i64 0, .int .i64 0], .bool false])) w') :
    Calls Tryz.prog 59 #[.pointer (some ⟨s, 0, none⟩)] w R := by
  have H := Lib.hid h
  clear h
  go_enter Tryz.func59, Tryz.ntmps59
  have hb0 : Below w.heap.size w (w.alloc (.cells #[.int .i64 0, .int .i64 0] 36)) := (Below.refl _ _).alloc (Nat.le_refl _) _
  go_wp2_with fail
  refine pending_c B s x _ (hS.below hb0) _ (fun w1 hB1 => ?_)
  rw [h0, Int.sub_self]
  have hn := (Kept.of_below (S := []) hB1).block w.heap.size (by simp) (by simp)
  rw [heap_alloc_new] at hn
  rw [World.size_alloc] at hB1
  have HB1 := Lib.hid (hb0.trans (hB1.mono (Nat.le_succ _)))
  have hlt2 : w.heap.size < w1.heap.size := (Array.getElem?_eq_some_iff.1 hn).1
  have d0 : w1.cell? ⟨w.heap.size, 0, none⟩ = some (.int .i64 0) := by rw [cell_of_row w1 _ 0 _ _ _ hn]; rfl
  have d1 : w1.cell? ⟨w.heap.size, 1, none⟩ = some (.int .i64 0) := by rw [cell_of_row w1 _ 1 _ _ _ hn]; rfl
  have z0 : w1.frozen? ⟨w.heap.size, 0, none⟩ = false := by simp [World.frozen?, hn]
  have z1 : w1.frozen? ⟨w.heap.size, 1, none⟩ = false := by simp [World.frozen?, hn]
  have HN := Lib.hid hn
  clear hB1 hS hb0 hn
  go_wp2_with fail
  refine bodyPost_ret (results_ct rfl _ _ ⟨w.heap.size, 0, none⟩ (.agg #[.int .i64 0, .int .i64 0]) rfl (run_loadVar_row _ _ _ _ _ _ _ (set2U HN.out _ _) Tryz.underlying36 rfl (by kernel_rfl))) rfl ?_
  exact H.out _ ((HB1.out.setCell (Nat.le_refl _) _).setCell (Nat.le_refl _) _)

theorem front_c (B s : Nat) (x : Strm) (u : Upd) (w : World) (hS : StrmAt w B s x) (hu : x.l[x.acked]? = some u) (R : Ending → World → Prop)
    (h : ∀ w', Below w.heap.size w w' → R (.returned (.tuple #[.agg #[.int .i64 u.1, .int .i64 u.2], .bool true])) w') :
    Calls Tryz.prog 59 #[.pointer (some ⟨s, 0, none⟩)] w R := by
  have H := Lib.hid h
  clear h
  have hj := (List.getElem?_eq_some_iff.1 hu).1
  go_enter Tryz.func59, Tryz.ntmps59
  have hb0 : Below w.heap.size w (w.alloc (.cells #[.int .i64 0, .int .i64 0] 36)) := (Below.refl _ _).alloc (Nat.le_refl _) _
  go_wp2_with fail
  refine pending_c B s x _ (hS.below hb0) _ (fun w1 hB1 => ?_)
  have hS1 := (hS.below hb0).below hB1
  have hn := (Kept.of_below (S := []) hB1).block w.heap.size (by simp) (by simp)
  rw [heap_alloc_new] at hn
  rw [World.size_alloc] at hB1
  have HB1 := Lib.hid (hb0.trans (hB1.mono (Nat.le_succ _)))
  have hlt2 : w.heap.size < w1.heap.size := (Array.getElem?_eq_some_iff.1 hn).1
  have d0 : w1.cell? ⟨w.heap.size, 0, none⟩ = some (.int .i64 0) := by rw [cell_of_row w1 _ 0 _ _ _ hn]; rfl
  have d1 : w1.cell? ⟨w.heap.size, 1, none⟩ = some (.int .i64 0) := by rw [cell_of_row w1 _ 1 _ _ _ hn]; rfl
  have z0 : w1.frozen? ⟨w.heap.size, 0, none⟩ = false := by simp [World.frozen?, hn]
  have z1 : w1.frozen? ⟨w.heap.size, 1, none⟩ = false := by simp [World.frozen?, hn]
  have HN := Lib.hid hn
  obtain ⟨A, c, c0, c1, c2, c3, c4, ho⟩ := hS1.cells
  have hlt := hS1.lt
  have hfew := hS1.few
  obtain ⟨A', c', e, hrd, _, _⟩ := own_rdN ho
  injection e with e2 e3 e4
  subst e2
  obtain ⟨g, o, rfl, hg, hc⟩ := hrd.2 (by omega)
  obtain ⟨hc1, hc2⟩ := updC_at x.l _ u hu
  have hcell := hc _ _ hc1
  have hcell2 := hc _ _ hc2
  rw [← Nat.add_assoc] at hcell2
  obtain ⟨u1, u2⟩ := u
  obtain ⟨n, hnn⟩ : ∃ n, x.l.length = n := ⟨_, rfl⟩
  obtain ⟨m, hm⟩ : ∃ m, x.acked = m := ⟨_, rfl⟩
  rw [hnn] at c0 hfew hj ⊢
  rw [hm] at c1 hcell hcell2 hj ⊢
  have hne : decide ((n : Int) - (m : Int) = 0) = false := by simp; omega
  have hne2 : ((n : Int) - (m : Int) == 0) = false := by rw [beq_eq_false_iff_ne]; omega
  have hml : (m : Int) < (n : Int) := by omega
  clear hc hc1 hc2 hrd ho hu hn hm hnn hB1 hS hS1 hj hb0
  go_wp2_with fail
  go_region
  go_wp2_with fail
  refine bodyPost_ret (results_ct rfl _ _ ⟨w.heap.size, 0, none⟩ (.agg #[.int .i64 u1, .int .i64 u2]) rfl (run_loadVar_row _ _ _ _ _ _ _ (set2U HN.out _ _) Tryz.underlying36 rfl (by kernel_rfl))) rfl ?_
  exact H.out _ ((HB1.out.setCell (Nat.le_refl _) _).setCell (Nat.le_refl _) _).drew

theorem add_bad_c (B s : Nat) (x : Strm) (t : Int) (w : World) (hS : StrmAt w B s x) (hm : mayB (stOf x) t = false) (R : Ending → World → Prop)
    (h : ∀ w', Below w.heap.size w w' → R (.returned (.tuple #[.agg #[.int .i64 0, .int .i64 0], .int .i64 8])) w') :
    Calls Tryz.prog 45 #[.pointer (some ⟨s, 0, none⟩), .int .i64 t] w R := by
  have H := Lib.hid h
  have HM := Lib.hid hm
  clear h hm
  go_enter Tryz.func45, Tryz.ntmps45
  have hb0 : Below w.heap.size w (w.alloc (.cells #[.int .i64 0, .int .i64 0] 36)) := (Below.refl _ _).alloc (Nat.le_refl _) _
  go_wp2_with fail
  refine state_c B s x _ (hS.below hb0) _ (fun w1 hB1 => ?_)
  have hn := (Kept.of_below (S := []) hB1).block w.heap.size (by simp) (by simp)
  rw [heap_alloc_new] at hn
  rw [World.size_alloc] at hB1
  have HB1 := Lib.hid (hb0.trans (hB1.mono (Nat.le_succ _)))
  have hlt2 : w.heap.size < w1.heap.size := (Array.getElem?_eq_some_iff.1 hn).1
  have d0 : w1.cell? ⟨w.heap.size, 0, none⟩ = some (.int .i64 0) := by rw [cell_of_row w1 _ 0 _ _ _ hn]; rfl
  have d1 : w1.cell? ⟨w.heap.size, 1, none⟩ = some (.int .i64 0) := by rw [cell_of_row w1 _ 1 _ _ _ hn]; rfl
  have z0 : w1.frozen? ⟨w.heap.size, 0, none⟩ = false := by simp [World.frozen?, hn]
  have z1 : w1.frozen? ⟨w.heap.size, 1, none⟩ = false := by simp [World.frozen?, hn]
  have HN := Lib.hid hn
  clear hB1 hS hb0 hn
  go_wp2_with fail
  refine may_life_c _ _ _ _ ?_
  rw [HM.out]
  go_wp2_with fail
  refine bodyPost_ret (results_ct rfl _ _ ⟨w.heap.size, 0, none⟩ (.agg #[.int .i64 0, .int .i64 0]) rfl (run_loadVar_row _ _ _ _ _ _ _ (set2U HN.out _ _) Tryz.underlying36 rfl (by kernel_rfl))) rfl ?_
  exact H.out _ ((HB1.out.setCell (Nat.le_refl _) _).setCell (Nat.le_refl _) _)

theorem setS0 {w : World} {s : Nat} {a0 a1 a2 a3 a4 : Value} (h : w.heap[s]? = some (.cells #[a0, a1, a2, a3, a4] 99)) (u : Value) : (w.setCell ⟨s, 0, none⟩ u).heap[s]? = some (.cells #[u, a1, a2, a3, a4] 99) := by
  simp [World.setCell, Array.getElem?_modify, h]
theorem grown_own {w W w2 : World} {B n : Nat} {v : Value} {xs : List Value} (ho : w.ownsRow B 36 2 v n xs) (hb : Below w.heap.size w W) (hg : W.grownBy w2 v.ownBlock) {k : Nat} {o : Obj} (hk : W.heap[k]? = some o) (hne : w.heap.size ≤ k ∨ ∀ cs, o ≠ .cells cs 36) : w2.heap[k]? = some o := by
  rw [hg.block k (Array.getElem?_eq_some_iff.1 hk).1 ?_, hk]
  intro e
  obtain ⟨_, hlt⟩ := ho.lt k e.symm
  rcases hne with h | h
  · omega
  · rcases ho.2 with ⟨rfl, _⟩ | ⟨g, cap, cur, rfl, _, hh, _⟩
    · simp [Value.ownBlock] at e
    · simp [Value.ownBlock] at e
      subst e
      rw [(Kept.of_below (S := []) hb).block k hlt (by simp), hh] at hk
      injection hk with hk
      exact h _ hk.symm
theorem own_setOther {w : World} {B n s i : Nat} {v : Value} {xs : List Value} {o : Obj} (ho : w.ownsRow B 36 2 v n xs) (hs : w.heap[s]? = some o) (hne : ∀ cs, o ≠ .cells cs 36) (u : Value) : (w.setCell ⟨s, i, none⟩ u).ownsRow B 36 2 v n xs := by
  refine ⟨ho.1, ?_⟩
  rcases ho.2 with h | ⟨g, cap, cur, e, hB, hh, h⟩
  · exact .inl h
  · refine .inr ⟨g, cap, cur, e, hB, ?_, h⟩
    rw [Below.heap_setCell _ _ _ _ ?_, hh]
    rintro rfl
    rw [hh] at hs
    injection hs with hs
    exact hne _ hs.symm
theorem own_setAbove {w : World} {B n s i : Nat} {v : Value} {xs : List Value} (ho : w.ownsRow B 36 2 v n xs) (hK : ∀ g, v.ownBlock = some g → g ≠ s) (u : Value) : (w.setCell ⟨s, i, none⟩ u).ownsRow B 36 2 v n xs := by
  refine ⟨ho.1, ?_⟩
  rcases ho.2 with h | ⟨g, cap, cur, rfl, hB, hh, h⟩
  · exact .inl h
  · refine .inr ⟨g, cap, cur, rfl, hB, ?_, h⟩
    rw [Below.heap_setCell _ _ _ _ (hK g (by simp [Value.ownBlock])), hh]
theorem add_c (B s : Nat) (x : Strm) (t : Int) (w : World) (hS : StrmAt w B s x) (hBw : B ≤ w.heap.size) (hfw : x.l.length + 1 ≤ 1000) (hm : mayB (stOf x) t = true) (R : Ending → World → Prop)
    (h : ∀ w', Below B w w' → w.heap.size ≤ w'.heap.size → StrmAt w' B s { x with l := x.l ++ [((x.l.length : Int) + 1, t)] } → R (.returned (.tuple #[.agg #[.int .i64 ((x.l.length : Int) + 1), .int .i64 t], .int .i64 0])) w') :
    Calls Tryz.prog 45 #[.pointer (some ⟨s, 0, none⟩), .int .i64 t] w R := by
  have H := Lib.hid h
  have HM := Lib.hid hm
  clear h hm
  go_enter Tryz.func45, Tryz.ntmps45
  have hb0 : Below w.heap.size w (w.alloc (.cells #[.int .i64 0, .int .i64 0] 36)) := (Below.refl _ _).alloc (Nat.le_refl _) _
  go_wp2_with fail
  refine state_c B s x _ (hS.below hb0) _ (fun w1 hB1 => ?_)
  have hslt := hS.lt
  have hsB := hS.base
  have hack := hS.ack
  obtain ⟨A, c, hsb, hoo⟩ := hS.blk
  obtain ⟨n, hnn⟩ : ∃ n, x.l.length = n := ⟨_, rfl⟩
  rw [hnn] at hsb hoo hfw H hack
  have hn := (Kept.of_below (S := []) hB1).block w.heap.size (by simp) (by simp)
  rw [heap_alloc_new] at hn
  rw [World.size_alloc] at hB1
  have hb01 : Below w.heap.size w w1 := hb0.trans (hB1.mono (Nat.le_succ _))
  have hs1 : w1.heap[s]? = some (.cells #[.slice A n c, .int .i64 x.acked, .bool x.said, .int .i64 x.dl, .int .i64 x.due] 99) := (Kept.of_below (S := []) hb01).block s hslt (by simp) |>.trans hsb
  have c0 : w1.cell? ⟨s, 0, none⟩ = some (.slice A n c) := by rw [cell_of_row w1 s _ _ _ _ hs1]; rfl
  have hlt2 : w.heap.size < w1.heap.size := (Array.getElem?_eq_some_iff.1 hn).1
  have hslt1 : s < w1.heap.size := by omega
  obtain ⟨U, hU⟩ : ∃ U, U = w1.alloc (.cells #[.int .i64 ((n : Int) + 1), .int .i64 t] 36) := ⟨_, rfl⟩
  have hbU : Below w.heap.size w U.drew := by rw [hU]; exact (hb01.alloc (by omega) _).drew
  have uU : U.drew.heap[w1.heap.size]? = some (.cells #[.int .i64 ((n : Int) + 1), .int .i64 t] 36) := by rw [hU]; exact heap_alloc_new w1 _
  have rU : U.drew.heap[w.heap.size]? = some (.cells #[.int .i64 0, .int .i64 0] 36) := by rw [hU]; exact (heap_alloc_old _ _ hlt2).trans hn
  have sU : U.drew.heap[s]? = some (.cells #[.slice A n c, .int .i64 x.acked, .bool x.said, .int .i64 x.dl, .int .i64 x.due] 99) := by rw [hU]; exact (heap_alloc_old _ _ hslt1).trans hs1
  have q0 : U.drew.cell? ⟨s, 0, none⟩ = some (.slice A n c) := by rw [cell_of_row _ s _ _ _ _ sU]; rfl
  have q1 : U.drew.cell? ⟨w1.heap.size, 0, none⟩ = some (.int .i64 ((n : Int) + 1)) := by rw [cell_of_row _ _ _ _ _ _ uU]; rfl
  have q2 : U.drew.cell? ⟨w1.heap.size, 1, none⟩ = some (.int .i64 t) := by rw [cell_of_row _ _ _ _ _ _ uU]; rfl
  have HoU := Lib.hid (own_below' hoo hbU)
  have hUs : U.drew.heap.size = w1.heap.size + 1 := by rw [hU]; exact World.size_alloc _ _
  have HF : Hid (∀ w2 : World, U.drew.grownBy w2 (Value.slice A n c).ownBlock → w2.heap[s]? = some (.cells #[.slice A n c, .int .i64 x.acked, .bool x.said, .int .i64 x.dl, .int .i64 x.due] 99) ∧ w2.heap[w.heap.size]? = some (.cells #[.int .i64 0, .int .i64 0] 36) ∧ w2.heap[w1.heap.size]? = some (.cells #[.int .i64 ((n : Int) + 1), .int .i64 t] 36) ∧ Below B w w2) :=
    Lib.hid (fun w2 hg => ⟨grown_own hoo hbU hg sU (.inr (fun cs e => by simp at e)), grown_own hoo hbU hg rU (.inl (Nat.le_refl _)), grown_own hoo hbU hg uU (.inl (by omega)), (hbU.mono hBw).grown hg (by omega) (fun g hg2 => (hoo.lt g hg2).1)⟩)
  have HG : Hid (∀ v1 : Value, (∀ g, v1.ownBlock = some g → (Value.slice A n c).ownBlock = some g ∨ U.drew.heap.size ≤ g) → ∀ g, v1.ownBlock = some g → g ≠ w.heap.size) :=
    Lib.hid (fun v1 h g hg => (h g hg).elim (fun h1 => Nat.ne_of_lt (hoo.lt g h1).2) (fun h1 => by omega))
  have hw : IntKind.i64.wrap ((n : Int) + 1) = (n : Int) + 1 := Go.IntWalk.i64_in _ (by omega)
  have HU := Lib.hid hU
  have HXl := Lib.hid hnn
  clear hB1 hS hb0 hn hoo hsb hb01 hs1 hbU uU rU sU hnn
  go_wp2_with fail
  refine may_life_c _ _ _ _ ?_
  rw [HM.out]
  go_wp2_with fail
  rw [← HU.out]
  go_region_law ((refine step_app_one B (by rfl) (.tmp 25) (.tmp 27) 97 36 (.agg #[.int .i64 0, .int .i64 0]) 2 16 (by rfl) Tryz.underlying97 infoUpd (by kernel_rfl) (by decide) (by decide) U.drew (.slice A n c) n (updC x.l) #[.int .i64 ((n : Int) + 1), .int .i64 t] (by rw [HU.out]; rfl) rfl (by rfl) (w1.heap.size + 1) (by rfl) (by exact hUs.symm) (by simp [Value.oneCell']) (by exact HoU.out) (by omega) (by omega) ?_); intro v1 w2 hown1 hg1 hgb hgo; have hgn := HG.out v1 hgo; clear hgo; obtain ⟨y0, y1, y2, y3⟩ := HF.out w2 hg1; obtain ⟨A2, C2, rfl, _⟩ := own_shape' hown1; have yl := (Array.getElem?_eq_some_iff.1 y0).1; have z0 : w2.frozen? ⟨s, 0, none⟩ = false := (by simp [World.frozen?, y0]); have p0 : w2.cell? ⟨s, 0, none⟩ = some (.slice A n c) := (by rw [cell_of_row _ s _ _ _ _ y0]; rfl); have p1 : w2.cell? ⟨w1.heap.size, 0, none⟩ = some (.int .i64 ((n : Int) + 1)) := (by rw [cell_of_row _ _ _ _ _ _ y2]; rfl); have p2 : w2.cell? ⟨w1.heap.size, 1, none⟩ = some (.int .i64 t) := (by rw [cell_of_row _ _ _ _ _ _ y2]; rfl); have Y := Lib.hid (And.intro y0 (And.intro y1 (And.intro y2 (And.intro y3 hown1)))); have Hgs := Lib.hid hg1.size; clear y0 y1 y2 y3 hown1 hg1 hgb)
  all_goals
    obtain ⟨y0, y1, y2, y3, yo⟩ := Y.out
    have k0 := setS0 y0 (.slice A2 (n + 1) C2)
    have ko := own_setOther (i := 0) yo y0 (fun cs e => by simp at e) (.slice A2 (n + 1) C2)
    have k1 : (w2.setCell ⟨s, 0, none⟩ (.slice A2 (n + 1) C2)).heap[w.heap.size]? = some (.cells #[.int .i64 0, .int .i64 0] 36) := by rw [Below.heap_setCell _ _ _ _ (by simp only; omega)]; exact y1
    have k2 : (w2.setCell ⟨s, 0, none⟩ (.slice A2 (n + 1) C2)).heap[w1.heap.size]? = some (.cells #[.int .i64 ((n : Int) + 1), .int .i64 t] 36) := by rw [Below.heap_setCell _ _ _ _ (by simp only; omega)]; exact y2
    have k3 : Below B w (w2.setCell ⟨s, 0, none⟩ (.slice A2 (n + 1) C2)) := y3.setCell hsB _
    have ksz : w1.heap.size < (w2.setCell ⟨s, 0, none⟩ (.slice A2 (n + 1) C2)).heap.size := (Array.getElem?_eq_some_iff.1 k2).1
    clear p0 p1 p2 z0 yl y0 y1 y2 y3 yo Y Hgs q0 q1 q2
    generalize w2.setCell ⟨s, 0, none⟩ (.slice A2 (n + 1) C2) = W3 at k0 ko k1 k2 k3 ksz ⊢
    have d0 : W3.cell? ⟨w1.heap.size, 0, none⟩ = some (.int .i64 ((n : Int) + 1)) := by rw [cell_of_row _ _ _ _ _ _ k2]; rfl
    have d1 : W3.cell? ⟨w1.heap.size, 1, none⟩ = some (.int .i64 t) := by rw [cell_of_row _ _ _ _ _ _ k2]; rfl
    have e0 : W3.cell? ⟨w.heap.size, 0, none⟩ = some (.int .i64 0) := by rw [cell_of_row _ _ _ _ _ _ k1]; rfl
    have e1 : W3.cell? ⟨w.heap.size, 1, none⟩ = some (.int .i64 0) := by rw [cell_of_row _ _ _ _ _ _ k1]; rfl
    have z0 : W3.frozen? ⟨w.heap.size, 0, none⟩ = false := by simp [World.frozen?, k1]
    have z1 : W3.frozen? ⟨w.heap.size, 1, none⟩ = false := by simp [World.frozen?, k1]
    have kl := Nat.lt_trans hlt2 ksz
    have HK := Lib.hid (And.intro k0 (And.intro ko (And.intro k1 k3)))
    have Hgn := Lib.hid hgn
    clear k0 ko k1 k2 k3 hgn hUs
    go_wp2_with fail
    obtain ⟨k0, ko, k1, k3⟩ := HK.out
    refine bodyPost_ret (results_ct rfl _ _ ⟨w.heap.size, 0, none⟩ (.agg #[.int .i64 ((n : Int) + 1), .int .i64 t]) rfl (run_loadVar_row _ _ _ _ _ _ _ (set2U k1 _ _) Tryz.underlying36 rfl (by kernel_rfl))) rfl ?_
    refine H.out _ ((k3.setCell hBw _).setCell hBw _) (by simp [World.setCell]; omega) ⟨⟨A2, C2, ?_, ?_⟩, hsB, ?_, ?_⟩
    · rw [Below.heap_setCell _ _ _ _ (by simp only; omega), Below.heap_setCell _ _ _ _ (by simp only; omega), k0]
      simp [HXl.out]
    · have ho2 := own_setAbove (i := 1) (own_setAbove (i := 0) ko Hgn.out (.int .i64 ((n : Int) + 1))) Hgn.out (.int .i64 t)
      simpa [updC_snoc, HXl.out] using ho2
    · simp [HXl.out]; omega
    · simp [HXl.out]; omega
end Go.Proofs.YtdmcponfodohaaaGreatDoor
/-
  package stream: Say, Ack, Closed; backoff.Due at what Keep says; keep.passed.
-/
namespace Go.Proofs.YtdmcponfodohaaaGreatDoor
open Go.RowKit Go.Shelf Go.ChangeMaps Go.MapKept
set_option maxRecDepth 100000

theorem bwithin_c (n k : Int) (hn : 0 ≤ n) (h1 : n ≤ 1000) (hk : 0 ≤ k) (h2 : k ≤ 1) (w : World) (R : Ending → World → Prop) (h : R (.returned (.int .i64 (if n < k then k else n))) w) : Calls Tryz.prog 95 #[.int .i64 n, .int .i64 k] w R := by
  have H := Lib.hid h
  clear h
  go_enter Tryz.func95, Tryz.ntmps95
  go_wp2_with fail
  show R (.returned (.int .i64 (min (max n k) 1048576))) w
  have e : min (max n k) 1048576 = (if n < k then k else n) := by split <;> omega
  rw [e]
  exact H.out
theorem jitter_c (w : World) (R : Ending → World → Prop) (h : R (.returned (.int .i64 0)) w) : Calls Tryz.prog 96 #[.int .i64 1, .int .i64 0] w R := by
  have H := Lib.hid h
  clear h
  go_enter Tryz.func96, Tryz.ntmps96
  go_wp2_with fail
  refine bwithin_c 1 1 (by decide) (by decide) (by decide) (by decide) _ _ ?_
  go_wp2_with fail
  exact H.out
theorem due_c (now : Int) (hn : 0 ≤ now) (h1 : now ≤ 1000) (w : World) (R : Ending → World → Prop) (h : R (.returned (.int .i64 (now + 1))) w) : Calls Tryz.prog 60 #[.int .i64 now, .int .i64 1, .int .i64 0] w R := by
  have H := Lib.hid h
  clear h
  go_enter Tryz.func60, Tryz.ntmps60
  go_wp2_with fail
  refine bwithin_c now 0 hn h1 (by decide) (by decide) _ _ ?_
  rw [if_neg (by omega)]
  go_wp2_with fail
  refine bwithin_c 1 1 (by decide) (by decide) (by decide) (by decide) _ _ ?_
  rw [if_neg (by omega)]
  go_wp2_with fail
  refine jitter_c _ _ ?_
  go_wp2_with fail
  exact H.out

theorem StrmAt.fields {w w' : World} {B s : Nat} {x x' : Strm} (h : StrmAt w B s x) (hl : x'.l = x.l) (hk : Kept [s] w w') (ha : x'.acked ≤ x.l.length)
    (hb : ∀ A c, w.heap[s]? = some (.cells #[.slice A x.l.length c, .int .i64 x.acked, .bool x.said, .int .i64 x.dl, .int .i64 x.due] 99) → w'.heap[s]? = some (.cells #[.slice A x.l.length c, .int .i64 x'.acked, .bool x'.said, .int .i64 x'.dl, .int .i64 x'.due] 99)) : StrmAt w' B s x' := by
  obtain ⟨A, c, hbk, ho⟩ := h.blk
  have hs : NoT w 36 [s] := NoT.one hbk (fun cs e => by simp at e)
  refine ⟨⟨A, c, ?_, ?_⟩, h.base, by rw [hl]; exact h.few, by rw [hl]; exact ha⟩
  · rw [hl]; exact hb A c hbk
  · rw [hl]
    refine ⟨ho.1, ?_⟩
    rcases ho.2 with h1 | ⟨g, cap, cur, e, hB, hg, h2⟩
    · exact .inl h1
    · exact .inr ⟨g, cap, cur, e, hB, (hk.block g (Array.getElem?_eq_some_iff.1 hg).1 (fun hs' => hs g hs' cur hg)).trans hg, h2⟩

theorem Kept.setNew {S : List Nat} {w w' : World} (h : Kept S w w') {p : Addr} (hp : w.heap.size ≤ p.block) (u : Value) : Kept S w (w'.setCell p u) :=
  ⟨h.os, h.tape, h.output, by simpa [World.setCell] using h.size, fun k hk hs => (Below.heap_setCell _ _ _ _ (by omega)).trans (h.block k hk hs)⟩
theorem ack_c (B s : Nat) (x : Strm) (u : Upd) (n : Int) (w : World) (hS : StrmAt w B s x) (hu : x.l[x.acked]? = some u) (hsd : x.said = true) (hn : u.1 = n) (R : Ending → World → Prop)
    (h : ∀ w', Kept [s] w w' → StrmAt w' B s { x with acked := x.acked + 1, said := false } → R (.returned (.int .i64 0)) w') :
    Calls Tryz.prog 26 #[.pointer (some ⟨s, 0, none⟩), .int .i64 n] w R := by
  have H := Lib.hid h
  clear h
  subst hn
  have hj := (List.getElem?_eq_some_iff.1 hu).1
  go_enter Tryz.func26, Tryz.ntmps26
  go_wp2_with fail
  refine front_c B s x u w hS hu _ (fun w1 hB1 => ?_)
  have hS1 := hS.below hB1
  obtain ⟨A, c, hb, _⟩ := hS1.blk
  have hlt := hS1.lt
  have hfew := hS1.few
  have c1 : w1.cell? ⟨s, 1, none⟩ = some (.int .i64 x.acked) := by rw [cell_of_row w1 s _ _ _ _ hb]; rfl
  have c2 : w1.cell? ⟨s, 2, none⟩ = some (.bool true) := by rw [cell_of_row w1 s _ _ _ _ hb, ← hsd]; rfl
  have z1 : w1.frozen? ⟨s, 1, none⟩ = false := by simp [World.frozen?, hb]
  have z2 : w1.frozen? ⟨s, 2, none⟩ = false := by simp [World.frozen?, hb]
  obtain ⟨u1, u2⟩ := u
  have HB1 := Lib.hid hB1
  have HS1 := Lib.hid hS1
  obtain ⟨m, hm⟩ : ∃ m, x.acked = m := ⟨_, rfl⟩
  have hml : m < 1000 := by omega
  have hw : IntKind.i64.wrap ((m : Int) + 1) = (m : Int) + 1 := Go.IntWalk.i64_in _ (by omega)
  rw [hm] at c1
  have HX := Lib.hid hm
  have hj2 : x.acked + 1 ≤ x.l.length := hj
  clear hb hB1 hS hS1 hu hm hj
  go_wp2_with fail
  have hk : Kept [s] w1 ((w1.setCell ⟨s, 1, none⟩ (.int .i64 ((m : Int) + 1))).setCell ⟨s, 2, none⟩ (.bool false)) := ((Kept.refl [s] w1).setCell (by simp) _).setCell (by simp) _
  have hS2 : StrmAt ((w1.setCell ⟨s, 1, none⟩ (.int .i64 ((m : Int) + 1))).setCell ⟨s, 2, none⟩ (.bool false)) B s { x with acked := x.acked + 1, said := false } :=
    HS1.out.fields rfl hk hj2 (fun A c h => by simp [World.setCell, Array.getElem?_modify, h, HX.out])
  refine H.out _ (((Kept.of_below HB1.out).trans hk).trans (Kept.of_below ((Below.refl _ _).alloc (Nat.le_refl _) _))) (hS2.below ((Below.refl _ _).alloc (Nat.le_refl _) _))

theorem say_c (B s : Nat) (x : Strm) (u : Upd) (now : Int) (h0 : 0 ≤ now) (h1 : now ≤ 1000) (w : World) (hS : StrmAt w B s x) (hu : x.l[x.acked]? = some u) (hsd : x.said = false) (R : Ending → World → Prop)
    (h : ∀ w', Kept [s] w w' → StrmAt w' B s { x with said := true, dl := 1, due := now + 1 } → R (.returned (.tuple #[.agg #[.int .i64 u.1, .int .i64 u.2], .bool true])) w') :
    Calls Tryz.prog 25 #[.pointer (some ⟨s, 0, none⟩), .int .i64 now, .int .i64 1, .int .i64 0] w R := by
  have H := Lib.hid h
  clear h
  have hj := (List.getElem?_eq_some_iff.1 hu).1
  go_enter Tryz.func25, Tryz.ntmps25
  have hb0 : Below w.heap.size w (w.alloc (.cells #[.int .i64 0, .int .i64 0] 36)) := (Below.refl _ _).alloc (Nat.le_refl _) _
  go_wp2_with fail
  refine front_c B s x u _ (hS.below hb0) hu _ (fun w1 hB1 => ?_)
  have hS1 := (hS.below hb0).below hB1
  have hn := (Kept.of_below (S := []) hB1).block w.heap.size (by simp) (by simp)
  rw [heap_alloc_new] at hn
  rw [World.size_alloc] at hB1
  have hslt := hS.lt
  obtain ⟨A, c, hb, _⟩ := hS1.blk
  have hlt := hS1.lt
  have hfew := hS1.few
  have c2 : w1.cell? ⟨s, 2, none⟩ = some (.bool false) := by rw [cell_of_row w1 s _ _ _ _ hb, ← hsd]; rfl
  have c3 : w1.cell? ⟨s, 3, none⟩ = some (.int .i64 x.dl) := by rw [cell_of_row w1 s _ _ _ _ hb]; rfl
  have c4 : w1.cell? ⟨s, 4, none⟩ = some (.int .i64 x.due) := by rw [cell_of_row w1 s _ _ _ _ hb]; rfl
  have z2 : w1.frozen? ⟨s, 2, none⟩ = false := by simp [World.frozen?, hb]
  have z3 : w1.frozen? ⟨s, 3, none⟩ = false := by simp [World.frozen?, hb]
  have z4 : w1.frozen? ⟨s, 4, none⟩ = false := by simp [World.frozen?, hb]
  have hlt2 : w.heap.size < w1.heap.size := (Array.getElem?_eq_some_iff.1 hn).1
  have d0 : w1.cell? ⟨w.heap.size, 0, none⟩ = some (.int .i64 0) := by rw [cell_of_row w1 _ 0 _ _ _ hn]; rfl
  have d1 : w1.cell? ⟨w.heap.size, 1, none⟩ = some (.int .i64 0) := by rw [cell_of_row w1 _ 1 _ _ _ hn]; rfl
  have y0 : w1.frozen? ⟨w.heap.size, 0, none⟩ = false := by simp [World.frozen?, hn]
  have y1 : w1.frozen? ⟨w.heap.size, 1, none⟩ = false := by simp [World.frozen?, hn]
  obtain ⟨u1, u2⟩ := u
  have HB1 := Lib.hid (hb0.trans (hB1.mono (Nat.le_succ _)))
  have HS1 := Lib.hid hS1
  have HS0 := Lib.hid hS
  have HN := Lib.hid hn
  clear hb hB1 hS hS1 hu hj hb0 hn
  go_wp2_with fail
  refine due_c now h0 h1 _ _ ?_
  go_wp2_with fail
  have hr : (((((w1.setCell ⟨s, 2, none⟩ (.bool true)).setCell ⟨s, 3, none⟩ (.int .i64 1)).setCell ⟨s, 4, none⟩ (.int .i64 (now + 1))).setCell ⟨w.heap.size, 0, none⟩ (.int .i64 u1)).setCell ⟨w.heap.size, 1, none⟩ (.int .i64 u2)).heap[w.heap.size]? = some (.cells #[.int .i64 u1, .int .i64 u2] 36) :=
    set2U (by rw [Below.heap_setCell _ _ _ _ (by simp only; omega), Below.heap_setCell _ _ _ _ (by simp only; omega), Below.heap_setCell _ _ _ _ (by simp only; omega)]; exact HN.out) _ _
  have hk : Kept [s] w (((((w1.setCell ⟨s, 2, none⟩ (.bool true)).setCell ⟨s, 3, none⟩ (.int .i64 1)).setCell ⟨s, 4, none⟩ (.int .i64 (now + 1))).setCell ⟨w.heap.size, 0, none⟩ (.int .i64 u1)).setCell ⟨w.heap.size, 1, none⟩ (.int .i64 u2)) :=
    (((((Kept.of_below HB1.out).setCell (by simp) _).setCell (by simp) _).setCell (by simp) _).setNew (Nat.le_refl _) _).setNew (Nat.le_refl _) _
  have hS2 := HS0.out.fields (x' := { x with said := true, dl := 1, due := now + 1 }) rfl hk HS0.out.ack (fun A c h => by
    have h1 := (Kept.of_below (S := []) HB1.out).block s hslt (by simp)
    rw [h] at h1
    rw [Below.heap_setCell _ _ _ _ (by simp only; omega), Below.heap_setCell _ _ _ _ (by simp only; omega)]
    simp [World.setCell, Array.getElem?_modify, h1])
  generalize (((((w1.setCell ⟨s, 2, none⟩ (.bool true)).setCell ⟨s, 3, none⟩ (.int .i64 1)).setCell ⟨s, 4, none⟩ (.int .i64 (now + 1))).setCell ⟨w.heap.size, 0, none⟩ (.int .i64 u1)).setCell ⟨w.heap.size, 1, none⟩ (.int .i64 u2)) = W at hr hk hS2 ⊢
  have hrlt := (Array.getElem?_eq_some_iff.1 hr).1
  refine bodyPost_ret (results_ct rfl _ _ ⟨w.heap.size, 0, none⟩ (.agg #[.int .i64 u1, .int .i64 u2]) rfl (run_loadVar_row _ _ _ _ _ _ _ ((heap_alloc_old _ _ hrlt).trans hr) Tryz.underlying36 rfl (by kernel_rfl))) rfl ?_
  exact H.out _ (hk.alloc _) (hS2.below ((Below.refl _ _).alloc (Nat.le_refl _) _))

theorem passed_c (B s : Nat) (x : Strm) (u : Upd) (n : Int) (w : World) (hS : StrmAt w B s x) (hu : x.l[x.acked]? = some u) (hsd : x.said = false) (hn : u.1 = n) (R : Ending → World → Prop)
    (h : ∀ w', Kept [s] w w' → StrmAt w' B s { x with acked := x.acked + 1, said := false, dl := 1, due := 1 } → R (.returned (.int .i64 0)) w') :
    Calls Tryz.prog 61 #[.pointer (some ⟨s, 0, none⟩), .int .i64 n] w R := by
  have H := Lib.hid h
  clear h
  subst hn
  go_enter Tryz.func61, Tryz.ntmps61
  go_wp2_with fail
  refine front_c B s x u _ hS hu _ (fun w1 hB1 => ?_)
  have HS1 := Lib.hid (hS.below hB1)
  have HB1 := Lib.hid hB1
  have hslt := hS.lt
  clear hB1 hS
  go_wp2_with fail
  refine say_c B s x u 0 (by decide) (by decide) _ (HS1.out.below ((Below.refl _ _).alloc (Nat.le_refl _) _)) hu hsd _ (fun w2 hk2 hS2 => ?_)
  have hk02 : Kept [s] w w2 := ((Kept.of_below HB1.out).alloc _).trans hk2
  have HK := Lib.hid hk02
  have HS2 := Lib.hid hS2
  clear hk2 hS2 hk02
  go_wp2_with fail
  refine ack_c B s _ u u.1 _ HS2.out hu rfl rfl _ (fun w3 hk3 hS3 => ?_)
  have HH := Lib.hid (H.out _ (HK.out.trans hk3) hS3)
  clear hk3 hS3
  go_wp2_with fail
  exact HH.out
theorem passed_none_c (B s : Nat) (x : Strm) (n : Int) (w : World) (hS : StrmAt w B s x) (hn : ∀ u, x.l[x.acked]? = some u → u.1 ≠ n) (R : Ending → World → Prop)
    (h : ∀ w', Below w.heap.size w w' → R (.returned (.int .i64 3)) w') :
    Calls Tryz.prog 61 #[.pointer (some ⟨s, 0, none⟩), .int .i64 n] w R := by
  have H := Lib.hid h
  clear h
  rcases hu : x.l[x.acked]? with _ | u
  · have hlen : x.l.length = x.acked := by have h1 := List.getElem?_eq_none_iff.1 hu; have := hS.ack; omega
    go_enter Tryz.func61, Tryz.ntmps61
    go_wp2_with fail
    refine front_none_c B s x _ hS hlen _ (fun w1 hB1 => ?_)
    have HB1 := Lib.hid hB1
    clear hB1 hS
    go_wp2_with fail
    exact H.out _ (HB1.out.alloc HB1.out.size _)
  · have hne : u.1 ≠ n := hn u hu
    go_enter Tryz.func61, Tryz.ntmps61
    go_wp2_with fail
    refine front_c B s x u _ hS hu _ (fun w1 hB1 => ?_)
    have HB1 := Lib.hid hB1
    clear hB1 hS hu hn
    obtain ⟨u1, u2⟩ := u
    simp only at hne
    have t1 : (u1 != n) = true := by simp [hne]
    go_wp2_with fail
    exact H.out _ (HB1.out.alloc HB1.out.size _)

theorem closed_c (B s : Nat) (x : Strm) (w : World) (hS : StrmAt w B s x) (hc : overB (stOf x) = true) (hl : x.l.length = x.acked) (R : Ending → World → Prop)
    (h : ∀ w', Below w.heap.size w w' → R (.returned (.bool true)) w') :
    Calls Tryz.prog 28 #[.pointer (some ⟨s, 0, none⟩)] w R := by
  have H := Lib.hid h
  clear h
  go_enter Tryz.func28, Tryz.ntmps28
  go_wp2_with fail
  refine state_c B s x w hS _ (fun w1 hB1 => ?_)
  have HB1 := Lib.hid hB1
  have HS1 := Lib.hid (hS.below hB1)
  clear hB1 hS
  go_wp2_with fail
  refine over_c _ _ _ ?_
  rw [hc]
  go_wp2_with fail
  refine pending_c B s x _ HS1.out _ (fun w2 hB2 => ?_)
  rw [hl, Int.sub_self]
  have HB2 := Lib.hid (HB1.out.trans (hB2.mono HB1.out.size))
  clear hB2
  go_wp2_with fail
  exact H.out _ HB2.out

theorem acked_c (B s : Nat) (x : Strm) (w : World) (hS : StrmAt w B s x) (R : Ending → World → Prop) (h : R (.returned (.int .i64 x.acked)) w) :
    Calls Tryz.prog 24 #[.pointer (some ⟨s, 0, none⟩)] w R := by
  have H := Lib.hid h
  obtain ⟨A, c, c0, c1, _⟩ := hS.cells
  have hlt := hS.lt
  clear h hS
  go_enter Tryz.func24, Tryz.ntmps24
  go_wp2_with fail
  exact H.out
theorem said_c (B s : Nat) (x : Strm) (w : World) (hS : StrmAt w B s x) (R : Ending → World → Prop) (h : R (.returned (.bool x.said)) w) :
    Calls Tryz.prog 23 #[.pointer (some ⟨s, 0, none⟩)] w R := by
  have H := Lib.hid h
  obtain ⟨A, c, c0, c1, c2, _⟩ := hS.cells
  have hlt := hS.lt
  clear h hS
  go_enter Tryz.func23, Tryz.ntmps23
  go_wp2_with fail
  exact H.out
end Go.Proofs.YtdmcponfodohaaaGreatDoor
