/-
  Several texts in one: AppN, Strm; each says at its head what it holds.
-/
import Derived.Test.YtdmcponfodohaaaGreatDoorGf
import Derived.Outline
import Derived.Deep.AppendLies
import Derived.Test.YtdmcponfodohaaaGreatDoorGc
import Derived.Test.YtdmcponfodohaaaGreatDoorGg
/-
  Plain lemmas: append onto a row of the call's own, the appended elements of several cells each in a slice that is read; slices.Clone at elements of two cells.
-/
namespace Go.Proofs.YtdmcponfodohaaaGreatDoor
open Go.RowKit Go.Shelf Go.ChangeMaps Go.MapKept
set_option maxRecDepth 100000

section
variable {P : Program} {ops : Array Oper} {rest : List Oper} {o : Oper} {a : Act} {Q : Exit → Act → World → Prop}
/-- append(v, ys...): ys a slice that is read, its elements of 'size' cells each. -/
theorem app_rdN {W : World} (base : Nat) (hgd : o.guard = none) (s x : Operand) (t e : TypeId) (z : Value) (size bytes : Nat)
    (ho : o.op = .call { callee := .builtin .append, args := #[s, x], argTypes := #[t, t] })
    (ht : P.underlying t = some (.slice e)) (hinfo : (P.info? e).map (fun i => (i.zero, i.size, i.bytes)) = some (some z, size, bytes)) (hz : z.cells.size = size) (hs0 : 0 < size) (hb0 : 0 < bytes)
    (v : Value) (n : Nat) (xs : List Value) (A : Option Addr) (m c : Nat) (ys : List Value) (hs : a.eval s = v) (hx : a.eval x = .slice A m c) (h1 : ∀ u ∈ ys, u.oneCell' = true)
    (HO : W.ownsRow base e size v n xs) (HR : Rd W A (m * size) ys) (hA : A = none → m = 0) (hbase : base ≤ W.heap.size) (hl : (n + m) * bytes ≤ 140737488355328)
    (h : ∀ v1 w1, w1.ownsRow base e size v1 (n + m) (xs ++ ys) → W.grownBy w1 v.ownBlock → (∀ g, v.ownBlock = some g → base ≤ g) → wpList P ops Q rest (a.put o.dst v1) w1) :
    wpList P ops Q (o :: rest) a W := by
  obtain ⟨i0, hi, hzz⟩ := Option.map_eq_some_iff.1 hinfo
  simp only [Prod.mk.injEq] at hzz
  obtain ⟨hz0, hz1, hz2⟩ := hzz
  have hlen : n + m ≤ 140737488355328 := Nat.le_trans (Nat.le_mul_of_pos_right _ hb0) hl
  have hm := HR.1
  have hrun : ∃ v1 w1, (Builtin.append_ #[t, t] o.type #[v, .slice A m c]).run P W = .ok v1 w1 ∧ w1.ownsRow base e size v1 (n + m) (xs ++ ys) ∧ W.grownBy w1 v.ownBlock := by
    rcases A with _ | ad
    · have h0 := hA rfl
      subst h0
      obtain rfl : ys = [] := List.eq_nil_of_length_eq_zero (by omega)
      refine ⟨v, W, ?_, by simpa using HO, World.grownBy.refl W _⟩
      rcases HO.2 with ⟨rfl, hn⟩ | ⟨g, cap, cur, rfl, _, _, hnc, _⟩
      · simp [Builtin.append_, run_underlying ht, sizeOf, typeInfo, hi, Builtin.lenOf, Builtin.firstCells]
      · simp [Builtin.append_, run_underlying ht, sizeOf, typeInfo, hi, Builtin.lenOf, Builtin.firstCells, hnc, storeCells]
    · have hcells : ∀ j u, ys[j]? = some u → W.cell? (ad.add j) = some u := by
        intro j u hu
        have hj := (List.getElem?_eq_some_iff.1 hu).1
        obtain ⟨g, o, h', _, hc⟩ := HR.2 (by omega)
        injection h' with h'
        subst h'
        rw [Addr.add_lit]
        exact hc j u hu
      obtain ⟨v1, w1, hr, h2, h3, _, _⟩ := run_append_own_at (P := P) W base t o.type e i0 z size bytes ht hi hz0 hz1 hz2 hz (by omega) v n xs HO ad m c ys (by omega) hcells h1 (by simp only [maxLen]; omega) hl hbase
      exact ⟨v1, w1, hr, h2, h3⟩
  obtain ⟨v1, w1, hr, hown, hg⟩ := hrun
  refine wpList_plain hgd fun K hK => ?_
  unfold Oper.wp execOp
  simp only [ho, resolve, invoke, builtin, Sem.run_bind, Sem.run_pure, Result.andThen_ok, List.map_toArray, List.map_cons, List.map_nil, hs, hx, hr]
  exact hK _ _ (h v1 w1 hown hg (fun g hg => (HO.lt g hg).1))
/-- append(v, y) at a step of a region that draws its order: y's cells lie in the block just laid. -/
theorem step_app_one {W' : World} {K : Act → World → Prop} {E : Prop} (base : Nat) (hgd : o.guard = none) (s x : Operand) (t e : TypeId) (z : Value) (size bytes : Nat)
    (ho : o.op = .call { callee := .builtin .append, args := #[s, x], argTypes := #[t, t] })
    (ht : P.underlying t = some (.slice e)) (hinfo : (P.info? e).map (fun i => (i.zero, i.size, i.bytes)) = some (some z, size, bytes)) (hz : z.cells.size = size) (hs0 : 0 < size) (hb0 : 0 < bytes)
    (W : World) (v : Value) (n : Nat) (xs : List Value) (ys : Array Value) (hW' : W' = W.alloc (.cells ys e)) (hys : ys.size = size) (hs : a.eval s = v) (Bk : Nat) (hx : a.eval x = .slice (some ⟨Bk, 0, none⟩) 1 1) (hB : Bk = W.heap.size) (h1 : ∀ u ∈ ys.toList, u.oneCell' = true)
    (HO : W.ownsRow base e size v n xs) (hbase : base ≤ W.heap.size) (hl : (n + 1) * bytes ≤ 140737488355328)
    (h : ∀ v1 w1, w1.ownsRow base e size v1 (n + 1) (xs ++ ys.toList) → W.grownBy w1 v.ownBlock → (∀ g, v.ownBlock = some g → base ≤ g) → (∀ g, v1.ownBlock = some g → v.ownBlock = some g ∨ W.heap.size ≤ g) → K (a.put o.dst v1) w1) :
    if Region.wanted o (yielded ops a.tmps) = true then Oper.wp P o a W' K Q else E := by
  subst hB
  subst hW'
  obtain ⟨i0, hi, hzz⟩ := Option.map_eq_some_iff.1 hinfo
  simp only [Prod.mk.injEq] at hzz
  obtain ⟨hz0, hz1, hz2⟩ := hzz
  have hlen : n + 1 ≤ 140737488355328 := Nat.le_trans (Nat.le_mul_of_pos_right _ hb0) hl
  refine step_append_lies (W.alloc (.cells ys e)) hgd s x t ho base e i0 z size bytes ht hi hz0 hz1 hz2 hz hs0 v n xs hs (HO.alloc _) ⟨W.heap.size, 0, none⟩ 1 1 ys.toList hx (by simp [hys])
    (World.news_of_block (cs := ys) (t := e) (fr := (0, 0)) (heap_alloc_new W _)) h1 (by decide) (by simp only [maxLen]; omega) hl (by simp; omega) _ rfl ?_
  intro g cap w1 hown hg hor _
  refine h _ w1 hown (World.grownBy.trans (World.grownBy_alloc W _ _) hg) (fun g hg => (HO.lt g hg).1) (fun k hk => ?_)
  simp [Value.ownBlock] at hk
  subst hk
  rcases hor with h1 | h1
  · exact .inl h1
  · exact .inr (by rw [h1, World.size_alloc]; omega)
end
end Go.Proofs.YtdmcponfodohaaaGreatDoor
/-
  package stream, what of life and backoff it comes to; slices.Clone at updates and at items.
-/
namespace Go.Proofs.YtdmcponfodohaaaGreatDoor
open Go.RowKit Go.Shelf Go.ChangeMaps Go.MapKept
set_option maxRecDepth 100000

abbrev Upd := Int × Int
def updC (l : List Upd) : List Value := l.flatMap fun u => [Value.int .i64 u.1, .int .i64 u.2]
theorem updC_len (l : List Upd) : (updC l).length = l.length * 2 := by
  induction l with
  | nil => rfl
  | cons x r ih => simp [updC] at ih ⊢; omega
theorem updC_at : ∀ (l : List Upd) (j : Nat) (u : Upd), l[j]? = some u → (updC l)[j * 2]? = some (.int .i64 u.1) ∧ (updC l)[j * 2 + 1]? = some (.int .i64 u.2)
  | [], j, u, h => by simp at h
  | y :: l, 0, u, h => by
    simp at h
    subst h
    simp [updC]
  | y :: l, j + 1, u, h => by
    have := updC_at l j u (by simpa using h)
    have e : updC (y :: l) = [Value.int .i64 y.1, .int .i64 y.2] ++ updC l := rfl
    rw [e, List.getElem?_append_right (by simp; omega), List.getElem?_append_right (by simp; omega)]
    have e1 : (j + 1) * 2 - [Value.int .i64 y.1, Value.int .i64 y.2].length = j * 2 := by simp; omega
    have e2 : (j + 1) * 2 + 1 - [Value.int .i64 y.1, Value.int .i64 y.2].length = j * 2 + 1 := by simp; omega
    rw [e1, e2]
    exact this
theorem updC_one (l : List Upd) : ∀ u ∈ updC l, u.oneCell' = true := by
  intro u hu
  simp only [updC, List.mem_flatMap, List.mem_cons, List.mem_nil_iff, or_false] at hu
  obtain ⟨x, _, rfl | rfl⟩ := hu <;> rfl
theorem updC_snoc (l : List Upd) (u : Upd) : updC (l ++ [u]) = updC l ++ [.int .i64 u.1, .int .i64 u.2] := by simp [updC]
theorem infoUpd : (Tryz.prog.info? 36).map (fun i => (i.zero, i.size, i.bytes)) = some (some (.agg #[.int .i64 0, .int .i64 0]), 2, 16) := by kernel_rfl

/-- A stream: its updates, how many are acknowledged, whether one was said. -/
structure Strm where
  l : List Upd
  acked : Nat
  said : Bool
  dl : Int
  due : Int
structure StrmAt (w : World) (B s : Nat) (x : Strm) : Prop where
  blk : ∃ A c, w.heap[s]? = some (.cells #[.slice A x.l.length c, .int .i64 x.acked, .bool x.said, .int .i64 x.dl, .int .i64 x.due] 99) ∧ w.ownsRow B 36 2 (.slice A x.l.length c) x.l.length (updC x.l)
  base : B ≤ s
  few : x.l.length ≤ 1000
  ack : x.acked ≤ x.l.length
theorem StrmAt.lt {w : World} {B s : Nat} {x : Strm} (h : StrmAt w B s x) : s < w.heap.size := by
  obtain ⟨A, c, hb, _⟩ := h.blk
  exact (Array.getElem?_eq_some_iff.1 hb).1
theorem StrmAt.mono {w : World} {B B' s : Nat} {x : Strm} (h : StrmAt w B s x) (hB : B' ≤ B) : StrmAt w B' s x := by
  obtain ⟨A, c, hb, ho⟩ := h.blk
  exact ⟨⟨A, c, hb, own_mono ho hB⟩, Nat.le_trans hB h.base, h.few, h.ack⟩
theorem StrmAt.kept {w w' : World} {B s : Nat} {x : Strm} {S : List Nat} (h : StrmAt w B s x) (hk : Kept S w w') (hs : s ∉ S) (hS : NoT w 36 S) : StrmAt w' B s x := by
  obtain ⟨A, c, hb, ho⟩ := h.blk
  refine ⟨⟨A, c, (hk.block s (Array.getElem?_eq_some_iff.1 hb).1 hs).trans hb, ho.1, ?_⟩, h.base, h.few, h.ack⟩
  rcases ho.2 with h1 | ⟨g, cap, cur, e, hB, hg, h2⟩
  · exact .inl h1
  · exact .inr ⟨g, cap, cur, e, hB, (hk.block g (Array.getElem?_eq_some_iff.1 hg).1 (fun hs => hS g hs cur hg)).trans hg, h2⟩
theorem StrmAt.below {w w' : World} {B s : Nat} {x : Strm} (h : StrmAt w B s x) (hb : Below w.heap.size w w') : StrmAt w' B s x := h.kept (Kept.of_below (S := []) hb) (by simp) (NoT.nil _ _)

theorem build_strm (w : World) : (Instr.build 99 #[]).run Tryz.prog w = .ok (.agg #[.slice none 0 0, .int .i64 0, .bool false, .int .i64 0, .int .i64 0]) w := by kernel_rfl
theorem strmNew_c (w : World) (R : Ending → World → Prop) (h : ∀ s w', Below w.heap.size w w' → StrmAt w' w.heap.size s ⟨[], 0, false, 0, 0⟩ → R (.returned (.pointer (some ⟨s, 0, none⟩))) w') : Calls Tryz.prog 43 #[] w R := by
  have H := Lib.hid h
  clear h
  go_enter Tryz.func43, Tryz.ntmps43
  go_wp2_with fail
  exact H.out w.heap.size _ ((Below.refl _ _).alloc (Nat.le_refl _) _) ⟨⟨none, 0, heap_alloc_new w _, by simp [updC], .inl ⟨rfl, rfl⟩⟩, Nat.le_refl _, by simp, by simp⟩

theorem own_rdN {w : World} {base n : Nat} {e : TypeId} {size : Nat} {v : Value} {xs : List Value} (h : w.ownsRow base e size v n xs) : ∃ A c, v = .slice A n c ∧ Rd w A (n * size) xs ∧ n ≤ c ∧ (A = none → n = 0) := by
  rcases h.2 with ⟨rfl, rfl⟩ | ⟨g, cap, cur, rfl, hb, hh, hnc, _⟩
  · exact ⟨none, 0, rfl, ⟨by have := h.1; omega, fun h => absurd h (by omega)⟩, Nat.le_refl _, fun _ => rfl⟩
  · refine ⟨_, cap, rfl, ⟨h.1, fun _ => ⟨g, 0, rfl, (Array.getElem?_eq_some_iff.1 hh).1, fun j u hu => ?_⟩⟩, hnc, fun e => by cases e⟩
    have := h.cells (g := g) rfl j u hu
    rwa [Addr.add_lit] at this

theorem own_empty (w : World) (e : TypeId) (size : Nat) : (w.alloc (.cells #[] e)).ownsRow w.heap.size e size (.slice (some ⟨w.heap.size, 0, none⟩) 0 0) 0 [] :=
  ⟨by simp, .inr ⟨w.heap.size, 0, #[], rfl, Nat.le_refl _, heap_alloc_new w _, Nat.le_refl _, by simp [maxLen], by simp, by simp⟩⟩
theorem own_new {w W w1 : World} {e : TypeId} {size n : Nat} {v1 : Value} {row : Option Nat} {xs : List Value} (hb : Below w.heap.size w W) (h : w1.ownsRow w.heap.size e size v1 (0 + n) ([] ++ xs)) (hg : W.grownBy w1 row) (hr : ∀ g, row = some g → w.heap.size ≤ g) :
    ∃ A c, v1 = .slice A n c ∧ w1.ownsRow w.heap.size e size (.slice A n c) n xs ∧ Below w.heap.size w w1 := by
  rw [Nat.zero_add, List.nil_append] at h
  obtain ⟨A, c, rfl, _⟩ := own_shape' h
  exact ⟨A, c, rfl, h, hb.grown hg hb.size hr⟩
theorem nilU (w : World) (A : Option Addr) (n c : Nat) : (binOp .eql 97 (.slice A n c) (.slice none 0 0)).run Tryz.prog w = .ok (.bool A.isNone) w := by
  rcases A with _ | a <;> kernel_rfl
set_option maxHeartbeats 1000000 in
theorem cloneU_c (A : Option Addr) (n c : Nat) (l : List Upd) (w : World) (hR : Rd w A (n * 2) (updC l)) (hA : A = none → n = 0) (hl : l.length = n) (hn : n ≤ 1000) (R : Ending → World → Prop)
    (h : ∀ A' c' w', Below w.heap.size w w' → w'.ownsRow w.heap.size 36 2 (.slice A' n c') n (updC l) → R (.returned (.slice A' n c')) w') :
    Calls Tryz.prog 80 #[.slice A n c] w R := by
  have H := Lib.hid h
  have HR := Lib.hid hR
  have HA := Lib.hid hA
  have Hl := Lib.hid hl
  clear h hR hA hl
  have hq := fun W => nilU W A n c
  rcases A with _ | a
  · have h0 := HA.out rfl
    subst h0
    obtain rfl : l = [] := List.eq_nil_of_length_eq_zero Hl.out
    go_enter Tryz.func80, Tryz.ntmps80
    go_wp2_with fail
    exact H.out none 0 _ (Below.refl _ _) ⟨by simp [updC], .inl ⟨rfl, rfl⟩⟩
  · go_enter Tryz.func80, Tryz.ntmps80
    have hown0 := own_empty w 36 2
    have Hown0 := Lib.hid hown0
    have Hb0 : Hid (Below w.heap.size w (w.alloc (.cells #[] 36))) := Lib.hid ((Below.refl _ _).alloc (Nat.le_refl _) _)
    clear hown0
    go_wp2_with (at_builtin; (refine app_rdN w.heap.size rfl _ _ 97 36 (.agg #[.int .i64 0, .int .i64 0]) 2 16 rfl Tryz.underlying97 infoUpd (by kernel_rfl) (by decide) (by decide) _ 0 [] _ _ _ (updC l) rfl rfl (updC_one l) (by exact Hown0.out) (by exact HR.out.below Hb0.out) (fun e => by cases e) (by simp) (by omega) ?_); intro v1 w1 hown1 hg1 hgb; obtain ⟨A', c', rfl, hown2, hB2⟩ := own_new Hb0.out hown1 hg1 hgb; clear hown1 hg1 hgb)
    all_goals exact H.out A' c' _ hB2 hown2
end Go.Proofs.YtdmcponfodohaaaGreatDoor
