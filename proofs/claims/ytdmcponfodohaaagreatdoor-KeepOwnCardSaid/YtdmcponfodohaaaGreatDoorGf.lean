/-
  Several texts in one: DkA, DkB, DkC; each says at its head what it holds.
-/
import Derived.Test.YtdmcponfodohaaaGreatDoorGd
import Derived.Test.YtdmcponfodohaaaGreatDoorGc
import Derived.Outline
import Derived.Deep.RegionWith
/-
  The disk: files as a list of paths and bytes; what is read of it.
-/
namespace Go.Proofs.YtdmcponfodohaaaGreatDoor
open Go.RowKit Go.Shelf Go.ChangeMaps Go.MapKept
set_option maxRecDepth 100000

/-- Cells in a block of known element type. -/
def Hard (w : World) (T : TypeId) (A : Option Addr) (vs : List Value) : Prop := 0 < vs.length → ∃ g o cs, A = some ⟨g, o, none⟩ ∧ w.heap[g]? = some (.cells cs T) ∧ ∀ j u, vs[j]? = some u → cs[o + j]? = some u
/-- No block of S holds elements of type T. -/
def NoT (w : World) (T : TypeId) (S : List Nat) : Prop := ∀ s ∈ S, ∀ cs, w.heap[s]? ≠ some (.cells cs T)
theorem NoT.nil (w : World) (T : TypeId) : NoT w T [] := fun s hs => by cases hs
theorem NoT.one {w : World} {T : TypeId} {s : Nat} {o : Obj} (h : w.heap[s]? = some o) (ho : ∀ cs, o ≠ .cells cs T) : NoT w T [s] := fun k hk cs e => by
  simp at hk
  subst hk
  rw [h] at e
  injection e with e
  exact ho cs e
theorem NoT.cons {w : World} {T : TypeId} {s : Nat} {S : List Nat} {o : Obj} (h : w.heap[s]? = some o) (ho : ∀ cs, o ≠ .cells cs T) (hS : NoT w T S) : NoT w T (s :: S) := fun k hk cs => by
  rcases List.mem_cons.1 hk with rfl | hk
  · exact NoT.one h ho k (by simp) cs
  · exact hS k hk cs
theorem Hard.kept {w w' : World} {T : TypeId} {A : Option Addr} {vs : List Value} {S : List Nat} (h : Hard w T A vs) (hk : Kept S w w') (hS : NoT w T S) : Hard w' T A vs := fun h0 => by
  obtain ⟨g, o, cs, e, hg, hc⟩ := h h0
  exact ⟨g, o, cs, e, (hk.block g (Array.getElem?_eq_some_iff.1 hg).1 (fun hs => hS g hs cs hg)).trans hg, hc⟩
theorem Hard.below {w w' : World} {T : TypeId} {A : Option Addr} {vs : List Value} (h : Hard w T A vs) (hb : Below w.heap.size w w') : Hard w' T A vs := h.kept (Kept.of_below (S := []) hb) (NoT.nil _ _)
theorem Hard.rd {w : World} {T : TypeId} {A : Option Addr} {vs : List Value} {n : Nat} (h : Hard w T A vs) (hn : vs.length = n) : Rd w A n vs :=
  ⟨hn, fun h0 => by
    obtain ⟨g, o, cs, e, hg, hc⟩ := h (by omega)
    exact ⟨g, o, e, (Array.getElem?_eq_some_iff.1 hg).1, fun j u hu => by rw [cell_of_row w g _ _ _ _ hg]; exact hc j u hu⟩⟩
theorem hard_own {w : World} {base n : Nat} {T : TypeId} {size : Nat} {v : Value} {xs : List Value} (h : w.ownsRow base T size v n xs) : ∃ A c, v = .slice A n c ∧ Hard w T A xs ∧ n ≤ c := by
  rcases h.2 with ⟨rfl, rfl⟩ | ⟨g, cap, cur, rfl, hb, hh, hnc, _, _, ht⟩
  · have h0 := h.1
    exact ⟨none, 0, rfl, fun hl => by omega, Nat.le_refl _⟩
  · refine ⟨_, cap, rfl, fun _ => ⟨g, 0, cur, rfl, hh, fun j u hu => ?_⟩, hnc⟩
    rw [← ht] at hu
    have hj := (List.getElem?_eq_some_iff.1 hu).1
    rw [List.length_take] at hj
    rw [List.getElem?_take_of_lt (by omega)] at hu
    rw [Nat.zero_add, ← Array.getElem?_toList]
    exact hu
theorem hard_new (w : World) (vs : Array Value) (T : TypeId) {l : List Value} (hl : l = vs.toList) : Hard (w.alloc (.cells vs T)) T (some ⟨w.heap.size, 0, none⟩) l := by
  subst hl
  exact fun _ => ⟨w.heap.size, 0, vs, rfl, heap_alloc_new w _, fun j u hu => by rw [Nat.zero_add]; simpa using hu⟩
theorem Hard.take_ {w : World} {T : TypeId} {A : Option Addr} {vs : List Value} (h : Hard w T A vs) (k : Nat) : Hard w T A (vs.take k) := fun h0 => by
  obtain ⟨g, o, cs, e, hg, hc⟩ := h (by rw [List.length_take] at h0; omega)
  refine ⟨g, o, cs, e, hg, fun j u hu => hc j u ?_⟩
  have := (List.getElem?_eq_some_iff.1 hu).1
  rw [List.length_take] at this
  rwa [List.getElem?_take_of_lt (by omega)] at hu

/-- A file, and where its bytes lie. -/
structure FV where
  A : Option Addr
  n : Nat
  c : Nat
  b : List Int
  sy : Int
  fi : Bool
def FV.v (f : FV) : Value := .agg #[.slice f.A f.n f.c, .int .i64 f.sy, .bool f.fi]
structure FV.ok (w : World) (f : FV) : Prop where
  len : f.b.length = f.n
  cap : f.n ≤ f.c
  hard : Hard w 5 f.A (u8s f.b)
theorem FV.ok.rd {w : World} {f : FV} (h : f.ok w) : Rd w f.A f.n (u8s f.b) := h.hard.rd (by rw [u8s_length]; exact h.len)
theorem FV.ok.kept {w w' : World} {f : FV} {S : List Nat} (h : f.ok w) (hk : Kept S w w') (hS : NoT w 5 S) : f.ok w' := ⟨h.len, h.cap, h.hard.kept hk hS⟩
def usedL (l : List (ByteArray × FV)) : Nat := (l.map fun p => p.2.n).sum
abbrev okS : ByteArray → Prop := fun s => s.size ≤ maxLen
/-- The disk in block d, its files in the map of block mb. -/
structure DiskAt (w : World) (d mb : Nat) (q : Int) (l : List (ByteArray × FV)) : Prop where
  blk : w.heap[d]? = some (.cells #[.map (some mb), .int .i64 q, .bool false, .bool false, .int .i64 0] 92)
  map : MapAt w mb Value.string FV.v okS l
  files : ∀ p ∈ l, p.2.ok w
  quota : 0 ≤ q ∧ q ≤ 65536
  used : (usedL l : Int) ≤ q
theorem DiskAt.noT {w : World} {d mb : Nat} {q : Int} {l : List (ByteArray × FV)} (h : DiskAt w d mb q l) (T : TypeId) : NoT w T [mb] := by
  obtain ⟨es, c, hb, _⟩ := h.map
  exact NoT.one hb (fun cs e => by cases e)
theorem DiskAt.ne {w : World} {d mb : Nat} {q : Int} {l : List (ByteArray × FV)} (h : DiskAt w d mb q l) : d ≠ mb := fun e => by
  obtain ⟨es, c, hb, _⟩ := h.map
  have := h.blk
  rw [e, hb] at this
  cases this
theorem DiskAt.lt {w : World} {d mb : Nat} {q : Int} {l : List (ByteArray × FV)} (h : DiskAt w d mb q l) : d < w.heap.size ∧ mb < w.heap.size := ⟨(Array.getElem?_eq_some_iff.1 h.blk).1, h.map.lt⟩
theorem DiskAt.kept {w w' : World} {d mb : Nat} {q : Int} {l : List (ByteArray × FV)} {S : List Nat} (h : DiskAt w d mb q l) (hk : Kept S w w') (hd : d ∉ S) (hm : mb ∉ S) (hS : NoT w 5 S) : DiskAt w' d mb q l :=
  ⟨(hk.block d h.lt.1 hd).trans h.blk, h.map.same (hk.block mb h.lt.2 hm), fun p hp => (h.files p hp).kept hk hS, h.quota, h.used⟩
theorem DiskAt.below {w w' : World} {d mb : Nat} {q : Int} {l : List (ByteArray × FV)} (h : DiskAt w d mb q l) (hb : Below w.heap.size w w') : DiskAt w' d mb q l := h.kept (Kept.of_below (S := []) hb) (by simp) (by simp) (NoT.nil _ _)
theorem DiskAt.drew {w : World} {d mb : Nat} {q : Int} {l : List (ByteArray × FV)} (h : DiskAt w d mb q l) : DiskAt w.drew d mb q l := h.below (Below.refl _ _).drew
theorem DiskAt.cells {w : World} {d mb : Nat} {q : Int} {l : List (ByteArray × FV)} (h : DiskAt w d mb q l) : w.cell? ⟨d, 0, none⟩ = some (.map (some mb)) ∧ w.cell? ⟨d, 1, none⟩ = some (.int .i64 q) ∧ w.cell? ⟨d, 2, none⟩ = some (.bool false) ∧ w.cell? ⟨d, 3, none⟩ = some (.bool false) := by
  refine ⟨?_, ?_, ?_, ?_⟩
  all_goals rw [cell_of_row w d _ _ _ _ h.blk]; rfl

theorem build_disk (w : World) (mb : Nat) (q : Int) : (Instr.build 92 #[(0, .map (some mb)), (1, .int .i64 q)]).run Tryz.prog w = .ok (.agg #[.map (some mb), .int .i64 q, .bool false, .bool false, .int .i64 0]) w := by kernel_rfl
theorem diskNew_c (q : Int) (h0 : 0 ≤ q) (h1 : q ≤ 65536) (w : World) (R : Ending → World → Prop)
    (h : ∀ d mb w', Below w.heap.size w w' → w.heap.size ≤ d → w.heap.size ≤ mb → DiskAt w' d mb q [] → R (.returned (.pointer (some ⟨d, 0, none⟩))) w') :
    Calls Tryz.prog 38 #[.int .i64 q] w R := by
  have hmm := @run_makeMap Tryz.prog
  have H := Lib.hid h
  clear h
  go_enter Tryz.func38, Tryz.ntmps38
  go_wp2_with fail
  have e : min (max 0 q) 65536 = q := by omega
  have hb : Below w.heap.size w ((w.alloc (.map #[] 0)).alloc (.cells #[.map (some w.heap.size), .int .i64 q, .bool false, .bool false, .int .i64 0] 92)) := ((Below.refl _ _).alloc (Nat.le_refl _) _).alloc (by simp) _
  rw [e]
  refine H.out (w.heap.size + 1) w.heap.size _ hb (by omega) (by omega) ⟨heap_alloc2_new w _ _, (MapAt.new w _ _ _).same (heap_alloc_old _ _ (by simp)), (fun p hp => absurd hp List.not_mem_nil), ⟨h0, h1⟩, by simpa [usedL] using h0⟩
end Go.Proofs.YtdmcponfodohaaaGreatDoor
/-
  The disk: how many bytes are used, how many there may be; slices.Contains at strings; what stands against an act.
-/
namespace Go.Proofs.YtdmcponfodohaaaGreatDoor
open Go.RowKit Go.Shelf Go.ChangeMaps Go.MapKept
set_option maxRecDepth 100000

def cellLen (v : Value) : Nat := match v with | .slice _ n _ => n | _ => 0
def lenV (v : Value) : Nat := match v with | .agg cs => cellLen (cs.getD 0 (.bool false)) | _ => 0
theorem lenV_v (f : FV) : lenV f.v = f.n := rfl
/-- What is left to be counted. -/
def leftSum (es : List MapEntry) (seen : Array Nat) : Nat := ((es.filter fun x => !seen.contains x.born).map fun x => lenV x.val).sum
theorem leftSum_none {es : List MapEntry} {seen : Array Nat} (h : ∀ x ∈ es, seen.contains x.born = true) : leftSum es seen = 0 := by
  unfold leftSum
  have : es.filter (fun x => !seen.contains x.born) = [] := by
    rw [List.filter_eq_nil_iff]
    intro x hx
    rw [h x hx]
    simp
  rw [this]
  rfl
theorem leftSum_start (es : List MapEntry) : leftSum es #[] = (es.map fun x => lenV x.val).sum := by
  unfold leftSum
  have : es.filter (fun x => !(#[] : Array Nat).contains x.born) = es := by
    rw [List.filter_eq_self]
    intro x _
    simp
  rw [this]
theorem leftSum_push : ∀ {es : List MapEntry} {seen : Array Nat} {e : MapEntry}, (es.map (·.born)).Nodup → e ∈ es → seen.contains e.born = false → leftSum es (seen.push e.born) + lenV e.val = leftSum es seen
  | [], _, _, _, h, _ => by cases h
  | x :: r, seen, e, hn, he, hs => by
    rw [List.map_cons, List.nodup_cons] at hn
    unfold leftSum
    rcases List.mem_cons.1 he with rfl | he'
    · have hr : r.filter (fun x => !(seen.push e.born).contains x.born) = r.filter (fun x => !seen.contains x.born) := by
        refine List.filter_congr (fun y hy => ?_)
        have hne : y.born ≠ e.born := fun e2 => hn.1 (by rw [← e2]; exact List.mem_map.2 ⟨y, hy, rfl⟩)
        rw [Array.contains_push]
        simp [hne]
      rw [List.filter_cons_of_neg (by rw [Array.contains_push]; simp), List.filter_cons_of_pos (by rw [hs]; rfl), hr, List.map_cons, List.sum_cons]
      omega
    · have hne : x.born ≠ e.born := fun e2 => hn.1 (by rw [e2]; exact List.mem_map.2 ⟨e, he', rfl⟩)
      have ih := leftSum_push (seen := seen) hn.2 he' hs
      unfold leftSum at ih
      have hx : (seen.push e.born).contains x.born = seen.contains x.born := by rw [Array.contains_push]; simp [hne]
      cases hc : seen.contains x.born with
      | true =>
        rw [List.filter_cons_of_neg (by rw [hx, hc]; simp), List.filter_cons_of_neg (by rw [hc]; simp)]
        exact ih
      | false =>
        rw [List.filter_cons_of_pos (by rw [hx, hc]; rfl), List.filter_cons_of_pos (by rw [hc]; rfl), List.map_cons, List.sum_cons, List.map_cons, List.sum_cons]
        omega
theorem leftSum_le (es : List MapEntry) (seen : Array Nat) : leftSum es seen ≤ (es.map fun x => lenV x.val).sum := by
  unfold leftSum
  induction es with
  | nil => simp
  | cons x r ih =>
    rw [List.map_cons, List.sum_cons]
    rw [List.filter_cons]
    split
    · rw [List.map_cons, List.sum_cons]; omega
    · omega
theorem sum_used {es : List MapEntry} {l : List (ByteArray × FV)} (h : es.map (fun e => (e.key, e.val)) = l.map (fun p => (Value.string p.1, FV.v p.2))) : (es.map fun x => lenV x.val).sum = usedL l := by
  have h2 := congrArg (List.map fun x : Value × Value => lenV x.2) h
  rw [List.map_map, List.map_map] at h2
  unfold usedL
  exact congrArg List.sum h2

theorem used_c (d mb : Nat) (q : Int) (l : List (ByteArray × FV)) (w : World) (hD : DiskAt w d mb q l) (R : Ending → World → Prop)
    (h : ∀ w', Below w.heap.size w w' → R (.returned (.int .i64 (usedL l))) w') : Calls Tryz.prog 35 #[.pointer (some ⟨d, 0, none⟩)] w R := by
  have H := Lib.hid h
  have HD := Lib.hid hD
  obtain ⟨c0, c1, c2, c3⟩ := hD.cells
  obtain ⟨es, clk, hM, hborn, hnd, hes, hn, hok⟩ := hD.map
  have hlt := hD.lt
  have hq := hD.quota
  have hu := hD.used
  have hsum := sum_used hes
  have HM := Lib.hid hM
  have Hborn := Lib.hid hborn
  have Hnd := Lib.hid hnd
  have Hes := Lib.hid hes
  have Hsum := Lib.hid hsum
  have hul : usedL l ≤ 65536 := by omega
  have hrg := run_range_map (P := Tryz.prog) w 90 9 89 mb es clk Tryz.underlying90 hM
  clear h hD hes hborn hnd hn hok hsum hq hu
  go_enter Tryz.func35, Tryz.ntmps35
  go_wp2_with fail
  clear hrg
  go_loopw [3] (fun i wr => Below w.heap.size w wr ∧ ∃ seen c0 s, wr.heap[w.heap.size]? = some (.mapIter (some mb) clk seen c0) ∧ clk ≤ c0 ∧ i = .int .i64 (s : Nat) ∧ Hid (s + leftSum es.toList seen = usedL l)) (fun _ wr => wr.rangeLeft mb w.heap.size)
  case atStart => exact ⟨(Below.refl _ _).alloc (Nat.le_refl _) _, #[], clk, 0, heap_alloc_new w _, Nat.le_refl _, rfl, Lib.hid (by rw [leftSum_start, Hsum.out]; omega)⟩
  case round =>
    obtain ⟨hB, seen, c0, s, hIt, hc0, rfl, Hs⟩ := hrel
    have hMr : wr.heap[mb]? = some (.map es clk) := (hB.block _ hlt.2).trans HM.out
    have hsl : s ≤ 65536 := by have := Hs.out; omega
    go_wp2_with (at_next; (refine wpList_next_raw _ rfl _ rfl w.heap.size mb clk c0 seen es clk rfl hIt hMr Hborn.out hc0 Hnd.out ?_ ?_))
    · intro hd
      have hz := leftSum_none (all_seen' es seen hd.none)
      have e : s = usedL l := by have := Hs.out; rw [hz] at this; omega
      have HB := Lib.hid (H.out wr hB)
      clear hd hz hMr hIt hB
      go_wp2_with fail
      rw [e]
      exact HB.out
    · intro e w1 hn
      obtain ⟨i, hi⟩ := List.getElem?_of_mem hn.mem
      obtain ⟨p, hp, hpk, hpv⟩ := pairs_at Hes.out hi
      have hlen : lenV e.val = p.2.n := by rw [hpv]; rfl
      have hpush := leftSum_push Hnd.out hn.mem hn.fresh
      have hent := hn.entry
      rw [hpk, hpv] at hent
      have hpn : p.2.n ≤ 65536 := by have h1 := leftSum_le es.toList seen; have h2 := Hsum.out; omega
      have hBn : Below w.heap.size w w1 := hB.grown hn.grown hB.size (fun g hg => by injection hg with hg; omega)
      have Hn := Lib.hid hn
      have Hpush := Lib.hid hpush
      have Hlen := Lib.hid hlen
      have HBn := Lib.hid hBn
      have HMr := Lib.hid hMr
      have HIt := Lib.hid hIt
      obtain ⟨pk, ⟨A, n, c, b, sy, fi⟩⟩ := p
      rw [hpk, hpv]
      unfold FV.v at hent ⊢
      simp only at hent hpn ⊢
      clear hn hpush hlen hBn hMr hIt hB hi hp hpk hpv
      go_wp2_with fail
      have hBa : Below w1.heap.size w1 (w1.alloc (.cells #[.slice A n c, .int .i64 sy, .bool fi] 89)) := (Below.refl _ _).alloc (Nat.le_refl _) _
      have hrl : w.heap.size < wr.heap.size := (Array.getElem?_eq_some_iff.1 HIt.out).1
      have hs2 := Hn.out.size
      have hI4 := (hBa.block w.heap.size (by omega)).trans Hn.out.iter
      have hM4 := (hBa.block mb (by have := (Array.getElem?_eq_some_iff.1 HMr.out).1; omega)).trans Hn.out.map
      refine ⟨⟨HBn.out.trans (hBa.mono HBn.out.size), seen.push e.born, clk, s + n, hI4, Nat.le_refl _, by go_num, Lib.hid ?_⟩, ?_⟩
      · have h1 := Hpush.out
        have h2 := Hs.out
        have h3 := Hlen.out
        simp only at h3
        omega
      · simp only [World.rangeLeft, hI4, hM4, HIt.out, HMr.out]
        exact Hn.out.less

set_option maxHeartbeats 1000000 in
theorem room_c (d mb : Nat) (q : Int) (l : List (ByteArray × FV)) (w : World) (hD : DiskAt w d mb q l) (R : Ending → World → Prop)
    (h : ∀ w', Below w.heap.size w w' → R (.returned (.int .i64 (q - usedL l))) w') : Calls Tryz.prog 50 #[.pointer (some ⟨d, 0, none⟩)] w R := by
  have H := Lib.hid h
  have HD := Lib.hid hD
  obtain ⟨c0, c1, c2, c3⟩ := hD.drew.cells
  have hlt := hD.lt
  have hq := hD.quota
  have hu := hD.used
  have hw : IntKind.i64.wrap (q - (usedL l : Int)) = q - (usedL l : Int) := Go.IntWalk.i64_in _ (by omega)
  clear h hD hq hu
  go_enter Tryz.func50, Tryz.ntmps50
  go_wp2_with fail
  go_region_with (first
    | (go_at_call 35; refine used_c d mb q l _ HD.out.drew _ (fun w1 hB1 => ?_); have HB1 : Hid (Below w.heap.size w w1) := Lib.hid ((Below.refl _ w).drew.trans hB1); have d1 : w1.cell? ⟨d, 1, none⟩ = some (.int .i64 q) := (hB1.cell (p := ⟨d, 1, none⟩) hlt.1).trans c1; clear hB1))
  all_goals
    go_wp2_with fail
    go_ret
    exact H.out _ HB1.out

/-- Where a text is in a list of them. -/
def strIdx (t : ByteArray) (l : List ByteArray) : Int := match l.findIdx? (fun s => s.toList == t.toList) with | some i => i | none => -1
theorem strIdx_at {t : ByteArray} {l : List ByteArray} {k : Nat} {x : ByteArray} (hx : l[k]? = some x) (hp : (x.toList == t.toList) = true) (hno : ∀ (j : Nat) (y : ByteArray), j < k → l[j]? = some y → (y.toList == t.toList) = false) : strIdx t l = k := by
  have h1 := List.getElem?_eq_some_iff.1 hx
  have : l.findIdx? (fun s => s.toList == t.toList) = some k := by
    rw [List.findIdx?_eq_some_iff_getElem]
    refine ⟨h1.1, by rw [h1.2]; exact hp, fun j hj => ?_⟩
    have := hno j _ hj (List.getElem?_eq_getElem (by have := h1.1; omega))
    rw [this]
    simp
  unfold strIdx
  rw [this]
theorem strIdx_none {t : ByteArray} {l : List ByteArray} (h : ∀ y ∈ l, (y.toList == t.toList) = false) : strIdx t l = -1 := by
  have : l.findIdx? (fun s => s.toList == t.toList) = none := by
    rw [List.findIdx?_eq_none_iff]
    intro x hx
    rw [h x hx]
  unfold strIdx
  rw [this]
theorem strIdx_c (A : Option Addr) (n c : Nat) (ss : List ByteArray) (t : ByteArray) (w : World) (hS : StrsAt w A n ss) (hn : n ≤ 1000000) (R : Ending → World → Prop)
    (h : R (.returned (.int .i64 (strIdx t ss))) w) : Calls Tryz.prog 114 #[.slice A n c, .string t] w R := by
  have H := Lib.hid h
  have HS := Lib.hid hS
  clear h hS
  go_enter Tryz.func114, Tryz.ntmps114
  go_wp2_with fail
  go_loop [8] (fun i => ∃ k : Nat, k ≤ n ∧ i = .int .i64 k ∧ Hid (∀ (j : Nat) (y : ByteArray), j < k → ss[j]? = some y → (y.toList == t.toList) = false)) (fun i => n - (RowKit.intOf i).toNat)
  case atStart => exact ⟨0, by omega, rfl, Lib.hid (fun j y hj => by omega)⟩
  case round =>
    obtain ⟨k, hk, rfl, Hno⟩ := hrel
    by_cases hc : k < n
    · obtain ⟨b, o, s, rfl, hs, hb, hcell⟩ := HS.out.at_ hc
      have t1 : decide (k < n) = true := by simp [hc]
      have hcI : (k : Int) < (n : Int) := by omega
      have Hs := Lib.hid hs
      have Hc := Lib.hid hc
      have hcomm : (t.toList == s.toList) = (s.toList == t.toList) := by rw [Bool.beq_comm]
      clear hs hc
      cases hb1 : (s.toList == t.toList) with
      | true =>
        rw [hb1] at hcomm
        have hi := strIdx_at Hs.out hb1 Hno.out
        rw [hi] at H
        clear hb1 hi
        go_wp2_with fail
        exact H.out
      | false =>
        rw [hb1] at hcomm
        have hno2 : ∀ (j : Nat) (y : ByteArray), j < k + 1 → ss[j]? = some y → (y.toList == t.toList) = false := fun j y hj hy => by
          by_cases e : j < k
          · exact Hno.out j y e hy
          · have : j = k := by omega
            subst this
            rw [Hs.out] at hy
            injection hy with hy
            rw [← hy]
            exact hb1
        have Hno2 := Lib.hid hno2
        clear hb1 hno2
        go_wp2_with fail
        exact ⟨⟨k + 1, by have := Hc.out; omega, by go_num, Hno2.out⟩, by have := Hc.out; simp [RowKit.intOf]; omega⟩
    · have hk' : k = n := by omega
      have t1 : decide (k < n) = false := by simp [hc]
      have hi : strIdx t ss = -1 := strIdx_none (fun y hy => by
        obtain ⟨j, hj⟩ := List.getElem?_of_mem hy
        exact Hno.out j y (by have := (List.getElem?_eq_some_iff.1 hj).1; have := HS.out.1; omega) hj)
      rw [hi] at H
      clear hi hk' hc
      go_wp2_with fail
      exact H.out
theorem contains_c (A : Option Addr) (n c : Nat) (ss : List ByteArray) (t : ByteArray) (w : World) (hS : StrsAt w A n ss) (hn : n ≤ 1000000) (hno : ∀ y ∈ ss, (y.toList == t.toList) = false) (R : Ending → World → Prop)
    (h : R (.returned (.bool false)) w) : Calls Tryz.prog 86 #[.slice A n c, .string t] w R := by
  have H := Lib.hid h
  clear h
  have HS := Lib.hid hS
  have Hno := Lib.hid hno
  clear hS hno
  go_enter Tryz.func86, Tryz.ntmps86
  go_wp2_with fail
  refine strIdx_c A n c ss t w HS.out hn _ ?_
  rw [strIdx_none Hno.out]
  go_wp2_with fail
  exact H.out
theorem contains1_c (A : Option Addr) (n c : Nat) (ss : List ByteArray) (t : ByteArray) (w : World) (hS : StrsAt w A n ss) (hn : n ≤ 1000000) (k : Nat) (hk : strIdx t ss = k) (R : Ending → World → Prop)
    (h : R (.returned (.bool true)) w) : Calls Tryz.prog 86 #[.slice A n c, .string t] w R := by
  have H := Lib.hid h
  clear h
  have HS := Lib.hid hS
  have Hk := Lib.hid hk
  clear hS hk
  go_enter Tryz.func86, Tryz.ntmps86
  go_wp2_with fail
  refine strIdx_c A n c ss t w HS.out hn _ ?_
  rw [Hk.out]
  go_wp2_with fail
  exact H.out
end Go.Proofs.YtdmcponfodohaaaGreatDoor
/-
  The disk: acts that go well, on a disk that does not die: may, there, step, Read, Append.
-/
namespace Go.Proofs.YtdmcponfodohaaaGreatDoor
open Go.RowKit Go.Shelf Go.ChangeMaps Go.MapKept
set_option maxRecDepth 100000

def full (p : ByteArray) : Prop := (p.toList == (⟨#[]⟩ : ByteArray).toList) = false
theorem strs_new (w : World) (l : List ByteArray) {n : Nat} (hn : l.length = n) : StrsAt (w.alloc (.cells (l.map Value.string).toArray 9)) (some ⟨w.heap.size, 0, none⟩) n l :=
  ⟨hn, fun _ => ⟨w.heap.size, 0, rfl, by simp, fun j s hs => by rw [cell_of_row _ _ _ _ _ _ (heap_alloc_new w _), Nat.zero_add]; simp [hs]⟩⟩

theorem may_c (d mb : Nat) (q : Int) (l : List (ByteArray × FV)) (A : Option Addr) (n c : Nat) (ps : List ByteArray) (w : World) (hD : DiskAt w d mb q l) (hS : StrsAt w A n ps) (hn : n ≤ 1000000) (hp : ∀ p ∈ ps, full p) (R : Ending → World → Prop)
    (h : R (.returned (.int .i64 0)) w) : Calls Tryz.prog 49 #[.pointer (some ⟨d, 0, none⟩), .slice A n c] w R := by
  have H := Lib.hid h
  obtain ⟨c0, c1, c2, c3⟩ := hD.cells
  have hlt := hD.lt
  have HS := Lib.hid hS
  have Hp := Lib.hid hp
  clear h hD hS hp
  go_enter Tryz.func49, Tryz.ntmps49
  go_wp2_with fail
  refine contains_c A n c ps ⟨#[]⟩ w HS.out hn Hp.out _ ?_
  go_wp2_with fail
  exact H.out

theorem step_c (d mb : Nat) (q : Int) (l : List (ByteArray × FV)) (w : World) (hD : DiskAt w d mb q l) (R : Ending → World → Prop)
    (h : R (.returned (.int .i64 0)) w) : Calls Tryz.prog 51 #[.pointer (some ⟨d, 0, none⟩)] w R := by
  have H := Lib.hid h
  obtain ⟨c0, c1, c2, c3⟩ := hD.cells
  have hlt := hD.lt
  clear h hD
  go_enter Tryz.func51, Tryz.ntmps51
  go_wp2_with fail
  exact H.out

theorem zeroFile (w : World) : (zeroValue 89).run Tryz.prog w = .ok (.agg #[.slice none 0 0, .int .i64 0, .bool false]) w := by kernel_rfl
/-- What a path's file is: none: as an empty one. -/
def noFile : FV := ⟨none, 0, 0, [], 0, false⟩
def fileOf (l : List (ByteArray × FV)) (p : ByteArray) : FV := (mget l p).getD noFile
theorem fileOf_ok {w : World} {d mb : Nat} {q : Int} {l : List (ByteArray × FV)} (hD : DiskAt w d mb q l) (p : ByteArray) : (fileOf l p).ok w := by
  unfold fileOf
  cases hm : mget l p with
  | none => exact ⟨rfl, Nat.le_refl _, fun h => by cases h⟩
  | some f => exact hD.files _ (mget_some hm)
theorem look {w : World} {d mb : Nat} {q : Int} {l : List (ByteArray × FV)} (hD : DiskAt w d mb q l) {p : ByteArray} (hp : p.size ≤ maxLen) : (Instr.lookup 90 (.map (some mb)) (.string p) false).run Tryz.prog w = .ok (fileOf l p).v w := by
  unfold fileOf
  cases hm : mget l p with
  | none => exact (hD.map.lookup_none keyString Tryz.underlying90 hp hm (zeroFile w) false)
  | some f => exact (hD.map.lookup_some keyString Tryz.underlying90 hp hm false)
theorem look2 {w : World} {d mb : Nat} {q : Int} {l : List (ByteArray × FV)} (hD : DiskAt w d mb q l) {p : ByteArray} (hp : p.size ≤ maxLen) : (Instr.lookup 90 (.map (some mb)) (.string p) true).run Tryz.prog w = .ok (.tuple #[(fileOf l p).v, .bool (mget l p).isSome]) w := by
  unfold fileOf
  cases hm : mget l p with
  | none => exact (hD.map.lookup_none keyString Tryz.underlying90 hp hm (zeroFile w) true)
  | some f => exact (hD.map.lookup_some keyString Tryz.underlying90 hp hm true)

theorem used_ge : ∀ {l : List (ByteArray × FV)} {p : ByteArray × FV}, p ∈ l → p.2.n ≤ usedL l
  | [], _, h => by cases h
  | x :: r, p, h => by
    unfold usedL
    rw [List.map_cons, List.sum_cons]
    rcases List.mem_cons.1 h with rfl | h
    · omega
    · have := used_ge h
      unfold usedL at this
      omega
theorem thereD_c (d mb : Nat) (q : Int) (l : List (ByteArray × FV)) (p : ByteArray) (w : World) (hD : DiskAt w d mb q l) (hp : full p) (hps : p.size ≤ maxLen) (hin : (mget l p).isSome = true) (R : Ending → World → Prop)
    (h : ∀ w', Below w.heap.size w w' → R (.returned (.int .i64 0)) w') : Calls Tryz.prog 52 #[.pointer (some ⟨d, 0, none⟩), .string p] w R := by
  have H := Lib.hid h
  have hB1 : Below w.heap.size w (w.alloc (.cells #[.string p] 9)) := (Below.refl _ _).alloc (Nat.le_refl _) _
  have hD1 := hD.below hB1
  obtain ⟨c0, c1, c2, c3⟩ := hD1.cells
  have hlt := hD.lt
  have hlk := look2 hD1 hps
  rw [hin] at hlk
  obtain ⟨f, hf⟩ : ∃ f, f = fileOf l p := ⟨_, rfl⟩
  rw [← hf] at hlk
  have HD := Lib.hid hD1
  have HB1 := Lib.hid hB1
  clear h hD hD1 hin hf hB1
  unfold FV.v at hlk
  go_enter Tryz.func52, Tryz.ntmps52
  go_wp2_with fail
  refine may_c d mb q l _ 1 1 [p] _ HD.out (strs_new w [p] rfl) (by omega) (fun x hx => by simp at hx; rw [hx]; exact hp) _ ?_
  go_wp2_with fail
  exact H.out _ (HB1.out.alloc HB1.out.size _)

theorem clone_c (A : Option Addr) (n c : Nat) (b : List Int) (w : World) (hR : Rd w A n (u8s b)) (hn : n ≤ 1000000000) (R : Ending → World → Prop)
    (h : ∀ A' c' w', Below w.heap.size w w' → Hard w' 5 A' (u8s b) → n ≤ c' → R (.returned (.slice A' n c')) w') : Calls Tryz.prog 58 #[.slice A n c] w R := by
  have hl : b.length = n := by have := hR.1; rwa [u8s_length] at this
  rcases A with _ | a
  · have h0 : n = 0 := by
      rcases Nat.eq_zero_or_pos n with h | h
      · exact h
      · obtain ⟨g, o, e, _⟩ := hR.2 h
        cases e
    subst h0
    refine (Tryz.bytes_Clone_nil 0 c w).mono ?_
    rintro e w' ⟨rfl, rfl⟩
    exact h none 0 _ (Below.refl _ _) (fun hh => by rw [u8s_length] at hh; omega) (Nat.le_refl _)
  · refine (Tryz.bytes_Clone_at a n c b w hl (by omega) (fun i hi => ?_)).mono ?_
    · obtain ⟨g, o, e, hg, hc⟩ := hR.2 (by omega)
      injection e with e
      subst e
      have hi' : i < b.length := by omega
      rw [Addr.add_lit, hc i (.int .u8 b[i]) (by unfold u8s; rw [List.getElem?_map, List.getElem?_eq_getElem hi']; rfl)]
      simp [List.getD_eq_getElem?_getD, List.getElem?_eq_getElem hi']
    · rintro e w' ⟨v, rfl, hown, _, hb⟩
      obtain ⟨A', c', rfl, hh, hc⟩ := hard_own hown
      exact h A' c' w' hb hh hc

theorem read_c (d mb : Nat) (q : Int) (l : List (ByteArray × FV)) (p : ByteArray) (w : World) (hD : DiskAt w d mb q l) (hps : p.size ≤ maxLen) (R : Ending → World → Prop)
    (h : ∀ A' c' w', Below w.heap.size w w' → Hard w' 5 A' (u8s (fileOf l p).b) → (fileOf l p).n ≤ c' → R (.returned (.tuple #[.slice A' (fileOf l p).n c', .bool (mget l p).isSome])) w') :
    Calls Tryz.prog 16 #[.pointer (some ⟨d, 0, none⟩), .string p] w R := by
  have H := Lib.hid h
  obtain ⟨c0, c1, c2, c3⟩ := hD.cells
  have hlt := hD.lt
  have hlk := look2 hD hps
  have hfo := fileOf_ok hD p
  have hfn : (fileOf l p).n ≤ 65536 := by
    have hq := hD.quota
    have hu := hD.used
    unfold fileOf
    cases hm : mget l p with
    | none => simp [noFile]
    | some f =>
      have := mget_some hm
      have : f.n ≤ usedL l := used_ge this
      simp only [Option.getD_some]
      omega
  obtain ⟨f, hf⟩ : ∃ f, f = fileOf l p := ⟨_, rfl⟩
  obtain ⟨is, his⟩ : ∃ is, is = (mget l p).isSome := ⟨_, rfl⟩
  rw [← hf] at hlk hfo hfn H
  rw [← his] at hlk H
  have Hfo := Lib.hid hfo
  clear h hD hf his hfo
  unfold FV.v at hlk
  have hB1 : Below w.heap.size w (w.alloc (.cells #[.slice f.A f.n f.c, .int .i64 f.sy, .bool f.fi] 89)) := (Below.refl _ _).alloc (Nat.le_refl _) _
  have HB1 := Lib.hid hB1
  clear hB1
  go_enter Tryz.func16, Tryz.ntmps16
  go_wp2_with fail
  refine clone_c f.A f.n f.c f.b _ (Hfo.out.rd.below HB1.out) (by omega) _ (fun A' c' w' hb hh hc => ?_)
  have HH := Lib.hid (H.out A' c' w' (HB1.out.trans (hb.mono (by simp))) hh hc)
  clear hb hh hc
  go_wp2_with fail
  exact HH.out
end Go.Proofs.YtdmcponfodohaaaGreatDoor
