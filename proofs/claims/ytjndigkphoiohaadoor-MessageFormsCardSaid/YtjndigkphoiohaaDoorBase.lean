/-
  Plain lemmas for the seat's proofs: maps that a call makes out of a literal of int32 keys and pointers into one block; what 'range' and a look-up over such a map come to. No condition beyond those that each lemma names.
-/
import Derived.WalkKit
import Derived.Maps.RangeWalk
import Derived.Maps.OwnOps
import Derived.Carry
import Derived.Below
namespace Go.Proofs.YtjndigkphoiohaaDoor
open Go.RowKit Go.ChangeMaps Go.MapKept

section
variable (P : Program) (w : World) (a : Addr) (m : Mode)
@[go_sem] theorem run_store_complex (k : FloatKind) (x y : Nat) : (store a (.complex k x y) m).run P w = stored P w a (.complex k x y) m := run_store P w a _ m rfl
@[go_sem] theorem run_store_float (k : FloatKind) (x : Nat) : (store a (.float k x) m).run P w = stored P w a (.float k x) m := run_store P w a _ m rfl
@[go_sem] theorem run_store_map (r : Option Nat) : (store a (.map r) m).run P w = stored P w a (.map r) m := run_store P w a _ m rfl
end

/-- A key that no entry of a literal has. -/
def freshB (n : Int) (es : Array MapEntry) : Bool := es.toList.all fun x => match x.key with | .int .i32 j => decide (j ≠ n) && decide (0 ≤ j) && decide (j < 128) | _ => false

theorem wf_small {n : Int} (h0 : 0 ≤ n) (h1 : n < 128) : (Lit.int .i32 n).wf = true := WalkArith.wf_i32 (by omega)

theorem run_mapUpdate_fresh {P : Program} {t k e : TypeId} (ht : P.underlying t = some (.map k e)) (hk : P.underlying k = some (.int .i32)) (w : World) (es : Array MapEntry) (c : Nat) (n : Int) (v : Value)
    (h0 : 0 ≤ n) (h1 : n < 128) (hes : freshB n es = true) :
    (Instr.mapUpdate t (.map (some w.heap.size)) (.int .i32 n) v).run P (w.alloc (.map es c)).drew = .ok () (w.alloc (.map (es.push ⟨.int .i32 n, v, c⟩) (c + 1))).drew := by
  have K : Go.Maps.Keyed P k := Go.Maps.int_keyed hk
  have hkey := Go.Maps.keyOf_int_mk (P := P) (k := k) hk (wf_small h0 h1)
  have hb : (w.alloc (.map es c)).drew.heap[w.heap.size]? = some (.map es c) := heap_alloc_new w _
  have hall : ∀ x ∈ es.toList, ∃ j, x.key = .int .i32 j ∧ j ≠ n ∧ 0 ≤ j ∧ j < 128 := by
    intro x hx
    have := List.all_eq_true.1 hes x hx
    split at this
    · rename_i j hj
      simp only [Bool.and_eq_true, decide_eq_true_eq] at this
      exact ⟨j, hj, this.1.1, this.1.2, this.2⟩
    · cases this
  have hkeys : ∀ x ∈ es.toList, ∃ l, keyOf P k x.key = some l := by
    intro x hx
    obtain ⟨j, hj, _, h2, h3⟩ := hall x hx
    exact ⟨_, by rw [hj]; exact Go.Maps.keyOf_int_mk hk (wf_small h2 h3)⟩
  rcases K.find (w.alloc (.map es c)).drew hkey es.toList hkeys with ⟨hf, _⟩ | ⟨j, e0, _, hj, he⟩
  · simp only [Instr.mapUpdate, run_underlying ht, Sem.run_bind, Result.andThen, MapKept.run_getObj_map hb, K.check _ false hkey, hf, MapKept.run_setObj_map _ hb]
    congr 1
    simp only [World.alloc, World.drew]
    congr 1
    apply Array.ext'
    simp [Array.setIfInBounds, Array.toList_push]
  · obtain ⟨j', hj', hne, _⟩ := hall e0 (List.mem_of_getElem? hj)
    rw [he] at hj'
    injection hj' with _ hj'
    exact absurd hj'.symm hne

/-- The entries of a literal of keys and places in block b, in the order in which they were laid. -/
def fm (b : Nat) (l : List (Int × Nat)) : Array MapEntry := (l.zipIdx.map fun x => (⟨.int .i32 x.1.1, .pointer (some ⟨b, x.1.2, none⟩), x.2⟩ : MapEntry)).toArray
/-- .. in whatever order. -/
def IsFM (b : Nat) (l : List (Int × Nat)) (es : Array MapEntry) : Prop := ∃ l', l'.Perm l ∧ es = fm b l'

theorem fm_mem {b : Nat} {l : List (Int × Nat)} {x : MapEntry} (h : x ∈ (fm b l).toList) : ∃ k o, (k, o) ∈ l ∧ x.key = .int .i32 k ∧ x.val = .pointer (some ⟨b, o, none⟩) ∧ x.born < l.length := by
  simp only [fm, List.mem_map] at h
  obtain ⟨⟨⟨k, o⟩, i⟩, hi, rfl⟩ := h
  have := List.mem_zipIdx hi
  simp at this
  refine ⟨k, o, ?_, rfl, rfl, this.1⟩
  rw [this.2]
  exact List.getElem_mem _
theorem fm_has {b : Nat} {l : List (Int × Nat)} {k : Int} {o : Nat} (h : (k, o) ∈ l) : ∃ x ∈ (fm b l).toList, x.key = .int .i32 k ∧ x.val = .pointer (some ⟨b, o, none⟩) := by
  obtain ⟨i, hi, he⟩ := List.getElem_of_mem h
  refine ⟨⟨.int .i32 k, .pointer (some ⟨b, o, none⟩), i⟩, ?_, rfl, rfl⟩
  simp only [fm, List.mem_map]
  refine ⟨((k, o), i), ?_, rfl⟩
  rw [List.mk_mem_zipIdx_iff_getElem?]
  rw [List.getElem?_eq_getElem hi, he]
theorem fm_born {b : Nat} {l : List (Int × Nat)} : ((fm b l).toList.map (·.born)).Nodup := by
  simp only [fm, List.map_map]
  have : ((fun x : MapEntry => x.born) ∘ fun x : (Int × Nat) × Nat => (⟨.int .i32 x.1.1, .pointer (some ⟨b, x.1.2, none⟩), x.2⟩ : MapEntry)) = Prod.snd := rfl
  rw [this, List.zipIdx_map_snd]
  exact List.nodup_range'

theorem IsFM.mem {b : Nat} {l : List (Int × Nat)} {es : Array MapEntry} (h : IsFM b l es) {x : MapEntry} (hx : x ∈ es.toList) : ∃ k o, (k, o) ∈ l ∧ x.key = .int .i32 k ∧ x.val = .pointer (some ⟨b, o, none⟩) ∧ x.born < l.length := by
  obtain ⟨l', hp, rfl⟩ := h
  obtain ⟨k, o, h1, h2, h3, h4⟩ := fm_mem hx
  exact ⟨k, o, hp.mem_iff.1 h1, h2, h3, by rw [← hp.length_eq]; exact h4⟩
theorem IsFM.has {b : Nat} {l : List (Int × Nat)} {es : Array MapEntry} (h : IsFM b l es) {k : Int} {o : Nat} (hk : (k, o) ∈ l) : ∃ x ∈ es.toList, x.key = .int .i32 k ∧ x.val = .pointer (some ⟨b, o, none⟩) := by
  obtain ⟨l', hp, rfl⟩ := h
  exact fm_has (hp.mem_iff.2 hk)
theorem IsFM.born {b : Nat} {l : List (Int × Nat)} {es : Array MapEntry} (h : IsFM b l es) : (es.toList.map (·.born)).Nodup := by
  obtain ⟨l', _, rfl⟩ := h
  exact fm_born

theorem fst_inj {α β : Type} : ∀ {l : List (α × β)}, (l.map Prod.fst).Nodup → ∀ {k : α} {x y : β}, (k, x) ∈ l → (k, y) ∈ l → x = y
  | [], _, _, _, _, h, _ => by cases h
  | p :: r, hn, k, x, y, hx, hy => by
    rw [List.map_cons, List.nodup_cons] at hn
    rcases List.mem_cons.1 hx with ex | hx' <;> rcases List.mem_cons.1 hy with ey | hy'
    · rw [← ex] at ey
      exact (Prod.mk.inj ey).2.symm
    · exact absurd (List.mem_map.2 ⟨_, hy', by rw [← ex]⟩) hn.1
    · exact absurd (List.mem_map.2 ⟨_, hx', by rw [← ey]⟩) hn.1
    · exact fst_inj hn.2 hx' hy'

theorem map_inj {α β : Type} {f : α → β} : ∀ {l : List α}, (l.map f).Nodup → ∀ {x y : α}, x ∈ l → y ∈ l → f x = f y → x = y
  | [], _, _, _, h, _, _ => by cases h
  | p :: r, hn, x, y, hx, hy, he => by
    rw [List.map_cons, List.nodup_cons] at hn
    rcases List.mem_cons.1 hx with ex | hx' <;> rcases List.mem_cons.1 hy with ey | hy'
    · rw [ex, ey]
    · exact absurd (List.mem_map.2 ⟨_, hy', by rw [← he, ex]⟩) hn.1
    · exact absurd (List.mem_map.2 ⟨_, hx', by rw [he, ey]⟩) hn.1
    · exact map_inj hn.2 hx' hy' he

/-- What has been seen, one entry on. -/
theorem seen_push {es : Array MapEntry} {seen : Array Nat} {e x : MapEntry} (hnd : (es.toList.map (·.born)).Nodup) (he : e ∈ es.toList) (hx : x ∈ es.toList) (h : (seen.push e.born).contains x.born = true) : x = e ∨ seen.contains x.born = true := by
  rw [Array.contains_push] at h
  simp only [Bool.or_eq_true, beq_iff_eq] at h
  rcases h with h | h
  · exact .inr h
  · exact .inl (map_inj hnd hx he h)

/-- A look-up in such a map. -/
theorem IsFM.lookup {P : Program} {t kt e : TypeId} (ht : P.underlying t = some (.map kt e)) (hk : P.underlying kt = some (.int .i32)) {w : World} {m b : Nat} {l : List (Int × Nat)} {es : Array MapEntry} {c : Nat}
    (h : IsFM b l es) (hm : w.heap[m]? = some (.map es c)) (hl : ∀ k o, (k, o) ∈ l → 0 ≤ k ∧ k < 128) (hnd : (l.map Prod.fst).Nodup) {k : Int} {o : Nat} (hko : (k, o) ∈ l) :
    (Instr.lookup t (.map (some m)) (.int .i32 k) false).run P w = .ok (.pointer (some ⟨b, o, none⟩)) w := by
  have K : Go.Maps.Keyed P kt := Go.Maps.int_keyed hk
  have hkey := Go.Maps.keyOf_int_mk (P := P) (k := kt) hk (wf_small (hl k o hko).1 (hl k o hko).2)
  have hkeys : ∀ x ∈ es.toList, ∃ l, keyOf P kt x.key = some l := by
    intro x hx
    obtain ⟨j, oj, h1, h2, _⟩ := h.mem hx
    exact ⟨_, by rw [h2]; exact Go.Maps.keyOf_int_mk hk (wf_small (hl j oj h1).1 (hl j oj h1).2)⟩
  rcases K.find w hkey es.toList hkeys with ⟨_, hf⟩ | ⟨j, e0, hf, hj, he⟩
  · obtain ⟨x, hx, hxk, _⟩ := h.has hko
    exact absurd hxk (hf x hx)
  · obtain ⟨j', oj, h1, h2, h3, _⟩ := h.mem (List.mem_of_getElem? hj)
    rw [he] at h2
    injection h2 with _ h2
    subst h2
    obtain rfl : oj = o := fst_inj hnd h1 hko
    simp only [Instr.lookup, run_underlying ht, Sem.run_bind, Result.andThen, MapKept.run_getObj_map hm, Sem.run_pure, K.check _ _ hkey, hf, h3]
    rfl

/-- Nothing is left. -/
structure NextDone (es : Array MapEntry) (seen : Array Nat) : Prop where
  none : (leftOf es seen).size = 0
/-- An entry has come. -/
structure NextMore (P : Program) (w w1 : World) (r bm since : Nat) (seen : Array Nat) (es : Array MapEntry) (clock : Nat) (e : MapEntry) : Prop where
  mem : e ∈ es.toList
  fresh : seen.contains e.born = false
  grown : w.grownBy w1 (some r)
  size : w1.heap.size = w.heap.size
  iter : w1.heap[r]? = some (.mapIter (some bm) since (seen.push e.born) clock)
  map : w1.heap[bm]? = some (.map es clock)
  less : (leftOf es (seen.push e.born)).size < (leftOf es seen).size
  entry : (Instr.entry (.pointer (some ⟨r, 0, none⟩))).run P w1 = .ok (.tuple #[e.key, e.val]) w1

section
variable {P : Program} (w : World) {ops : Array Oper} {rest : List Oper} {o : Oper} {a : Act} {Q : Exit → Act → World → Prop}

/-- THE STEP of a range over a map whose entries are known as an array. -/
theorem wpList_next_raw (hg : o.guard = none) (it : Operand) (hop : o.op = Op.next it false) (r bm since c0 : Nat) (seen : Array Nat) (es : Array MapEntry) (clock : Nat)
    (hit : a.eval it = .pointer (some ⟨r, 0, none⟩)) (hr : w.heap[r]? = some (.mapIter (some bm) since seen c0)) (hb : w.heap[bm]? = some (.map es clock)) (hold : ∀ x ∈ es.toList, x.born < since) (hsc : since ≤ c0) (hnd : (es.toList.map (·.born)).Nodup)
    (hDone : NextDone es seen → wpList P ops Q rest (a.put o.dst (.tuple #[.bool false])) w)
    (hMore : ∀ (e : MapEntry) (w1 : World), NextMore P w w1 r bm since seen es clock e → wpList P ops Q rest (a.put o.dst (.tuple #[.bool true, e.key, e.val])) w1) :
    wpList P ops Q (o :: rest) a w := by
  refine wpList_plain hg fun K' hK' => ?_
  unfold Oper.wp
  have hne : r ≠ bm := by
    intro e
    rw [e, hb] at hr
    cases hr
  rcases run_next_at (P := P) w o.type r bm since c0 seen es clock hr hb hold hsc with ⟨h0, hrun⟩ | ⟨e, he, w1, hal, hrun⟩
  · simp [execOp, hop, hit, hrun, Result.andThen]
    exact hK' _ _ (hDone ⟨h0⟩)
  · simp [execOp, hop, hit, hrun, Result.andThen]
    have hem : e ∈ es.toList ∧ seen.contains e.born = false := mem_left he
    have hr1 : w1.heap[r]? = some (.mapIter (some bm) since seen c0) := by rcases hal with rfl | rfl <;> exact hr
    have hb1 : w1.heap[bm]? = some (.map es clock) := by rcases hal with rfl | rfl <;> exact hb
    have hset := heap_set (o' := .mapIter (some bm) since (seen.push e.born) clock) hr1
    have hb' : (setBlock w1 r (.mapIter (some bm) since (seen.push e.born) clock)).heap[bm]? = some (.map es clock) := (hset.2 bm (fun e1 => hne e1.symm)).trans hb1
    refine hK' _ _ (hMore e _ ⟨hem.1, hem.2, ?_, ?_, hset.1, hb', left_shrinks es seen e he, run_entry_at _ r bm since seen es clock e hset.1 hb' hem.1 hnd⟩)
    · rcases hal with rfl | rfl <;> exact ⟨rfl, rfl, rfl, by simp [setBlock], fun i _ hi => hset.2 i (fun e1 => hi (by rw [e1]))⟩
    · rcases hal with rfl | rfl <;> simp [setBlock]
end

/-- Nothing is left: all have been seen. -/
theorem all_seen' (es : Array MapEntry) (seen : Array Nat) (h0 : (leftOf es seen).size = 0) : ∀ x ∈ es.toList, seen.contains x.born = true := all_seen es seen h0

end Go.Proofs.YtjndigkphoiohaaDoor
