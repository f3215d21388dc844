/-
  Several texts in one: Base, MsgA, Name, Need, Map, App, All, MapD; each says at its head what it holds.
-/
import Derived.WalkKit
import Derived.Maps.RangeWalk
import Derived.Maps.OwnOps
import Derived.Carry
import Derived.Below
import Derived.Test.YtdmcponfodohaaaGreatDoorShelf
import Derived.Outline
import Derived.WalkLawsBesides
import Derived.WalkSpells
import Derived.Lib.Hide
import Derived.RegionTactic
import Derived.ChangeAlike
import Derived.BigRegion
import Derived.BigQuiet
import Derived.Deep.QuietTactic
import Derived.StillTailTactics
import Derived.OrdersHeld
import Derived.Deep.RegionHeld3
import Derived.Laws.RangeString
import Derived.Laws.RangeAny
import Derived.LoopTactic
import Derived.Laws.ComplexArith
import Derived.DeepKeys4
import Derived.StringKeys
import Derived.Maps.AppendAt
import Derived.Deep.AppendLies
import Derived.WalkSmall
import Derived.Maps.OwnSet
/-
  Plain lemmas for the seat's proofs: maps that a call makes out of a literal of int32 keys and pointers into one block; what 'range' and a look-up over such a map come to. No condition beyond those that each lemma names.
-/
namespace Go.Proofs.YtdmcponfodohaaaGreatDoor
open Go.RowKit Go.ChangeMaps Go.MapKept

section
variable (P : Program) (w : World) (a : Addr) (m : Mode)
@[go_sem] theorem run_store_complex (k : FloatKind) (x y : Nat) : (store a (.complex k x y) m).run P w = stored P w a (.complex k x y) m := run_store P w a _ m rfl
@[go_sem] theorem run_store_float (k : FloatKind) (x : Nat) : (store a (.float k x) m).run P w = stored P w a (.float k x) m := run_store P w a _ m rfl
@[go_sem] theorem run_store_map (r : Option Nat) : (store a (.map r) m).run P w = stored P w a (.map r) m := run_store P w a _ m rfl
end

/-- A key that no entry of a literal has. -/
def freshB (n : Int) (es : Array MapEntry) : Bool := es.toList.all fun x => match x.key with | .int .i32 j => decide (j ≠ n) && decide (0 ≤ j) && decide (j < 128) | _ => false

theorem wf_small {n : Int} (h0 : 0 ≤ n) (h1 : n < 128) : (Lit.int .i32 n).wf = true := WalkArith.wf_i32 (by omega)

theorem run_mapUpdate_fresh {P : Program} {t k e : TypeId} (ht : P.underlying t = some (.map k e)) (hk : P.underlying k = some (.int .i32)) (w : World) (es : Array MapEntry) (c : Nat) (n : Int) (v : Value)
    (h0 : 0 ≤ n) (h1 : n < 128) (hes : freshB n es = true) :
    (Instr.mapUpdate t (.map (some w.heap.size)) (.int .i32 n) v).run P (w.alloc (.map es c)).drew = .ok () (w.alloc (.map (es.push ⟨.int .i32 n, v, c⟩) (c + 1))).drew := by
  have K : Go.Maps.Keyed P k := Go.Maps.int_keyed hk
  have hkey := Go.Maps.keyOf_int_mk (P := P) (k := k) hk (wf_small h0 h1)
  have hb : (w.alloc (.map es c)).drew.heap[w.heap.size]? = some (.map es c) := heap_alloc_new w _
  have hall : ∀ x ∈ es.toList, ∃ j, x.key = .int .i32 j ∧ j ≠ n ∧ 0 ≤ j ∧ j < 128 := by
    intro x hx
    have := List.all_eq_true.1 hes x hx
    split at this
    · rename_i j hj
      simp only [Bool.and_eq_true, decide_eq_true_eq] at this
      exact ⟨j, hj, this.1.1, this.1.2, this.2⟩
    · cases this
  have hkeys : ∀ x ∈ es.toList, ∃ l, keyOf P k x.key = some l := by
    intro x hx
    obtain ⟨j, hj, _, h2, h3⟩ := hall x hx
    exact ⟨_, by rw [hj]; exact Go.Maps.keyOf_int_mk hk (wf_small h2 h3)⟩
  rcases K.find (w.alloc (.map es c)).drew hkey es.toList hkeys with ⟨hf, _⟩ | ⟨j, e0, _, hj, he⟩
  · simp only [Instr.mapUpdate, run_underlying ht, Sem.run_bind, Result.andThen, MapKept.run_getObj_map hb, K.check _ false hkey, hf, MapKept.run_setObj_map _ hb]
    congr 1
    simp only [World.alloc, World.drew]
    congr 1
    apply Array.ext'
    simp [Array.setIfInBounds, Array.toList_push]
  · obtain ⟨j', hj', hne, _⟩ := hall e0 (List.mem_of_getElem? hj)
    rw [he] at hj'
    injection hj' with _ hj'
    exact absurd hj'.symm hne

/-- The entries of a literal of keys and places in block b, in the order in which they were laid. -/
def fm (b : Nat) (l : List (Int × Nat)) : Array MapEntry := (l.zipIdx.map fun x => (⟨.int .i32 x.1.1, .pointer (some ⟨b, x.1.2, none⟩), x.2⟩ : MapEntry)).toArray
/-- .. in whatever order. -/
def IsFM (b : Nat) (l : List (Int × Nat)) (es : Array MapEntry) : Prop := ∃ l', l'.Perm l ∧ es = fm b l'

theorem fm_mem {b : Nat} {l : List (Int × Nat)} {x : MapEntry} (h : x ∈ (fm b l).toList) : ∃ k o, (k, o) ∈ l ∧ x.key = .int .i32 k ∧ x.val = .pointer (some ⟨b, o, none⟩) ∧ x.born < l.length := by
  simp only [fm, List.mem_map] at h
  obtain ⟨⟨⟨k, o⟩, i⟩, hi, rfl⟩ := h
  have := List.mem_zipIdx hi
  simp at this
  refine ⟨k, o, ?_, rfl, rfl, this.1⟩
  rw [this.2]
  exact List.getElem_mem _
theorem fm_has {b : Nat} {l : List (Int × Nat)} {k : Int} {o : Nat} (h : (k, o) ∈ l) : ∃ x ∈ (fm b l).toList, x.key = .int .i32 k ∧ x.val = .pointer (some ⟨b, o, none⟩) := by
  obtain ⟨i, hi, he⟩ := List.getElem_of_mem h
  refine ⟨⟨.int .i32 k, .pointer (some ⟨b, o, none⟩), i⟩, ?_, rfl, rfl⟩
  simp only [fm, List.mem_map]
  refine ⟨((k, o), i), ?_, rfl⟩
  rw [List.mk_mem_zipIdx_iff_getElem?]
  rw [List.getElem?_eq_getElem hi, he]
theorem fm_born {b : Nat} {l : List (Int × Nat)} : ((fm b l).toList.map (·.born)).Nodup := by
  simp only [fm, List.map_map]
  have : ((fun x : MapEntry => x.born) ∘ fun x : (Int × Nat) × Nat => (⟨.int .i32 x.1.1, .pointer (some ⟨b, x.1.2, none⟩), x.2⟩ : MapEntry)) = Prod.snd := rfl
  rw [this, List.zipIdx_map_snd]
  exact List.nodup_range'

theorem IsFM.mem {b : Nat} {l : List (Int × Nat)} {es : Array MapEntry} (h : IsFM b l es) {x : MapEntry} (hx : x ∈ es.toList) : ∃ k o, (k, o) ∈ l ∧ x.key = .int .i32 k ∧ x.val = .pointer (some ⟨b, o, none⟩) ∧ x.born < l.length := by
  obtain ⟨l', hp, rfl⟩ := h
  obtain ⟨k, o, h1, h2, h3, h4⟩ := fm_mem hx
  exact ⟨k, o, hp.mem_iff.1 h1, h2, h3, by rw [← hp.length_eq]; exact h4⟩
theorem IsFM.has {b : Nat} {l : List (Int × Nat)} {es : Array MapEntry} (h : IsFM b l es) {k : Int} {o : Nat} (hk : (k, o) ∈ l) : ∃ x ∈ es.toList, x.key = .int .i32 k ∧ x.val = .pointer (some ⟨b, o, none⟩) := by
  obtain ⟨l', hp, rfl⟩ := h
  exact fm_has (hp.mem_iff.2 hk)
theorem IsFM.born {b : Nat} {l : List (Int × Nat)} {es : Array MapEntry} (h : IsFM b l es) : (es.toList.map (·.born)).Nodup := by
  obtain ⟨l', _, rfl⟩ := h
  exact fm_born

theorem fst_inj {α β : Type} : ∀ {l : List (α × β)}, (l.map Prod.fst).Nodup → ∀ {k : α} {x y : β}, (k, x) ∈ l → (k, y) ∈ l → x = y
  | [], _, _, _, _, h, _ => by cases h
  | p :: r, hn, k, x, y, hx, hy => by
    rw [List.map_cons, List.nodup_cons] at hn
    rcases List.mem_cons.1 hx with ex | hx' <;> rcases List.mem_cons.1 hy with ey | hy'
    · rw [← ex] at ey
      exact (Prod.mk.inj ey).2.symm
    · exact absurd (List.mem_map.2 ⟨_, hy', by rw [← ex]⟩) hn.1
    · exact absurd (List.mem_map.2 ⟨_, hx', by rw [← ey]⟩) hn.1
    · exact fst_inj hn.2 hx' hy'

theorem map_inj {α β : Type} {f : α → β} : ∀ {l : List α}, (l.map f).Nodup → ∀ {x y : α}, x ∈ l → y ∈ l → f x = f y → x = y
  | [], _, _, _, h, _, _ => by cases h
  | p :: r, hn, x, y, hx, hy, he => by
    rw [List.map_cons, List.nodup_cons] at hn
    rcases List.mem_cons.1 hx with ex | hx' <;> rcases List.mem_cons.1 hy with ey | hy'
    · rw [ex, ey]
    · exact absurd (List.mem_map.2 ⟨_, hy', by rw [← he, ex]⟩) hn.1
    · exact absurd (List.mem_map.2 ⟨_, hx', by rw [he, ey]⟩) hn.1
    · exact map_inj hn.2 hx' hy' he

/-- What has been seen, one entry on. -/
theorem seen_push {es : Array MapEntry} {seen : Array Nat} {e x : MapEntry} (hnd : (es.toList.map (·.born)).Nodup) (he : e ∈ es.toList) (hx : x ∈ es.toList) (h : (seen.push e.born).contains x.born = true) : x = e ∨ seen.contains x.born = true := by
  rw [Array.contains_push] at h
  simp only [Bool.or_eq_true, beq_iff_eq] at h
  rcases h with h | h
  · exact .inr h
  · exact .inl (map_inj hnd hx he h)

/-- A look-up in such a map. -/
theorem IsFM.lookup {P : Program} {t kt e : TypeId} (ht : P.underlying t = some (.map kt e)) (hk : P.underlying kt = some (.int .i32)) {w : World} {m b : Nat} {l : List (Int × Nat)} {es : Array MapEntry} {c : Nat}
    (h : IsFM b l es) (hm : w.heap[m]? = some (.map es c)) (hl : ∀ k o, (k, o) ∈ l → 0 ≤ k ∧ k < 128) (hnd : (l.map Prod.fst).Nodup) {k : Int} {o : Nat} (hko : (k, o) ∈ l) :
    (Instr.lookup t (.map (some m)) (.int .i32 k) false).run P w = .ok (.pointer (some ⟨b, o, none⟩)) w := by
  have K : Go.Maps.Keyed P kt := Go.Maps.int_keyed hk
  have hkey := Go.Maps.keyOf_int_mk (P := P) (k := kt) hk (wf_small (hl k o hko).1 (hl k o hko).2)
  have hkeys : ∀ x ∈ es.toList, ∃ l, keyOf P kt x.key = some l := by
    intro x hx
    obtain ⟨j, oj, h1, h2, _⟩ := h.mem hx
    exact ⟨_, by rw [h2]; exact Go.Maps.keyOf_int_mk hk (wf_small (hl j oj h1).1 (hl j oj h1).2)⟩
  rcases K.find w hkey es.toList hkeys with ⟨_, hf⟩ | ⟨j, e0, hf, hj, he⟩
  · obtain ⟨x, hx, hxk, _⟩ := h.has hko
    exact absurd hxk (hf x hx)
  · obtain ⟨j', oj, h1, h2, h3, _⟩ := h.mem (List.mem_of_getElem? hj)
    rw [he] at h2
    injection h2 with _ h2
    subst h2
    obtain rfl : oj = o := fst_inj hnd h1 hko
    simp only [Instr.lookup, run_underlying ht, Sem.run_bind, Result.andThen, MapKept.run_getObj_map hm, Sem.run_pure, K.check _ _ hkey, hf, h3]
    rfl

/-- Nothing is left. -/
structure NextDone (es : Array MapEntry) (seen : Array Nat) : Prop where
  none : (leftOf es seen).size = 0
/-- An entry has come. -/
structure NextMore (P : Program) (w w1 : World) (r bm since : Nat) (seen : Array Nat) (es : Array MapEntry) (clock : Nat) (e : MapEntry) : Prop where
  mem : e ∈ es.toList
  fresh : seen.contains e.born = false
  grown : w.grownBy w1 (some r)
  size : w1.heap.size = w.heap.size
  iter : w1.heap[r]? = some (.mapIter (some bm) since (seen.push e.born) clock)
  map : w1.heap[bm]? = some (.map es clock)
  less : (leftOf es (seen.push e.born)).size < (leftOf es seen).size
  entry : (Instr.entry (.pointer (some ⟨r, 0, none⟩))).run P w1 = .ok (.tuple #[e.key, e.val]) w1

section
variable {P : Program} (w : World) {ops : Array Oper} {rest : List Oper} {o : Oper} {a : Act} {Q : Exit → Act → World → Prop}

/-- THE STEP of a range over a map whose entries are known as an array. -/
theorem wpList_next_raw (hg : o.guard = none) (it : Operand) (hop : o.op = Op.next it false) (r bm since c0 : Nat) (seen : Array Nat) (es : Array MapEntry) (clock : Nat)
    (hit : a.eval it = .pointer (some ⟨r, 0, none⟩)) (hr : w.heap[r]? = some (.mapIter (some bm) since seen c0)) (hb : w.heap[bm]? = some (.map es clock)) (hold : ∀ x ∈ es.toList, x.born < since) (hsc : since ≤ c0) (hnd : (es.toList.map (·.born)).Nodup)
    (hDone : NextDone es seen → wpList P ops Q rest (a.put o.dst (.tuple #[.bool false])) w)
    (hMore : ∀ (e : MapEntry) (w1 : World), NextMore P w w1 r bm since seen es clock e → wpList P ops Q rest (a.put o.dst (.tuple #[.bool true, e.key, e.val])) w1) :
    wpList P ops Q (o :: rest) a w := by
  refine wpList_plain hg fun K' hK' => ?_
  unfold Oper.wp
  have hne : r ≠ bm := by
    intro e
    rw [e, hb] at hr
    cases hr
  rcases run_next_at (P := P) w o.type r bm since c0 seen es clock hr hb hold hsc with ⟨h0, hrun⟩ | ⟨e, he, w1, hal, hrun⟩
  · simp [execOp, hop, hit, hrun, Result.andThen]
    exact hK' _ _ (hDone ⟨h0⟩)
  · simp [execOp, hop, hit, hrun, Result.andThen]
    have hem : e ∈ es.toList ∧ seen.contains e.born = false := mem_left he
    have hr1 : w1.heap[r]? = some (.mapIter (some bm) since seen c0) := by rcases hal with rfl | rfl <;> exact hr
    have hb1 : w1.heap[bm]? = some (.map es clock) := by rcases hal with rfl | rfl <;> exact hb
    have hset := heap_set (o' := .mapIter (some bm) since (seen.push e.born) clock) hr1
    have hb' : (setBlock w1 r (.mapIter (some bm) since (seen.push e.born) clock)).heap[bm]? = some (.map es clock) := (hset.2 bm (fun e1 => hne e1.symm)).trans hb1
    refine hK' _ _ (hMore e _ ⟨hem.1, hem.2, ?_, ?_, hset.1, hb', left_shrinks es seen e he, run_entry_at _ r bm since seen es clock e hset.1 hb' hem.1 hnd⟩)
    · rcases hal with rfl | rfl <;> exact ⟨rfl, rfl, rfl, by simp [setBlock], fun i _ hi => hset.2 i (fun e1 => hi (by rw [e1]))⟩
    · rcases hal with rfl | rfl <;> simp [setBlock]
end

/-- Nothing is left: all have been seen. -/
theorem all_seen' (es : Array MapEntry) (seen : Array Nat) (h0 : (leftOf es seen).size = 0) : ∀ x ∈ es.toList, seen.contains x.born = true := all_seen es seen h0

end Go.Proofs.YtdmcponfodohaaaGreatDoor
/-
  Contracts of the small functions of package message: fields, numbers, texts, numbers, holds. Each says what the call returns and what became of the world.
-/
namespace Go.Proofs.YtdmcponfodohaaaGreatDoor
open Go.RowKit
set_option maxRecDepth 100000
attribute [local simp] freshB

def fieldsS (k : Int) : ByteArray :=
  if k = 1 then ⟨#[70, 69, 73]⟩ else if k = 2 then ⟨#[70, 84]⟩ else if k = 3 then ⟨#[70]⟩ else if k = 4 then ⟨#[70, 84, 85, 80]⟩
  else if k = 5 then ⟨#[70, 73]⟩ else if k = 6 then ⟨#[]⟩ else if k = 7 ∨ k = 9 ∨ k = 13 ∨ k = 16 ∨ k = 17 then ⟨#[70, 69, 78]⟩
  else if k = 8 then ⟨#[70, 69, 78, 84, 83]⟩ else if k = 10 then ⟨#[80]⟩ else if k = 11 then ⟨#[70, 84, 85, 80, 83]⟩ else if k = 12 then ⟨#[70, 84, 83]⟩
  else if k = 14 then ⟨#[70, 69, 78, 73]⟩ else if k = 15 then ⟨#[70, 69, 78, 84]⟩ else ⟨#[63]⟩
def numberS (f n : Int) : Bool := if f = 83 then decide (1 ≤ n) && decide (n ≤ 7) else decide (1 ≤ n) && decide (n ≤ 2147483647)

theorem number_c (field n : Int) (w : World) (R : Ending → World → Prop) (h : R (.returned (.bool (numberS field n))) w) :
    Calls Tryz.prog 129 #[.int .i32 field, .int .i64 n] w R := by
  by_cases hf : field = 83 <;> by_cases h1 : 1 ≤ n
  all_goals
    simp only [numberS, hf, h1, if_true, if_false, decide_true, decide_false, Bool.true_and, Bool.false_and] at h
    go_enter Tryz.func129, Tryz.ntmps129
    go_wp2
    exact h

theorem fields_c (k : Int) (w : World) (R : Ending → World → Prop) (h : R (.returned (.string (fieldsS k))) w) :
    Calls Tryz.prog 106 #[.int .i64 k] w R := by
  go_enter Tryz.func106, Tryz.ntmps106
  go_wp2
  all_goals
    have h' := h
    clear h
    simp_all [fieldsS]

theorem texts_c (b : Nat) (w : World) (R : Ending → World → Prop)
    (h : ∀ es, IsFM b [(70, 1), (69, 2), (84, 3)] es → R (.returned (.map (some w.heap.size))) (w.alloc (.map es 3)).drew) :
    Calls Tryz.prog 108 #[.pointer (some ⟨b, 0, none⟩)] w R := by
  have hmm := @run_makeMap Tryz.prog
  have hmu := fun (es : Array MapEntry) (c : Nat) (n : Int) (v : Value) (h0 : 0 ≤ n) (h1 : n < 128) (hes : freshB n es = true) => run_mapUpdate_fresh (P := Tryz.prog) Tryz.underlying139 Tryz.underlying21 w es c n v h0 h1 hes
  go_enter Tryz.func108, Tryz.ntmps108
  go_wp2_with fail
  go_region
  all_goals
    go_wp2
    first | exact ⟨[(70, 1), (69, 2), (84, 3)], by decide, rfl⟩ | exact ⟨[(70, 1), (84, 3), (69, 2)], by decide, rfl⟩ | exact ⟨[(69, 2), (70, 1), (84, 3)], by decide, rfl⟩ | exact ⟨[(69, 2), (84, 3), (70, 1)], by decide, rfl⟩ | exact ⟨[(84, 3), (70, 1), (69, 2)], by decide, rfl⟩ | exact ⟨[(84, 3), (69, 2), (70, 1)], by decide, rfl⟩

theorem numbers_c (b : Nat) (w : World) (R : Ending → World → Prop)
    (h : ∀ es, IsFM b [(78, 4), (83, 5), (85, 6), (80, 7)] es → R (.returned (.map (some w.heap.size))) (w.alloc (.map es 4)).drew) :
    Calls Tryz.prog 110 #[.pointer (some ⟨b, 0, none⟩)] w R := by
  have hmm := @run_makeMap Tryz.prog
  have hmu := fun (es : Array MapEntry) (c : Nat) (n : Int) (v : Value) (h0 : 0 ≤ n) (h1 : n < 128) (hes : freshB n es = true) => run_mapUpdate_fresh (P := Tryz.prog) Tryz.underlying144 Tryz.underlying21 w es c n v h0 h1 hes
  go_enter Tryz.func110, Tryz.ntmps110
  go_wp2_with fail
  go_region
  all_goals
    go_wp2
    first | exact ⟨[(78, 4), (83, 5), (85, 6), (80, 7)], by decide, rfl⟩ | exact ⟨[(78, 4), (83, 5), (80, 7), (85, 6)], by decide, rfl⟩ | exact ⟨[(78, 4), (85, 6), (83, 5), (80, 7)], by decide, rfl⟩ | exact ⟨[(78, 4), (85, 6), (80, 7), (83, 5)], by decide, rfl⟩ | exact ⟨[(78, 4), (80, 7), (83, 5), (85, 6)], by decide, rfl⟩ | exact ⟨[(78, 4), (80, 7), (85, 6), (83, 5)], by decide, rfl⟩ | exact ⟨[(83, 5), (78, 4), (85, 6), (80, 7)], by decide, rfl⟩ | exact ⟨[(83, 5), (78, 4), (80, 7), (85, 6)], by decide, rfl⟩ | exact ⟨[(83, 5), (85, 6), (78, 4), (80, 7)], by decide, rfl⟩ | exact ⟨[(83, 5), (85, 6), (80, 7), (78, 4)], by decide, rfl⟩ | exact ⟨[(83, 5), (80, 7), (78, 4), (85, 6)], by decide, rfl⟩ | exact ⟨[(83, 5), (80, 7), (85, 6), (78, 4)], by decide, rfl⟩ | exact ⟨[(85, 6), (78, 4), (83, 5), (80, 7)], by decide, rfl⟩ | exact ⟨[(85, 6), (78, 4), (80, 7), (83, 5)], by decide, rfl⟩ | exact ⟨[(85, 6), (83, 5), (78, 4), (80, 7)], by decide, rfl⟩ | exact ⟨[(85, 6), (83, 5), (80, 7), (78, 4)], by decide, rfl⟩ | exact ⟨[(85, 6), (80, 7), (78, 4), (83, 5)], by decide, rfl⟩ | exact ⟨[(85, 6), (80, 7), (83, 5), (78, 4)], by decide, rfl⟩ | exact ⟨[(80, 7), (78, 4), (83, 5), (85, 6)], by decide, rfl⟩ | exact ⟨[(80, 7), (78, 4), (85, 6), (83, 5)], by decide, rfl⟩ | exact ⟨[(80, 7), (83, 5), (78, 4), (85, 6)], by decide, rfl⟩ | exact ⟨[(80, 7), (83, 5), (85, 6), (78, 4)], by decide, rfl⟩ | exact ⟨[(80, 7), (85, 6), (78, 4), (83, 5)], by decide, rfl⟩ | exact ⟨[(80, 7), (85, 6), (83, 5), (78, 4)], by decide, rfl⟩

theorem data_length' (s : ByteArray) : s.data.toList.length = s.size := by rw [Array.length_toList]; rfl

def hasS (s : ByteArray) (f : Int) : Bool := s.data.toList.any fun c => (c.toNat : Int) == f

theorem hasS_of {s : ByteArray} {f : Int} {pos : Nat} (hp : pos < s.size) (h : ((s[pos]'hp).toNat : Int) = f) : hasS s f = true := by
  unfold hasS
  rw [List.any_eq_true]
  have hl : pos < s.data.toList.length := by rw [data_length']; exact hp
  refine ⟨s.data.toList[pos]'hl, List.getElem_mem _, ?_⟩
  rw [beq_iff_eq, ← h]
  rfl
theorem hasS_none {s : ByteArray} {f : Int} (h : ∀ i (hi : i < s.size), ((s[i]'hi).toNat : Int) ≠ f) : hasS s f = false := by
  unfold hasS
  rw [List.any_eq_false]
  intro c hc
  obtain ⟨i, hi, rfl⟩ := List.getElem_of_mem hc
  rw [data_length'] at hi
  rw [beq_iff_eq]
  exact h i hi

theorem holds_c (s : ByteArray) (f : Int) (hasc : ∀ i (h : i < s.size), (s[i]'h).toNat < 128) (w : World) (R : Ending → World → Prop)
    (h : ∀ w', Below w.heap.size w w' → R (.returned (.bool (hasS s f))) w') :
    Calls Tryz.prog 128 #[.string s, .int .i32 f] w R := by
  go_enter Tryz.func128, Tryz.ntmps128
  go_wp2
  go_loopw [] (fun w' => ∃ pos : Nat, w' = w.iter s pos ∧ pos ≤ s.size ∧ ∀ i (hi : i < s.size), i < pos → ((s[i]'hi).toNat : Int) ≠ f) (fun w' => s.size - w'.iterPos w.heap.size)
  case atStart => exact ⟨0, rfl, Nat.zero_le _, fun i _ h => absurd h (by omega)⟩
  case round =>
    obtain ⟨pos, rfl, hle, hno⟩ := hrel
    by_cases hp : pos < s.size
    · have hnx : ∀ ty, (Instr.next (.pointer (some ⟨w.heap.size, 0, none⟩)) true ty).run Tryz.prog (w.iter s pos) = _ := fun ty => run_next_ascii w s pos ty hp (hasc pos hp)
      by_cases hc : ((s[pos]'hp).toNat : Int) = f
      · have hb : (((s[pos]'hp).toNat : Int) == f) = true := by simpa using hc
        have h2 : ∀ w', Below w.heap.size w w' → R (.returned (.bool true)) w' := by rw [← hasS_of hp hc]; exact h
        clear h hc
        go_wp2
        exact (Below.refl _ _).alloc (Nat.le_refl _) _
      · have hb : (((s[pos]'hp).toNat : Int) == f) = false := by simpa using hc
        go_wp2
        go_roundw
        case rel => exact ⟨pos + 1, rfl, by omega, fun i hi h1 => by
          by_cases e : i = pos
          · subst e; exact hc
          · exact hno i hi (by omega)⟩
        case measure =>
          simp
          omega
    · have hnx : ∀ ty, (Instr.next (.pointer (some ⟨w.heap.size, 0, none⟩)) true ty).run Tryz.prog (w.iter s pos) = _ := fun ty => run_next_end w s pos ty hp
      have h2 : ∀ w', Below w.heap.size w w' → R (.returned (.bool false)) w' := by rw [← hasS_none (fun i hi => hno i hi (by omega))]; exact h
      clear h
      go_wp2
      exact (Below.refl _ _).alloc (Nat.le_refl _) _

end Go.Proofs.YtdmcponfodohaaaGreatDoor
/-
  Contracts of package name: Right (a name: 1 to 8 signs a to z and 0 to 9) and All (names, no two alike).
-/
namespace Go.Proofs.YtdmcponfodohaaaGreatDoor
open Go.RowKit Go.Shelf Go.Lib
set_option maxRecDepth 100000

def signsL : List UInt8 := [97, 98, 99, 100, 101, 102, 103, 104, 105, 106, 107, 108, 109, 110, 111, 112, 113, 114, 115, 116, 117, 118, 119, 120, 121, 122, 48, 49, 50, 51, 52, 53, 54, 55, 56, 57]
def rightS (s : ByteArray) : Bool := decide (0 < s.size) && decide (s.size ≤ 8) && s.data.toList.all (signsL.contains ·)

theorem dropWhile_nil {α : Type} {p : α → Bool} : ∀ {l : List α}, l.dropWhile p = [] ↔ l.all p = true
  | [] => by simp
  | a :: r => by
    rw [List.dropWhile_cons]
    split
    · rename_i h; rw [dropWhile_nil (l := r)]; simp [h]
    · rename_i h; simp [h]
theorem trim_empty (l : List UInt8) : Lib.trimS l signsL = [] ↔ l.all (signsL.contains ·) = true := by
  unfold Lib.trimS Lib.trimLeftS Lib.trimRightS
  rw [dropWhile_nil, List.all_reverse]
  constructor
  · intro h
    have hsplit := List.takeWhile_append_dropWhile (p := (signsL.contains ·)) (l := l.reverse)
    have h1 : (l.reverse.takeWhile (signsL.contains ·)).all (signsL.contains ·) = true := List.all_takeWhile
    have : l.reverse.all (signsL.contains ·) = true := by rw [← hsplit, List.all_append, h1, h]; rfl
    rwa [List.all_reverse] at this
  · intro h
    have : l.reverse.dropWhile (signsL.contains ·) = [] := by rw [dropWhile_nil, List.all_reverse]; exact h
    rw [this]; rfl

theorem toList_nil_iff {s : ByteArray} : s.toList = [] ↔ s.size = 0 := by
  rw [ByteArray.toList_eq, ← data_length', List.length_eq_zero_iff]

theorem right_c (s : ByteArray) (hs : s.size ≤ 9223372036854775807) (w : World) (R : Ending → World → Prop)
    (h : ∀ w', Below w.heap.size w w' → R (.returned (.bool (rightS s))) w') :
    Calls Tryz.prog 123 #[.string s] w R := by
  have hcon := Any.strings_Trim_laid Tryz.lays160 (by kernel_rfl) s ⟨#[97, 98, 99, 100, 101, 102, 103, 104, 105, 106, 107, 108, 109, 110, 111, 112, 113, 114, 115, 116, 117, 118, 119, 120, 121, 122, 48, 49, 50, 51, 52, 53, 54, 55, 56, 57]⟩ w hs (by decide) (ascii_of_all (by decide))
  change Calls Tryz.prog 142 _ _ (fun e w' => e = .returned (.string ⟨(Lib.trimS s.data.toList signsL).toArray⟩) ∧ Below w.heap.size w w') at hcon
  have hr : (⟨(Lib.trimS s.data.toList signsL).toArray⟩ : ByteArray).toList = [] ↔ s.data.toList.all (signsL.contains ·) = true := by rw [ByteArray.toList_mk]; exact trim_empty _
  by_cases h0 : s.toList = []
  · have e : rightS s = false := by simp [rightS, toList_nil_iff.1 h0]
    rw [e] at h
    clear hr hcon e
    go_enter Tryz.func123, Tryz.ntmps123
    go_wp2_with fail
    exact Below.refl _ _
  have h0' : 0 < s.size := by
    rcases Nat.eq_zero_or_pos s.size with h1 | h1
    · exact absurd (toList_nil_iff.2 h1) h0
    · exact h1
  by_cases h8 : s.size ≤ 8
  · have e : rightS s = s.data.toList.all (signsL.contains ·) := by simp [rightS, h0', h8]
    rw [e] at h
    generalize (⟨(Lib.trimS s.data.toList signsL).toArray⟩ : ByteArray) = r at hcon hr
    have hE : s.toList.isEmpty = false := by simpa using h0
    by_cases hr0 : r.toList = []
    · rw [hr.1 hr0] at h
      have hRE : r.toList.isEmpty = true := by simpa using hr0
      clear hr e hr0
      go_enter Tryz.func123, Tryz.ntmps123
      go_wp2_with (go_at_call 142; refine hcon.mono ?_; rintro e w' ⟨rfl, hB⟩)
      exact hB
    · have hf : s.data.toList.all (signsL.contains ·) = false := by
        cases hh : s.data.toList.all (signsL.contains ·)
        · rfl
        · exact absurd (hr.2 hh) hr0
      rw [hf] at h
      have hRE : r.toList.isEmpty = false := by simpa using hr0
      clear hr e hf hr0
      go_enter Tryz.func123, Tryz.ntmps123
      go_wp2_with (go_at_call 142; refine hcon.mono ?_; rintro e w' ⟨rfl, hB⟩)
      exact hB
  · have e : rightS s = false := by simp [rightS, h8]
    rw [e] at h
    clear hr hcon e
    go_enter Tryz.func123, Tryz.ntmps123
    go_wp2_with fail
    exact Below.refl _ _
end Go.Proofs.YtdmcponfodohaaaGreatDoor
/-
  Contracts of package need: what each function answers as a function of the bits of the parts; each where the model names the answer (an int of a float that is in range).
-/
namespace Go.Proofs.YtdmcponfodohaaaGreatDoor
open Go.RowKit
set_option maxRecDepth 100000

/-- How two floats stand to each other. -/
def ford (x y : Nat) : Option Ordering := FloatKind.f64.format.order x y
def fint (n : Int) : Nat := floatOfInt .f64 n
def ge0 (o : Option Ordering) : Bool := match o with | some .gt => true | some .eq => true | _ => false
def le0 (o : Option Ordering) : Bool := match o with | some .lt => true | some .eq => true | _ => false
def eq0 (o : Option Ordering) : Bool := match o with | some .eq => true | _ => false
def partS (x : Nat) (most : Int) : Option Bool :=
  if ge0 (ford x 0) && le0 (ford x (fint most)) then (floatToIntVal .f64 x .i64).bind fun n => some (eq0 (ford x (fint n))) else some false
def withinS (x y : Nat) (most : Int) : Option Bool := (partS x most).bind fun a => if a then partS y most else some false
def nzS (x y : Nat) : Bool := !(eq0 (ford x 0) && eq0 (ford y 0))
def nrightS (x y : Nat) : Option Bool := if nzS x y then withinS x y 1000 else some false
def nroomS (x y : Nat) : Option Bool := withinS x y 100000
def npartsS (x y : Nat) : Option (Int × Int) := (nroomS x y).bind fun a => if a then (floatToIntVal .f64 x .i64).bind fun n => (floatToIntVal .f64 y .i64).bind fun m => some (n, m) else some (0, 0)
def nofS (a b : Int) : Nat × Nat := if a < 0 ∨ 100000 < a ∨ b < 0 ∨ 100000 < b then (0, 0) else (fint a, fint b)

theorem part_c (x : Nat) (most : Int) (b : Bool) (hb : partS x most = some b) (w : World) (R : Ending → World → Prop) (h : R (.returned (.bool b)) w) :
    Calls Tryz.prog 198 #[.float .f64 x, .int .i64 most] w R := by
  unfold partS ford fint at hb
  cases h0 : FloatKind.f64.format.order x 0 with
  | none =>
    rw [h0] at hb
    obtain rfl : false = b := by simpa [ge0] using hb
    clear hb
    go_enter Tryz.func198, Tryz.ntmps198
    go_wp2_with fail
    exact h
  | some o0 =>
    by_cases hg : ge0 (some o0) = true
    · cases h1 : FloatKind.f64.format.order x (floatOfInt .f64 most) with
      | none =>
        rw [h0, h1] at hb
        obtain rfl : false = b := by simpa [le0] using hb
        clear hb
        cases o0 <;> first | (exact absurd hg (by decide)) | (clear hg; go_enter Tryz.func198, Tryz.ntmps198; go_wp2_with fail; exact h)
      | some o1 =>
        by_cases hl : le0 (some o1) = true
        · rw [h0, h1, hg, hl] at hb
          cases hi : floatToIntVal .f64 x .i64 with
          | none => rw [hi] at hb; cases hb
          | some n =>
            have hcv := fun w : World => run_convert_float_int (P := Tryz.prog) w 196 3 .f64 .i64 x n (by rw [Tryz.underlying196]; rfl) Tryz.underlying3 hi
            rw [hi] at hb
            simp only [Bool.and_self, if_true, Option.bind_some] at hb
            cases h2 : FloatKind.f64.format.order x (floatOfInt .f64 n) with
            | none =>
              rw [h2] at hb
              obtain rfl : false = b := by simpa [eq0] using hb
              clear hb hi
              cases o0 <;> first | (exact absurd hg (by decide)) | (clear hg; cases o1 <;> first | (exact absurd hl (by decide)) | (clear hl; go_enter Tryz.func198, Tryz.ntmps198; go_wp2_with fail; exact h))
            | some o2 =>
              rw [h2] at hb
              obtain rfl : eq0 (some o2) = b := by simpa using hb
              clear hb hi
              cases o0 <;> first | (exact absurd hg (by decide)) | (clear hg; cases o1 <;> first | (exact absurd hl (by decide)) | (clear hl; cases o2 <;> simp only [eq0] at h <;> (go_enter Tryz.func198, Tryz.ntmps198; go_wp2_with fail; exact h)))
        · have hl' : le0 (some o1) = false := by simpa using hl
          rw [h0, h1, hg, hl'] at hb
          obtain rfl : false = b := by simpa using hb
          clear hb
          cases o0 <;> first | (exact absurd hg (by decide)) | (clear hg; cases o1 <;> first | (exact absurd hl' (by decide)) | (clear hl hl'; go_enter Tryz.func198, Tryz.ntmps198; go_wp2_with fail; exact h))
    · have hg' : ge0 (some o0) = false := by simpa using hg
      rw [h0, hg'] at hb
      obtain rfl : false = b := by simpa using hb
      clear hb
      cases o0 <;> first | (exact absurd hg' (by decide)) | (clear hg hg'; go_enter Tryz.func198, Tryz.ntmps198; go_wp2_with fail; exact h)

theorem within_c (x y : Nat) (most : Int) (b : Bool) (hb : withinS x y most = some b) (w : World) (R : Ending → World → Prop) (h : R (.returned (.bool b)) w) :
    Calls Tryz.prog 185 #[.complex .f64 x y, .int .i64 most] w R := by
  unfold withinS at hb
  cases h1 : partS x most with
  | none => rw [h1] at hb; cases hb
  | some a =>
    rw [h1] at hb
    simp only [Option.bind_some] at hb
    cases a with
    | false =>
      simp only [Bool.false_eq_true, if_false, Option.some.injEq] at hb
      subst hb
      go_enter Tryz.func185, Tryz.ntmps185
      go_wp2_with (go_at_call 198; refine part_c _ _ _ h1 _ _ ?_)
      exact h
    | true =>
      simp only [if_true] at hb
      go_enter Tryz.func185, Tryz.ntmps185
      go_wp2_with fail
      refine part_c _ _ _ h1 _ _ ?_
      go_wp2_with fail
      refine part_c _ _ _ hb _ _ ?_
      go_wp2_with fail
      exact h

theorem nright_c (x y : Nat) (b : Bool) (hb : nrightS x y = some b) (w : World) (R : Ending → World → Prop) (h : R (.returned (.bool b)) w) :
    Calls Tryz.prog 159 #[.complex .f64 x y] w R := by
  unfold nrightS at hb
  cases hz : nzS x y with
  | false =>
    rw [hz] at hb
    obtain rfl : false = b := by simpa using hb
    clear hb
    have h0 : FloatKind.f64.format.order x 0 = some .eq ∧ FloatKind.f64.format.order y 0 = some .eq := by
      unfold nzS ford eq0 at hz
      simp only [Bool.not_eq_false', Bool.and_eq_true] at hz
      refine ⟨?_, ?_⟩
      · have := hz.1; split at this <;> first | assumption | cases this
      · have := hz.2; split at this <;> first | assumption | cases this
    obtain ⟨h1, h2⟩ := h0
    clear hz
    go_enter Tryz.func159, Tryz.ntmps159
    go_wp2_with fail
    exact h
  | true =>
    rw [hz] at hb
    simp only [if_true] at hb
    have h0 : (!(FloatKind.f64.format.order x 0 == some .eq) || !(FloatKind.f64.format.order y 0 == some .eq)) = true := by
      unfold nzS ford eq0 at hz
      cases h1 : FloatKind.f64.format.order x 0 with
      | none => rfl
      | some o1 => cases h2 : FloatKind.f64.format.order y 0 with
        | none => simp
        | some o2 => rw [h1, h2] at hz; cases o1 <;> cases o2 <;> first | rfl | cases hz
    clear hz
    go_enter Tryz.func159, Tryz.ntmps159
    go_wp2_with (go_at_call 185; refine within_c _ _ _ _ hb _ _ ?_)
    exact h

theorem nroom_c (x y : Nat) (b : Bool) (hb : nroomS x y = some b) (w : World) (R : Ending → World → Prop) (h : R (.returned (.bool b)) w) :
    Calls Tryz.prog 160 #[.complex .f64 x y] w R := by
  go_enter Tryz.func160, Tryz.ntmps160
  go_wp2_with (go_at_call 185; refine within_c _ _ _ _ hb _ _ ?_)
  exact h

theorem of_c (a b : Int) (w : World) (R : Ending → World → Prop) (h : R (.returned (.complex .f64 (nofS a b).1 (nofS a b).2)) w) :
    Calls Tryz.prog 192 #[.int .i64 a, .int .i64 b] w R := by
  unfold nofS fint at h
  by_cases h1 : 0 ≤ a ∧ a ≤ 100000 ∧ 0 ≤ b ∧ b ≤ 100000
  · rw [if_neg (by omega)] at h
    obtain ⟨a1, a2, b1, b2⟩ := h1
    go_enter Tryz.func192, Tryz.ntmps192
    go_wp2_with fail
    exact h
  · rw [if_pos (by omega)] at h
    go_enter Tryz.func192, Tryz.ntmps192
    go_wp2_with fail
    all_goals first | exact h | (exfalso; omega)

theorem parts_c (x y : Nat) (n m : Int) (hb : npartsS x y = some (n, m)) (w : World) (R : Ending → World → Prop) (h : R (.returned (.tuple #[.int .i64 n, .int .i64 m])) w) :
    Calls Tryz.prog 132 #[.complex .f64 x y] w R := by
  unfold npartsS at hb
  cases h1 : nroomS x y with
  | none => rw [h1] at hb; cases hb
  | some a =>
    rw [h1] at hb
    simp only [Option.bind_some] at hb
    cases a with
    | false =>
      obtain ⟨rfl, rfl⟩ : 0 = n ∧ 0 = m := by simpa using hb
      go_enter Tryz.func132, Tryz.ntmps132
      go_wp2_with (go_at_call 160; refine nroom_c _ _ _ h1 _ _ ?_)
      exact h
    | true =>
      simp only [if_true] at hb
      cases hx : floatToIntVal .f64 x .i64 with
      | none => rw [hx] at hb; cases hb
      | some n' =>
        cases hy : floatToIntVal .f64 y .i64 with
        | none => rw [hx, hy] at hb; cases hb
        | some m' =>
          rw [hx, hy] at hb
          obtain ⟨rfl, rfl⟩ : n' = n ∧ m' = m := by simpa using hb
          have hcx := fun w : World => run_convert_float_int (P := Tryz.prog) w 196 3 .f64 .i64 x n' (by rw [Tryz.underlying196]; rfl) Tryz.underlying3 hx
          have hcy := fun w : World => run_convert_float_int (P := Tryz.prog) w 196 3 .f64 .i64 y m' (by rw [Tryz.underlying196]; rfl) Tryz.underlying3 hy
          clear hb hx hy
          go_enter Tryz.func132, Tryz.ntmps132
          go_wp2_with (go_at_call 160; refine nroom_c _ _ _ h1 _ _ ?_)
          exact h

end Go.Proofs.YtdmcponfodohaaaGreatDoor
/-
  Maps as association lists: a map's block reads as a list of pairs in the order in which its keys were laid; look-up, store, delete and range say what becomes of that list. No condition beyond those that each lemma names.
-/
namespace Go.Proofs.YtdmcponfodohaaaGreatDoor
open Go.RowKit Go.ChangeMaps Go.MapKept

/-- How keys are laid out. -/
structure KeyE (P : Program) (k : TypeId) {κ : Type} (ek : κ → Value) (ok : κ → Prop) : Prop where
  keyed : Go.Maps.Keyed P k
  inj : ∀ a b, ek a = ek b → a = b
  lit : ∀ a, ok a → ∃ l, keyOf P k (ek a) = some l

section
variable {κ ν : Type}
def MapAt (w : World) (b : Nat) (ek : κ → Value) (ev : ν → Value) (ok : κ → Prop) (l : List (κ × ν)) : Prop :=
  ∃ es c, w.heap[b]? = some (.map es c) ∧ (∀ x ∈ es.toList, x.born < c) ∧ (es.toList.map (·.born)).Nodup ∧ es.toList.map (fun e => (e.key, e.val)) = l.map (fun p => (ek p.1, ev p.2)) ∧ (l.map Prod.fst).Nodup ∧ ∀ p ∈ l, ok p.1

variable {P : Program} {t kt e : TypeId} {ek : κ → Value} {ev : ν → Value} {ok : κ → Prop} {w : World} {b : Nat} {l : List (κ × ν)}

theorem MapAt.lt (h : MapAt w b ek ev ok l) : b < w.heap.size := by
  obtain ⟨es, c, hb, _⟩ := h
  exact (Array.getElem?_eq_some_iff.1 hb).1
theorem MapAt.same {w' : World} (h : MapAt w b ek ev ok l) (hw : w'.heap[b]? = w.heap[b]?) : MapAt w' b ek ev ok l := by
  obtain ⟨es, c, hb, r⟩ := h
  exact ⟨es, c, hw.trans hb, r⟩
theorem MapAt.new (w : World) (ek : κ → Value) (ev : ν → Value) (ok : κ → Prop) : MapAt (w.alloc (.map #[] 0)) w.heap.size ek ev ok [] :=
  ⟨#[], 0, heap_alloc_new w _, by simp, by simp, by simp, by simp, by simp⟩
theorem MapAt.nodup (h : MapAt w b ek ev ok l) : (l.map Prod.fst).Nodup := by
  obtain ⟨_, _, _, _, _, _, h, _⟩ := h
  exact h

/-- Entry and pair stand at one place. -/
theorem pairs_at {es : List MapEntry} {l : List (κ × ν)} (h : es.map (fun e => (e.key, e.val)) = l.map (fun p => (ek p.1, ev p.2))) {i : Nat} {x : MapEntry} (hx : es[i]? = some x) : ∃ p, l[i]? = some p ∧ x.key = ek p.1 ∧ x.val = ev p.2 := by
  have h1 : (es.map (fun e => (e.key, e.val)))[i]? = some (x.key, x.val) := by rw [List.getElem?_map, hx]; rfl
  rw [h, List.getElem?_map] at h1
  obtain ⟨p, hp, hpe⟩ := Option.map_eq_some_iff.1 h1
  exact ⟨p, hp, (Prod.mk.inj hpe).1.symm, (Prod.mk.inj hpe).2.symm⟩
theorem pairs_back {es : List MapEntry} {l : List (κ × ν)} (h : es.map (fun e => (e.key, e.val)) = l.map (fun p => (ek p.1, ev p.2))) {i : Nat} {p : κ × ν} (hp : l[i]? = some p) : ∃ x, es[i]? = some x ∧ x.key = ek p.1 ∧ x.val = ev p.2 := by
  have h1 : (l.map (fun p => (ek p.1, ev p.2)))[i]? = some (ek p.1, ev p.2) := by rw [List.getElem?_map, hp]; rfl
  rw [← h, List.getElem?_map] at h1
  obtain ⟨x, hx, hxe⟩ := Option.map_eq_some_iff.1 h1
  exact ⟨x, hx, (Prod.mk.inj hxe).1, (Prod.mk.inj hxe).2⟩

theorem MapAt.keys (K : KeyE P kt ek ok) {es : Array MapEntry} (h : es.toList.map (fun e => (e.key, e.val)) = l.map (fun p => (ek p.1, ev p.2))) (hok : ∀ p ∈ l, ok p.1) : ∀ x ∈ es.toList, ∃ kl, keyOf P kt x.key = some kl := by
  intro x hx
  obtain ⟨i, hi⟩ := List.getElem?_of_mem hx
  obtain ⟨p, hp, hk, _⟩ := pairs_at h hi
  rw [hk]
  exact K.lit _ (hok p (List.mem_of_getElem? hp))

variable [DecidableEq κ]
def mget (l : List (κ × ν)) (k : κ) : Option ν := (l.find? (fun p => decide (p.1 = k))).map Prod.snd
def mput (l : List (κ × ν)) (k : κ) (v : ν) : List (κ × ν) := if l.any (fun p => decide (p.1 = k)) then l.map (fun p => if p.1 = k then (k, v) else p) else l ++ [(k, v)]
def mdel (l : List (κ × ν)) (k : κ) : List (κ × ν) := l.filter (fun p => decide (p.1 ≠ k))

theorem mget_some {l : List (κ × ν)} {k : κ} {v : ν} (h : mget l k = some v) : (k, v) ∈ l := by
  obtain ⟨p, hp, rfl⟩ := Option.map_eq_some_iff.1 h
  have h1 := List.find?_some hp
  have h2 := List.mem_of_find?_eq_some hp
  simp only [decide_eq_true_eq] at h1
  rw [← h1]
  exact h2
theorem mget_none {l : List (κ × ν)} {k : κ} (h : mget l k = none) : ∀ p ∈ l, p.1 ≠ k := by
  intro p hp
  have := List.find?_eq_none.1 (Option.map_eq_none_iff.1 h) p hp
  simpa using this
theorem mget_mem {l : List (κ × ν)} (hn : (l.map Prod.fst).Nodup) {k : κ} {v : ν} (h : (k, v) ∈ l) : mget l k = some v := by
  cases hm : mget l k with
  | none => exact absurd rfl (mget_none hm _ h)
  | some v' => rw [fst_inj hn (mget_some hm) h]

/-- What 'findKey' comes to. -/
theorem MapAt.find (K : KeyE P kt ek ok) {es : Array MapEntry} (hl : es.toList.map (fun e => (e.key, e.val)) = l.map (fun p => (ek p.1, ev p.2))) (hn : (l.map Prod.fst).Nodup) (hok : ∀ p ∈ l, ok p.1) (k : κ) (hk : ok k) (w : World) :
    (mget l k = none ∧ (Instr.findKey kt (ek k) es.toList).run P w = .ok none w) ∨ ∃ i v x, mget l k = some v ∧ l[i]? = some (k, v) ∧ es.toList[i]? = some x ∧ x.key = ek k ∧ (Instr.findKey kt (ek k) es.toList).run P w = .ok (some (i, ev v)) w := by
  obtain ⟨kl, hkl⟩ := K.lit k hk
  rcases K.keyed.find w hkl es.toList (MapAt.keys K hl hok) with ⟨hf, hno⟩ | ⟨j, x, hf, hj, hx⟩
  · refine .inl ⟨?_, hf⟩
    cases hm : mget l k with
    | none => rfl
    | some v =>
      obtain ⟨i, hi⟩ := List.getElem?_of_mem (mget_some hm)
      obtain ⟨x, hx, hxk, _⟩ := pairs_back hl hi
      exact absurd hxk (hno x (List.mem_of_getElem? hx))
  · obtain ⟨p, hp, hpk, hpv⟩ := pairs_at hl hj
    have e1 : p.1 = k := K.inj _ _ (by rw [← hpk, hx])
    refine .inr ⟨j, p.2, x, mget_mem hn (by rw [← e1]; exact List.mem_of_getElem? hp), by rw [hp, ← e1], hj, hx, by rw [hf, hpv]⟩

theorem MapAt.lookup_some (K : KeyE P kt ek ok) (ht : P.underlying t = some (.map kt e)) (h : MapAt w b ek ev ok l) {k : κ} (hk : ok k) {v : ν} (hv : mget l k = some v) (cok : Bool) :
    (Instr.lookup t (.map (some b)) (ek k) cok).run P w = .ok (if cok = true then .tuple #[ev v, .bool true] else ev v) w := by
  obtain ⟨es, c, hb, _, _, hl, hn, hok⟩ := h
  obtain ⟨kl, hkl⟩ := K.lit k hk
  rcases MapAt.find K hl hn hok k hk w with ⟨h1, _⟩ | ⟨i, v', x, h1, _, _, _, hf⟩
  · rw [h1] at hv; cases hv
  · rw [h1] at hv
    cases hv
    simp only [Instr.lookup, run_underlying ht, Sem.run_bind, Result.andThen, MapKept.run_getObj_map hb, Sem.run_pure, K.keyed.check _ _ hkl, hf]
theorem MapAt.lookup_none (K : KeyE P kt ek ok) (ht : P.underlying t = some (.map kt e)) (h : MapAt w b ek ev ok l) {k : κ} (hk : ok k) (hv : mget l k = none) {z : Value} (hz : (zeroValue e).run P w = .ok z w) (cok : Bool) :
    (Instr.lookup t (.map (some b)) (ek k) cok).run P w = .ok (if cok = true then .tuple #[z, .bool false] else z) w := by
  obtain ⟨es, c, hb, _, _, hl, hn, hok⟩ := h
  obtain ⟨kl, hkl⟩ := K.lit k hk
  rcases MapAt.find K hl hn hok k hk w with ⟨_, hf⟩ | ⟨i, v', x, h1, _⟩
  · simp only [Instr.lookup, run_underlying ht, Sem.run_bind, Result.andThen, MapKept.run_getObj_map hb, Sem.run_pure, K.keyed.check _ _ hkl, hf, hz]
  · rw [h1] at hv; cases hv

theorem grown_setBlock (w : World) (b : Nat) (o : Obj) : w.grownBy (setBlock w b o) (some b) :=
  ⟨rfl, rfl, rfl, by simp [setBlock], fun i _ hi => by
    simp only [setBlock]
    rw [Array.getElem?_setIfInBounds_ne (fun e => hi (by rw [e]))]⟩
theorem size_setBlock (w : World) (b : Nat) (o : Obj) : (setBlock w b o).heap.size = w.heap.size := by simp [setBlock]
theorem at_setBlock {w : World} {b : Nat} (o : Obj) (h : b < w.heap.size) : (setBlock w b o).heap[b]? = some o := by
  simp only [setBlock]
  rw [Array.getElem?_setIfInBounds_self_of_lt h]

theorem any_mget {l : List (κ × ν)} {k : κ} : l.any (fun p => decide (p.1 = k)) = (mget l k).isSome := by
  unfold mget
  rw [Option.isSome_map, Bool.eq_iff_iff, List.find?_isSome, List.any_eq_true]

theorem MapAt.update (K : KeyE P kt ek ok) (ht : P.underlying t = some (.map kt e)) (h : MapAt w b ek ev ok l) {k : κ} (hk : ok k) (v : ν) :
    ∃ o, (Instr.mapUpdate t (.map (some b)) (ek k) (ev v)).run P w = .ok () (setBlock w b o) ∧ MapAt (setBlock w b o) b ek ev ok (mput l k v) := by
  have hlt := h.lt
  obtain ⟨es, c, hb, hborn, hbn, hl, hn, hok⟩ := h
  obtain ⟨kl, hkl⟩ := K.lit k hk
  rcases MapAt.find K hl hn hok k hk w with ⟨h1, hf⟩ | ⟨i, v', x, h1, hi, hx, hxk, hf⟩
  · refine ⟨.map (es.push ⟨ek k, ev v, c⟩) (c + 1), ?_, ?_⟩
    · simp only [Instr.mapUpdate, run_underlying ht, Sem.run_bind, Result.andThen, MapKept.run_getObj_map hb, K.keyed.check _ false hkl, hf, MapKept.run_setObj_map _ hb]
      rfl
    · have hp : mput l k v = l ++ [(k, v)] := by unfold mput; rw [any_mget, h1]; rfl
      rw [hp]
      refine ⟨_, _, at_setBlock _ hlt, ?_, ?_, ?_, ?_, ?_⟩
      · intro y hy
        simp only [Array.toList_push, List.mem_append, List.mem_singleton] at hy
        rcases hy with hy | rfl
        · exact Nat.lt_succ_of_lt (hborn y hy)
        · exact Nat.lt_succ_self _
      · simp only [Array.toList_push, List.map_append, List.map_cons, List.map_nil]
        rw [List.nodup_append]
        refine ⟨hbn, by simp, fun a ha b' hb' => ?_⟩
        simp only [List.mem_singleton] at hb'
        obtain ⟨y, hy, rfl⟩ := List.mem_map.1 ha
        have := hborn y hy
        omega
      · simp only [Array.toList_push, List.map_append, List.map_cons, List.map_nil, hl]
      · rw [List.map_append, List.nodup_append]
        refine ⟨hn, by simp, fun a ha b' hb' => ?_⟩
        simp only [List.map_cons, List.map_nil, List.mem_singleton] at hb'
        obtain ⟨p, hp, rfl⟩ := List.mem_map.1 ha
        rw [hb']
        exact mget_none h1 p hp
      · intro p hp
        rcases List.mem_append.1 hp with hp | hp
        · exact hok p hp
        · rw [List.mem_singleton] at hp; subst hp; exact hk
  · have hes : es[i]? = some x := by rw [← hx, Array.getElem?_toList]
    refine ⟨.map (es.modify i fun e => { key := ek k, val := ev v, born := e.born }) c, ?_, ?_⟩
    · simp only [Instr.mapUpdate, run_underlying ht, Sem.run_bind, Result.andThen, MapKept.run_getObj_map hb, K.keyed.check _ false hkl, hf, hes, Option.map_some, Option.getD_some, hxk, K.keyed.stays _ hkl, MapKept.run_setObj_map _ hb]
      rfl
    · have hp : mput l k v = l.map (fun p => if p.1 = k then (k, v) else p) := by unfold mput; rw [any_mget, h1]; rfl
      have hset : ∀ (α : Type) (f : MapEntry → α), (es.modify i fun e => { key := ek k, val := ev v, born := e.born }).toList.map f = (es.toList.map f).set i (f ⟨ek k, ev v, x.born⟩) := by
        intro α f
        rw [Array.toList_modify]
        apply List.ext_getElem?
        intro j
        rw [List.getElem?_map, List.getElem?_modify, List.getElem?_set, List.getElem?_map]
        by_cases hij : i = j
        · subst hij
          have hlen : i < (es.toList.map f).length := by rw [List.length_map]; exact (List.getElem?_eq_some_iff.1 hx).1
          have hlen' : i < es.size := by simpa using hlen
          have hex : es[i] = x := (Array.getElem?_eq_some_iff.1 hes).2
          simp [hlen', hex]
        · simp [hij]
      have hmap : l.map (fun p => if p.1 = k then (k, v) else p) = l.set i (k, v) := by
        apply List.ext_getElem?
        intro j
        rw [List.getElem?_map, List.getElem?_set]
        by_cases hij : i = j
        · subst hij
          have hlen : i < l.length := (List.getElem?_eq_some_iff.1 hi).1
          have hli : l[i] = (k, v') := (List.getElem?_eq_some_iff.1 hi).2
          simp [hlen, hli]
        · simp only [hij, if_false]
          cases hj : l[j]? with
          | none => rfl
          | some q =>
            have hq : q.1 ≠ k := by
              intro hqk
              have hnd := List.pairwise_iff_getElem.1 hn
              have hqj : l[j]'(List.getElem?_eq_some_iff.1 hj).1 = q := (List.getElem?_eq_some_iff.1 hj).2
              have hqi : l[i]'(List.getElem?_eq_some_iff.1 hi).1 = (k, v') := (List.getElem?_eq_some_iff.1 hi).2
              have hjl : j < l.length := (List.getElem?_eq_some_iff.1 hj).1
              have hil : i < l.length := (List.getElem?_eq_some_iff.1 hi).1
              rcases Nat.lt_or_gt_of_ne hij with h2 | h2
              · exact hnd i j (by simpa using hil) (by simpa using hjl) h2 (by rw [List.getElem_map, List.getElem_map, hqi, hqj, hqk])
              · exact hnd j i (by simpa using hjl) (by simpa using hil) h2 (by rw [List.getElem_map, List.getElem_map, hqi, hqj, hqk])
            simp [hq]
      rw [hp, hmap]
      refine ⟨_, _, at_setBlock _ hlt, ?_, ?_, ?_, ?_, ?_⟩
      · intro y hy
        rw [Array.toList_modify] at hy
        obtain ⟨j, hj⟩ := List.getElem?_of_mem hy
        rw [List.getElem?_modify] at hj
        cases hj' : es.toList[j]? with
        | none => rw [hj'] at hj; cases hj
        | some z =>
          rw [hj'] at hj
          have hz := hborn z (List.mem_of_getElem? hj')
          simp only [Option.map_eq_map, Option.map_some, Option.some.injEq] at hj
          split at hj
          · rw [← hj]; exact hz
          · rw [← hj]; exact hz
      · rw [hset]
        have : (es.toList.map (·.born)).set i x.born = es.toList.map (·.born) := by
          apply List.ext_getElem?
          intro j
          rw [List.getElem?_set]
          by_cases hij : i = j
          · subst hij
            have hlen : i < (es.toList.map (·.born)).length := by rw [List.length_map]; exact (List.getElem?_eq_some_iff.1 hx).1
            rw [if_pos rfl, if_pos hlen, List.getElem?_map, hx]
            rfl
          · rw [if_neg hij]
        rw [this]
        exact hbn
      · rw [hset, hl, List.map_set]
      · have : (l.set i (k, v)).map Prod.fst = l.map Prod.fst := by
          rw [List.map_set]
          apply List.ext_getElem?
          intro j
          rw [List.getElem?_set]
          by_cases hij : i = j
          · subst hij
            have hlen : i < (l.map Prod.fst).length := by rw [List.length_map]; exact (List.getElem?_eq_some_iff.1 hi).1
            rw [if_pos rfl, if_pos hlen, List.getElem?_map, hi]
            rfl
          · rw [if_neg hij]
        rw [this]
        exact hn
      · intro p hp
        rcases List.mem_or_eq_of_mem_set hp with hp | rfl
        · exact hok p hp
        · exact hk
end
end Go.Proofs.YtdmcponfodohaaaGreatDoor
/-
  Plain lemmas: append onto a row of the call's own, the appended values in a block just laid, or a slice that is read. No condition beyond those that each lemma names.
-/
namespace Go.Proofs.YtdmcponfodohaaaGreatDoor
open Go.RowKit Go.ChangeMaps Go.MapKept

theorem own_nil' (W : World) (base : Nat) (e : TypeId) (size : Nat) : W.ownsRow base e size (.slice none 0 0) 0 [] := ⟨by simp, .inl ⟨rfl, rfl⟩⟩
theorem own_below' {w w1 : World} {base : Nat} {e : TypeId} {size n : Nat} {v : Value} {xs : List Value} (h : w.ownsRow base e size v n xs) (hb : Below w.heap.size w w1) : w1.ownsRow base e size v n xs :=
  h.kept (row := none) ⟨hb.os, hb.tape, hb.output, hb.size, fun i hi _ => hb.block i hi⟩ (by cases v.ownBlock <;> simp)
theorem own_shape' {w : World} {base n : Nat} {e : TypeId} {size : Nat} {v : Value} {xs : List Value} (h : w.ownsRow base e size v n xs) : ∃ A c, v = .slice A n c ∧ (0 < n → ∃ g, A = some ⟨g, 0, none⟩ ∧ base ≤ g ∧ g < w.heap.size) := by
  rcases h.2 with ⟨rfl, rfl⟩ | ⟨g, cap, cur, rfl, hb, hh, _⟩
  · exact ⟨none, 0, rfl, fun h => absurd h (by omega)⟩
  · exact ⟨_, cap, rfl, fun _ => ⟨g, rfl, hb, (Array.getElem?_eq_some_iff.1 hh).1⟩⟩

section
variable {P : Program} {ops : Array Oper} {rest : List Oper} {o : Oper} {a : Act} {Q : Exit → Act → World → Prop}

/-- append(v, y): y's cells lie in the block just laid. -/
theorem app_one {W : World} (base : Nat) (hgd : o.guard = none) (s x : Operand) (t e : TypeId) (z : Value) (size bytes : Nat)
    (ho : o.op = .call { callee := .builtin .append, args := #[s, x], argTypes := #[t, t] })
    (ht : P.underlying t = some (.slice e)) (hinfo : (P.info? e).map (fun i => (i.zero, i.size, i.bytes)) = some (some z, size, bytes)) (hz : z.cells.size = size) (hs0 : 0 < size) (hb0 : 0 < bytes)
    (v : Value) (n : Nat) (xs : List Value) (ys : Array Value) (hys : ys.size = size) (hs : a.eval s = v) (B : Nat) (hx : a.eval x = .slice (some ⟨B, 0, none⟩) 1 1) (hB : B = W.heap.size) (h1 : ∀ u ∈ ys.toList, u.oneCell' = true)
    (HO : W.ownsRow base e size v n xs) (hbase : base ≤ W.heap.size) (hl : (n + 1) * bytes ≤ 140737488355328)
    (h : ∀ v1 w1, w1.ownsRow base e size v1 (n + 1) (xs ++ ys.toList) → W.grownBy w1 v.ownBlock → (∀ g, v.ownBlock = some g → base ≤ g) → wpList P ops Q rest (a.put o.dst v1) w1) :
    wpList P ops Q (o :: rest) a (W.alloc (.cells ys e)) := by
  subst hB
  obtain ⟨i0, hi, hzz⟩ := Option.map_eq_some_iff.1 hinfo
  simp only [Prod.mk.injEq] at hzz
  obtain ⟨hz0, hz1, hz2⟩ := hzz
  have hlen : n + 1 ≤ 140737488355328 := Nat.le_trans (Nat.le_mul_of_pos_right _ hb0) hl
  refine wpList_append_own_at (W.alloc (.cells ys e)) hgd s x t ho base e i0 z size bytes ht hi hz0 hz1 hz2 hz hs0 v n xs hs (HO.alloc _) ⟨W.heap.size, 0, none⟩ 1 1 ys.toList hx (by simp [hys])
    (World.news_of_block (cs := ys) (t := e) (fr := (0, 0)) (heap_alloc_new W _)) h1 (by simp only [maxLen]; omega) hl (by simp; omega) ?_
  intro v1 w1 hown hg _ hat
  exact h v1 w1 hown (World.grownBy.trans (World.grownBy_alloc W _ _) hg) (fun g hg => (HO.lt g hg).1)
end

/-- A slice of one-cell elements that is read. -/
def Rd (w : World) (A : Option Addr) (n : Nat) (vs : List Value) : Prop := vs.length = n ∧ (0 < n → ∃ g o, A = some ⟨g, o, none⟩ ∧ g < w.heap.size ∧ ∀ j u, vs[j]? = some u → w.cell? ⟨g, o + j, none⟩ = some u)
theorem Rd.nil_ (w : World) (A : Option Addr) : Rd w A 0 [] := ⟨rfl, fun h => absurd h (by omega)⟩
theorem Rd.below {w w' : World} {A : Option Addr} {n : Nat} {vs : List Value} (h : Rd w A n vs) (hb : Below w.heap.size w w') : Rd w' A n vs :=
  ⟨h.1, fun h0 => by
    obtain ⟨g, o, e, hlt, hc⟩ := h.2 h0
    exact ⟨g, o, e, Nat.lt_of_lt_of_le hlt hb.size, fun j u hu => (hb.cell (p := ⟨g, _, none⟩) hlt).trans (hc j u hu)⟩⟩
theorem Rd.at_ {w : World} {A : Option Addr} {n : Nat} {vs : List Value} (h : Rd w A n vs) {k : Nat} (hk : k < n) : ∃ g o u, A = some ⟨g, o, none⟩ ∧ g < w.heap.size ∧ vs[k]? = some u ∧ w.cell? ⟨g, o + k, none⟩ = some u := by
  obtain ⟨g, o, e, hlt, hc⟩ := h.2 (by omega)
  have hl : k < vs.length := by have := h.1; omega
  exact ⟨g, o, vs[k], e, hlt, List.getElem?_eq_getElem hl, hc k _ (List.getElem?_eq_getElem hl)⟩
theorem Rd.take_ {w : World} {A : Option Addr} {n : Nat} {vs : List Value} (h : Rd w A n vs) {k : Nat} (hk : k ≤ n) : Rd w A k (vs.take k) :=
  ⟨by rw [List.length_take, h.1]; omega, fun h0 => by
    obtain ⟨g, o, e, hlt, hc⟩ := h.2 (by omega)
    refine ⟨g, o, e, hlt, fun j u hu => hc j u ?_⟩
    have : j < k := by have := (List.getElem?_eq_some_iff.1 hu).1; rw [List.length_take] at this; omega
    rwa [List.getElem?_take_of_lt this] at hu⟩
/-- 'xs[k:]', the address as the model has it. -/
theorem Rd.drop_ {w : World} {A : Option Addr} {n c : Nat} {vs : List Value} (h : Rd w A n vs) {k : Nat} (hk : k ≤ n) (hc : n ≤ c) : Rd w (if c = k then A else A.map (·.add k)) (n - k) (vs.drop k) := by
  refine ⟨by rw [List.length_drop, h.1], fun h0 => ?_⟩
  obtain ⟨g, o, rfl, hlt, hcell⟩ := h.2 (by omega)
  rw [if_neg (by omega)]
  refine ⟨g, o + k, ?_, hlt, fun j u hu => ?_⟩
  · simp only [Option.map_some, Addr.add_lit]
  · rw [List.getElem?_drop] at hu
    rw [Nat.add_assoc]
    exact hcell _ u hu
theorem own_rd {w : World} {base n : Nat} {e : TypeId} {v : Value} {xs : List Value} (h : w.ownsRow base e 1 v n xs) : ∃ A c, v = .slice A n c ∧ Rd w A n xs ∧ n ≤ c := by
  rcases h.2 with ⟨rfl, rfl⟩ | ⟨g, cap, cur, rfl, hb, hh, hnc, _⟩
  · exact ⟨none, 0, rfl, ⟨by have := h.1; omega, fun h => absurd h (by omega)⟩, Nat.le_refl _⟩
  · refine ⟨_, cap, rfl, ⟨by have := h.1; omega, fun _ => ⟨g, 0, rfl, (Array.getElem?_eq_some_iff.1 hh).1, fun j u hu => ?_⟩⟩, hnc⟩
    have := h.cells (g := g) rfl j u hu
    rwa [Addr.add_lit] at this

section
variable {P : Program} {ops : Array Oper} {rest : List Oper} {o : Oper} {a : Act} {Q : Exit → Act → World → Prop}
/-- append(v, ys...): ys a slice that is read. -/
theorem app_rd {W : World} (base : Nat) (hgd : o.guard = none) (s x : Operand) (t e : TypeId) (z : Value) (bytes : Nat)
    (ho : o.op = .call { callee := .builtin .append, args := #[s, x], argTypes := #[t, t] })
    (ht : P.underlying t = some (.slice e)) (hinfo : (P.info? e).map (fun i => (i.zero, i.size, i.bytes)) = some (some z, 1, bytes)) (hz : z.cells.size = 1) (hb0 : 0 < bytes)
    (v : Value) (n : Nat) (xs : List Value) (A : Option Addr) (m c : Nat) (ys : List Value) (hs : a.eval s = v) (hx : a.eval x = .slice A m c) (h1 : ∀ u ∈ ys, u.oneCell' = true)
    (HO : W.ownsRow base e 1 v n xs) (HR : Rd W A m ys) (hbase : base ≤ W.heap.size) (hl : (n + m) * bytes ≤ 140737488355328)
    (h : ∀ v1 w1, w1.ownsRow base e 1 v1 (n + m) (xs ++ ys) → W.grownBy w1 v.ownBlock → (∀ g, v.ownBlock = some g → base ≤ g) → wpList P ops Q rest (a.put o.dst v1) w1) :
    wpList P ops Q (o :: rest) a W := by
  obtain ⟨i0, hi, hzz⟩ := Option.map_eq_some_iff.1 hinfo
  simp only [Prod.mk.injEq] at hzz
  obtain ⟨hz0, hz1, hz2⟩ := hzz
  have hlen : n + m ≤ 140737488355328 := Nat.le_trans (Nat.le_mul_of_pos_right _ hb0) hl
  have hm := HR.1
  have hrun : ∃ v1 w1, (Builtin.append_ #[t, t] o.type #[v, .slice A m c]).run P W = .ok v1 w1 ∧ w1.ownsRow base e 1 v1 (n + m) (xs ++ ys) ∧ W.grownBy w1 v.ownBlock := by
    rcases A with _ | ad
    · have h0 : m = 0 := by
        rcases Nat.eq_zero_or_pos m with h0 | h0
        · exact h0
        · obtain ⟨g, o, h, _⟩ := HR.2 h0
          cases h
      subst h0
      obtain rfl : ys = [] := List.eq_nil_of_length_eq_zero hm
      refine ⟨v, W, ?_, by simpa using HO, World.grownBy.refl W _⟩
      rcases HO.2 with ⟨rfl, hn⟩ | ⟨g, cap, cur, rfl, _, _, hnc, _⟩
      · simp [Builtin.append_, run_underlying ht, sizeOf, typeInfo, hi, Builtin.lenOf, Builtin.firstCells]
      · simp [Builtin.append_, run_underlying ht, sizeOf, typeInfo, hi, Builtin.lenOf, Builtin.firstCells, hnc, storeCells]
    · have hcells : ∀ j u, ys[j]? = some u → W.cell? (ad.add j) = some u := by
        intro j u hu
        have hj := (List.getElem?_eq_some_iff.1 hu).1
        obtain ⟨g, o, h', _, hc⟩ := HR.2 (by omega)
        injection h' with h'
        subst h'
        rw [Addr.add_lit]
        exact hc j u hu
      obtain ⟨v1, w1, hr, h2, h3, _, _⟩ := run_append_own_at (P := P) W base t o.type e i0 z 1 bytes ht hi hz0 hz1 hz2 hz (by omega) v n xs HO ad m c ys (by omega) hcells h1 (by simp only [maxLen]; omega) hl hbase
      exact ⟨v1, w1, hr, h2, h3⟩
  obtain ⟨v1, w1, hr, hown, hg⟩ := hrun
  refine wpList_plain hgd fun K hK => ?_
  unfold Oper.wp execOp
  simp only [ho, resolve, invoke, builtin, Sem.run_bind, Sem.run_pure, Result.andThen_ok, List.map_toArray, List.map_cons, List.map_nil, hs, hx, hr]
  exact hK _ _ (h v1 w1 hown hg (fun g hg => (HO.lt g hg).1))
end

theorem below_grown' {B : Nat} {w w1 w2 : World} (h : Below B w w1) (hB : B ≤ w1.heap.size) {row : Option Nat} (hg : w1.grownBy w2 row) (hr : ∀ g, row = some g → B ≤ g) : Below B w w2 := h.grown hg hB hr

end Go.Proofs.YtdmcponfodohaaaGreatDoor
/-
  name.All: names, no two alike.
-/
namespace Go.Proofs.YtdmcponfodohaaaGreatDoor
open Go.RowKit Go.Shelf
set_option maxRecDepth 100000

theorem keyString : KeyE Tryz.prog 9 Value.string (fun s : ByteArray => s.size ≤ maxLen) where
  keyed := Go.Maps.string_keyed Tryz.underlying9
  inj a b h := by injection h
  lit a h := ⟨_, Go.WideMaps.keyOf_string_mk Tryz.underlying9 h⟩

def StrsAt (w : World) (A : Option Addr) (n : Nat) (ss : List ByteArray) : Prop :=
  ss.length = n ∧ (0 < n → ∃ b o, A = some ⟨b, o, none⟩ ∧ b < w.heap.size ∧ ∀ j s, ss[j]? = some s → w.cell? ⟨b, o + j, none⟩ = some (.string s))
theorem StrsAt.at_ {w : World} {A : Option Addr} {n : Nat} {ss : List ByteArray} (h : StrsAt w A n ss) {k : Nat} (hk : k < n) : ∃ b o s, A = some ⟨b, o, none⟩ ∧ ss[k]? = some s ∧ b < w.heap.size ∧ w.cell? ⟨b, o + k, none⟩ = some (.string s) := by
  obtain ⟨b, o, e, hb, hc⟩ := h.2 (by omega)
  have hl : k < ss.length := by have := h.1; omega
  exact ⟨b, o, ss[k], e, List.getElem?_eq_getElem hl, hb, hc k _ (List.getElem?_eq_getElem hl)⟩

def allS (l : List ByteArray) : Bool := l.all rightS && decide l.Nodup
def seenL (l : List ByteArray) : List (ByteArray × Bool) := l.map fun s => (s, true)

theorem allS_wrong {l : List ByteArray} {s : ByteArray} (h : s ∈ l) (hr : rightS s = false) : allS l = false := by
  unfold allS
  have : l.all rightS = false := by
    rw [List.all_eq_false]
    exact ⟨s, h, by simp [hr]⟩
  rw [this]; rfl
theorem allS_twice {l : List ByteArray} {s : ByteArray} {k : Nat} (hk : l[k]? = some s) (h : s ∈ l.take k) : allS l = false := by
  unfold allS
  have : ¬ l.Nodup := by
    intro hn
    obtain ⟨i, hi⟩ := List.getElem?_of_mem h
    have hik : i < k := by
      have := (List.getElem?_eq_some_iff.1 hi).1
      rw [List.length_take] at this
      omega
    rw [List.getElem?_take_of_lt hik] at hi
    have h1 := (List.getElem?_eq_some_iff.1 hi)
    have h2 := (List.getElem?_eq_some_iff.1 hk)
    have := List.pairwise_iff_getElem.1 hn i k h1.1 h2.1 hik
    rw [h1.2, h2.2] at this
    exact this rfl
  simp [this]
theorem mget_seen_none {l : List ByteArray} {s : ByteArray} (h : s ∉ l) : mget (seenL l) s = none := by
  cases hm : mget (seenL l) s with
  | none => rfl
  | some v =>
    obtain ⟨x, hx, he⟩ := List.mem_map.1 (mget_some hm)
    exact absurd ((Prod.mk.inj he).1 ▸ hx) h
theorem mget_seen_some {l : List ByteArray} {s : ByteArray} (hn : l.Nodup) (h : s ∈ l) : mget (seenL l) s = some true :=
  mget_mem (by unfold seenL; rw [List.map_map]; simpa [Function.comp_def] using hn) (List.mem_map.2 ⟨s, h, rfl⟩)

theorem bcell {W w1 : World} (hb : Below W.heap.size W w1) : (∀ b o, b < W.heap.size → w1.cell? ⟨b, o, none⟩ = W.cell? ⟨b, o, none⟩) ∧ (∀ b o, b < W.heap.size → w1.frozen? ⟨b, o, none⟩ = W.frozen? ⟨b, o, none⟩) :=
  ⟨fun b o h => hb.cell (p := ⟨b, o, none⟩) h, fun b o h => hb.frozen (p := ⟨b, o, none⟩) h⟩

theorem mput_new {κ ν : Type} [DecidableEq κ] {l : List (κ × ν)} {k : κ} (h : mget l k = none) (v : ν) : mput l k v = l ++ [(k, v)] := by
  unfold mput; rw [any_mget, h]; rfl

theorem zeroB (w : World) : (zeroValue 4).run Tryz.prog w = .ok (.bool false) w := by kernel_rfl

theorem all_c (A : Option Addr) (n c : Nat) (ss : List ByteArray) (w : World) (hS : StrsAt w A n ss) (hlen : ∀ s ∈ ss, s.size ≤ maxLen) (hn : n ≤ 1000000) (R : Ending → World → Prop)
    (h : ∀ w', Below w.heap.size w w' → R (.returned (.bool (allS ss))) w') :
    Calls Tryz.prog 155 #[.slice A n c] w R := by
  have hmm := @run_makeMap Tryz.prog
  go_enter Tryz.func155, Tryz.ntmps155
  go_wp2_with fail
  have H := Lib.hid h
  clear h
  go_loopw [9] (fun i wr => ∃ k : Nat, k ≤ n ∧ i = .int .i64 k ∧ Below w.heap.size w wr ∧ MapAt wr w.heap.size Value.string Value.bool (fun s : ByteArray => s.size ≤ maxLen) (seenL (ss.take k)) ∧ (∀ s ∈ ss.take k, rightS s = true) ∧ (ss.take k).Nodup)
    (fun i _ => n - (intOf i).toNat)
  case atStart => exact ⟨0, Nat.zero_le _, rfl, (Below.refl _ _).alloc (Nat.le_refl _) _, MapAt.new _ _ _ _, by simp, by simp⟩
  case round =>
    obtain ⟨k, hk, rfl, hB, hM, hr, hnd⟩ := hrel
    by_cases hlt : k < n
    · obtain ⟨b, o, s, rfl, hs, hb, hc⟩ := hS.at_ hlt
      have hcx : wr.cell? ⟨b, o + k, none⟩ = some (.string s) := (hB.cell (p := ⟨b, o + k, none⟩) hb).trans hc
      have hsl := hlen s (List.mem_of_getElem? hs)
      have hsm : s ∈ ss := List.mem_of_getElem? hs
      have htk : ss.take (k + 1) = ss.take k ++ [s] := by rw [List.take_add_one, hs]; rfl
      have Htk := Lib.hid htk
      have Hs := Lib.hid hs
      clear htk hs
      cases hrs : rightS s with
      | false =>
        have hres := allS_wrong hsm hrs
        rw [hres] at H
        clear hres
        go_wp2_with fail
        refine right_c s (by unfold maxLen at hsl; omega) wr _ (fun w1 hB1 => ?_)
        go_wp2_with fail
        exact H.out _ (hB.trans (hB1.mono hB.size))
      | true =>
        by_cases hin : s ∈ ss.take k
        · have hres := allS_twice Hs.out hin
          rw [hres] at H
          clear hres
          have Hg := Lib.hid (mget_seen_some hnd hin)
          go_wp2_with fail
          refine right_c s (by unfold maxLen at hsl; omega) wr _ (fun w1 hB1 => ?_)
          have hlk := MapAt.lookup_some keyString Tryz.underlying220 (hM.same (hB1.block _ hM.lt)) hsl Hg.out false
          go_wp2_with fail
          exact H.out _ (hB.trans (hB1.mono hB.size))
        · have Hg := Lib.hid (mget_seen_none hin)
          go_wp2_with fail
          refine right_c s (by unfold maxLen at hsl; omega) wr _ (fun w1 hB1 => ?_)
          have hM1 := hM.same (hB1.block _ hM.lt)
          have hlk := MapAt.lookup_none keyString Tryz.underlying220 hM1 hsl Hg.out (zeroB w1) false
          obtain ⟨ob, hup, hM2⟩ := MapAt.update keyString Tryz.underlying220 hM1 hsl true
          go_wp2_with fail
          have hput : mput (seenL (ss.take k)) s true = seenL (ss.take k) ++ [(s, true)] := mput_new Hg.out true
          refine ⟨⟨k + 1, by omega, by go_num, ?_, ?_, ?_, ?_⟩, by simp [intOf]; omega⟩
          · exact (hB.trans (hB1.mono hB.size)).grown (grown_setBlock _ _ _) (Nat.le_trans hB.size hB1.size) (fun j hj => by cases hj; exact Nat.le_refl _)
          · rw [hput] at hM2
            rw [Htk.out]
            unfold seenL at hM2 ⊢
            rw [List.map_append]
            exact hM2
          · rw [Htk.out]
            intro x hx
            rcases List.mem_append.1 hx with hx | hx
            · exact hr x hx
            · rw [List.mem_singleton] at hx; rw [hx]; exact hrs
          · rw [Htk.out, List.nodup_append]
            refine ⟨hnd, by simp, fun a ha b' hb' => ?_⟩
            rw [List.mem_singleton] at hb'
            rw [hb']
            exact fun e => hin (e ▸ ha)
    · have hkn : k = n := by omega
      have e : ss.take k = ss := by rw [hkn, ← hS.1]; exact List.take_length
      have hres : allS ss = true := by
        unfold allS
        rw [e] at hr hnd
        simp only [Bool.and_eq_true, decide_eq_true_eq]
        exact ⟨List.all_eq_true.2 hr, hnd⟩
      rw [hres] at H
      clear hkn e hres
      go_wp2_with fail
      exact H.out _ hB
end Go.Proofs.YtdmcponfodohaaaGreatDoor
/-
  Maps as association lists: delete. No condition beyond those that each lemma names.
-/
namespace Go.Proofs.YtdmcponfodohaaaGreatDoor
open Go.RowKit Go.ChangeMaps Go.MapKept

theorem eraseIdx_map' {α β : Type} (f : α → β) : ∀ (l : List α) (i : Nat), (l.eraseIdx i).map f = (l.map f).eraseIdx i
  | [], _ => rfl
  | _ :: _, 0 => rfl
  | a :: r, i + 1 => by
    rw [List.eraseIdx_cons_succ, List.map_cons, List.map_cons, List.eraseIdx_cons_succ, eraseIdx_map' f r i]
section
variable {κ ν : Type} {P : Program} {t kt e : TypeId} {ek : κ → Value} {ev : ν → Value} {ok : κ → Prop} {w : World} {b : Nat} {l : List (κ × ν)} [DecidableEq κ]
theorem mdel_none {l : List (κ × ν)} {k : κ} (h : mget l k = none) : mdel l k = l := by
  unfold mdel
  rw [List.filter_eq_self]
  intro p hp
  have := mget_none h p hp
  simpa using this
theorem mdel_at : ∀ {l : List (κ × ν)} {k : κ} {i : Nat} {v : ν}, (l.map Prod.fst).Nodup → l[i]? = some (k, v) → l.eraseIdx i = mdel l k
  | [], _, _, _, _, h => by cases h
  | p :: r, k, 0, v, hn, h => by
    have h' : p = (k, v) := by simpa using h
    subst h'
    rw [List.map_cons, List.nodup_cons] at hn
    unfold mdel
    rw [List.eraseIdx_cons_zero, List.filter_cons_of_neg (by simp)]
    refine (List.filter_eq_self.2 fun q hq => ?_).symm
    have : q.1 ≠ k := fun e => hn.1 (List.mem_map.2 ⟨q, hq, e⟩)
    simpa using this
  | p :: r, k, i + 1, v, hn, h => by
    rw [List.map_cons, List.nodup_cons] at hn
    have h' : r[i]? = some (k, v) := by simpa using h
    have ih := mdel_at hn.2 h'
    have hne : p.1 ≠ k := fun e => hn.1 (List.mem_map.2 ⟨(k, v), List.mem_of_getElem? h', e.symm⟩)
    unfold mdel at ih ⊢
    rw [List.eraseIdx_cons_succ, List.filter_cons_of_pos (by simpa using hne), ih]
theorem MapAt.delete (K : KeyE P kt ek ok) (ht : P.underlying t = some (.map kt e)) (h : MapAt w b ek ev ok l) {k : κ} (hk : ok k) (ty : TypeId) :
    ∃ o, (Builtin.delete_ #[t, kt] ty #[.map (some b), ek k]).run P w = .ok (.tuple #[]) (setBlock w b o) ∧ MapAt (setBlock w b o) b ek ev ok (mdel l k) := by
  have hlt := h.lt
  obtain ⟨es, c, hb, hborn, hbn, hl, hn, hok⟩ := h
  obtain ⟨kl, hkl⟩ := K.lit k hk
  rcases MapAt.find K hl hn hok k hk w with ⟨h1, hf⟩ | ⟨i, v', x, h1, hi, hx, hxk, hf⟩
  · refine ⟨.map es c, ?_, ?_⟩
    · simp [Builtin.delete_, run_underlying ht, Sem.run_bind, Result.andThen, MapKept.run_getObj_map hb, K.keyed.check _ _ hkl, hf, MapKept.run_setObj_map _ hb, setBlock]
    · rw [mdel_none h1]
      exact ⟨es, c, at_setBlock _ hlt, hborn, hbn, hl, hn, hok⟩
  · have hil : i < es.toList.length := (List.getElem?_eq_some_iff.1 hx).1
    have hes : i < es.size := by simpa using hil
    have htl : (es.eraseIdxIfInBounds i).toList = es.toList.eraseIdx i := by
      unfold Array.eraseIdxIfInBounds
      rw [dif_pos hes]
      simp
    refine ⟨.map (es.eraseIdxIfInBounds i) c, ?_, ?_⟩
    · simp [Builtin.delete_, run_underlying ht, Sem.run_bind, Result.andThen, MapKept.run_getObj_map hb, K.keyed.check _ _ hkl, hf, MapKept.run_setObj_map _ hb, setBlock]
    · rw [← mdel_at hn hi]
      refine ⟨_, c, at_setBlock _ hlt, ?_, ?_, ?_, ?_, ?_⟩
      · intro y hy
        rw [htl] at hy
        exact hborn y (List.mem_of_mem_eraseIdx hy)
      · rw [htl, eraseIdx_map']
        exact List.Nodup.sublist (List.eraseIdx_sublist _ _) hbn
      · rw [htl, eraseIdx_map', hl, ← eraseIdx_map']
      · rw [eraseIdx_map']
        exact List.Nodup.sublist (List.eraseIdx_sublist _ _) hn
      · intro p hp
        exact hok p (List.mem_of_mem_eraseIdx hp)
variable {ops : Array Oper} {rest : List Oper} {o : Oper} {a : Act} {Q : Exit → Act → World → Prop}
theorem wpList_delete_at (hg : o.guard = none) (m x : Operand) (hop : o.op = Op.call { callee := Callee.builtin Builtin.delete, args := #[m, x], argTypes := #[t, kt] })
    (K : KeyE P kt ek ok) (ht : P.underlying t = some (.map kt e)) (h : MapAt w b ek ev ok l) {k : κ} (hk : ok k) (hm : a.eval m = .map (some b)) (hx : a.eval x = ek k)
    (hK : ∀ ob, MapAt (setBlock w b ob) b ek ev ok (mdel l k) → wpList P ops Q rest (a.put o.dst (.tuple #[])) (setBlock w b ob)) : wpList P ops Q (o :: rest) a w := by
  refine wpList_plain hg fun K' hK' => ?_
  obtain ⟨ob, hrun, h2⟩ := h.delete K ht hk o.type
  unfold Oper.wp
  simp [execOp, hop, resolve, invoke, builtin, hm, hx, hrun, Result.andThen]
  exact hK' _ _ (hK ob h2)
theorem wpList_update_at (hg : o.guard = none) (m x v : Operand) (hop : o.op = Op.mapUpdate t m x v)
    (K : KeyE P kt ek ok) (ht : P.underlying t = some (.map kt e)) (h : MapAt w b ek ev ok l) {k : κ} (hk : ok k) (y : ν) (hm : a.eval m = .map (some b)) (hx : a.eval x = ek k) (hv : a.eval v = ev y)
    (hK : ∀ ob, MapAt (setBlock w b ob) b ek ev ok (mput l k y) → wpList P ops Q rest (a.put o.dst undef) (setBlock w b ob)) : wpList P ops Q (o :: rest) a w := by
  refine wpList_plain hg fun K' hK' => ?_
  obtain ⟨ob, hrun, h2⟩ := h.update K ht hk y
  unfold Oper.wp
  simp [execOp, hop, hm, hx, hv, hrun, Result.andThen]
  exact hK' _ _ (hK ob h2)
end
end Go.Proofs.YtdmcponfodohaaaGreatDoor
