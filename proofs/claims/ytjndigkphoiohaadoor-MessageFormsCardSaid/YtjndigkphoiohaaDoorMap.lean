/-
  Maps as association lists: a map's block reads as a list of pairs in the order in which its keys were laid; look-up, store, delete and range say what becomes of that list. No condition beyond those that each lemma names.
-/
import Derived.Test.YtjndigkphoiohaaDoorBase
import Derived.DeepKeys4
import Derived.StringKeys
namespace Go.Proofs.YtjndigkphoiohaaDoor
open Go.RowKit Go.ChangeMaps Go.MapKept

/-- How keys are laid out. -/
structure KeyE (P : Program) (k : TypeId) {κ : Type} (ek : κ → Value) (ok : κ → Prop) : Prop where
  keyed : Go.Maps.Keyed P k
  inj : ∀ a b, ek a = ek b → a = b
  lit : ∀ a, ok a → ∃ l, keyOf P k (ek a) = some l

section
variable {κ ν : Type}
def MapAt (w : World) (b : Nat) (ek : κ → Value) (ev : ν → Value) (ok : κ → Prop) (l : List (κ × ν)) : Prop :=
  ∃ es c, w.heap[b]? = some (.map es c) ∧ (∀ x ∈ es.toList, x.born < c) ∧ (es.toList.map (·.born)).Nodup ∧ es.toList.map (fun e => (e.key, e.val)) = l.map (fun p => (ek p.1, ev p.2)) ∧ (l.map Prod.fst).Nodup ∧ ∀ p ∈ l, ok p.1

variable {P : Program} {t kt e : TypeId} {ek : κ → Value} {ev : ν → Value} {ok : κ → Prop} {w : World} {b : Nat} {l : List (κ × ν)}

theorem MapAt.lt (h : MapAt w b ek ev ok l) : b < w.heap.size := by
  obtain ⟨es, c, hb, _⟩ := h
  exact (Array.getElem?_eq_some_iff.1 hb).1
theorem MapAt.same {w' : World} (h : MapAt w b ek ev ok l) (hw : w'.heap[b]? = w.heap[b]?) : MapAt w' b ek ev ok l := by
  obtain ⟨es, c, hb, r⟩ := h
  exact ⟨es, c, hw.trans hb, r⟩
theorem MapAt.new (w : World) (ek : κ → Value) (ev : ν → Value) (ok : κ → Prop) : MapAt (w.alloc (.map #[] 0)) w.heap.size ek ev ok [] :=
  ⟨#[], 0, heap_alloc_new w _, by simp, by simp, by simp, by simp, by simp⟩
theorem MapAt.nodup (h : MapAt w b ek ev ok l) : (l.map Prod.fst).Nodup := by
  obtain ⟨_, _, _, _, _, _, h, _⟩ := h
  exact h

/-- Entry and pair stand at one place. -/
theorem pairs_at {es : List MapEntry} {l : List (κ × ν)} (h : es.map (fun e => (e.key, e.val)) = l.map (fun p => (ek p.1, ev p.2))) {i : Nat} {x : MapEntry} (hx : es[i]? = some x) : ∃ p, l[i]? = some p ∧ x.key = ek p.1 ∧ x.val = ev p.2 := by
  have h1 : (es.map (fun e => (e.key, e.val)))[i]? = some (x.key, x.val) := by rw [List.getElem?_map, hx]; rfl
  rw [h, List.getElem?_map] at h1
  obtain ⟨p, hp, hpe⟩ := Option.map_eq_some_iff.1 h1
  exact ⟨p, hp, (Prod.mk.inj hpe).1.symm, (Prod.mk.inj hpe).2.symm⟩
theorem pairs_back {es : List MapEntry} {l : List (κ × ν)} (h : es.map (fun e => (e.key, e.val)) = l.map (fun p => (ek p.1, ev p.2))) {i : Nat} {p : κ × ν} (hp : l[i]? = some p) : ∃ x, es[i]? = some x ∧ x.key = ek p.1 ∧ x.val = ev p.2 := by
  have h1 : (l.map (fun p => (ek p.1, ev p.2)))[i]? = some (ek p.1, ev p.2) := by rw [List.getElem?_map, hp]; rfl
  rw [← h, List.getElem?_map] at h1
  obtain ⟨x, hx, hxe⟩ := Option.map_eq_some_iff.1 h1
  exact ⟨x, hx, (Prod.mk.inj hxe).1, (Prod.mk.inj hxe).2⟩

theorem MapAt.keys (K : KeyE P kt ek ok) {es : Array MapEntry} (h : es.toList.map (fun e => (e.key, e.val)) = l.map (fun p => (ek p.1, ev p.2))) (hok : ∀ p ∈ l, ok p.1) : ∀ x ∈ es.toList, ∃ kl, keyOf P kt x.key = some kl := by
  intro x hx
  obtain ⟨i, hi⟩ := List.getElem?_of_mem hx
  obtain ⟨p, hp, hk, _⟩ := pairs_at h hi
  rw [hk]
  exact K.lit _ (hok p (List.mem_of_getElem? hp))

variable [DecidableEq κ]
def mget (l : List (κ × ν)) (k : κ) : Option ν := (l.find? (fun p => decide (p.1 = k))).map Prod.snd
def mput (l : List (κ × ν)) (k : κ) (v : ν) : List (κ × ν) := if l.any (fun p => decide (p.1 = k)) then l.map (fun p => if p.1 = k then (k, v) else p) else l ++ [(k, v)]
def mdel (l : List (κ × ν)) (k : κ) : List (κ × ν) := l.filter (fun p => decide (p.1 ≠ k))

theorem mget_some {l : List (κ × ν)} {k : κ} {v : ν} (h : mget l k = some v) : (k, v) ∈ l := by
  obtain ⟨p, hp, rfl⟩ := Option.map_eq_some_iff.1 h
  have h1 := List.find?_some hp
  have h2 := List.mem_of_find?_eq_some hp
  simp only [decide_eq_true_eq] at h1
  rw [← h1]
  exact h2
theorem mget_none {l : List (κ × ν)} {k : κ} (h : mget l k = none) : ∀ p ∈ l, p.1 ≠ k := by
  intro p hp
  have := List.find?_eq_none.1 (Option.map_eq_none_iff.1 h) p hp
  simpa using this
theorem mget_mem {l : List (κ × ν)} (hn : (l.map Prod.fst).Nodup) {k : κ} {v : ν} (h : (k, v) ∈ l) : mget l k = some v := by
  cases hm : mget l k with
  | none => exact absurd rfl (mget_none hm _ h)
  | some v' => rw [fst_inj hn (mget_some hm) h]

/-- What 'findKey' comes to. -/
theorem MapAt.find (K : KeyE P kt ek ok) {es : Array MapEntry} (hl : es.toList.map (fun e => (e.key, e.val)) = l.map (fun p => (ek p.1, ev p.2))) (hn : (l.map Prod.fst).Nodup) (hok : ∀ p ∈ l, ok p.1) (k : κ) (hk : ok k) (w : World) :
    (mget l k = none ∧ (Instr.findKey kt (ek k) es.toList).run P w = .ok none w) ∨ ∃ i v x, mget l k = some v ∧ l[i]? = some (k, v) ∧ es.toList[i]? = some x ∧ x.key = ek k ∧ (Instr.findKey kt (ek k) es.toList).run P w = .ok (some (i, ev v)) w := by
  obtain ⟨kl, hkl⟩ := K.lit k hk
  rcases K.keyed.find w hkl es.toList (MapAt.keys K hl hok) with ⟨hf, hno⟩ | ⟨j, x, hf, hj, hx⟩
  · refine .inl ⟨?_, hf⟩
    cases hm : mget l k with
    | none => rfl
    | some v =>
      obtain ⟨i, hi⟩ := List.getElem?_of_mem (mget_some hm)
      obtain ⟨x, hx, hxk, _⟩ := pairs_back hl hi
      exact absurd hxk (hno x (List.mem_of_getElem? hx))
  · obtain ⟨p, hp, hpk, hpv⟩ := pairs_at hl hj
    have e1 : p.1 = k := K.inj _ _ (by rw [← hpk, hx])
    refine .inr ⟨j, p.2, x, mget_mem hn (by rw [← e1]; exact List.mem_of_getElem? hp), by rw [hp, ← e1], hj, hx, by rw [hf, hpv]⟩

theorem MapAt.lookup_some (K : KeyE P kt ek ok) (ht : P.underlying t = some (.map kt e)) (h : MapAt w b ek ev ok l) {k : κ} (hk : ok k) {v : ν} (hv : mget l k = some v) (cok : Bool) :
    (Instr.lookup t (.map (some b)) (ek k) cok).run P w = .ok (if cok = true then .tuple #[ev v, .bool true] else ev v) w := by
  obtain ⟨es, c, hb, _, _, hl, hn, hok⟩ := h
  obtain ⟨kl, hkl⟩ := K.lit k hk
  rcases MapAt.find K hl hn hok k hk w with ⟨h1, _⟩ | ⟨i, v', x, h1, _, _, _, hf⟩
  · rw [h1] at hv; cases hv
  · rw [h1] at hv
    cases hv
    simp only [Instr.lookup, run_underlying ht, Sem.run_bind, Result.andThen, MapKept.run_getObj_map hb, Sem.run_pure, K.keyed.check _ _ hkl, hf]
theorem MapAt.lookup_none (K : KeyE P kt ek ok) (ht : P.underlying t = some (.map kt e)) (h : MapAt w b ek ev ok l) {k : κ} (hk : ok k) (hv : mget l k = none) {z : Value} (hz : (zeroValue e).run P w = .ok z w) (cok : Bool) :
    (Instr.lookup t (.map (some b)) (ek k) cok).run P w = .ok (if cok = true then .tuple #[z, .bool false] else z) w := by
  obtain ⟨es, c, hb, _, _, hl, hn, hok⟩ := h
  obtain ⟨kl, hkl⟩ := K.lit k hk
  rcases MapAt.find K hl hn hok k hk w with ⟨_, hf⟩ | ⟨i, v', x, h1, _⟩
  · simp only [Instr.lookup, run_underlying ht, Sem.run_bind, Result.andThen, MapKept.run_getObj_map hb, Sem.run_pure, K.keyed.check _ _ hkl, hf, hz]
  · rw [h1] at hv; cases hv

theorem grown_setBlock (w : World) (b : Nat) (o : Obj) : w.grownBy (setBlock w b o) (some b) :=
  ⟨rfl, rfl, rfl, by simp [setBlock], fun i _ hi => by
    simp only [setBlock]
    rw [Array.getElem?_setIfInBounds_ne (fun e => hi (by rw [e]))]⟩
theorem size_setBlock (w : World) (b : Nat) (o : Obj) : (setBlock w b o).heap.size = w.heap.size := by simp [setBlock]
theorem at_setBlock {w : World} {b : Nat} (o : Obj) (h : b < w.heap.size) : (setBlock w b o).heap[b]? = some o := by
  simp only [setBlock]
  rw [Array.getElem?_setIfInBounds_self_of_lt h]

theorem any_mget {l : List (κ × ν)} {k : κ} : l.any (fun p => decide (p.1 = k)) = (mget l k).isSome := by
  unfold mget
  rw [Option.isSome_map, Bool.eq_iff_iff, List.find?_isSome, List.any_eq_true]

theorem MapAt.update (K : KeyE P kt ek ok) (ht : P.underlying t = some (.map kt e)) (h : MapAt w b ek ev ok l) {k : κ} (hk : ok k) (v : ν) :
    ∃ o, (Instr.mapUpdate t (.map (some b)) (ek k) (ev v)).run P w = .ok () (setBlock w b o) ∧ MapAt (setBlock w b o) b ek ev ok (mput l k v) := by
  have hlt := h.lt
  obtain ⟨es, c, hb, hborn, hbn, hl, hn, hok⟩ := h
  obtain ⟨kl, hkl⟩ := K.lit k hk
  rcases MapAt.find K hl hn hok k hk w with ⟨h1, hf⟩ | ⟨i, v', x, h1, hi, hx, hxk, hf⟩
  · refine ⟨.map (es.push ⟨ek k, ev v, c⟩) (c + 1), ?_, ?_⟩
    · simp only [Instr.mapUpdate, run_underlying ht, Sem.run_bind, Result.andThen, MapKept.run_getObj_map hb, K.keyed.check _ false hkl, hf, MapKept.run_setObj_map _ hb]
      rfl
    · have hp : mput l k v = l ++ [(k, v)] := by unfold mput; rw [any_mget, h1]; rfl
      rw [hp]
      refine ⟨_, _, at_setBlock _ hlt, ?_, ?_, ?_, ?_, ?_⟩
      · intro y hy
        simp only [Array.toList_push, List.mem_append, List.mem_singleton] at hy
        rcases hy with hy | rfl
        · exact Nat.lt_succ_of_lt (hborn y hy)
        · exact Nat.lt_succ_self _
      · simp only [Array.toList_push, List.map_append, List.map_cons, List.map_nil]
        rw [List.nodup_append]
        refine ⟨hbn, by simp, fun a ha b' hb' => ?_⟩
        simp only [List.mem_singleton] at hb'
        obtain ⟨y, hy, rfl⟩ := List.mem_map.1 ha
        have := hborn y hy
        omega
      · simp only [Array.toList_push, List.map_append, List.map_cons, List.map_nil, hl]
      · rw [List.map_append, List.nodup_append]
        refine ⟨hn, by simp, fun a ha b' hb' => ?_⟩
        simp only [List.map_cons, List.map_nil, List.mem_singleton] at hb'
        obtain ⟨p, hp, rfl⟩ := List.mem_map.1 ha
        rw [hb']
        exact mget_none h1 p hp
      · intro p hp
        rcases List.mem_append.1 hp with hp | hp
        · exact hok p hp
        · rw [List.mem_singleton] at hp; subst hp; exact hk
  · have hes : es[i]? = some x := by rw [← hx, Array.getElem?_toList]
    refine ⟨.map (es.modify i fun e => { key := ek k, val := ev v, born := e.born }) c, ?_, ?_⟩
    · simp only [Instr.mapUpdate, run_underlying ht, Sem.run_bind, Result.andThen, MapKept.run_getObj_map hb, K.keyed.check _ false hkl, hf, hes, Option.map_some, Option.getD_some, hxk, K.keyed.stays _ hkl, MapKept.run_setObj_map _ hb]
      rfl
    · have hp : mput l k v = l.map (fun p => if p.1 = k then (k, v) else p) := by unfold mput; rw [any_mget, h1]; rfl
      have hset : ∀ (α : Type) (f : MapEntry → α), (es.modify i fun e => { key := ek k, val := ev v, born := e.born }).toList.map f = (es.toList.map f).set i (f ⟨ek k, ev v, x.born⟩) := by
        intro α f
        rw [Array.toList_modify]
        apply List.ext_getElem?
        intro j
        rw [List.getElem?_map, List.getElem?_modify, List.getElem?_set, List.getElem?_map]
        by_cases hij : i = j
        · subst hij
          have hlen : i < (es.toList.map f).length := by rw [List.length_map]; exact (List.getElem?_eq_some_iff.1 hx).1
          have hlen' : i < es.size := by simpa using hlen
          have hex : es[i] = x := (Array.getElem?_eq_some_iff.1 hes).2
          simp [hlen', hex]
        · simp [hij]
      have hmap : l.map (fun p => if p.1 = k then (k, v) else p) = l.set i (k, v) := by
        apply List.ext_getElem?
        intro j
        rw [List.getElem?_map, List.getElem?_set]
        by_cases hij : i = j
        · subst hij
          have hlen : i < l.length := (List.getElem?_eq_some_iff.1 hi).1
          have hli : l[i] = (k, v') := (List.getElem?_eq_some_iff.1 hi).2
          simp [hlen, hli]
        · simp only [hij, if_false]
          cases hj : l[j]? with
          | none => rfl
          | some q =>
            have hq : q.1 ≠ k := by
              intro hqk
              have hnd := List.pairwise_iff_getElem.1 hn
              have hqj : l[j]'(List.getElem?_eq_some_iff.1 hj).1 = q := (List.getElem?_eq_some_iff.1 hj).2
              have hqi : l[i]'(List.getElem?_eq_some_iff.1 hi).1 = (k, v') := (List.getElem?_eq_some_iff.1 hi).2
              have hjl : j < l.length := (List.getElem?_eq_some_iff.1 hj).1
              have hil : i < l.length := (List.getElem?_eq_some_iff.1 hi).1
              rcases Nat.lt_or_gt_of_ne hij with h2 | h2
              · exact hnd i j (by simpa using hil) (by simpa using hjl) h2 (by rw [List.getElem_map, List.getElem_map, hqi, hqj, hqk])
              · exact hnd j i (by simpa using hjl) (by simpa using hil) h2 (by rw [List.getElem_map, List.getElem_map, hqi, hqj, hqk])
            simp [hq]
      rw [hp, hmap]
      refine ⟨_, _, at_setBlock _ hlt, ?_, ?_, ?_, ?_, ?_⟩
      · intro y hy
        rw [Array.toList_modify] at hy
        obtain ⟨j, hj⟩ := List.getElem?_of_mem hy
        rw [List.getElem?_modify] at hj
        cases hj' : es.toList[j]? with
        | none => rw [hj'] at hj; cases hj
        | some z =>
          rw [hj'] at hj
          have hz := hborn z (List.mem_of_getElem? hj')
          simp only [Option.map_eq_map, Option.map_some, Option.some.injEq] at hj
          split at hj
          · rw [← hj]; exact hz
          · rw [← hj]; exact hz
      · rw [hset]
        have : (es.toList.map (·.born)).set i x.born = es.toList.map (·.born) := by
          apply List.ext_getElem?
          intro j
          rw [List.getElem?_set]
          by_cases hij : i = j
          · subst hij
            have hlen : i < (es.toList.map (·.born)).length := by rw [List.length_map]; exact (List.getElem?_eq_some_iff.1 hx).1
            rw [if_pos rfl, if_pos hlen, List.getElem?_map, hx]
            rfl
          · rw [if_neg hij]
        rw [this]
        exact hbn
      · rw [hset, hl, List.map_set]
      · have : (l.set i (k, v)).map Prod.fst = l.map Prod.fst := by
          rw [List.map_set]
          apply List.ext_getElem?
          intro j
          rw [List.getElem?_set]
          by_cases hij : i = j
          · subst hij
            have hlen : i < (l.map Prod.fst).length := by rw [List.length_map]; exact (List.getElem?_eq_some_iff.1 hi).1
            rw [if_pos rfl, if_pos hlen, List.getElem?_map, hi]
            rfl
          · rw [if_neg hij]
        rw [this]
        exact hn
      · intro p hp
        rcases List.mem_or_eq_of_mem_set hp with hp | rfl
        · exact hok p hp
        · exact hk
end
end Go.Proofs.YtjndigkphoiohaaDoor
