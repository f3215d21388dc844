/-
  name.All: names, no two alike.
-/
import Derived.Test.YtjndigkphoiohaaDoorName
import Derived.Test.YtjndigkphoiohaaDoorMap
namespace Go.Proofs.YtjndigkphoiohaaDoor
open Go.RowKit Go.Shelf
set_option maxRecDepth 100000

theorem keyString : KeyE Tryd.prog 9 Value.string (fun s : ByteArray => s.size ≤ maxLen) where
  keyed := Go.Maps.string_keyed Tryd.underlying9
  inj a b h := by injection h
  lit a h := ⟨_, Go.WideMaps.keyOf_string_mk Tryd.underlying9 h⟩

def StrsAt (w : World) (A : Option Addr) (n : Nat) (ss : List ByteArray) : Prop :=
  ss.length = n ∧ (0 < n → ∃ b o, A = some ⟨b, o, none⟩ ∧ b < w.heap.size ∧ ∀ j s, ss[j]? = some s → w.cell? ⟨b, o + j, none⟩ = some (.string s))
theorem StrsAt.at_ {w : World} {A : Option Addr} {n : Nat} {ss : List ByteArray} (h : StrsAt w A n ss) {k : Nat} (hk : k < n) : ∃ b o s, A = some ⟨b, o, none⟩ ∧ ss[k]? = some s ∧ b < w.heap.size ∧ w.cell? ⟨b, o + k, none⟩ = some (.string s) := by
  obtain ⟨b, o, e, hb, hc⟩ := h.2 (by omega)
  have hl : k < ss.length := by have := h.1; omega
  exact ⟨b, o, ss[k], e, List.getElem?_eq_getElem hl, hb, hc k _ (List.getElem?_eq_getElem hl)⟩

def allS (l : List ByteArray) : Bool := l.all rightS && decide l.Nodup
def seenL (l : List ByteArray) : List (ByteArray × Bool) := l.map fun s => (s, true)

theorem allS_wrong {l : List ByteArray} {s : ByteArray} (h : s ∈ l) (hr : rightS s = false) : allS l = false := by
  unfold allS
  have : l.all rightS = false := by
    rw [List.all_eq_false]
    exact ⟨s, h, by simp [hr]⟩
  rw [this]; rfl
theorem allS_twice {l : List ByteArray} {s : ByteArray} {k : Nat} (hk : l[k]? = some s) (h : s ∈ l.take k) : allS l = false := by
  unfold allS
  have : ¬ l.Nodup := by
    intro hn
    obtain ⟨i, hi⟩ := List.getElem?_of_mem h
    have hik : i < k := by
      have := (List.getElem?_eq_some_iff.1 hi).1
      rw [List.length_take] at this
      omega
    rw [List.getElem?_take_of_lt hik] at hi
    have h1 := (List.getElem?_eq_some_iff.1 hi)
    have h2 := (List.getElem?_eq_some_iff.1 hk)
    have := List.pairwise_iff_getElem.1 hn i k h1.1 h2.1 hik
    rw [h1.2, h2.2] at this
    exact this rfl
  simp [this]
theorem mget_seen_none {l : List ByteArray} {s : ByteArray} (h : s ∉ l) : mget (seenL l) s = none := by
  cases hm : mget (seenL l) s with
  | none => rfl
  | some v =>
    obtain ⟨x, hx, he⟩ := List.mem_map.1 (mget_some hm)
    exact absurd ((Prod.mk.inj he).1 ▸ hx) h
theorem mget_seen_some {l : List ByteArray} {s : ByteArray} (hn : l.Nodup) (h : s ∈ l) : mget (seenL l) s = some true :=
  mget_mem (by unfold seenL; rw [List.map_map]; simpa [Function.comp_def] using hn) (List.mem_map.2 ⟨s, h, rfl⟩)

theorem bcell {W w1 : World} (hb : Below W.heap.size W w1) : (∀ b o, b < W.heap.size → w1.cell? ⟨b, o, none⟩ = W.cell? ⟨b, o, none⟩) ∧ (∀ b o, b < W.heap.size → w1.frozen? ⟨b, o, none⟩ = W.frozen? ⟨b, o, none⟩) :=
  ⟨fun b o h => hb.cell (p := ⟨b, o, none⟩) h, fun b o h => hb.frozen (p := ⟨b, o, none⟩) h⟩

theorem mput_new {κ ν : Type} [DecidableEq κ] {l : List (κ × ν)} {k : κ} (h : mget l k = none) (v : ν) : mput l k v = l ++ [(k, v)] := by
  unfold mput; rw [any_mget, h]; rfl

theorem zeroB (w : World) : (zeroValue 4).run Tryd.prog w = .ok (.bool false) w := by kernel_rfl

theorem all_c (A : Option Addr) (n c : Nat) (ss : List ByteArray) (w : World) (hS : StrsAt w A n ss) (hlen : ∀ s ∈ ss, s.size ≤ maxLen) (hn : n ≤ 1000000) (R : Ending → World → Prop)
    (h : ∀ w', Below w.heap.size w w' → R (.returned (.bool (allS ss))) w') :
    Calls Tryd.prog 46 #[.slice A n c] w R := by
  have hmm := @run_makeMap Tryd.prog
  go_enter Tryd.func46, Tryd.ntmps46
  go_wp2_with fail
  have H := Lib.hid h
  clear h
  go_loopw [9] (fun i wr => ∃ k : Nat, k ≤ n ∧ i = .int .i64 k ∧ Below w.heap.size w wr ∧ MapAt wr w.heap.size Value.string Value.bool (fun s : ByteArray => s.size ≤ maxLen) (seenL (ss.take k)) ∧ (∀ s ∈ ss.take k, rightS s = true) ∧ (ss.take k).Nodup)
    (fun i _ => n - (intOf i).toNat)
  case atStart => exact ⟨0, Nat.zero_le _, rfl, (Below.refl _ _).alloc (Nat.le_refl _) _, MapAt.new _ _ _ _, by simp, by simp⟩
  case round =>
    obtain ⟨k, hk, rfl, hB, hM, hr, hnd⟩ := hrel
    by_cases hlt : k < n
    · obtain ⟨b, o, s, rfl, hs, hb, hc⟩ := hS.at_ hlt
      have hcx : wr.cell? ⟨b, o + k, none⟩ = some (.string s) := (hB.cell (p := ⟨b, o + k, none⟩) hb).trans hc
      have hsl := hlen s (List.mem_of_getElem? hs)
      have hsm : s ∈ ss := List.mem_of_getElem? hs
      have htk : ss.take (k + 1) = ss.take k ++ [s] := by rw [List.take_add_one, hs]; rfl
      have Htk := Lib.hid htk
      have Hs := Lib.hid hs
      clear htk hs
      cases hrs : rightS s with
      | false =>
        have hres := allS_wrong hsm hrs
        rw [hres] at H
        clear hres
        go_wp2_with fail
        refine right_c s (by unfold maxLen at hsl; omega) wr _ (fun w1 hB1 => ?_)
        go_wp2_with fail
        exact H.out _ (hB.trans (hB1.mono hB.size))
      | true =>
        by_cases hin : s ∈ ss.take k
        · have hres := allS_twice Hs.out hin
          rw [hres] at H
          clear hres
          have Hg := Lib.hid (mget_seen_some hnd hin)
          go_wp2_with fail
          refine right_c s (by unfold maxLen at hsl; omega) wr _ (fun w1 hB1 => ?_)
          have hlk := MapAt.lookup_some keyString Tryd.underlying109 (hM.same (hB1.block _ hM.lt)) hsl Hg.out false
          go_wp2_with fail
          exact H.out _ (hB.trans (hB1.mono hB.size))
        · have Hg := Lib.hid (mget_seen_none hin)
          go_wp2_with fail
          refine right_c s (by unfold maxLen at hsl; omega) wr _ (fun w1 hB1 => ?_)
          have hM1 := hM.same (hB1.block _ hM.lt)
          have hlk := MapAt.lookup_none keyString Tryd.underlying109 hM1 hsl Hg.out (zeroB w1) false
          obtain ⟨ob, hup, hM2⟩ := MapAt.update keyString Tryd.underlying109 hM1 hsl true
          go_wp2_with fail
          have hput : mput (seenL (ss.take k)) s true = seenL (ss.take k) ++ [(s, true)] := mput_new Hg.out true
          refine ⟨⟨k + 1, by omega, by go_num, ?_, ?_, ?_, ?_⟩, by simp [intOf]; omega⟩
          · exact (hB.trans (hB1.mono hB.size)).grown (grown_setBlock _ _ _) (Nat.le_trans hB.size hB1.size) (fun j hj => by cases hj; exact Nat.le_refl _)
          · rw [hput] at hM2
            rw [Htk.out]
            unfold seenL at hM2 ⊢
            rw [List.map_append]
            exact hM2
          · rw [Htk.out]
            intro x hx
            rcases List.mem_append.1 hx with hx | hx
            · exact hr x hx
            · rw [List.mem_singleton] at hx; rw [hx]; exact hrs
          · rw [Htk.out, List.nodup_append]
            refine ⟨hnd, by simp, fun a ha b' hb' => ?_⟩
            rw [List.mem_singleton] at hb'
            rw [hb']
            exact fun e => hin (e ▸ ha)
    · have hkn : k = n := by omega
      have e : ss.take k = ss := by rw [hkn, ← hS.1]; exact List.take_length
      have hres : allS ss = true := by
        unfold allS
        rw [e] at hr hnd
        simp only [Bool.and_eq_true, decide_eq_true_eq]
        exact ⟨List.all_eq_true.2 hr, hnd⟩
      rw [hres] at H
      clear hkn e hres
      go_wp2_with fail
      exact H.out _ hB
end Go.Proofs.YtjndigkphoiohaaDoor
