/-
  Several texts in one: PathA, Atomic, DkL; each says at its head what it holds.
-/
import Derived.Test.YtdmcponfodohaaaGreatDoorDkF
import Derived.Test.YtdmcponfodohaaaGreatDoorShelfB
import Derived.Test.YtdmcponfodohaaaGreatDoorGc
import Derived.Outline
import Derived.Test.YtdmcponfodohaaaGreatDoorShelfC
/-
  package path at the paths that the statements come to; atomic.Write.
-/
namespace Go.Proofs.YtdmcponfodohaaaGreatDoor
open Go.RowKit Go.Shelf Go.ChangeMaps Go.MapKept
set_option maxRecDepth 100000

abbrev pEpoch : ByteArray := ⟨#[101, 112, 111, 99, 104]⟩
def twoP (k : Nat) : ByteArray := if k = 1 then ⟨#[48, 49]⟩ else ⟨#[48, 50]⟩
theorem pathEpoch_c (w : World) (R : Ending → World → Prop) (h : R (.returned (.string pEpoch)) w) : Calls Tryz.prog 88 #[] w R := by
  go_enter Tryz.func88, Tryz.ntmps88
  go_wp2_with fail
  exact h
def tempOf (p : ByteArray) : ByteArray := p ++ ⟨#[126]⟩
theorem pathTemp_c (p : ByteArray) (hp : p.size ≤ 1000) (w : World) (R : Ending → World → Prop) (h : R (.returned (.string (tempOf p))) w) : Calls Tryz.prog 98 #[.string p] w R := by
  unfold tempOf at h
  go_enter Tryz.func98, Tryz.ntmps98
  go_wp2_with fail
  exact h
theorem two1_c (k : Nat) (hk : k = 1 ∨ k = 2) (w : World) (R : Ending → World → Prop) (h : R (.returned (.string (twoP k))) w) : Calls Tryz.prog 79 #[.int .i64 k] w R := by
  have H := Lib.hid h
  clear h
  have e1 : (⟨(Lib.decDigits 1).toArray⟩ : ByteArray) = ⟨#[49]⟩ := by decide +kernel
  have e2 : (⟨(Lib.decDigits 2).toArray⟩ : ByteArray) = ⟨#[50]⟩ := by decide +kernel
  have E1 := Lib.hid e1
  have E2 := Lib.hid e2
  clear e1 e2
  rcases hk with rfl | rfl
  · go_enter Tryz.func79, Tryz.ntmps79
    go_wp2_with fail
    refine (Tryz.strconv_Itoa_small _ (by decide) w).mono ?_
    rintro e w' ⟨rfl, rfl⟩
    rw [E1.out]
    go_wp2_with fail
    refine (Tryz.strings_Repeat_one _ _).mono ?_
    rintro e w'' ⟨rfl, rfl⟩
    go_wp2_with fail
    exact H.out
  · go_enter Tryz.func79, Tryz.ntmps79
    go_wp2_with fail
    refine (Tryz.strconv_Itoa_small _ (by decide) w).mono ?_
    rintro e w' ⟨rfl, rfl⟩
    rw [E2.out]
    go_wp2_with fail
    refine (Tryz.strings_Repeat_one _ _).mono ?_
    rintro e w'' ⟨rfl, rfl⟩
    go_wp2_with fail
    exact H.out
theorem two0_c (n : Int) (hn : n < 1 ∨ 24 < n) (w : World) (R : Ending → World → Prop) (h : R (.returned (.string ⟨#[]⟩)) w) : Calls Tryz.prog 79 #[.int .i64 n] w R := by
  have H := Lib.hid h
  clear h
  rcases hn with hn | hn
  · have t1 : decide (n < 1) = true := by simp [hn]
    go_enter Tryz.func79, Tryz.ntmps79
    go_wp2_with fail
    exact H.out
  · have t1 : decide (n < 1) = false := by simp; omega
    have t2 : decide (24 < n) = true := by simp [hn]
    go_enter Tryz.func79, Tryz.ntmps79
    go_wp2_with fail
    exact H.out
def pAdmit (k : Nat) : ByteArray := if k = 1 then ⟨#[97, 100, 109, 105, 116, 47, 48, 49]⟩ else ⟨#[97, 100, 109, 105, 116, 47, 48, 50]⟩
theorem pathAdmit_c (k : Nat) (hk : k = 1 ∨ k = 2) (w : World) (R : Ending → World → Prop) (h : R (.returned (.string (pAdmit k))) w) : Calls Tryz.prog 41 #[.int .i64 k] w R := by
  have H := Lib.hid h
  clear h
  have hk2 := hk
  rcases hk with rfl | rfl
  all_goals
    go_enter Tryz.func41, Tryz.ntmps41
    go_wp2_with fail
    refine two1_c _ (by decide) w _ ?_
    simp only [twoP]
    go_wp2_with fail
    refine two1_c _ (by decide) w _ ?_
    simp only [twoP]
    go_wp2_with fail
    exact H.out
abbrev kF : ByteArray := ⟨#[102]⟩
def pLog (t : ByteArray) : ByteArray := ⟨#[108, 111, 103, 47]⟩ ++ kF ++ ⟨#[47]⟩ ++ t
theorem key_c (f t : ByteArray) (hf : rightS f = true) (ht : rightS t = true) (w : World) (R : Ending → World → Prop) (h : ∀ w', Below w.heap.size w w' → R (.returned (.bool true)) w') : Calls Tryz.prog 113 #[.agg #[.string f, .string t]] w R := by
  have H := Lib.hid h
  clear h
  have hfs : f.size ≤ 8 := by unfold rightS at hf; simp only [Bool.and_eq_true, decide_eq_true_eq] at hf; omega
  have hts : t.size ≤ 8 := by unfold rightS at ht; simp only [Bool.and_eq_true, decide_eq_true_eq] at ht; omega
  have Hf := Lib.hid hf
  have Ht := Lib.hid ht
  clear hf ht
  go_enter Tryz.func113, Tryz.ntmps113
  go_wp2_with fail
  have hB0 : Below w.heap.size w (w.alloc (.cells #[.string f, .string t] 33)) := (Below.refl _ _).alloc (Nat.le_refl _) _
  refine right_c f (by omega) _ _ (fun w1 hB1 => ?_)
  rw [Hf.out]
  have hX := (hB1.block w.heap.size (by simp)).trans (heap_alloc_new w _)
  have x1 : w1.cell? ⟨w.heap.size, 1, none⟩ = some (.string t) := by rw [cell_of_row _ _ _ _ _ _ hX]; rfl
  have xl := (Array.getElem?_eq_some_iff.1 hX).1
  have HB := Lib.hid (hB0.trans (hB1.mono (by simp)))
  clear hB0 hB1 hX
  go_wp2_with fail
  refine right_c t (by omega) _ _ (fun w2 hB2 => ?_)
  rw [Ht.out]
  go_wp2_with fail
  exact H.out _ (HB.out.trans (hB2.mono HB.out.size))
theorem pathLog_c (f t : ByteArray) (hf : rightS f = true) (ht : rightS t = true) (w : World) (R : Ending → World → Prop) (h : ∀ w', Below w.heap.size w w' → R (.returned (.string (⟨#[108, 111, 103, 47]⟩ ++ f ++ ⟨#[47]⟩ ++ t))) w') : Calls Tryz.prog 85 #[.agg #[.string f, .string t]] w R := by
  have H := Lib.hid h
  clear h
  have hfs : f.size ≤ 8 := by unfold rightS at hf; simp only [Bool.and_eq_true, decide_eq_true_eq] at hf; omega
  have hts : t.size ≤ 8 := by unfold rightS at ht; simp only [Bool.and_eq_true, decide_eq_true_eq] at ht; omega
  have Hf := Lib.hid hf
  have Ht := Lib.hid ht
  clear hf ht
  go_enter Tryz.func85, Tryz.ntmps85
  go_wp2_with fail
  have hB0 : Below w.heap.size w (w.alloc (.cells #[.string f, .string t] 33)) := (Below.refl _ _).alloc (Nat.le_refl _) _
  refine key_c f t Hf.out Ht.out _ _ (fun w1 hB1 => ?_)
  have hX := (hB1.block w.heap.size (by simp)).trans (heap_alloc_new w _)
  have x0 : w1.cell? ⟨w.heap.size, 0, none⟩ = some (.string f) := by rw [cell_of_row _ _ _ _ _ _ hX]; rfl
  have x1 : w1.cell? ⟨w.heap.size, 1, none⟩ = some (.string t) := by rw [cell_of_row _ _ _ _ _ _ hX]; rfl
  have xl := (Array.getElem?_eq_some_iff.1 hX).1
  have HB := Lib.hid (hB0.trans (hB1.mono (by simp)))
  clear hB0 hB1 hX
  go_wp2_with fail
  exact H.out _ HB.out

/-- What stands of a run. -/
def ofS (head f e : ByteArray) (k : Nat) : ByteArray := ⟨(Lib.join ([head, f, e, twoP k].map (·.data.toList)) [47]).toArray⟩
theorem of_path_c (head f e : ByteArray) (k : Nat) (hk : k = 1 ∨ k = 2) (hh : head.size ≤ 8) (hf : rightS f = true) (he : rightS e = true) (w : World) (R : Ending → World → Prop) (h : ∀ w', Below w.heap.size w w' → R (.returned (.string (ofS head f e k))) w') :
    Calls Tryz.prog 97 #[.string head, .string f, .string e, .int .i64 k] w R := by
  have H := Lib.hid h
  clear h
  have hfs : f.size ≤ 8 := by unfold rightS at hf; simp only [Bool.and_eq_true, decide_eq_true_eq] at hf; omega
  have hes : e.size ≤ 8 := by unfold rightS at he; simp only [Bool.and_eq_true, decide_eq_true_eq] at he; omega
  have Hf := Lib.hid hf
  have He := Lib.hid he
  have Hk := Lib.hid hk
  have htw : twoP k = ⟨#[48, 49]⟩ ∨ twoP k = ⟨#[48, 50]⟩ := by rcases hk with rfl | rfl; exact .inl rfl; exact .inr rfl
  have hte : (twoP k).toList.isEmpty = false := by rcases htw with h | h <;> rw [h] <;> decide +kernel
  have hts : (twoP k).size = 2 := by rcases htw with h | h <;> rw [h] <;> rfl
  obtain ⟨tw, htw2⟩ : ∃ tw, tw = twoP k := ⟨_, rfl⟩
  rw [← htw2] at hte hts
  have Htw := Lib.hid htw2
  clear hf he hk htw htw2
  go_enter Tryz.func97, Tryz.ntmps97
  go_wp2_with fail
  refine right_c f (by omega) _ _ (fun w1 hB1 => ?_)
  rw [Hf.out]
  go_wp2_with fail
  refine right_c e (by omega) _ _ (fun w2 hB2 => ?_)
  rw [He.out]
  have HB2 := Lib.hid (hB1.trans (hB2.mono hB1.size))
  clear hB1 hB2
  go_wp2_with fail
  refine two1_c k Hk.out w2 _ ?_
  rw [← Htw.out]
  go_wp2_with fail
  refine two1_c k Hk.out w2 _ ?_
  rw [← Htw.out]
  go_wp2_with fail
  have hlen : (Lib.join ([head, f, e, tw].map (·.data.toList)) [47]).length ≤ 140737488355328 := by
    have h1 := data_length' head
    have h2 := data_length' f
    have h3 := data_length' e
    have h4 := data_length' tw
    simp [Lib.join, -Array.length_toList] at h1 h2 h3 h4 ⊢
    omega
  have hX := heap_alloc_new w2 (.cells #[.string head, .string f, .string e, .string tw] 9)
  refine (Tryz.strings_Join w2.heap.size 0 4 [head, f, e, tw] ⟨#[47]⟩ _ (fun j x hx => ?_) (by simp) (Nat.le_of_ble_eq_true rfl) (Nat.le_of_ble_eq_true rfl) hlen).mono ?_
  · rw [cell_of_row _ _ _ _ _ _ hX, Nat.zero_add]
    rcases j with _ | _ | _ | _ | j
    · cases hx; rfl
    · cases hx; rfl
    · cases hx; rfl
    · cases hx; rfl
    · cases hx
  rintro e' w' ⟨rfl, hb⟩
  have HB3 := Lib.hid (HB2.out.trans ((((Below.refl _ _).alloc (Nat.le_refl _) _).trans (hb.mono (by simp))).mono HB2.out.size))
  have hof : ofS head f e k = ⟨(Lib.join ([head, f, e, tw].map (·.data.toList)) [47]).toArray⟩ := by rw [Htw.out]; rfl
  rw [hof] at H
  clear hb hX hlen hof
  go_wp2_with fail
  exact H.out _ HB3.out
abbrev hGone : ByteArray := ⟨#[103, 111, 110, 101]⟩
abbrev hBox : ByteArray := ⟨#[98, 111, 120]⟩
theorem pathGone_c (f e : ByteArray) (k : Nat) (hk : k = 1 ∨ k = 2) (hf : rightS f = true) (he : rightS e = true) (w : World) (R : Ending → World → Prop) (h : ∀ w', Below w.heap.size w w' → R (.returned (.string (ofS hGone f e k))) w') :
    Calls Tryz.prog 64 #[.string f, .string e, .int .i64 k] w R := by
  have H := Lib.hid h
  have Hk := Lib.hid hk
  clear h hk
  go_enter Tryz.func64, Tryz.ntmps64
  go_wp2_with fail
  refine of_path_c hGone f e k Hk.out (by decide) hf he _ _ (fun w1 hB1 => ?_)
  have HB := Lib.hid (H.out _ hB1)
  clear hB1
  go_wp2_with fail
  exact HB.out
theorem pathBox_c (f e : ByteArray) (k : Nat) (hk : k = 1 ∨ k = 2) (hf : rightS f = true) (he : rightS e = true) (w : World) (R : Ending → World → Prop) (h : ∀ w', Below w.heap.size w w' → R (.returned (.string (ofS hBox f e k))) w') :
    Calls Tryz.prog 68 #[.string f, .string e, .int .i64 k] w R := by
  have H := Lib.hid h
  have Hk := Lib.hid hk
  clear h hk
  go_enter Tryz.func68, Tryz.ntmps68
  go_wp2_with fail
  refine of_path_c hBox f e k Hk.out (by decide) hf he _ _ (fun w1 hB1 => ?_)
  have HB := Lib.hid (H.out _ hB1)
  clear hB1
  go_wp2_with fail
  exact HB.out
end Go.Proofs.YtdmcponfodohaaaGreatDoor
/-
  atomic.Write.
-/
namespace Go.Proofs.YtdmcponfodohaaaGreatDoor
open Go.RowKit Go.Shelf Go.ChangeMaps Go.MapKept
set_option maxRecDepth 100000

theorem mget_mput {κ ν : Type} [DecidableEq κ] (l : List (κ × ν)) (k : κ) (v : ν) : mget (mput l k v) k = some v := by
  unfold mput
  rw [any_mget]
  cases hm : mget l k with
  | none =>
    unfold mget at hm ⊢
    rw [Option.map_eq_none_iff] at hm
    simp [List.find?_append, hm]
  | some u =>
    have hmem := mget_some hm
    unfold mget
    simp only [Option.isSome_some, if_true]
    clear hm
    induction l with
    | nil => cases hmem
    | cons x r ih =>
      rw [List.map_cons, List.find?_cons]
      by_cases hx : x.1 = k
      · rw [if_pos hx]
        simp
      · rw [if_neg hx]
        simp only [hx, decide_false]
        rcases List.mem_cons.1 hmem with h | h
        · exact absurd (by rw [← h]) hx
        · exact ih h
theorem mput_twice {κ ν : Type} [DecidableEq κ] (l : List (κ × ν)) (k : κ) (v u : ν) (h : mget l k = none) : mput (mput l k v) k u = l ++ [(k, u)] := by
  rw [mput_new h]
  have h1 : mget (l ++ [(k, v)]) k = some v := by rw [← mput_new h]; exact mget_mput l k v
  unfold mput
  rw [any_mget, h1]
  simp only [Option.isSome_some, if_true, List.map_append, List.map_cons, List.map_nil]
  congr 1
  refine (List.map_congr_left (g := id) fun y hy => ?_).trans (List.map_id l)
  have := mget_none h y hy
  rw [if_neg this]
  rfl
theorem mdel_back {κ ν : Type} [DecidableEq κ] (l : List (κ × ν)) (k : κ) (u : ν) (h : mget l k = none) : mdel (l ++ [(k, u)]) k = l := by
  have h2 := mdel_none h
  unfold mdel at h2 ⊢
  rw [List.filter_append, h2]
  simp
theorem temp_full (p : ByteArray) : full (tempOf p) := by
  unfold full
  rw [beq_eq_false_iff_ne]
  intro e
  have h1 := congrArg List.length e
  rw [Lib.toList_data, Lib.toList_data, data_length', data_length'] at h1
  unfold tempOf at h1
  rw [ByteArray.size_append] at h1
  have : (⟨#[126]⟩ : ByteArray).size = 1 := rfl
  have h0 : (⟨#[]⟩ : ByteArray).size = 0 := rfl
  omega
theorem temp_size (p : ByteArray) : (tempOf p).size = p.size + 1 := by unfold tempOf; rw [ByteArray.size_append]; rfl
theorem fileOf_put (l : List (ByteArray × FV)) (p : ByteArray) (f : FV) : fileOf (mput l p f) p = f := by unfold fileOf; rw [mget_mput]; rfl
theorem fileOf_none {l : List (ByteArray × FV)} {p : ByteArray} (h : mget l p = none) : fileOf l p = noFile := by unfold fileOf; rw [h]; rfl

set_option maxHeartbeats 1000000 in
theorem write_c (d mb : Nat) (q : Int) (l : List (ByteArray × FV)) (p : ByteArray) (Ab : Option Addr) (nb cb : Nat) (bs : List Int) (w : World) (hD : DiskAt w d mb q l) (hp : full p) (hps : p.size ≤ 1000) (hR : Rd w Ab nb (u8s bs)) (hroom : (nb : Int) ≤ q - usedL l) (hfree : mget l (tempOf p) = none) (R : Ending → World → Prop)
    (h : ∀ f w', Kept [mb] w w' → f.b = bs → f.sy = (bs.length : Int) → f.fi = true → DiskAt w' d mb q (mput l p f) → R (.returned (.int .i64 0)) w') :
    Calls Tryz.prog 67 #[.pointer (some ⟨d, 0, none⟩), .string p, .slice Ab nb cb] w R := by
  have H := Lib.hid h
  have HD := Lib.hid hD
  have HR := Lib.hid hR
  have Hfree := Lib.hid hfree
  have hpm : p.size ≤ maxLen := by unfold maxLen; omega
  have htm : (tempOf p).size ≤ maxLen := by rw [temp_size]; unfold maxLen; omega
  obtain ⟨t, ht⟩ : ∃ t, t = tempOf p := ⟨_, rfl⟩
  have Ht := Lib.hid ht
  rw [← ht] at htm Hfree
  have hft : full t := by rw [ht]; exact temp_full p
  clear h hD hR hfree ht
  go_enter Tryz.func67, Tryz.ntmps67
  go_wp2_with fail
  refine pathTemp_c p hps _ _ ?_
  rw [← Ht.out]
  go_wp2_with fail
  refine append_c d mb q l t Ab nb cb bs w HD.out hft htm HR.out hroom _ (fun f1 w1 hk1 hf1 hs1 hi1 hD1 => ?_)
  rw [fileOf_none Hfree.out] at hf1
  have hb1 : f1.b = bs := hf1.trans rfl
  have HD1 := Lib.hid hD1
  have Hk1 := Lib.hid hk1
  have Hb1 := Lib.hid hb1
  clear hk1 hf1 hs1 hi1 hD1 hb1
  go_wp2_with fail
  refine sync_c d mb q _ t w1 HD1.out hft htm (by rw [mget_mput]; rfl) _ (fun f2 w2 hk2 hf2 hs2 hi2 hD2 => ?_)
  rw [fileOf_put, Hb1.out] at hf2 hs2
  rw [mput_twice _ _ _ _ Hfree.out] at hD2
  have HD2 := Lib.hid hD2
  have Hk2 := Lib.hid (Hk1.out.trans hk2)
  have Hb2 := Lib.hid hf2
  clear hk2 hf2 hs2 hi2 hD2
  go_wp2_with fail
  have hin : mget (l ++ [(t, f2)]) t = some f2 := by rw [← mput_new Hfree.out]; exact mget_mput l t f2
  refine rename_c d mb q _ t p w2 HD2.out hft htm hp hpm (by rw [hin]; rfl) _ (fun f3 w3 hk3 hf3 hs3 hi3 hD3 => ?_)
  have hfo : fileOf (l ++ [(t, f2)]) t = f2 := by unfold fileOf; rw [hin]; rfl
  rw [hfo, Hb2.out] at hf3 hs3
  rw [mdel_back _ _ _ Hfree.out] at hD3
  have HH := Lib.hid (H.out f3 w3 (Hk2.out.trans hk3) hf3 hs3 hi3 hD3)
  clear hin hk3 hf3 hs3 hi3 hD3 hfo
  go_wp2_with fail
  exact HH.out
end Go.Proofs.YtdmcponfodohaaaGreatDoor
/-
  The disk: the paths of all files, rising; atomic.Clean where nothing is left unfinished.
-/
namespace Go.Proofs.YtdmcponfodohaaaGreatDoor
open Go.RowKit Go.Shelf Go.ChangeMaps Go.MapKept
set_option maxRecDepth 100000

abbrev anyR : Value → Option (DataW Unit × List MemPlace) := fun _ => some (.nil, [])
def keysB (l : List (ByteArray × FV)) : List (List UInt8) := l.map fun p => p.1.data.toList
theorem disk_own {w : World} {d mb : Nat} {q : Int} {l : List (ByteArray × FV)} (hD : DiskAt w d mb q l) (hl : l.length ≤ 1000) : ∃ nn D0, w.ownsMap Tryz.prog 9 anyR mb nn D0 ∧ Maps.size D0 ≤ maxLen ∧ Maps.size D0 * 16 ≤ 140737488355328 ∧ (Go.strKeys D0).Perm (keysB l) := by
  obtain ⟨es, c, hb, hborn, hbn, hes, hn, hok⟩ := hD.map
  have hlen : es.toList.length = l.length := by have := congrArg List.length hes; simpa using this
  have hkey : es.toList.map (·.key) = l.map (fun p => Value.string p.1) := by
    have := congrArg (List.map Prod.fst) hes
    simpa [List.map_map, Function.comp_def] using this
  have hrd : ∀ x ∈ es.toList, ∃ s : ByteArray, x.key = .string s ∧ Go.WideElems.rd Tryz.prog 9 anyR x = some (.string s.data.toList, .nil) := fun x hx => by
    obtain ⟨i, hi⟩ := List.getElem?_of_mem hx
    obtain ⟨p, hp, hpk, _⟩ := pairs_at hes hi
    refine ⟨p.1, hpk, ?_⟩
    unfold Go.WideElems.rd
    rw [hpk, Go.WideMaps.keyOf_string_mk Tryz.underlying9 (hok p (List.mem_of_getElem? hp))]
    rfl
  have hfit : Go.WideElems.Fit Tryz.prog 9 anyR es c := by
    refine ⟨by have : es.size = es.toList.length := by simp
               unfold maxLen; omega, ⟨hborn, hbn, ?_⟩, fun x hx => by obtain ⟨s, _, h⟩ := hrd x hx; exact ⟨_, h⟩⟩
    rw [hkey]
    have : l.map (fun p => Value.string p.1) = (l.map Prod.fst).map Value.string := by rw [List.map_map]; rfl
    rw [this]
    exact List.Pairwise.map Value.string (fun a b hab e => hab (by injection e)) hn
  have hperm : ((es.toList.map (Go.WideElems.rg Tryz.prog 9 anyR)).foldr DataW.insert []).Perm (es.toList.map (Go.WideElems.rg Tryz.prog 9 anyR)) := Go.WideShapes.sorted_perm _
  have hk2 : (es.toList.map (Go.WideElems.rg Tryz.prog 9 anyR)).map (fun p => Go.strOf p.1) = keysB l := by
    rw [List.map_map]
    have h1 : es.toList.map ((fun p => Go.strOf p.1) ∘ Go.WideElems.rg Tryz.prog 9 anyR) = es.toList.map (fun x => match x.key with | .string s => s.data.toList | _ => []) := by
      refine List.map_congr_left (fun x hx => ?_)
      obtain ⟨s, hs, h⟩ := hrd x hx
      show Go.strOf (Go.WideElems.rg Tryz.prog 9 anyR x).1 = _
      unfold Go.WideElems.rg
      rw [h, hs]
      rfl
    rw [h1]
    have h2 : es.toList.map (fun x => match x.key with | .string s => s.data.toList | _ => []) = (es.toList.map (·.key)).map (fun k => match k with | .string s => s.data.toList | _ => []) := by rw [List.map_map]; rfl
    rw [h2, hkey, List.map_map]
    rfl
  refine ⟨es.size, _, ⟨es, c, hb, hfit, Nat.le_refl _, rfl⟩, ?_, ?_, ?_⟩
  · have : Maps.size (DataW.map (H := Unit) ((es.toList.map (Go.WideElems.rg Tryz.prog 9 anyR)).foldr DataW.insert [])) = l.length := by
      show (((es.toList.map (Go.WideElems.rg Tryz.prog 9 anyR)).foldr DataW.insert []) : List _).length = l.length
      rw [hperm.length_eq, List.length_map, hlen]
    rw [this]
    unfold maxLen
    omega
  · have : Maps.size (DataW.map (H := Unit) ((es.toList.map (Go.WideElems.rg Tryz.prog 9 anyR)).foldr DataW.insert [])) = l.length := by
      show (((es.toList.map (Go.WideElems.rg Tryz.prog 9 anyR)).foldr DataW.insert []) : List _).length = l.length
      rw [hperm.length_eq, List.length_map, hlen]
    rw [this]
    omega
  · show ((((es.toList.map (Go.WideElems.rg Tryz.prog 9 anyR)).foldr DataW.insert []) : List _).map (fun p => Go.strOf p.1)).Perm (keysB l)
    rw [← hk2]
    exact hperm.map _

/-- What a function value says of each text of a list. -/
def TellsS (g : Nat) (caps : Array Value) (w0 : World) (l : List ByteArray) (p : ByteArray → Bool) : Prop :=
  ∀ x ∈ l, ∀ (w : World) (R : Ending → World → Prop), Below w0.heap.size w0 w → R (.returned (.bool (p x))) w → Calls Tryz.prog g (#[.string x] ++ caps) w R
theorem StrsAt.below {w w' : World} {A : Option Addr} {n : Nat} {l : List ByteArray} (h : StrsAt w A n l) (hb : Below w.heap.size w w') : StrsAt w' A n l :=
  ⟨h.1, fun h0 => by
    obtain ⟨b, o, e, hlt, hc⟩ := h.2 h0
    exact ⟨b, o, e, Nat.lt_of_lt_of_le hlt hb.size, fun j x hx => (hb.cell (p := ⟨b, _, none⟩) hlt).trans (hc j x hx)⟩⟩
theorem indexFuncS_c (A : Option Addr) (n c : Nat) (l : List ByteArray) (p : ByteArray → Bool) (g : Nat) (caps : Array Value) (hcf : ∀ (args : Array Value) (w : World), (callFunc g args).run Tryz.prog w = .ok (.enter g args) w) (w : World) (hS : StrsAt w A n l) (hn : n ≤ 1000000)
    (hT : TellsS g caps w l p) (hno : ∀ x ∈ l, p x = false) (R : Ending → World → Prop) (h : R (.returned (.int .i64 (-1))) w) :
    Calls Tryz.prog 100 #[.slice A n c, .func (.func g) #[] caps] w R := by
  have HT := Lib.hid hT
  have H := Lib.hid h
  have Hno := Lib.hid hno
  clear h hT hno
  go_enter Tryz.func100, Tryz.ntmps100
  go_wp2_with fail
  go_loop [8] (fun i => ∃ k : Nat, k ≤ n ∧ i = .int .i64 k) (fun i => n - (RowKit.intOf i).toNat)
  case atStart => exact ⟨0, Nat.zero_le _, rfl⟩
  case round =>
    obtain ⟨k, hk, rfl⟩ := hrel
    by_cases hlt : k < n
    · obtain ⟨b, o, x, rfl, hx, hb, hc1⟩ := hS.at_ hlt
      have hxm := List.mem_of_getElem? hx
      clear hx
      go_wp2_with fail
      refine HT.out x hxm w _ (Below.refl _ _) ?_
      rw [Hno.out x hxm]
      go_wp2_with fail
      exact ⟨⟨k + 1, by omega, by go_num⟩, by simp [RowKit.intOf]; omega⟩
    · have t1 : decide (k < n) = false := by simp [hlt]
      go_wp2_with fail
      exact H.out
theorem deleteNone_c (A : Option Addr) (n c : Nat) (l : List ByteArray) (p : ByteArray → Bool) (g : Nat) (caps : Array Value) (hcf : ∀ (args : Array Value) (w : World), (callFunc g args).run Tryz.prog w = .ok (.enter g args) w) (w : World) (hS : StrsAt w A n l) (hn : n ≤ 1000000)
    (hT : TellsS g caps w l p) (hno : ∀ x ∈ l, p x = false) (R : Ending → World → Prop) (h : R (.returned (.slice A n c)) w) :
    Calls Tryz.prog 69 #[.slice A n c, .func (.func g) #[] caps] w R := by
  have HT := Lib.hid hT
  have H := Lib.hid h
  have Hno := Lib.hid hno
  have HS := Lib.hid hS
  clear h hT hno hS
  go_enter Tryz.func69, Tryz.ntmps69
  go_wp2_with fail
  refine indexFuncS_c A n c l p g caps hcf w HS.out hn HT.out Hno.out _ ?_
  go_wp2_with fail
  exact H.out
theorem cfL (args : Array Value) (w : World) : (callFunc 72 args).run Tryz.prog w = .ok (.enter 72 args) w := by kernel_rfl
theorem listPre_c (x pre : ByteArray) (pb : Nat) (w : World) (hp : w.cell? ⟨pb, 0, none⟩ = some (.string pre)) (hlt : pb < w.heap.size) (R : Ending → World → Prop) (h : R (.returned (.bool (!(Lib.hasPrefix x.data.toList pre.data.toList)))) w) :
    Calls Tryz.prog 72 #[.string x, .pointer (some ⟨pb, 0, none⟩)] w R := by
  have H := Lib.hid h
  clear h
  go_enter Tryz.func72, Tryz.ntmps72
  go_wp2_with fail
  refine (Tryz.strings_HasPrefix x pre w).mono ?_
  rintro e w' ⟨rfl, rfl⟩
  go_wp2_with fail
  exact H.out

/-- The paths, rising. -/
def sortedB (l : List (ByteArray × FV)) : List (List UInt8) := (keysB l).mergeSort (fun x y => decide (x ≤ y))
theorem enc_strs {w : World} {base n : Nat} {v : Value} {ss : List (List UInt8)} (h : w.ownsRow base 9 1 v n (ss.map encStr)) (hn : ss.length = n) : ∃ A c, v = .slice A n c ∧ StrsAt w A n (ss.map fun x => ⟨x.toArray⟩) := by
  obtain ⟨A, c, rfl, hs⟩ := own_shape' h
  refine ⟨A, c, rfl, by simpa using hn, fun h0 => ?_⟩
  obtain ⟨g, rfl, _, hg⟩ := hs h0
  refine ⟨g, 0, rfl, hg, fun j s hj => ?_⟩
  rw [List.getElem?_map] at hj
  obtain ⟨x, hx, rfl⟩ := Option.map_eq_some_iff.1 hj
  have := h.cells (g := g) rfl j (encStr x) (by rw [List.getElem?_map, hx]; rfl)
  rwa [Addr.add_lit] at this
set_option maxHeartbeats 1000000 in
theorem list_all_c (d mb : Nat) (q : Int) (l : List (ByteArray × FV)) (w : World) (hD : DiskAt w d mb q l) (hl : l.length ≤ 1000) (R : Ending → World → Prop)
    (h : ∀ A c w', Below w.heap.size w w' → StrsAt w' A l.length ((sortedB l).map fun x => ⟨x.toArray⟩) → R (.returned (.slice A l.length c)) w') :
    Calls Tryz.prog 32 #[.pointer (some ⟨d, 0, none⟩), .string ⟨#[]⟩] w R := by
  have H := Lib.hid h
  have hB0 : Below w.heap.size w (w.alloc (.cells #[.string ⟨#[]⟩] 9)) := (Below.refl _ _).alloc (Nat.le_refl _) _
  have hD0 := hD.below hB0
  obtain ⟨c0, c1, c2, c3⟩ := hD0.cells
  have hlt := hD.lt
  obtain ⟨nn, D0, hown, hmx, hby, hkeys⟩ := disk_own hD0 hl
  have Hown := Lib.hid hown
  have Hkeys := Lib.hid hkeys
  have Hmx := Lib.hid hmx
  have Hby := Lib.hid hby
  have HB0 := Lib.hid hB0
  clear h hD hD0 hown hkeys hmx hby hB0
  go_enter Tryz.func32, Tryz.ntmps32
  go_wp2_with fail
  refine (callsIn_wide.1 (Tryz.maps_Keys_71 (some mb) _)).mono ?_
  rintro e w' ⟨rfl, rfl⟩
  go_wp2_with fail
  have hS := callsIn_wide.1 (Tryz.slices_Sorted_keys_70_71 mb nn D0 anyR _ Hown.out Hmx.out Hby.out)
  rw [World.size_alloc] at hS
  have HS := Lib.hid hS
  clear hS
  refine HS.out.mono ?_
  rintro e w2 ⟨v, ss, rfl, hperm, hrow, _, hb⟩
  have hsrt : ss.mergeSort (fun x y => decide (x ≤ y)) = sortedB l := mergeSort_of_perm (hperm.trans Hkeys.out)
  have hln : ss.length = l.length := by
    have h1 := (hperm.trans Hkeys.out).length_eq
    rw [h1]
    simp [keysB]
  rw [hsrt, hln] at hrow
  obtain ⟨A, c, rfl, hst⟩ := enc_strs hrow (by unfold sortedB; rw [List.length_mergeSort]; simp [keysB])
  have HB2 := Lib.hid (HB0.out.trans ((((Below.refl _ _).alloc (Nat.le_refl _) _).trans (hb.mono (by simp))).mono HB0.out.size))
  have hX : w2.heap[w.heap.size]? = some (.cells #[.string ⟨#[]⟩] 9) := (hb.block _ (by simp; omega)).trans (heap_alloc2_old w _ _)
  have Hst := Lib.hid hst
  have HX := Lib.hid hX
  clear hperm hrow hb hsrt hln hX hst c0 c1 c2 c3
  go_wp2_with fail
  have hT : TellsS 72 #[.pointer (some ⟨w.heap.size, 0, none⟩)] w2 ((sortedB l).map fun x => ⟨x.toArray⟩) (fun x => !(Lib.hasPrefix x.data.toList [])) := fun x _ W R' hW hh => by
    have hXW := (hW.block _ (Array.getElem?_eq_some_iff.1 HX.out).1).trans HX.out
    exact listPre_c x ⟨#[]⟩ w.heap.size W (by rw [cell_of_row _ _ _ _ _ _ hXW]; rfl) (Array.getElem?_eq_some_iff.1 hXW).1 R' hh
  refine deleteNone_c A l.length c _ _ 72 _ cfL w2 Hst.out (by omega) hT (fun x _ => ?_) _ ?_
  · simp [Lib.hasPrefix]
  go_wp2_with fail
  exact H.out A c w2 HB2.out Hst.out

/-- No file is an unfinished one. -/
def Clear (l : List (ByteArray × FV)) : Prop := ∀ p ∈ l, Lib.hasSuffix p.1.data.toList [126] = false
theorem sorted_mem {l : List (ByteArray × FV)} {x : List UInt8} (h : x ∈ sortedB l) : ∃ p ∈ l, p.1.data.toList = x := by
  have := (List.mergeSort_perm (keysB l) (fun x y => decide (x ≤ y))).mem_iff.1 h
  obtain ⟨p, hp, e⟩ := List.mem_map.1 this
  exact ⟨p, hp, e⟩
theorem isTemp_c (x : ByteArray) (hx : x.size ≤ maxLen) (hno : Lib.hasSuffix x.data.toList [126] = false) (w : World) (R : Ending → World → Prop) (h : R (.returned (.bool false)) w) : Calls Tryz.prog 87 #[.string x] w R := by
  have H := Lib.hid h
  have Hno := Lib.hid hno
  have Hx : Hid (x.size ≤ 9223372036854775807) := Lib.hid hx
  clear h hno hx
  go_enter Tryz.func87, Tryz.ntmps87
  go_wp2_with fail
  refine (Tryz.strings_HasSuffix x ⟨#[126]⟩ w Hx.out).mono ?_
  rintro e w' ⟨rfl, rfl⟩
  rw [show (⟨#[126]⟩ : ByteArray).data.toList = [126] from rfl, Hno.out]
  go_wp2_with fail
  exact H.out
theorem clean_c (d mb : Nat) (q : Int) (l : List (ByteArray × FV)) (w : World) (hD : DiskAt w d mb q l) (hl : l.length ≤ 1000) (hc : Clear l) (R : Ending → World → Prop)
    (h : ∀ w', Below w.heap.size w w' → R (.returned (.int .i64 0)) w') : Calls Tryz.prog 54 #[.pointer (some ⟨d, 0, none⟩)] w R := by
  have H := Lib.hid h
  have HD := Lib.hid hD
  have Hc := Lib.hid hc
  clear h hD hc
  go_enter Tryz.func54, Tryz.ntmps54
  go_wp2_with fail
  refine list_all_c d mb q l w HD.out hl _ (fun A c w1 hB1 hS => ?_)
  have HB1 := Lib.hid (H.out w1 hB1)
  have HS := Lib.hid hS
  clear hB1 hS
  obtain ⟨n, hn⟩ : ∃ n, n = l.length := ⟨_, rfl⟩
  rw [← hn] at HS hl ⊢
  clear hn
  go_wp2_with fail
  go_loop [9] (fun i => ∃ k : Nat, k ≤ n ∧ i = .int .i64 k) (fun i => n - (RowKit.intOf i).toNat)
  case atStart => exact ⟨0, Nat.zero_le _, rfl⟩
  case round =>
    obtain ⟨k, hk, rfl⟩ := hrel
    by_cases hlt : k < n
    · obtain ⟨b, o, x, rfl, hx, hb, hc1⟩ := HS.out.at_ hlt
      have t1 : decide (k < n) = true := by simp [hlt]
      have hcI : (k : Int) < (n : Int) := by omega
      have hq : x.size ≤ maxLen ∧ Lib.hasSuffix x.data.toList [126] = false := by
        rw [List.getElem?_map] at hx
        obtain ⟨y, hy, rfl⟩ := Option.map_eq_some_iff.1 hx
        obtain ⟨p, hp, e⟩ := sorted_mem (List.mem_of_getElem? hy)
        have he : (⟨y.toArray⟩ : ByteArray) = p.1 := by
          rw [← e]
        rw [he]
        obtain ⟨es, cc, _, _, _, _, _, hok⟩ := HD.out.map
        exact ⟨hok p hp, Hc.out p hp⟩
      have Hq := Lib.hid hq
      clear hx hq
      go_wp2_with fail
      refine isTemp_c x Hq.out.1 Hq.out.2 w1 _ ?_
      go_wp2_with fail
      exact ⟨⟨k + 1, by omega, by go_num⟩, by simp [RowKit.intOf]; omega⟩
    · have t1 : decide (k < n) = false := by simp [hlt]
      go_wp2_with fail
      exact HB1.out
end Go.Proofs.YtdmcponfodohaaaGreatDoor
