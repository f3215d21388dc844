/-
  message.list: which items a message of a kind may have.
-/
import Derived.Test.YtjndigkphoiohaaDoorAll
import Derived.Test.YtjndigkphoiohaaDoorNeed
import Derived.Test.YtjndigkphoiohaaDoorApp
namespace Go.Proofs.YtjndigkphoiohaaDoor
open Go.RowKit Go.Shelf
set_option maxRecDepth 100000

structure Itm where
  t : ByteArray
  re : Nat
  im : Nat

def itmCells (x : Itm) : List Value := [.string x.t, .complex .f64 x.re x.im]
def itmV (x : Itm) : Value := .agg #[.string x.t, .complex .f64 x.re x.im]
def ItmsAt (w : World) (A : Option Addr) (n : Nat) (l : List Itm) : Prop :=
  l.length = n ∧ (0 < n → ∃ b o, A = some ⟨b, o, none⟩ ∧ b < w.heap.size ∧ ∀ j x, l[j]? = some x → w.cell? ⟨b, o + j * 2, none⟩ = some (.string x.t) ∧ w.cell? ⟨b, o + j * 2 + 1, none⟩ = some (.complex .f64 x.re x.im))

theorem nz_spell (x y : Nat) : (!(FloatKind.f64.format.order x 0 == some .eq) || !(FloatKind.f64.format.order y 0 == some .eq)) = nzS x y := by
  unfold nzS ford eq0
  cases FloatKind.f64.format.order x 0 with
  | none => rfl
  | some a => cases FloatKind.f64.format.order y 0 with
    | none => cases a <;> rfl
    | some b => cases a <;> cases b <;> rfl

theorem list1_c (x : Itm) (w : World) (R : Ending → World → Prop) (h : ∀ w', Below w.heap.size w w' → R (.returned (.bool (nzS x.re x.im))) w') :
    Calls Tryd.prog 47 #[itmV x] w R := by
  unfold itmV
  have e : (!(FloatKind.f64.format.order x.re 0 == some .eq) || !(FloatKind.f64.format.order x.im 0 == some .eq)) = nzS x.re x.im := nz_spell x.re x.im
  rw [← e] at h
  clear e
  go_enter Tryd.func47, Tryd.ntmps47
  go_wp2_with fail
  exact (Below.refl _ _).alloc (Nat.le_refl _) _

theorem list2_c (x : Itm) (b : Bool) (hb : nrightS x.re x.im = some b) (w : World) (R : Ending → World → Prop) (h : ∀ w', Below w.heap.size w w' → R (.returned (.bool (!b))) w') :
    Calls Tryd.prog 48 #[itmV x] w R := by
  unfold itmV
  go_enter Tryd.func48, Tryd.ntmps48
  go_wp2_with (go_at_call 49; refine nright_c _ _ _ hb _ _ ?_)
  exact (Below.refl _ _).alloc (Nat.le_refl _) _

/-- The cells of an item that is read. -/
theorem ItmsAt.at_ {w : World} {A : Option Addr} {n : Nat} {l : List Itm} (h : ItmsAt w A n l) {k : Nat} (hk : k < n) : ∃ b o x, A = some ⟨b, o, none⟩ ∧ l[k]? = some x ∧ b < w.heap.size ∧ w.cell? ⟨b, o + k * 2, none⟩ = some (.string x.t) ∧ w.cell? ⟨b, o + k * 2 + 1, none⟩ = some (.complex .f64 x.re x.im) := by
  obtain ⟨b, o, e, hb, hc⟩ := h.2 (by omega)
  have hl : k < l.length := by have := h.1; omega
  exact ⟨b, o, l[k], e, List.getElem?_eq_getElem hl, hb, hc k _ (List.getElem?_eq_getElem hl)⟩

/-- A function value tells of each of some items what p says, in whatever world behind w0, and turns nothing that was there. -/
def Tells (g : Nat) (caps : Array Value) (w0 : World) (l : List Itm) (p : Itm → Bool) : Prop :=
  ∀ x ∈ l, ∀ (w : World) (R : Ending → World → Prop), Below w0.heap.size w0 w → (∀ w', Below w.heap.size w w' → R (.returned (.bool (p x))) w') → Calls Tryd.prog g (#[itmV x] ++ caps) w R
def idxS (p : Itm → Bool) (l : List Itm) : Int := match l.findIdx? p with | some i => i | none => -1
theorem idxS_at {p : Itm → Bool} {l : List Itm} {k : Nat} {x : Itm} (hx : l[k]? = some x) (hp : p x = true) (hno : ∀ (j : Nat) (y : Itm), j < k → l[j]? = some y → p y = false) : idxS p l = k := by
  have h1 := List.getElem?_eq_some_iff.1 hx
  have : l.findIdx? p = some k := by
    rw [List.findIdx?_eq_some_iff_getElem]
    refine ⟨h1.1, by rw [h1.2]; exact hp, fun j hj => ?_⟩
    have := hno j _ hj (List.getElem?_eq_getElem (by have := h1.1; omega))
    simp [this]
  unfold idxS
  rw [this]
theorem idxS_none {p : Itm → Bool} {l : List Itm} (hno : ∀ (j : Nat) (y : Itm), l[j]? = some y → p y = false) : idxS p l = -1 := by
  have : l.findIdx? p = none := by
    rw [List.findIdx?_eq_none_iff]
    intro x hx
    obtain ⟨j, hj⟩ := List.getElem?_of_mem hx
    exact hno j x hj
  unfold idxS
  rw [this]
theorem idxS_any (p : Itm → Bool) (l : List Itm) : decide (0 ≤ idxS p l) = l.any p := by
  unfold idxS
  cases h : l.findIdx? p with
  | none =>
    have : l.any p = false := by
      rw [List.any_eq_false]
      intro x hx
      have := List.findIdx?_eq_none_iff.1 h x hx
      simp [this]
    rw [this]; rfl
  | some i =>
    obtain ⟨hi, hp, _⟩ := List.findIdx?_eq_some_iff_getElem.1 h
    have : l.any p = true := List.any_eq_true.2 ⟨_, List.getElem_mem hi, hp⟩
    rw [this]
    simp

theorem indexFunc_c (A : Option Addr) (n c : Nat) (l : List Itm) (p : Itm → Bool) (g : Nat) (caps : Array Value) (hcf : ∀ (args : Array Value) (w : World), (callFunc g args).run Tryd.prog w = .ok (.enter g args) w) (w : World) (hS : ItmsAt w A n l) (hn : n ≤ 1000000)
    (hT : Tells g caps w l p) (R : Ending → World → Prop) (h : ∀ w', Below w.heap.size w w' → R (.returned (.int .i64 (idxS p l))) w') :
    Calls Tryd.prog 37 #[.slice A n c, .func (.func g) #[] caps] w R := by
  have HT := Lib.hid hT
  have H := Lib.hid h
  clear h hT
  go_enter Tryd.func37, Tryd.ntmps37
  go_wp2_with fail
  go_loopw [8] (fun i wr => ∃ k : Nat, k ≤ n ∧ i = .int .i64 k ∧ Below w.heap.size w wr ∧ Hid (∀ j y, j < k → l[j]? = some y → p y = false)) (fun i _ => n - (RowKit.intOf i).toNat)
  case atStart => exact ⟨0, Nat.zero_le _, rfl, Below.refl _ _, Lib.hid (fun j y h => absurd h (by omega))⟩
  case round =>
    obtain ⟨k, hk, rfl, hB, Hno⟩ := hrel
    by_cases hlt : k < n
    · obtain ⟨b, o, x, rfl, hx, hb, hc1, hc2⟩ := hS.at_ hlt
      have hx1 : wr.cell? ⟨b, o + k * 2, none⟩ = some (.string x.t) := (hB.cell (p := ⟨b, _, none⟩) hb).trans hc1
      have hx2 : wr.cell? ⟨b, o + k * 2 + 1, none⟩ = some (.complex .f64 x.re x.im) := (hB.cell (p := ⟨b, _, none⟩) hb).trans hc2
      have Hx := Lib.hid hx
      have hxm := List.mem_of_getElem? hx
      clear hc1 hc2 hx
      cases hp : p x with
      | true =>
        have hres := idxS_at Hx.out hp Hno.out
        rw [hres] at H
        clear hres
        go_wp2_with fail
        refine HT.out x hxm wr _ hB (fun w1 hB1 => ?_)
        go_wp2_with fail
        exact H.out _ (hB.trans (hB1.mono hB.size))
      | false =>
        go_wp2_with fail
        refine HT.out x hxm wr _ hB (fun w1 hB1 => ?_)
        go_wp2_with fail
        refine ⟨⟨k + 1, by omega, by go_num, hB.trans (hB1.mono hB.size), Lib.hid (fun j y hj hy => ?_)⟩, by simp [RowKit.intOf]; omega⟩
        by_cases e : j = k
        · subst e
          rw [Hx.out] at hy
          cases hy
          exact hp
        · exact Hno.out j y (by omega) hy
    · have hres : idxS p l = -1 := idxS_none (fun j y hy => Hno.out j y (by have := (List.getElem?_eq_some_iff.1 hy).1; have := hS.1; omega) hy)
      rw [hres] at H
      clear hres
      go_wp2_with fail
      exact H.out _ hB

theorem containsFunc_c (A : Option Addr) (n c : Nat) (l : List Itm) (p : Itm → Bool) (g : Nat) (caps : Array Value) (hcf : ∀ (args : Array Value) (w : World), (callFunc g args).run Tryd.prog w = .ok (.enter g args) w) (w : World) (hS : ItmsAt w A n l) (hn : n ≤ 1000000)
    (hT : Tells g caps w l p) (R : Ending → World → Prop) (h : ∀ w', Below w.heap.size w w' → R (.returned (.bool (l.any p))) w') :
    Calls Tryd.prog 35 #[.slice A n c, .func (.func g) #[] caps] w R := by
  have HT := Lib.hid hT
  have H := Lib.hid h
  have HS := Lib.hid hS
  clear h hT hS
  rw [← idxS_any] at H
  go_enter Tryd.func35, Tryd.ntmps35
  go_wp2_with fail
  refine indexFunc_c A n c l p g caps hcf w HS.out hn HT.out _ (fun w1 hB1 => ?_)
  go_wp2_with fail
  exact H.out _ hB1

theorem cf1 (args : Array Value) (w : World) : (callFunc 47 args).run Tryd.prog w = .ok (.enter 47 args) w := by
  go_simp
theorem cf2 (args : Array Value) (w : World) : (callFunc 48 args).run Tryd.prog w = .ok (.enter 48 args) w := by
  go_simp

/-- May the items be? 'none': a need's parts are such that the model leaves an answer open. -/
def listS (kind : Int) (l : List Itm) : Bool :=
  if !allS (l.map Itm.t) || decide (4 < l.length) then false
  else if kind = 5 then !l.any (fun x => nzS x.re x.im)
  else if l.any (fun x => !((nrightS x.re x.im).getD false)) then false
  else decide (l.length = 1) || decide (kind = 1) && decide (0 < l.length)

theorem infoStr : (Tryd.prog.info? 9).map (fun i => (i.zero, i.size, i.bytes)) = some (some (.string ⟨#[]⟩), 1, 16) := by kernel_rfl

theorem list_c (kind : Int) (A : Option Addr) (n c : Nat) (l : List Itm) (w : World) (hS : ItmsAt w A n l) (hlen : ∀ s ∈ l, s.t.size ≤ maxLen) (hneed : ∀ s ∈ l, (nrightS s.re s.im).isSome = true) (hn : n ≤ 1000000) (R : Ending → World → Prop)
    (h : ∀ w', Below w.heap.size w w' → R (.returned (.bool (listS kind l))) w') :
    Calls Tryd.prog 31 #[.int .i64 kind, .slice A n c] w R := by
  have H := Lib.hid h
  clear h
  go_enter Tryd.func31, Tryd.ntmps31
  go_wp2_with fail
  go_loopw [5, 10] (fun v i wr => ∃ k : Nat, k ≤ n ∧ i = .int .i64 k ∧ Below w.heap.size w wr ∧ wr.ownsRow w.heap.size 9 1 v k ((l.take k).map fun x => .string x.t)) (fun _ i _ => n - (RowKit.intOf i).toNat)
  case atStart => exact ⟨0, Nat.zero_le _, rfl, Below.refl _ _, own_nil' _ _ _ _⟩
  case round =>
    obtain ⟨k, hk, rfl, hB, hown⟩ := hrel
    by_cases hlt : k < n
    · obtain ⟨b, o, x, rfl, hx, hb, hc1, hc2⟩ := hS.at_ hlt
      have hx1 : wr.cell? ⟨b, o + k * 2, none⟩ = some (.string x.t) := (hB.cell (p := ⟨b, _, none⟩) hb).trans hc1
      have hx2 : wr.cell? ⟨b, o + k * 2 + 1, none⟩ = some (.complex .f64 x.re x.im) := (hB.cell (p := ⟨b, _, none⟩) hb).trans hc2
      have Hx := Lib.hid hx
      have hxm := List.mem_of_getElem? hx
      clear hc1 hc2 hx
      have hBs := hB.size
      go_wp2_with (at_builtin; (refine app_one w.heap.size rfl _ _ 75 9 (.string ⟨#[]⟩) 1 16 rfl Tryd.underlying75 infoStr rfl (by decide) (by decide) _ k _ #[.string x.t] rfl rfl _ rfl (by simp) (by simp [Value.oneCell']) (hown.alloc _) (by simp; omega) (by omega) ?_); intro v1 w1 hown1 hg1 hgb)
      refine ⟨⟨k + 1, by omega, by go_num, ?_, ?_⟩, by simp [RowKit.intOf]; omega⟩
      · exact below_grown' (hB.trans (((Below.refl _ _).alloc (Nat.le_refl _) _).mono hBs)) (by simp; omega) hg1 hgb
      · rw [List.take_add_one, Hx.out]
        simp only [Option.toList_some, List.map_append, List.map_cons, List.map_nil]
        exact hown1
    · have hkn : k = n := by omega
      have hl := hS.1
      have e : l.take k = l := by rw [hkn, ← hl]; exact List.take_length
      rw [e] at hown
      obtain ⟨A', c', rfl, hA'⟩ := own_shape' hown
      rw [hkn] at hown hA'
      have hStr : StrsAt wr A' n (l.map Itm.t) := by
        refine ⟨by rw [List.length_map, hl], fun h0 => ?_⟩
        obtain ⟨g, rfl, _, hg⟩ := hA' h0
        refine ⟨g, 0, rfl, hg, fun j s hs => ?_⟩
        have := hown.cells (g := g) rfl j (.string s) (by
          rw [List.getElem?_map] at hs ⊢
          obtain ⟨y, hy, rfl⟩ := Option.map_eq_some_iff.1 hs
          rw [hy]; rfl)
        rwa [Addr.add_lit] at this
      have HStr := Lib.hid hStr
      have Hl := Lib.hid hl
      have hsz : ∀ s ∈ l.map Itm.t, s.size ≤ maxLen := by
        intro s hs
        obtain ⟨y, hy, rfl⟩ := List.mem_map.1 hs
        exact hlen y hy
      have Hsz := Lib.hid hsz
      have HS := Lib.hid hS
      have Hneed := Lib.hid hneed
      have hu : listS kind l = (if !allS (l.map Itm.t) || decide (4 < n) then false
        else if kind = 5 then !l.any (fun x => nzS x.re x.im)
        else if l.any (fun x => !((nrightS x.re x.im).getD false)) then false
        else decide (n = 1) || decide (kind = 1) && decide (0 < n)) := by unfold listS; rw [hl]
      rw [hu] at H
      subst hkn
      clear hA' hown hStr hl e hu hsz hlen hS hneed
      go_wp2_with fail
      refine all_c A' k c' (l.map Itm.t) wr HStr.out Hsz.out hn _ (fun w1 hB1 => ?_)
      have hB2 := hB.trans (hB1.mono hB.size)
      cases ha : allS (l.map Itm.t) with
      | false =>
        rw [ha] at H
        go_wp2_with fail
        exact H.out _ hB2
      | true =>
        rw [ha] at H
        by_cases h4 : k ≤ 4
        · have h4' : decide (4 < k) = false := by simp; omega
          rw [h4'] at H
          have hS1 : ItmsAt w1 A k l := ⟨Hl.out, fun h0 => by
            obtain ⟨b, o, e1, hb, hc⟩ := HS.out.2 h0
            exact ⟨b, o, e1, Nat.lt_of_lt_of_le hb hB2.size, fun j x hx => ⟨(hB2.cell (p := ⟨b, _, none⟩) hb).trans (hc j x hx).1, (hB2.cell (p := ⟨b, _, none⟩) hb).trans (hc j x hx).2⟩⟩⟩
          have HS1 := Lib.hid hS1
          clear hS1 h4'
          by_cases h5 : kind = 5
          · have hb5 : (kind == 5) = true := by simp [h5]
            rw [if_neg (by simp), if_pos h5] at H
            clear h5
            go_wp2_with fail
            refine containsFunc_c A k c l (fun x => nzS x.re x.im) 47 #[] cf1 w1 HS1.out hn (fun x _ w2 R2 _ h2 => list1_c x w2 R2 h2) _ (fun w2 hB3 => ?_)
            go_wp2_with fail
            exact H.out _ (hB2.trans (hB3.mono hB2.size))
          · have hb5 : (kind == 5) = false := by simp [h5]
            rw [if_neg (by simp), if_neg h5] at H
            clear h5
            have hT : Tells 48 #[] w1 l (fun x => !((nrightS x.re x.im).getD false)) := fun x hx w2 R2 _ h2 => by
              obtain ⟨bb, hbb⟩ := Option.isSome_iff_exists.1 (Hneed.out x hx)
              refine list2_c x bb hbb w2 R2 (fun w' hw' => ?_)
              have := h2 w' hw'
              simp only [hbb, Option.getD_some] at this
              exact this
            have HT := Lib.hid hT
            clear hT
            cases hany : l.any (fun x => !((nrightS x.re x.im).getD false)) with
            | true =>
              rw [hany] at H
              go_wp2_with fail
              refine containsFunc_c A k c l _ 48 #[] cf2 w1 HS1.out hn HT.out _ (fun w2 hB3 => ?_)
              go_wp2_with fail
              exact H.out _ (hB2.trans (hB3.mono hB2.size))
            | false =>
              rw [hany, if_neg (by simp)] at H
              by_cases e1 : k = 1
              · have b1 : ((k : Int) == 1) = true := by simp [e1]
                have v : (decide (k = 1) || decide (kind = 1) && decide (0 < k)) = true := by simp [e1]
                rw [v] at H
                clear v e1
                go_wp2_with fail
                refine containsFunc_c A k c l _ 48 #[] cf2 w1 HS1.out hn HT.out _ (fun w2 hB3 => ?_)
                go_wp2_with fail
                exact H.out _ (hB2.trans (hB3.mono hB2.size))
              · have b1 : ((k : Int) == 1) = false := by simp; omega
                by_cases ek : kind = 1
                · have bk : (kind == 1) = true := by simp [ek]
                  by_cases e0 : 0 < k
                  · have v : (decide (k = 1) || decide (kind = 1) && decide (0 < k)) = true := by simp [ek, e0]
                    rw [v] at H
                    clear v e1 ek
                    go_wp2_with fail
                    refine containsFunc_c A k c l _ 48 #[] cf2 w1 HS1.out hn HT.out _ (fun w2 hB3 => ?_)
                    go_wp2_with fail
                    exact H.out _ (hB2.trans (hB3.mono hB2.size))
                  · have v : (decide (k = 1) || decide (kind = 1) && decide (0 < k)) = false := by simp [e1]; omega
                    have b0 : decide (0 < k) = false := by simpa using e0
                    rw [v] at H
                    clear v e1 ek
                    go_wp2_with fail
                    refine containsFunc_c A k c l _ 48 #[] cf2 w1 HS1.out hn HT.out _ (fun w2 hB3 => ?_)
                    go_wp2_with fail
                    exact H.out _ (hB2.trans (hB3.mono hB2.size))
                · have bk : (kind == 1) = false := by simp [ek]
                  have v : (decide (k = 1) || decide (kind = 1) && decide (0 < k)) = false := by simp [e1, ek]
                  rw [v] at H
                  clear v e1 ek
                  go_wp2_with fail
                  refine containsFunc_c A k c l _ 48 #[] cf2 w1 HS1.out hn HT.out _ (fun w2 hB3 => ?_)
                  go_wp2_with fail
                  exact H.out _ (hB2.trans (hB3.mono hB2.size))
        · have h4' : decide (4 < k) = true := by simp; omega
          rw [h4'] at H
          go_wp2_with fail
          exact H.out _ hB2
end Go.Proofs.YtjndigkphoiohaaDoor
