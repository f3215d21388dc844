/-
  Several texts in one: List, Check, Code, Concat; each says at its head what it holds.
-/
import Derived.Test.YtdmcponfodohaaaGreatDoorGa
import Derived.Lib.AppendStr
import Derived.Deep.OwnRows
/-
  message.list: which items a message of a kind may have.
-/
namespace Go.Proofs.YtdmcponfodohaaaGreatDoor
open Go.RowKit Go.Shelf
set_option maxRecDepth 100000

structure Itm where
  t : ByteArray
  re : Nat
  im : Nat

def itmCells (x : Itm) : List Value := [.string x.t, .complex .f64 x.re x.im]
def itmV (x : Itm) : Value := .agg #[.string x.t, .complex .f64 x.re x.im]
def ItmsAt (w : World) (A : Option Addr) (n : Nat) (l : List Itm) : Prop :=
  l.length = n ∧ (0 < n → ∃ b o, A = some ⟨b, o, none⟩ ∧ b < w.heap.size ∧ ∀ j x, l[j]? = some x → w.cell? ⟨b, o + j * 2, none⟩ = some (.string x.t) ∧ w.cell? ⟨b, o + j * 2 + 1, none⟩ = some (.complex .f64 x.re x.im))

theorem nz_spell (x y : Nat) : (!(FloatKind.f64.format.order x 0 == some .eq) || !(FloatKind.f64.format.order y 0 == some .eq)) = nzS x y := by
  unfold nzS ford eq0
  cases FloatKind.f64.format.order x 0 with
  | none => rfl
  | some a => cases FloatKind.f64.format.order y 0 with
    | none => cases a <;> rfl
    | some b => cases a <;> cases b <;> rfl

theorem list1_c (x : Itm) (w : World) (R : Ending → World → Prop) (h : ∀ w', Below w.heap.size w w' → R (.returned (.bool (nzS x.re x.im))) w') :
    Calls Tryz.prog 157 #[itmV x] w R := by
  unfold itmV
  have e : (!(FloatKind.f64.format.order x.re 0 == some .eq) || !(FloatKind.f64.format.order x.im 0 == some .eq)) = nzS x.re x.im := nz_spell x.re x.im
  rw [← e] at h
  clear e
  go_enter Tryz.func157, Tryz.ntmps157
  go_wp2_with fail
  exact (Below.refl _ _).alloc (Nat.le_refl _) _

theorem list2_c (x : Itm) (b : Bool) (hb : nrightS x.re x.im = some b) (w : World) (R : Ending → World → Prop) (h : ∀ w', Below w.heap.size w w' → R (.returned (.bool (!b))) w') :
    Calls Tryz.prog 158 #[itmV x] w R := by
  unfold itmV
  go_enter Tryz.func158, Tryz.ntmps158
  go_wp2_with (go_at_call 159; refine nright_c _ _ _ hb _ _ ?_)
  exact (Below.refl _ _).alloc (Nat.le_refl _) _

/-- The cells of an item that is read. -/
theorem ItmsAt.at_ {w : World} {A : Option Addr} {n : Nat} {l : List Itm} (h : ItmsAt w A n l) {k : Nat} (hk : k < n) : ∃ b o x, A = some ⟨b, o, none⟩ ∧ l[k]? = some x ∧ b < w.heap.size ∧ w.cell? ⟨b, o + k * 2, none⟩ = some (.string x.t) ∧ w.cell? ⟨b, o + k * 2 + 1, none⟩ = some (.complex .f64 x.re x.im) := by
  obtain ⟨b, o, e, hb, hc⟩ := h.2 (by omega)
  have hl : k < l.length := by have := h.1; omega
  exact ⟨b, o, l[k], e, List.getElem?_eq_getElem hl, hb, hc k _ (List.getElem?_eq_getElem hl)⟩

/-- A function value tells of each of some items what p says, in whatever world behind w0, and turns nothing that was there. -/
def Tells (g : Nat) (caps : Array Value) (w0 : World) (l : List Itm) (p : Itm → Bool) : Prop :=
  ∀ x ∈ l, ∀ (w : World) (R : Ending → World → Prop), Below w0.heap.size w0 w → (∀ w', Below w.heap.size w w' → R (.returned (.bool (p x))) w') → Calls Tryz.prog g (#[itmV x] ++ caps) w R
def idxS (p : Itm → Bool) (l : List Itm) : Int := match l.findIdx? p with | some i => i | none => -1
theorem idxS_at {p : Itm → Bool} {l : List Itm} {k : Nat} {x : Itm} (hx : l[k]? = some x) (hp : p x = true) (hno : ∀ (j : Nat) (y : Itm), j < k → l[j]? = some y → p y = false) : idxS p l = k := by
  have h1 := List.getElem?_eq_some_iff.1 hx
  have : l.findIdx? p = some k := by
    rw [List.findIdx?_eq_some_iff_getElem]
    refine ⟨h1.1, by rw [h1.2]; exact hp, fun j hj => ?_⟩
    have := hno j _ hj (List.getElem?_eq_getElem (by have := h1.1; omega))
    simp [this]
  unfold idxS
  rw [this]
theorem idxS_none {p : Itm → Bool} {l : List Itm} (hno : ∀ (j : Nat) (y : Itm), l[j]? = some y → p y = false) : idxS p l = -1 := by
  have : l.findIdx? p = none := by
    rw [List.findIdx?_eq_none_iff]
    intro x hx
    obtain ⟨j, hj⟩ := List.getElem?_of_mem hx
    exact hno j x hj
  unfold idxS
  rw [this]
theorem idxS_any (p : Itm → Bool) (l : List Itm) : decide (0 ≤ idxS p l) = l.any p := by
  unfold idxS
  cases h : l.findIdx? p with
  | none =>
    have : l.any p = false := by
      rw [List.any_eq_false]
      intro x hx
      have := List.findIdx?_eq_none_iff.1 h x hx
      simp [this]
    rw [this]; rfl
  | some i =>
    obtain ⟨hi, hp, _⟩ := List.findIdx?_eq_some_iff_getElem.1 h
    have : l.any p = true := List.any_eq_true.2 ⟨_, List.getElem_mem hi, hp⟩
    rw [this]
    simp

theorem indexFunc_c (A : Option Addr) (n c : Nat) (l : List Itm) (p : Itm → Bool) (g : Nat) (caps : Array Value) (hcf : ∀ (args : Array Value) (w : World), (callFunc g args).run Tryz.prog w = .ok (.enter g args) w) (w : World) (hS : ItmsAt w A n l) (hn : n ≤ 1000000)
    (hT : Tells g caps w l p) (R : Ending → World → Prop) (h : ∀ w', Below w.heap.size w w' → R (.returned (.int .i64 (idxS p l))) w') :
    Calls Tryz.prog 184 #[.slice A n c, .func (.func g) #[] caps] w R := by
  have HT := Lib.hid hT
  have H := Lib.hid h
  clear h hT
  go_enter Tryz.func184, Tryz.ntmps184
  go_wp2_with fail
  go_loopw [8] (fun i wr => ∃ k : Nat, k ≤ n ∧ i = .int .i64 k ∧ Below w.heap.size w wr ∧ Hid (∀ j y, j < k → l[j]? = some y → p y = false)) (fun i _ => n - (RowKit.intOf i).toNat)
  case atStart => exact ⟨0, Nat.zero_le _, rfl, Below.refl _ _, Lib.hid (fun j y h => absurd h (by omega))⟩
  case round =>
    obtain ⟨k, hk, rfl, hB, Hno⟩ := hrel
    by_cases hlt : k < n
    · obtain ⟨b, o, x, rfl, hx, hb, hc1, hc2⟩ := hS.at_ hlt
      have hx1 : wr.cell? ⟨b, o + k * 2, none⟩ = some (.string x.t) := (hB.cell (p := ⟨b, _, none⟩) hb).trans hc1
      have hx2 : wr.cell? ⟨b, o + k * 2 + 1, none⟩ = some (.complex .f64 x.re x.im) := (hB.cell (p := ⟨b, _, none⟩) hb).trans hc2
      have Hx := Lib.hid hx
      have hxm := List.mem_of_getElem? hx
      clear hc1 hc2 hx
      cases hp : p x with
      | true =>
        have hres := idxS_at Hx.out hp Hno.out
        rw [hres] at H
        clear hres
        go_wp2_with fail
        refine HT.out x hxm wr _ hB (fun w1 hB1 => ?_)
        go_wp2_with fail
        exact H.out _ (hB.trans (hB1.mono hB.size))
      | false =>
        go_wp2_with fail
        refine HT.out x hxm wr _ hB (fun w1 hB1 => ?_)
        go_wp2_with fail
        refine ⟨⟨k + 1, by omega, by go_num, hB.trans (hB1.mono hB.size), Lib.hid (fun j y hj hy => ?_)⟩, by simp [RowKit.intOf]; omega⟩
        by_cases e : j = k
        · subst e
          rw [Hx.out] at hy
          cases hy
          exact hp
        · exact Hno.out j y (by omega) hy
    · have hres : idxS p l = -1 := idxS_none (fun j y hy => Hno.out j y (by have := (List.getElem?_eq_some_iff.1 hy).1; have := hS.1; omega) hy)
      rw [hres] at H
      clear hres
      go_wp2_with fail
      exact H.out _ hB

theorem containsFunc_c (A : Option Addr) (n c : Nat) (l : List Itm) (p : Itm → Bool) (g : Nat) (caps : Array Value) (hcf : ∀ (args : Array Value) (w : World), (callFunc g args).run Tryz.prog w = .ok (.enter g args) w) (w : World) (hS : ItmsAt w A n l) (hn : n ≤ 1000000)
    (hT : Tells g caps w l p) (R : Ending → World → Prop) (h : ∀ w', Below w.heap.size w w' → R (.returned (.bool (l.any p))) w') :
    Calls Tryz.prog 156 #[.slice A n c, .func (.func g) #[] caps] w R := by
  have HT := Lib.hid hT
  have H := Lib.hid h
  have HS := Lib.hid hS
  clear h hT hS
  rw [← idxS_any] at H
  go_enter Tryz.func156, Tryz.ntmps156
  go_wp2_with fail
  refine indexFunc_c A n c l p g caps hcf w HS.out hn HT.out _ (fun w1 hB1 => ?_)
  go_wp2_with fail
  exact H.out _ hB1

theorem cf1 (args : Array Value) (w : World) : (callFunc 157 args).run Tryz.prog w = .ok (.enter 157 args) w := by
  go_simp
theorem cf2 (args : Array Value) (w : World) : (callFunc 158 args).run Tryz.prog w = .ok (.enter 158 args) w := by
  go_simp

/-- May the items be? 'none': a need's parts are such that the model leaves an answer open. -/
def listS (kind : Int) (l : List Itm) : Bool :=
  if !allS (l.map Itm.t) || decide (4 < l.length) then false
  else if kind = 5 then !l.any (fun x => nzS x.re x.im)
  else if l.any (fun x => !((nrightS x.re x.im).getD false)) then false
  else decide (l.length = 1) || decide (kind = 1) && decide (0 < l.length)

theorem infoStr : (Tryz.prog.info? 9).map (fun i => (i.zero, i.size, i.bytes)) = some (some (.string ⟨#[]⟩), 1, 16) := by kernel_rfl

theorem list_c (kind : Int) (A : Option Addr) (n c : Nat) (l : List Itm) (w : World) (hS : ItmsAt w A n l) (hlen : ∀ s ∈ l, s.t.size ≤ maxLen) (hneed : ∀ s ∈ l, (nrightS s.re s.im).isSome = true) (hn : n ≤ 1000000) (R : Ending → World → Prop)
    (h : ∀ w', Below w.heap.size w w' → R (.returned (.bool (listS kind l))) w') :
    Calls Tryz.prog 131 #[.int .i64 kind, .slice A n c] w R := by
  have H := Lib.hid h
  clear h
  go_enter Tryz.func131, Tryz.ntmps131
  go_wp2_with fail
  go_loopw [5, 10] (fun v i wr => ∃ k : Nat, k ≤ n ∧ i = .int .i64 k ∧ Below w.heap.size w wr ∧ wr.ownsRow w.heap.size 9 1 v k ((l.take k).map fun x => .string x.t)) (fun _ i _ => n - (RowKit.intOf i).toNat)
  case atStart => exact ⟨0, Nat.zero_le _, rfl, Below.refl _ _, own_nil' _ _ _ _⟩
  case round =>
    obtain ⟨k, hk, rfl, hB, hown⟩ := hrel
    by_cases hlt : k < n
    · obtain ⟨b, o, x, rfl, hx, hb, hc1, hc2⟩ := hS.at_ hlt
      have hx1 : wr.cell? ⟨b, o + k * 2, none⟩ = some (.string x.t) := (hB.cell (p := ⟨b, _, none⟩) hb).trans hc1
      have hx2 : wr.cell? ⟨b, o + k * 2 + 1, none⟩ = some (.complex .f64 x.re x.im) := (hB.cell (p := ⟨b, _, none⟩) hb).trans hc2
      have Hx := Lib.hid hx
      have hxm := List.mem_of_getElem? hx
      clear hc1 hc2 hx
      have hBs := hB.size
      go_wp2_with (at_builtin; (refine app_one w.heap.size rfl _ _ 63 9 (.string ⟨#[]⟩) 1 16 rfl Tryz.underlying63 infoStr rfl (by decide) (by decide) _ k _ #[.string x.t] rfl rfl _ rfl (by simp) (by simp [Value.oneCell']) (hown.alloc _) (by simp; omega) (by omega) ?_); intro v1 w1 hown1 hg1 hgb)
      refine ⟨⟨k + 1, by omega, by go_num, ?_, ?_⟩, by simp [RowKit.intOf]; omega⟩
      · exact below_grown' (hB.trans (((Below.refl _ _).alloc (Nat.le_refl _) _).mono hBs)) (by simp; omega) hg1 hgb
      · rw [List.take_add_one, Hx.out]
        simp only [Option.toList_some, List.map_append, List.map_cons, List.map_nil]
        exact hown1
    · have hkn : k = n := by omega
      have hl := hS.1
      have e : l.take k = l := by rw [hkn, ← hl]; exact List.take_length
      rw [e] at hown
      obtain ⟨A', c', rfl, hA'⟩ := own_shape' hown
      rw [hkn] at hown hA'
      have hStr : StrsAt wr A' n (l.map Itm.t) := by
        refine ⟨by rw [List.length_map, hl], fun h0 => ?_⟩
        obtain ⟨g, rfl, _, hg⟩ := hA' h0
        refine ⟨g, 0, rfl, hg, fun j s hs => ?_⟩
        have := hown.cells (g := g) rfl j (.string s) (by
          rw [List.getElem?_map] at hs ⊢
          obtain ⟨y, hy, rfl⟩ := Option.map_eq_some_iff.1 hs
          rw [hy]; rfl)
        rwa [Addr.add_lit] at this
      have HStr := Lib.hid hStr
      have Hl := Lib.hid hl
      have hsz : ∀ s ∈ l.map Itm.t, s.size ≤ maxLen := by
        intro s hs
        obtain ⟨y, hy, rfl⟩ := List.mem_map.1 hs
        exact hlen y hy
      have Hsz := Lib.hid hsz
      have HS := Lib.hid hS
      have Hneed := Lib.hid hneed
      have hu : listS kind l = (if !allS (l.map Itm.t) || decide (4 < n) then false
        else if kind = 5 then !l.any (fun x => nzS x.re x.im)
        else if l.any (fun x => !((nrightS x.re x.im).getD false)) then false
        else decide (n = 1) || decide (kind = 1) && decide (0 < n)) := by unfold listS; rw [hl]
      rw [hu] at H
      subst hkn
      clear hA' hown hStr hl e hu hsz hlen hS hneed
      go_wp2_with fail
      refine all_c A' k c' (l.map Itm.t) wr HStr.out Hsz.out hn _ (fun w1 hB1 => ?_)
      have hB2 := hB.trans (hB1.mono hB.size)
      cases ha : allS (l.map Itm.t) with
      | false =>
        rw [ha] at H
        go_wp2_with fail
        exact H.out _ hB2
      | true =>
        rw [ha] at H
        by_cases h4 : k ≤ 4
        · have h4' : decide (4 < k) = false := by simp; omega
          rw [h4'] at H
          have hS1 : ItmsAt w1 A k l := ⟨Hl.out, fun h0 => by
            obtain ⟨b, o, e1, hb, hc⟩ := HS.out.2 h0
            exact ⟨b, o, e1, Nat.lt_of_lt_of_le hb hB2.size, fun j x hx => ⟨(hB2.cell (p := ⟨b, _, none⟩) hb).trans (hc j x hx).1, (hB2.cell (p := ⟨b, _, none⟩) hb).trans (hc j x hx).2⟩⟩⟩
          have HS1 := Lib.hid hS1
          clear hS1 h4'
          by_cases h5 : kind = 5
          · have hb5 : (kind == 5) = true := by simp [h5]
            rw [if_neg (by simp), if_pos h5] at H
            clear h5
            go_wp2_with fail
            refine containsFunc_c A k c l (fun x => nzS x.re x.im) 157 #[] cf1 w1 HS1.out hn (fun x _ w2 R2 _ h2 => list1_c x w2 R2 h2) _ (fun w2 hB3 => ?_)
            go_wp2_with fail
            exact H.out _ (hB2.trans (hB3.mono hB2.size))
          · have hb5 : (kind == 5) = false := by simp [h5]
            rw [if_neg (by simp), if_neg h5] at H
            clear h5
            have hT : Tells 158 #[] w1 l (fun x => !((nrightS x.re x.im).getD false)) := fun x hx w2 R2 _ h2 => by
              obtain ⟨bb, hbb⟩ := Option.isSome_iff_exists.1 (Hneed.out x hx)
              refine list2_c x bb hbb w2 R2 (fun w' hw' => ?_)
              have := h2 w' hw'
              simp only [hbb, Option.getD_some] at this
              exact this
            have HT := Lib.hid hT
            clear hT
            cases hany : l.any (fun x => !((nrightS x.re x.im).getD false)) with
            | true =>
              rw [hany] at H
              go_wp2_with fail
              refine containsFunc_c A k c l _ 158 #[] cf2 w1 HS1.out hn HT.out _ (fun w2 hB3 => ?_)
              go_wp2_with fail
              exact H.out _ (hB2.trans (hB3.mono hB2.size))
            | false =>
              rw [hany, if_neg (by simp)] at H
              by_cases e1 : k = 1
              · have b1 : ((k : Int) == 1) = true := by simp [e1]
                have v : (decide (k = 1) || decide (kind = 1) && decide (0 < k)) = true := by simp [e1]
                rw [v] at H
                clear v e1
                go_wp2_with fail
                refine containsFunc_c A k c l _ 158 #[] cf2 w1 HS1.out hn HT.out _ (fun w2 hB3 => ?_)
                go_wp2_with fail
                exact H.out _ (hB2.trans (hB3.mono hB2.size))
              · have b1 : ((k : Int) == 1) = false := by simp; omega
                by_cases ek : kind = 1
                · have bk : (kind == 1) = true := by simp [ek]
                  by_cases e0 : 0 < k
                  · have v : (decide (k = 1) || decide (kind = 1) && decide (0 < k)) = true := by simp [ek, e0]
                    rw [v] at H
                    clear v e1 ek
                    go_wp2_with fail
                    refine containsFunc_c A k c l _ 158 #[] cf2 w1 HS1.out hn HT.out _ (fun w2 hB3 => ?_)
                    go_wp2_with fail
                    exact H.out _ (hB2.trans (hB3.mono hB2.size))
                  · have v : (decide (k = 1) || decide (kind = 1) && decide (0 < k)) = false := by simp [e1]; omega
                    have b0 : decide (0 < k) = false := by simpa using e0
                    rw [v] at H
                    clear v e1 ek
                    go_wp2_with fail
                    refine containsFunc_c A k c l _ 158 #[] cf2 w1 HS1.out hn HT.out _ (fun w2 hB3 => ?_)
                    go_wp2_with fail
                    exact H.out _ (hB2.trans (hB3.mono hB2.size))
                · have bk : (kind == 1) = false := by simp [ek]
                  have v : (decide (k = 1) || decide (kind = 1) && decide (0 < k)) = false := by simp [e1, ek]
                  rw [v] at H
                  clear v e1 ek
                  go_wp2_with fail
                  refine containsFunc_c A k c l _ 158 #[] cf2 w1 HS1.out hn HT.out _ (fun w2 hB3 => ?_)
                  go_wp2_with fail
                  exact H.out _ (hB2.trans (hB3.mono hB2.size))
        · have h4' : decide (4 < k) = true := by simp; omega
          rw [h4'] at H
          go_wp2_with fail
          exact H.out _ hB2
end Go.Proofs.YtdmcponfodohaaaGreatDoor
/-
  message.Check: may a message be?
-/
namespace Go.Proofs.YtdmcponfodohaaaGreatDoor
open Go.RowKit Go.Shelf
set_option maxRecDepth 100000

structure Msg where
  kind : Int
  f : ByteArray
  e : ByteArray
  t : ByteArray
  n : Int
  state : Int
  number : Int
  epoch : Int
  items : List Itm

def msgCells (m : Msg) (A : Option Addr) (c : Nat) : Array Value := #[.int .i64 m.kind, .string m.f, .string m.e, .string m.t, .int .i64 m.n, .int .i64 m.state, .int .i64 m.number, .int .i64 m.epoch, .slice A m.items.length c]
def msgV (m : Msg) (A : Option Addr) (c : Nat) : Value := .agg (msgCells m A c)

def hasIS (fs : ByteArray) : Bool := decide (0 ≤ Lib.indexByte fs.data.toList 73)
def textBad (fs : ByteArray) (k : Int) (s : ByteArray) : Bool := if hasS fs k then !rightS s else decide (s.size ≠ 0)
def numBad (fs : ByteArray) (k : Int) (n : Int) : Bool := if hasS fs k then !numberS k n else decide (n ≠ 0)
def textsBad (m : Msg) : Bool := textBad (fieldsS m.kind) 70 m.f || textBad (fieldsS m.kind) 69 m.e || textBad (fieldsS m.kind) 84 m.t
def numsBad (m : Msg) : Bool := numBad (fieldsS m.kind) 78 m.n || numBad (fieldsS m.kind) 83 m.state || numBad (fieldsS m.kind) 85 m.number || numBad (fieldsS m.kind) 80 m.epoch
def itemsBad (m : Msg) : Bool := if hasIS (fieldsS m.kind) then !listS m.kind m.items else decide (0 < m.items.length)
def isQ (fs : ByteArray) : Bool := fs.data.toList == [63]
def validS (m : Msg) : Bool := !isQ (fieldsS m.kind) && !textsBad m && !numsBad m && !itemsBad m
def checkS (m : Msg) : Int := if validS m then 0 else 1

theorem ite_P {α : Type} {p : α → Prop} {c : Prop} [Decidable c] {a b : α} (ha : p a) (hb : p b) : p (if c then a else b) := by split <;> assumption
theorem fields_P {p : ByteArray → Prop} (k : Int) (h : p ⟨#[70, 69, 73]⟩ ∧ p ⟨#[70, 84]⟩ ∧ p ⟨#[70]⟩ ∧ p ⟨#[70, 84, 85, 80]⟩ ∧ p ⟨#[70, 73]⟩ ∧ p ⟨#[]⟩ ∧ p ⟨#[70, 69, 78]⟩ ∧ p ⟨#[70, 69, 78, 84, 83]⟩ ∧ p ⟨#[80]⟩ ∧ p ⟨#[70, 84, 85, 80, 83]⟩ ∧ p ⟨#[70, 84, 83]⟩ ∧ p ⟨#[70, 69, 78, 73]⟩ ∧ p ⟨#[70, 69, 78, 84]⟩ ∧ p ⟨#[63]⟩) : p (fieldsS k) := by
  obtain ⟨h1, h2, h3, h4, h5, h6, h7, h8, h9, h10, h11, h12, h13, h14⟩ := h
  unfold fieldsS
  exact ite_P h1 (ite_P h2 (ite_P h3 (ite_P h4 (ite_P h5 (ite_P h6 (ite_P h7 (ite_P h8 (ite_P h9 (ite_P h10 (ite_P h11 (ite_P h12 (ite_P h13 h14))))))))))))
theorem ascii_fields (k : Int) : (fieldsS k).data.toList.all (fun b => decide (b.toNat < 128)) = true :=
  fields_P (p := fun s => s.data.toList.all (fun b => decide (b.toNat < 128)) = true) k ⟨rfl, rfl, rfl, rfl, rfl, rfl, rfl, rfl, rfl, rfl, rfl, rfl, rfl, rfl⟩
theorem ascii_at {s : ByteArray} (h : s.data.toList.all (fun b => decide (b.toNat < 128)) = true) : ∀ i (hi : i < s.size), (s[i]'hi).toNat < 128 := by
  intro i hi
  have hl : i < s.data.toList.length := by rw [data_length']; exact hi
  have := List.all_eq_true.1 h _ (List.getElem_mem hl)
  exact of_decide_eq_true this

structure MsgOk (m : Msg) : Prop where
  f : m.f.size ≤ maxLen
  e : m.e.size ≤ maxLen
  t : m.t.size ≤ maxLen
  its : ∀ x ∈ m.items, x.t.size ≤ maxLen
  need : ∀ x ∈ m.items, (nrightS x.re x.im).isSome = true
  len : m.items.length ≤ 1000000

def textAt (fs : ByteArray) (m : Msg) (k : Int) : Bool := if k = 70 then textBad fs 70 m.f else if k = 69 then textBad fs 69 m.e else textBad fs 84 m.t
def numAt (fs : ByteArray) (m : Msg) (k : Int) : Bool := if k = 78 then numBad fs 78 m.n else if k = 83 then numBad fs 83 m.state else if k = 85 then numBad fs 85 m.number else numBad fs 80 m.epoch

theorem texts_o (b : Nat) (w : World) (R : Ending → World → Prop)
    (h : ∀ w' es, IsFM b [(70, 1), (69, 2), (84, 3)] es → Below w.heap.size w w' → w'.heap[w.heap.size]? = some (.map es 3) → R (.returned (.map (some w.heap.size))) w') :
    Calls Tryz.prog 108 #[.pointer (some ⟨b, 0, none⟩)] w R :=
  texts_c b w R fun es hes => h _ es hes ((Below.refl _ _).alloc (Nat.le_refl _) _).drew (heap_alloc_new w _)
theorem numbers_o (b : Nat) (w : World) (R : Ending → World → Prop)
    (h : ∀ w' es, IsFM b [(78, 4), (83, 5), (85, 6), (80, 7)] es → Below w.heap.size w w' → w'.heap[w.heap.size]? = some (.map es 4) → R (.returned (.map (some w.heap.size))) w') :
    Calls Tryz.prog 110 #[.pointer (some ⟨b, 0, none⟩)] w R :=
  numbers_c b w R fun es hes => h _ es hes ((Below.refl _ _).alloc (Nat.le_refl _) _).drew (heap_alloc_new w _)

theorem pcell {w w1 : World} (h : Below w.heap.size w w1) {a : Addr} {v : Value} (hc : w.cell? a = some v) : w1.cell? a = some v := (h.cell (World.block_lt_of_cell? w a hc)).trans hc
theorem text_cell (fs : ByteArray) (m : Msg) (A : Option Addr) (c : Nat) (hm : MsgOk m) {k : Int} {off : Nat} (h : (k, off) ∈ [((70 : Int), 1), (69, 2), (84, 3)]) :
    ∃ s, (msgCells m A c)[off]? = some (.string s) ∧ textAt fs m k = textBad fs k s ∧ s.size ≤ maxLen := by
  simp only [List.mem_cons, Prod.mk.injEq, List.mem_nil_iff, or_false] at h
  rcases h with ⟨rfl, rfl⟩ | ⟨rfl, rfl⟩ | ⟨rfl, rfl⟩
  · exact ⟨m.f, rfl, rfl, hm.f⟩
  · exact ⟨m.e, rfl, rfl, hm.e⟩
  · exact ⟨m.t, rfl, rfl, hm.t⟩
theorem check_badT {m : Msg} {fs : ByteArray} (hfs : fs = fieldsS m.kind) {k : Int} {off : Nat} (h : (k, off) ∈ [((70 : Int), 1), (69, 2), (84, 3)]) (hb : textAt fs m k = true) : checkS m = 1 := by
  have : textsBad m = true := by
    unfold textsBad
    rw [← hfs]
    simp only [List.mem_cons, Prod.mk.injEq, List.mem_nil_iff, or_false] at h
    rcases h with ⟨rfl, rfl⟩ | ⟨rfl, rfl⟩ | ⟨rfl, rfl⟩
    · have : textBad fs 70 m.f = true := hb
      simp [this]
    · have : textBad fs 69 m.e = true := hb
      simp [this]
    · have : textBad fs 84 m.t = true := hb
      simp [this]
  unfold checkS validS
  simp [this]

theorem text_done {b : Nat} {l : List (Int × Nat)} {es : Array MapEntry} {seen : Array Nat} {bad : Int → Bool} (hes : IsFM b l es) (hd : NextDone es seen) (hs : ∀ x ∈ es.toList, seen.contains x.born = true → ∀ k, x.key = .int .i32 k → bad k = false) (k : Int) (off : Nat) (hko : (k, off) ∈ l) : bad k = false := by
  obtain ⟨x, hx, hk, _⟩ := hes.has hko
  exact hs x hx (all_seen' es seen hd.none x hx) k hk

theorem num_cell (fs : ByteArray) (m : Msg) (A : Option Addr) (c : Nat) {k : Int} {off : Nat} (h : (k, off) ∈ [((78 : Int), 4), (83, 5), (85, 6), (80, 7)]) :
    ∃ v, (msgCells m A c)[off]? = some (.int .i64 v) ∧ numAt fs m k = numBad fs k v := by
  simp only [List.mem_cons, Prod.mk.injEq, List.mem_nil_iff, or_false] at h
  rcases h with ⟨rfl, rfl⟩ | ⟨rfl, rfl⟩ | ⟨rfl, rfl⟩ | ⟨rfl, rfl⟩
  · exact ⟨m.n, rfl, rfl⟩
  · exact ⟨m.state, rfl, rfl⟩
  · exact ⟨m.number, rfl, rfl⟩
  · exact ⟨m.epoch, rfl, rfl⟩
theorem check_badN {m : Msg} {fs : ByteArray} (hfs : fs = fieldsS m.kind) {k : Int} {off : Nat} (h : (k, off) ∈ [((78 : Int), 4), (83, 5), (85, 6), (80, 7)]) (hb : numAt fs m k = true) : checkS m = 1 := by
  have : numsBad m = true := by
    unfold numsBad
    rw [← hfs]
    simp only [List.mem_cons, Prod.mk.injEq, List.mem_nil_iff, or_false] at h
    rcases h with ⟨rfl, rfl⟩ | ⟨rfl, rfl⟩ | ⟨rfl, rfl⟩ | ⟨rfl, rfl⟩
    · have : numBad fs 78 m.n = true := hb
      simp [this]
    · have : numBad fs 83 m.state = true := hb
      simp [this]
    · have : numBad fs 85 m.number = true := hb
      simp [this]
    · have : numBad fs 80 m.epoch = true := hb
      simp [this]
  unfold checkS validS
  simp [this]

theorem containsI_c (fs : ByteArray) (w : World) (R : Ending → World → Prop) (h : R (.returned (.bool (hasIS fs))) w) :
    Calls Tryz.prog 130 #[.string fs, .int .i32 73] w R := by
  refine (Tryz.strings_ContainsRune_ascii fs 73 w (by omega) (by omega)).mono ?_
  rintro e w' ⟨rfl, rfl⟩
  exact h
theorem ItmsAt.below {w w' : World} {A : Option Addr} {n : Nat} {l : List Itm} (h : ItmsAt w A n l) {B : Nat} (hb : Below B w w') (hB : w.heap.size ≤ B := by exact Nat.le_refl _) : ItmsAt w' A n l :=
  ⟨h.1, fun h0 => by
    obtain ⟨b, o, e1, hlt, hc⟩ := h.2 h0
    exact ⟨b, o, e1, Nat.lt_of_lt_of_le (by omega) hb.size, fun j x hx => ⟨(hb.cell (p := ⟨b, _, none⟩) (by show b < B; omega)).trans (hc j x hx).1, (hb.cell (p := ⟨b, _, none⟩) (by show b < B; omega)).trans (hc j x hx).2⟩⟩⟩

set_option maxHeartbeats 1000000 in
theorem check_c (m : Msg) (A : Option Addr) (c : Nat) (w : World) (hm : MsgOk m) (hI : ItmsAt w A m.items.length m.items) (R : Ending → World → Prop)
    (h : ∀ w', Below w.heap.size w w' → R (.returned (.int .i64 (checkS m))) w') :
    Calls Tryz.prog 105 #[msgV m A c] w R := by
  have H := Lib.hid h
  have Hm := Lib.hid hm
  have HI := Lib.hid hI
  clear h hm hI
  have hasc := Lib.hid (ascii_at (ascii_fields m.kind))
  obtain ⟨fs, hfs⟩ : ∃ fs, fs = fieldsS m.kind := ⟨_, rfl⟩
  rw [← hfs] at hasc
  have Hfs := Lib.hid hfs
  clear hfs
  unfold msgV msgCells
  go_enter Tryz.func105, Tryz.ntmps105
  go_wp2_with fail
  refine fields_c _ _ _ ?_
  rw [← Hfs.out]
  by_cases hq : (fs.toList == [63]) = true
  · have hv : checkS m = 1 := by
      unfold checkS validS isQ
      rw [← Hfs.out, ← ByteArray.toList_eq, hq]
      rfl
    rw [hv] at H
    clear hv
    go_wp2_with fail
    exact H.out _ ((Below.refl _ _).alloc (Nat.le_refl _) _)
  have hq' : (fs.toList == [63]) = false := by simpa using hq
  have Hq := Lib.hid hq'
  clear hq
  go_wp2_with fail
  clear hq'
  refine texts_o _ _ _ (fun w1 es hes hB1 hM1 => ?_)
  have Hes := Lib.hid hes
  have hBw1 : Below w.heap.size w w1 := ((Below.refl _ _).alloc (Nat.le_refl _) _).trans (hB1.mono (by simp))
  have hC1 : w1.heap[w.heap.size]? = some (.cells (msgCells m A c) 115) := (hB1.block _ (by simp)).trans (heap_alloc_new w _)
  simp only [World.size_alloc] at hM1
  clear hes hB1
  have hrg := run_range_map (P := Tryz.prog) w1 139 21 138 (w.heap.size + 1) es 3 Tryz.underlying139 hM1
  go_wp2_with fail
  clear hrg
  go_loopw [] (fun wr => Below w.heap.size w wr ∧ wr.heap[w.heap.size]? = some (.cells (msgCells m A c) 115) ∧ wr.heap[w.heap.size + 1]? = some (.map es 3) ∧
      ∃ seen c0, wr.heap[w1.heap.size]? = some (.mapIter (some (w.heap.size + 1)) 3 seen c0) ∧ 3 ≤ c0 ∧ Hid (∀ x ∈ es.toList, seen.contains x.born = true → ∀ k, x.key = .int .i32 k → textAt fs m k = false))
    (fun wr => wr.rangeLeft (w.heap.size + 1) w1.heap.size)
  case atStart =>
    have hlt1 : w.heap.size + 1 < w1.heap.size := (Array.getElem?_eq_some_iff.1 hM1).1
    refine ⟨hBw1.alloc hBw1.size _, ?_, ?_, #[], 3, heap_alloc_new w1 _, Nat.le_refl _, Lib.hid (fun x _ h => by simp at h)⟩
    · rw [heap_alloc_old w1 _ (by omega)]; exact hC1
    · rw [heap_alloc_old w1 _ (by omega)]; exact hM1
  case round =>
    obtain ⟨hB, hC, hM, seen, c0, hIt, hc0, Hseen⟩ := hrel
    go_wp2_with (at_next; (refine wpList_next_raw _ rfl _ rfl w1.heap.size (w.heap.size + 1) 3 c0 seen es 3 rfl hIt hM (fun x hx => by obtain ⟨_, _, _, _, _, h⟩ := Hes.out.mem hx; exact h) hc0 Hes.out.born ?_ ?_))
    · intro hd
      have hT : textsBad m = false := by
        have hall := fun k off hko => text_done Hes.out hd Hseen.out k off hko
        unfold textsBad
        rw [← Hfs.out]
        have h1 : textBad fs 70 m.f = false := hall 70 1 (by simp)
        have h2 : textBad fs 69 m.e = false := hall 69 2 (by simp)
        have h3 : textBad fs 84 m.t = false := hall 84 3 (by simp)
        simp [h1, h2, h3]
      have HT := Lib.hid hT
      have hge : w.heap.size + 1 < w1.heap.size := (Array.getElem?_eq_some_iff.1 hM1).1
      clear hT hd hM hIt hM1 hC1 hBw1
      have hlt0 : w.heap.size < wr.heap.size := (Array.getElem?_eq_some_iff.1 hC).1
      go_wp2_with fail
      refine numbers_o _ _ _ (fun w5 es2 hes2 hB5 hM5 => ?_)
      have Hes2 := Lib.hid hes2
      have hBw5 : Below w.heap.size w w5 := hB.trans (hB5.mono (by omega))
      have hC5 : w5.heap[w.heap.size]? = some (.cells (msgCells m A c) 115) := (hB5.block _ hlt0).trans hC
      obtain ⟨M2, hM2e⟩ : ∃ M2, M2 = wr.heap.size := ⟨_, rfl⟩
      rw [← hM2e] at hM5 hlt0
      have HM2e := Lib.hid hM2e
      clear hes2 hB5 hB hC Hseen
      clear hM2e
      rw [← HM2e.out]
      have hrg := run_range_map (P := Tryz.prog) w5 144 21 143 M2 es2 4 Tryz.underlying144 hM5
      go_wp2_with fail
      clear hrg
      have hlt5 : M2 < w5.heap.size := (Array.getElem?_eq_some_iff.1 hM5).1
      go_loopw [] (fun wr => Below w.heap.size w wr ∧ wr.heap[w.heap.size]? = some (.cells (msgCells m A c) 115) ∧ wr.heap[M2]? = some (.map es2 4) ∧
          ∃ seen c0, wr.heap[w5.heap.size]? = some (.mapIter (some M2) 4 seen c0) ∧ 4 ≤ c0 ∧ Hid (∀ x ∈ es2.toList, seen.contains x.born = true → ∀ k, x.key = .int .i32 k → numAt fs m k = false))
        (fun wr => wr.rangeLeft M2 w5.heap.size)
      case atStart =>
        refine ⟨hBw5.alloc hBw5.size _, ?_, ?_, #[], 4, heap_alloc_new w5 _, Nat.le_refl _, Lib.hid (fun x _ h => by simp at h)⟩
        · rw [heap_alloc_old w5 _ (by omega)]; exact hC5
        · rw [heap_alloc_old w5 _ hlt5]; exact hM5
      case round =>
        clear hBw5 hC5 hM5
        obtain ⟨hB, hC, hM, seen2, c2, hIt, hc0, Hseen⟩ := hrel
        go_wp2_with (at_next; (refine wpList_next_raw _ rfl _ rfl w5.heap.size M2 4 c2 seen2 es2 4 rfl hIt hM (fun x hx => by obtain ⟨_, _, _, _, _, h⟩ := Hes2.out.mem hx; exact h) hc0 Hes2.out.born ?_ ?_))
        · intro hd
          have hN : numsBad m = false := by
            have hall := fun k off hko => text_done Hes2.out hd Hseen.out k off hko
            unfold numsBad
            rw [← Hfs.out]
            have h1 : numBad fs 78 m.n = false := hall 78 4 (by simp)
            have h2 : numBad fs 83 m.state = false := hall 83 5 (by simp)
            have h3 : numBad fs 85 m.number = false := hall 85 6 (by simp)
            have h4 : numBad fs 80 m.epoch = false := hall 80 7 (by simp)
            simp [h1, h2, h3, h4]
          have HN := Lib.hid hN
          clear hN hd hM hIt
          have hlt0 : w.heap.size < wr.heap.size := (Array.getElem?_eq_some_iff.1 hC).1
          have hk0 : wr.cell? ⟨w.heap.size, 0, none⟩ = some (.int .i64 m.kind) := by rw [cell_of_row wr w.heap.size 0 _ _ _ hC]; rfl
          have hk8 : wr.cell? ⟨w.heap.size, 8, none⟩ = some (.slice A m.items.length c) := by rw [cell_of_row wr w.heap.size 8 _ _ _ hC]; rfl
          have hIw : ItmsAt wr A m.items.length m.items := HI.out.below hB
          have HIw := Lib.hid hIw
          have HB := Lib.hid hB
          have hv : checkS m = if itemsBad m then 1 else 0 := by
            have hq2 : isQ (fieldsS m.kind) = false := by unfold isQ; rw [← Hfs.out, ← ByteArray.toList_eq]; exact Hq.out
            unfold checkS validS
            rw [hq2, HT.out, HN.out]
            cases itemsBad m <;> rfl
          have hib : itemsBad m = if hasIS fs then !listS m.kind m.items else decide (0 < m.items.length) := by unfold itemsBad; rw [Hfs.out]
          rw [hv, hib] at H
          clear hIw hB hC hv hib
          obtain ⟨n, hn⟩ : ∃ n, n = m.items.length := ⟨_, rfl⟩
          rw [← hn] at H HIw hk8
          have HIw2 := Lib.hid (Hm.out.len)
          rw [← hn] at HIw2
          clear hn
          cases hhas : hasIS fs with
          | true =>
            rw [hhas] at H
            cases hl : listS m.kind m.items with
            | true =>
              rw [hl] at H
              go_wp2_with fail
              refine containsI_c fs wr _ ?_
              go_wp2_with fail
              refine list_c m.kind A n c m.items wr HIw.out Hm.out.its Hm.out.need HIw2.out _ (fun w3 hB3 => ?_)
              go_wp2_with fail
              exact H.out _ (HB.out.trans (hB3.mono HB.out.size))
            | false =>
              rw [hl] at H
              go_wp2_with fail
              refine containsI_c fs wr _ ?_
              go_wp2_with fail
              refine list_c m.kind A n c m.items wr HIw.out Hm.out.its Hm.out.need HIw2.out _ (fun w3 hB3 => ?_)
              go_wp2_with fail
              exact H.out _ (HB.out.trans (hB3.mono HB.out.size))
          | false =>
            rw [hhas] at H
            by_cases h0 : 0 < n
            · have h0' : decide (0 < n) = true := by simp [h0]
              rw [h0'] at H
              go_wp2_with fail
              refine containsI_c fs wr _ ?_
              go_wp2_with fail
              exact H.out _ HB.out
            · have h0' : decide (0 < n) = false := by simp [h0]
              rw [h0'] at H
              go_wp2_with fail
              refine containsI_c fs wr _ ?_
              go_wp2_with fail
              exact H.out _ HB.out
        · intro e w2 hn
          obtain ⟨k, off, hko, hek, hev, _⟩ := Hes2.out.mem hn.mem
          obtain ⟨v, hcell, hat⟩ := num_cell fs m A c hko
          obtain ⟨ek, ev, eb⟩ := e
          simp only at hek hev
          subst hek
          subst hev
          have hltI : w5.heap.size < wr.heap.size := (Array.getElem?_eq_some_iff.1 hIt).1
          have hlt0 : w.heap.size < wr.heap.size := (Array.getElem?_eq_some_iff.1 hC).1
          have hge0 : w.heap.size < M2 := by assumption
          have hC2 : w2.heap[w.heap.size]? = some (.cells (msgCells m A c) 115) := (hn.grown.block _ hlt0 (by simp; omega)).trans hC
          have hB2 : Below w.heap.size w w2 := hB.grown hn.grown (by omega) (fun g hg => by cases hg; omega)
          have hcell2 : w2.cell? ⟨w.heap.size, off, none⟩ = some (.int .i64 v) := by
            rw [cell_of_row w2 w.heap.size off _ _ _ hC2]; exact hcell
          have Hat := Lib.hid hat
          have Hbad := Lib.hid (fun h => check_badN Hfs.out hko (h : numAt fs m k = true))
          have Hend : Hid (∀ w4, numAt fs m k = false → Below w2.heap.size w2 w4 → Below w.heap.size w w4 ∧ w4.heap[w.heap.size]? = some (.cells (msgCells m A c) 115) ∧ w4.heap[M2]? = some (.map es2 4) ∧
              (∃ seen c0, w4.heap[w5.heap.size]? = some (.mapIter (some M2) 4 seen c0) ∧ 4 ≤ c0 ∧ Hid (∀ x ∈ es2.toList, seen.contains x.born = true → ∀ k, x.key = .int .i32 k → numAt fs m k = false)) ∧ w4.rangeLeft M2 w5.heap.size < wr.rangeLeft M2 w5.heap.size) := Lib.hid (fun w4 hok hB4 => by
            have hs2 := hn.size
            have hI4 : w4.heap[w5.heap.size]? = some (.mapIter (some M2) 4 (seen2.push eb) 4) := (hB4.block _ (by omega)).trans hn.iter
            have hM4 : w4.heap[M2]? = some (.map es2 4) := (hB4.block _ (by omega)).trans hn.map
            refine ⟨hB2.trans (hB4.mono (by omega)), (hB4.block _ (by omega)).trans hC2, hM4, ⟨_, 4, hI4, Nat.le_refl _, Lib.hid (fun x hx hsx k' hk' => ?_)⟩, ?_⟩
            · rcases seen_push Hes2.out.born hn.mem hx hsx with rfl | h
              · injection hk' with _ hk'
                rw [← hk']; exact hok
              · exact Hseen.out x hx h k' hk'
            · simp only [World.rangeLeft, hI4, hM4, hIt, hM]
              exact hn.less)
          have hen := hn.entry
          simp only at hen
          have HB2 := Lib.hid hB2
          clear hn hat hcell hC2 hB2 hC hM hIt hB hko
          cases hhas : hasS fs k with
          | true =>
            cases hr : numberS k v with
            | true =>
              go_wp2_with fail
              refine holds_c fs k hasc.out w2 _ (fun w3 hB3 => ?_)
              have hcell3 : w3.cell? ⟨w.heap.size, off, none⟩ = some (.int .i64 v) := pcell hB3 hcell2
              go_wp2_with fail
              refine number_c k v w3 _ ?_
              go_wp2_with fail
              have e := Hend.out w3 (by rw [Hat.out]; simp [numBad, hhas, hr]) hB3
              exact ⟨⟨e.1, e.2.1, e.2.2.1, e.2.2.2.1⟩, e.2.2.2.2⟩
            | false =>
              go_wp2_with fail
              refine holds_c fs k hasc.out w2 _ (fun w3 hB3 => ?_)
              have hcell3 : w3.cell? ⟨w.heap.size, off, none⟩ = some (.int .i64 v) := pcell hB3 hcell2
              go_wp2_with fail
              refine number_c k v w3 _ ?_
              go_wp2_with fail
              have e := Hbad.out (by rw [Hat.out]; simp [numBad, hhas, hr])
              rw [e] at H
              exact H.out _ (HB2.out.trans (hB3.mono HB2.out.size))
          | false =>
            by_cases h0 : v = 0
            · have hE : (v == 0) = true := by simpa using h0
              have hE' : (v != 0) = false := by simp [h0]
              have Hs0 := Lib.hid h0
              clear h0
              go_wp2_with fail
              refine holds_c fs k hasc.out w2 _ (fun w3 hB3 => ?_)
              have hcell3 : w3.cell? ⟨w.heap.size, off, none⟩ = some (.int .i64 v) := pcell hB3 hcell2
              go_wp2_with fail
              have e := Hend.out w3 (by rw [Hat.out]; simp [numBad, hhas, Hs0.out]) hB3
              exact ⟨⟨e.1, e.2.1, e.2.2.1, e.2.2.2.1⟩, e.2.2.2.2⟩
            · have hE : (v == 0) = false := by simpa using h0
              have hE' : (v != 0) = true := by simp [h0]
              have Hs0 := Lib.hid h0
              clear h0
              go_wp2_with fail
              refine holds_c fs k hasc.out w2 _ (fun w3 hB3 => ?_)
              have hcell3 : w3.cell? ⟨w.heap.size, off, none⟩ = some (.int .i64 v) := pcell hB3 hcell2
              go_wp2_with fail
              have e := Hbad.out (by rw [Hat.out]; simp [numBad, hhas, Hs0.out])
              rw [e] at H
              exact H.out _ (HB2.out.trans (hB3.mono HB2.out.size))
    · intro e w2 hn
      obtain ⟨k, off, hko, hek, hev, _⟩ := Hes.out.mem hn.mem
      obtain ⟨s, hcell, hat, hsz⟩ := text_cell fs m A c Hm.out hko
      obtain ⟨ek, ev, eb⟩ := e
      simp only at hek hev
      subst hek
      subst hev
      have hen := hn.entry
      have hltI : w1.heap.size < wr.heap.size := (Array.getElem?_eq_some_iff.1 hIt).1
      have hlt0 : w.heap.size < wr.heap.size := (Array.getElem?_eq_some_iff.1 hC).1
      have hge : w.heap.size + 1 < w1.heap.size := (Array.getElem?_eq_some_iff.1 hM1).1
      have hC2 : w2.heap[w.heap.size]? = some (.cells (msgCells m A c) 115) := (hn.grown.block _ hlt0 (by simp; omega)).trans hC
      have hB2 : Below w.heap.size w w2 := hB.grown hn.grown (by omega) (fun g hg => by cases hg; omega)
      have hcell2 : w2.cell? ⟨w.heap.size, off, none⟩ = some (.string s) := by
        rw [cell_of_row w2 w.heap.size off _ _ _ hC2]; exact hcell
      simp only at hen
      have Hat := Lib.hid hat
      have Hbad := Lib.hid (fun h => check_badT Hfs.out hko (h : textAt fs m k = true))
      -- the round's end, whatever world it comes to
      have Hend : Hid (∀ w4, textAt fs m k = false → Below w2.heap.size w2 w4 → Below w.heap.size w w4 ∧ w4.heap[w.heap.size]? = some (.cells (msgCells m A c) 115) ∧ w4.heap[w.heap.size + 1]? = some (.map es 3) ∧
          (∃ seen c0, w4.heap[w1.heap.size]? = some (.mapIter (some (w.heap.size + 1)) 3 seen c0) ∧ 3 ≤ c0 ∧ Hid (∀ x ∈ es.toList, seen.contains x.born = true → ∀ k, x.key = .int .i32 k → textAt fs m k = false)) ∧ w4.rangeLeft (w.heap.size + 1) w1.heap.size < wr.rangeLeft (w.heap.size + 1) w1.heap.size) := Lib.hid (fun w4 hok hB4 => by
        have hs2 := hn.size
        have hI4 : w4.heap[w1.heap.size]? = some (.mapIter (some (w.heap.size + 1)) 3 (seen.push eb) 3) := (hB4.block _ (by omega)).trans hn.iter
        have hM4 : w4.heap[w.heap.size + 1]? = some (.map es 3) := (hB4.block _ (by omega)).trans hn.map
        refine ⟨hB2.trans (hB4.mono (by omega)), (hB4.block _ (by omega)).trans hC2, hM4, ⟨_, 3, hI4, Nat.le_refl _, Lib.hid (fun x hx hsx k' hk' => ?_)⟩, ?_⟩
        · rcases seen_push Hes.out.born hn.mem hx hsx with rfl | h
          · injection hk' with _ hk'
            rw [← hk']; exact hok
          · exact Hseen.out x hx h k' hk'
        · simp only [World.rangeLeft, hI4, hM4, hIt, hM]
          exact hn.less)
      clear hen
      have hen := hn.entry
      simp only at hen
      have HB2 := Lib.hid hB2
      clear hn hat hcell hC2 hB2 hC hM hIt hB hM1 hC1 hBw1 hko
      cases hhas : hasS fs k with
      | true =>
        cases hr : rightS s with
        | true =>
          go_wp2_with fail
          refine holds_c fs k hasc.out w2 _ (fun w3 hB3 => ?_)
          have hcell3 : w3.cell? ⟨w.heap.size, off, none⟩ = some (.string s) := pcell hB3 hcell2
          go_wp2_with fail
          refine right_c s (by unfold maxLen at hsz; omega) w3 _ (fun w4 hB4 => ?_)
          go_wp2_with fail
          have e := Hend.out w4 (by rw [Hat.out]; simp [textBad, hhas, hr]) (hB3.trans (hB4.mono hB3.size))
          exact ⟨⟨e.1, e.2.1, e.2.2.1, e.2.2.2.1⟩, e.2.2.2.2⟩
        | false =>
          go_wp2_with fail
          refine holds_c fs k hasc.out w2 _ (fun w3 hB3 => ?_)
          have hcell3 : w3.cell? ⟨w.heap.size, off, none⟩ = some (.string s) := pcell hB3 hcell2
          go_wp2_with fail
          refine right_c s (by unfold maxLen at hsz; omega) w3 _ (fun w4 hB4 => ?_)
          go_wp2_with fail
          have e := Hbad.out (by rw [Hat.out]; simp [textBad, hhas, hr])
          rw [e] at H
          exact H.out _ (HB2.out.trans ((hB3.trans (hB4.mono hB3.size)).mono HB2.out.size))
      | false =>
        by_cases h0 : s.toList = []
        · have hE : s.toList.isEmpty = true := by simpa using h0
          have Hs0 := Lib.hid (toList_nil_iff.1 h0)
          clear h0
          go_wp2_with fail
          refine holds_c fs k hasc.out w2 _ (fun w3 hB3 => ?_)
          have hcell3 : w3.cell? ⟨w.heap.size, off, none⟩ = some (.string s) := pcell hB3 hcell2
          go_wp2_with fail
          have e := Hend.out w3 (by rw [Hat.out]; simp [textBad, hhas, Hs0.out]) hB3
          exact ⟨⟨e.1, e.2.1, e.2.2.1, e.2.2.2.1⟩, e.2.2.2.2⟩
        · have hE : s.toList.isEmpty = false := by simpa using h0
          have Hs0 := Lib.hid (fun h => h0 (toList_nil_iff.2 h))
          clear h0
          go_wp2_with fail
          refine holds_c fs k hasc.out w2 _ (fun w3 hB3 => ?_)
          have hcell3 : w3.cell? ⟨w.heap.size, off, none⟩ = some (.string s) := pcell hB3 hcell2
          go_wp2_with fail
          have e := Hbad.out (by rw [Hat.out]; unfold textBad; rw [if_neg (by simp [hhas])]; exact decide_eq_true Hs0.out)
          rw [e] at H
          exact H.out _ (HB2.out.trans (hB3.mono HB2.out.size))
end Go.Proofs.YtdmcponfodohaaaGreatDoor
/-
  Contracts of package code: numbers and texts as bytes.
-/
namespace Go.Proofs.YtdmcponfodohaaaGreatDoor
open Go.RowKit Go.Shelf
set_option maxRecDepth 100000

def numN (n : Nat) : List Int := if h : n < 128 then [(n : Int)] else ((n % 128 + 128 : Nat) : Int) :: numN (n / 128)
termination_by n
decreasing_by omega
def numB (n : Int) : List Int := if n < 0 ∨ 34359738367 < n then [] else numN n.toNat
def u8s (l : List Int) : List Value := l.map fun x => .int .u8 x
theorem infoU8 : (Tryz.prog.info? 5).map (fun i => (i.zero, i.size, i.bytes)) = some (some (.int .u8 0), 1, 1) := by kernel_rfl

theorem or128 (a : Int) (h0 : 0 ≤ a) (h1 : a < 128) : bits .or .u8 a 128 = a + 128 := by
  obtain ⟨n, rfl⟩ := Int.eq_ofNat_of_zero_le h0
  have : ∀ m : Fin 128, bits .or .u8 ((m.val : Nat) : Int) 128 = ((m.val : Nat) : Int) + 128 := by decide +kernel
  exact this ⟨n, by omega⟩

theorem codeNumber_c (n : Int) (w : World) (R : Ending → World → Prop)
    (h : ∀ v w', Below w.heap.size w w' → w'.ownsRow w.heap.size 5 1 v (numB n).length (u8s (numB n)) → R (.returned v) w') :
    Calls Tryz.prog 47 #[.int .i64 n] w R := by
  have H := Lib.hid h
  clear h
  by_cases hn : n < 0 ∨ 34359738367 < n
  · have hb : numB n = [] := by unfold numB; rw [if_pos hn]
    rw [hb] at H
    clear hb
    rcases hn with hn | hn
    · go_enter Tryz.func47, Tryz.ntmps47
      go_wp2_with fail
      exact H.out _ _ (Below.refl _ _) (own_nil' _ _ _ _)
    · have h0 : 0 ≤ n := by omega
      go_enter Tryz.func47, Tryz.ntmps47
      go_wp2_with fail
      exact H.out _ _ (Below.refl _ _) (own_nil' _ _ _ _)
  · have h0 : 0 ≤ n := by omega
    have h1 : n ≤ 34359738367 := by omega
    have hb1 : decide (n < 0) = false := by simp; omega
    have hb2 : decide (34359738367 < n) = false := by simp; omega
    have hbn : numB n = numN n.toNat := by unfold numB; rw [if_neg hn]
    have Hbn := Lib.hid hbn
    clear hn hbn
    go_enter Tryz.func47, Tryz.ntmps47
    go_wp2_with fail
    go_loopw [0, 3] (fun x v wr => ∃ (k : Int) (pre : List Int), x = .int .i64 k ∧ 0 ≤ k ∧ k ≤ 34359738367 ∧ Below w.heap.size w wr ∧ wr.ownsRow w.heap.size 5 1 v pre.length (u8s pre) ∧ (pre.length : Int) + k ≤ n ∧ Hid (pre ++ numN k.toNat = numN n.toNat)) (fun x _ _ => (intOf x).toNat)
    case atStart => exact ⟨n, [], rfl, h0, h1, Below.refl _ _, own_nil' _ _ _ _, by simp, Lib.hid rfl⟩
    case round =>
      obtain ⟨k, pre, rfl, hk0, hk1, hB, hown, hpl, Hpre⟩ := hrel
      by_cases hlt : 128 ≤ k
      · have hBs := hB.size
        go_wp2_with (at_builtin; (refine app_one w.heap.size rfl _ _ 37 5 (.int .u8 0) 1 1 rfl Tryz.underlying37 infoU8 rfl (by decide) (by decide) _ pre.length _ _ rfl rfl _ rfl (by simp) (by simp [Value.oneCell']) (by exact hown) (by omega) (by omega) ?_); intro v1 w1 hown1 hg1 hgb)
        refine ⟨⟨k / 128, pre ++ [k % 128 + 128], rfl, by omega, by omega, below_grown' hB hBs hg1 hgb, ?_, by simp; omega, Lib.hid ?_⟩, by simp [intOf]; omega⟩
        · rw [or128 _ (by omega) (by omega)] at hown1
          simp only [List.length_append, List.length_cons, List.length_nil, u8s, List.map_append, List.map_cons, List.map_nil]
          exact hown1
        · rw [← Hpre.out, List.append_assoc]
          congr 1
          rw [numN.eq_def k.toNat, dif_neg (by omega)]
          have e1 : (k / 128).toNat = k.toNat / 128 := by omega
          have e2 : k % 128 + 128 = ((k.toNat % 128 + 128 : Nat) : Int) := by omega
          rw [e1, e2]
          rfl
      · have hBs := hB.size
        go_wp2_with (at_builtin; (refine app_one w.heap.size rfl _ _ 37 5 (.int .u8 0) 1 1 rfl Tryz.underlying37 infoU8 rfl (by decide) (by decide) _ pre.length _ _ rfl rfl _ rfl (by simp) (by simp [Value.oneCell']) (by exact hown) (by omega) (by omega) ?_); intro v1 w1 hown1 hg1 hgb)
        have e : numB n = pre ++ [k] := by
          rw [Hbn.out, ← Hpre.out, numN.eq_def k.toNat, dif_pos (by omega)]
          congr 2
          omega
        refine H.out _ _ (below_grown' hB hBs hg1 hgb) ?_
        rw [e]
        simp only [List.length_append, List.length_cons, List.length_nil, u8s, List.map_append, List.map_cons, List.map_nil]
        exact hown1

def bytesL (s : ByteArray) : List Int := s.data.toList.map fun b => (b.toNat : Int)
def textB (s : ByteArray) : List Int := if 200 < s.size then [] else numB s.size ++ bytesL s
theorem bytesL_length (s : ByteArray) : (bytesL s).length = s.size := by rw [bytesL, List.length_map, data_length']
theorem u8s_length (l : List Int) : (u8s l).length = l.length := by simp [u8s]
theorem u8s_append (l k : List Int) : u8s (l ++ k) = u8s l ++ u8s k := by simp [u8s]
theorem u8s_one (l : List Int) : ∀ u ∈ u8s l, u.oneCell' = true := by
  intro u hu
  obtain ⟨x, _, rfl⟩ := List.mem_map.1 hu
  rfl
theorem numN_length (n : Nat) : (numN n).length ≤ n + 1 := by
  induction n using Nat.strongRecOn with
  | ind n ih =>
    rw [numN.eq_def]
    split
    · simp
    · have := ih (n / 128) (by omega)
      rw [List.length_cons]
      omega
theorem numB_length {n : Int} (h0 : 0 ≤ n) : ((numB n).length : Int) ≤ n + 1 := by
  unfold numB
  split
  · simp; omega
  · have := numN_length n.toNat
    omega

theorem codeText_c (s : ByteArray) (w : World) (R : Ending → World → Prop)
    (h : ∀ v w', Below w.heap.size w w' → w'.ownsRow w.heap.size 5 1 v (textB s).length (u8s (textB s)) → R (.returned v) w') :
    Calls Tryz.prog 107 #[.string s] w R := by
  have H := Lib.hid h
  clear h
  by_cases hn : 200 < s.size
  · have hb : textB s = [] := by unfold textB; rw [if_pos hn]
    rw [hb] at H
    clear hb
    go_enter Tryz.func107, Tryz.ntmps107
    go_wp2_with fail
    exact H.out _ _ (Below.refl _ _) (own_nil' _ _ _ _)
  · have hb : textB s = numB s.size ++ bytesL s := by unfold textB; rw [if_neg hn]
    rw [hb] at H
    clear hb
    have hs : s.size ≤ 200 := by omega
    clear hn
    obtain ⟨i0, hi, hz0, hz1, hz2⟩ := info_parts infoU8
    go_enter Tryz.func107, Tryz.ntmps107
    go_wp2_with fail
    refine codeNumber_c _ _ _ (fun v w1 hB1 hown => ?_)
    have hl := numB_length (n := s.size) (by omega)
    obtain ⟨xs, hxs⟩ : ∃ xs, xs = numB (s.size : Int) := ⟨_, rfl⟩
    rw [← hxs] at hown hl H
    clear hxs
    go_wp2_with (at_builtin; (refine Lib.wpList_append_own_string _ rfl _ _ 37 9 rfl w.heap.size 5 i0 Tryz.underlying37 Tryz.underlying9 hi hz0 hz1 hz2 v xs.length (u8s xs) rfl hown s rfl (by unfold maxLen; omega) (by omega) hB1.size ?_); intro v1 w1 hown1 hg1 _)
    refine H.out _ _ (below_grown' hB1 hB1.size hg1 (fun g hg => (hown.lt g hg).1)) ?_
    rw [List.length_append, bytesL_length, u8s_append]
    have e : u8s (bytesL s) = Lib.strCells s := by simp [u8s, bytesL, Lib.strCells]
    rw [e]
    exact hown1

end Go.Proofs.YtdmcponfodohaaaGreatDoor
/-
  slices.Grow and slices.Concat at []byte: what a call answers, and that nothing that was there turns.
-/
namespace Go.Proofs.YtdmcponfodohaaaGreatDoor
open Go.RowKit Go.Shelf
set_option maxRecDepth 100000

theorem grow_c (n : Nat) (hn : n ≤ 1000000000) (w : World) (R : Ending → World → Prop)
    (h : ∀ v w', Below w.heap.size w w' → w'.ownsRow w.heap.size 5 1 v 0 [] → R (.returned v) w') :
    Calls Tryz.prog 82 #[.slice none 0 0, .int .i64 n] w R := by
  have H := Lib.hid h
  clear h
  have hmk := fun w : World => run_make_row' (P := Tryz.prog) 37 5 (.int .u8 0) 1 Tryz.underlying37 infoU8 rfl .i64 .i64 n (by omega) (by omega) w
  by_cases h0 : 0 < n
  · have ht5 : Tryz.t5.bytes = 1 := rfl
    have hnx : Builtin.nextslicecap n 0 = n := by unfold Builtin.nextslicecap; rw [if_pos (by omega)]
    go_enter Tryz.func82, Tryz.ntmps82
    go_wp2_with fail
    all_goals first | (exfalso; omega) | skip
    have hcc : ∀ t, n ≤ (Question.appendCap n 0 5).cut t ∧ (Question.appendCap n 0 5).cut t ≤ maxLen := by
      intro t
      simp only [Question.cut, maxLen]
      have := Nat.mod_lt t (show 0 < 2 ^ 63 - n by omega)
      omega
    have hcc1 := hcc (w.tape w.drawn (Question.appendCap n 0 5))
    generalize (Question.appendCap n 0 5).cut (w.tape w.drawn (Question.appendCap n 0 5)) = cc at hcc1 ⊢
    refine H.out _ _ ((Below.refl _ _).alloc (Nat.le_refl _) _).drew ⟨by simp, .inr ⟨w.heap.size, cc, _, rfl, Nat.le_refl _, heap_alloc_new w _, Nat.zero_le _, hcc1.2, ?_, by simp⟩⟩
    simp [size_zeroCells]
    omega
  · obtain rfl : n = 0 := by omega
    go_enter Tryz.func82, Tryz.ntmps82
    go_wp2_with fail
    exact H.out _ _ (Below.refl _ _) (own_nil' _ _ _ _)

/-- A list of slices of bytes that is read. -/
def RdRows (w : World) (A : Option Addr) (n : Nat) (ls : List (List Int)) : Prop :=
  ls.length = n ∧ (0 < n → ∃ g o, A = some ⟨g, o, none⟩ ∧ g < w.heap.size ∧ ∀ j l, ls[j]? = some l → ∃ Aj cj, w.cell? ⟨g, o + j, none⟩ = some (.slice Aj l.length cj) ∧ Rd w Aj l.length (u8s l))
theorem RdRows.at_ {w : World} {A : Option Addr} {n : Nat} {ls : List (List Int)} (h : RdRows w A n ls) {k : Nat} (hk : k < n) :
    ∃ g o l Aj cj, A = some ⟨g, o, none⟩ ∧ g < w.heap.size ∧ ls[k]? = some l ∧ w.cell? ⟨g, o + k, none⟩ = some (.slice Aj l.length cj) ∧ Rd w Aj l.length (u8s l) := by
  obtain ⟨g, o, e, hlt, hc⟩ := h.2 (by omega)
  have hl : k < ls.length := by have := h.1; omega
  obtain ⟨Aj, cj, h1, h2⟩ := hc k ls[k] (List.getElem?_eq_getElem hl)
  exact ⟨g, o, ls[k], Aj, cj, e, hlt, List.getElem?_eq_getElem hl, h1, h2⟩
theorem rows_of {W : World} {g : Nat} {vs : Array Value} {t : TypeId} {fr : Nat × Nat} (hg : W.heap[g]? = some (.cells vs t fr)) (ls : List (List Int)) (hlen : ls.length = vs.size)
    (h : ∀ (j : Nat) (l : List Int), ls[j]? = some l → ∃ base v, vs[j]? = some v ∧ W.ownsRow base 5 1 v l.length (u8s l)) : RdRows W (some ⟨g, 0, none⟩) vs.size ls :=
  ⟨hlen, fun _ => ⟨g, 0, rfl, (Array.getElem?_eq_some_iff.1 hg).1, fun j l hl => by
    obtain ⟨base, v, hv, ho⟩ := h j l hl
    obtain ⟨A, c, rfl, hr, _⟩ := own_rd ho
    exact ⟨A, c, by rw [cell_of_row W g _ _ _ _ hg, Nat.zero_add]; exact hv, hr⟩⟩⟩
def total (ls : List (List Int)) : Nat := ls.flatten.length
theorem total_take {ls : List (List Int)} {k : Nat} {l : List Int} (h : ls[k]? = some l) : total (ls.take (k + 1)) = total (ls.take k) + l.length := by
  unfold total
  rw [List.take_add_one, h]
  simp
theorem total_le (ls : List (List Int)) (k : Nat) : total (ls.take k) ≤ total ls := by
  unfold total
  conv => rhs; rw [← List.take_append_drop k ls]
  rw [List.flatten_append, List.length_append]
  omega

theorem concat_c (A : Option Addr) (n c : Nat) (ls : List (List Int)) (w : World) (hR : RdRows w A n ls) (hn : n ≤ 1000000) (ht : total ls ≤ 1000000000) (R : Ending → World → Prop)
    (h : ∀ v w', Below w.heap.size w w' → w'.ownsRow w.heap.size 5 1 v ls.flatten.length (u8s ls.flatten) → R (.returned v) w') :
    Calls Tryz.prog 46 #[.slice A n c] w R := by
  have H := Lib.hid h
  have HT := Lib.hid ht
  clear h ht
  go_enter Tryz.func46, Tryz.ntmps46
  go_wp2_with fail
  go_loop [3, 11] (fun sz i => ∃ k : Nat, k ≤ n ∧ i = .int .i64 k ∧ sz = .int .i64 (total (ls.take k))) (fun _ i => n - (RowKit.intOf i).toNat)
  case atStart => exact ⟨0, Nat.zero_le _, rfl, rfl⟩
  case round =>
    obtain ⟨k, hk, rfl, rfl⟩ := hrel
    by_cases hlt : k < n
    · obtain ⟨g, o, l, Aj, cj, rfl, hg, hl, hc, hr⟩ := hR.at_ hlt
      have hll := Lib.hid (total_take hl)
      have hb1 := Nat.le_trans (total_le ls (k + 1)) HT.out
      have hb0 := Nat.le_trans (total_le ls k) HT.out
      have hb2 : total (ls.take k) + l.length ≤ 1000000000 := by rw [← hll.out]; exact hb1
      clear hl hb1
      go_wp2_with fail
      refine ⟨⟨k + 1, by omega, by go_num, ?_⟩, by simp [RowKit.intOf]; omega⟩
      rw [hll.out]
      go_num
    · obtain rfl : k = n := by omega
      have hls : ls.take k = ls := by rw [← hR.1]; exact List.take_length
      rw [hls]
      clear hls
      obtain ⟨tt, htt⟩ : ∃ tt, tt = total ls := ⟨_, rfl⟩
      rw [← htt]
      have HTT := Lib.hid htt
      have hbt : tt ≤ 1000000000 := by rw [htt]; exact HT.out
      clear htt
      go_wp2_with fail
      refine grow_c tt hbt _ _ (fun v0 w1 hB1 hown0 => ?_)
      go_wp2_with fail
      have hRk := Lib.hid hR
      go_loopw [6, 27] (fun v i wr => ∃ j : Nat, j ≤ k ∧ i = .int .i64 j ∧ Below w.heap.size w wr ∧ wr.ownsRow w.heap.size 5 1 v (total (ls.take j)) (u8s (ls.take j).flatten)) (fun _ i _ => k - (RowKit.intOf i).toNat)
      case atStart => exact ⟨0, Nat.zero_le _, rfl, hB1, hown0⟩
      case round =>
        obtain ⟨j, hj, rfl, hB, hown⟩ := hrel
        by_cases hlt2 : j < k
        · obtain ⟨g, o, l, Aj, cj, rfl, hg, hl, hc, hr⟩ := hRk.out.at_ hlt2
          have hcx : wr.cell? ⟨g, o + j, none⟩ = some (.slice Aj l.length cj) := (hB.cell (p := ⟨g, _, none⟩) hg).trans hc
          have hrx := hr.below hB
          have hll := Lib.hid (total_take hl)
          have Hl := Lib.hid hl
          have hb1 := Nat.le_trans (total_le ls (j + 1)) HT.out
          have hb2 : total (ls.take j) + l.length ≤ 1000000000 := by rw [← hll.out]; exact hb1
          have hBs := hB.size
          clear hl hb1 hc
          go_wp2_with (at_builtin; (refine app_rd w.heap.size rfl _ _ 37 5 (.int .u8 0) 1 rfl Tryz.underlying37 infoU8 rfl (by decide) _ _ _ _ _ _ _ rfl rfl (u8s_one l) (by exact hown) (by exact hrx) hBs (by omega) ?_); intro v1 w2 hown1 hg1 hgb)
          refine ⟨⟨j + 1, by omega, by go_num, below_grown' hB hBs hg1 hgb, ?_⟩, by simp [RowKit.intOf]; omega⟩
          rw [hll.out, List.take_add_one, Hl.out, List.flatten_append, u8s_append]
          simpa using hown1
        · obtain rfl : j = k := by omega
          have hls : ls.take j = ls := by rw [← hRk.out.1]; exact List.take_length
          rw [hls] at hown
          go_wp2_with fail
          exact H.out _ _ hB hown
end Go.Proofs.YtdmcponfodohaaaGreatDoor
