/-
  message.Check: may a message be?
-/
import Derived.Test.YtjndigkphoiohaaDoorList
namespace Go.Proofs.YtjndigkphoiohaaDoor
open Go.RowKit Go.Shelf
set_option maxRecDepth 100000

structure Msg where
  kind : Int
  f : ByteArray
  e : ByteArray
  t : ByteArray
  n : Int
  state : Int
  number : Int
  epoch : Int
  items : List Itm

def msgCells (m : Msg) (A : Option Addr) (c : Nat) : Array Value := #[.int .i64 m.kind, .string m.f, .string m.e, .string m.t, .int .i64 m.n, .int .i64 m.state, .int .i64 m.number, .int .i64 m.epoch, .slice A m.items.length c]
def msgV (m : Msg) (A : Option Addr) (c : Nat) : Value := .agg (msgCells m A c)

def hasIS (fs : ByteArray) : Bool := decide (0 ≤ Lib.indexByte fs.data.toList 73)
def textBad (fs : ByteArray) (k : Int) (s : ByteArray) : Bool := if hasS fs k then !rightS s else decide (s.size ≠ 0)
def numBad (fs : ByteArray) (k : Int) (n : Int) : Bool := if hasS fs k then !numberS k n else decide (n ≠ 0)
def textsBad (m : Msg) : Bool := textBad (fieldsS m.kind) 70 m.f || textBad (fieldsS m.kind) 69 m.e || textBad (fieldsS m.kind) 84 m.t
def numsBad (m : Msg) : Bool := numBad (fieldsS m.kind) 78 m.n || numBad (fieldsS m.kind) 83 m.state || numBad (fieldsS m.kind) 85 m.number || numBad (fieldsS m.kind) 80 m.epoch
def itemsBad (m : Msg) : Bool := if hasIS (fieldsS m.kind) then !listS m.kind m.items else decide (0 < m.items.length)
def isQ (fs : ByteArray) : Bool := fs.data.toList == [63]
def validS (m : Msg) : Bool := !isQ (fieldsS m.kind) && !textsBad m && !numsBad m && !itemsBad m
def checkS (m : Msg) : Int := if validS m then 0 else 1

theorem ite_P {α : Type} {p : α → Prop} {c : Prop} [Decidable c] {a b : α} (ha : p a) (hb : p b) : p (if c then a else b) := by split <;> assumption
theorem fields_P {p : ByteArray → Prop} (k : Int) (h : p ⟨#[70, 69, 73]⟩ ∧ p ⟨#[70, 84]⟩ ∧ p ⟨#[70]⟩ ∧ p ⟨#[70, 84, 85, 80]⟩ ∧ p ⟨#[70, 73]⟩ ∧ p ⟨#[]⟩ ∧ p ⟨#[70, 69, 78]⟩ ∧ p ⟨#[70, 69, 78, 84, 83]⟩ ∧ p ⟨#[80]⟩ ∧ p ⟨#[70, 84, 85, 80, 83]⟩ ∧ p ⟨#[70, 84, 83]⟩ ∧ p ⟨#[70, 69, 78, 73]⟩ ∧ p ⟨#[70, 69, 78, 84]⟩ ∧ p ⟨#[63]⟩) : p (fieldsS k) := by
  obtain ⟨h1, h2, h3, h4, h5, h6, h7, h8, h9, h10, h11, h12, h13, h14⟩ := h
  unfold fieldsS
  exact ite_P h1 (ite_P h2 (ite_P h3 (ite_P h4 (ite_P h5 (ite_P h6 (ite_P h7 (ite_P h8 (ite_P h9 (ite_P h10 (ite_P h11 (ite_P h12 (ite_P h13 h14))))))))))))
theorem ascii_fields (k : Int) : (fieldsS k).data.toList.all (fun b => decide (b.toNat < 128)) = true :=
  fields_P (p := fun s => s.data.toList.all (fun b => decide (b.toNat < 128)) = true) k ⟨rfl, rfl, rfl, rfl, rfl, rfl, rfl, rfl, rfl, rfl, rfl, rfl, rfl, rfl⟩
theorem ascii_at {s : ByteArray} (h : s.data.toList.all (fun b => decide (b.toNat < 128)) = true) : ∀ i (hi : i < s.size), (s[i]'hi).toNat < 128 := by
  intro i hi
  have hl : i < s.data.toList.length := by rw [data_length']; exact hi
  have := List.all_eq_true.1 h _ (List.getElem_mem hl)
  exact of_decide_eq_true this

structure MsgOk (m : Msg) : Prop where
  f : m.f.size ≤ maxLen
  e : m.e.size ≤ maxLen
  t : m.t.size ≤ maxLen
  its : ∀ x ∈ m.items, x.t.size ≤ maxLen
  need : ∀ x ∈ m.items, (nrightS x.re x.im).isSome = true
  len : m.items.length ≤ 1000000

def textAt (fs : ByteArray) (m : Msg) (k : Int) : Bool := if k = 70 then textBad fs 70 m.f else if k = 69 then textBad fs 69 m.e else textBad fs 84 m.t
def numAt (fs : ByteArray) (m : Msg) (k : Int) : Bool := if k = 78 then numBad fs 78 m.n else if k = 83 then numBad fs 83 m.state else if k = 85 then numBad fs 85 m.number else numBad fs 80 m.epoch

theorem texts_o (b : Nat) (w : World) (R : Ending → World → Prop)
    (h : ∀ w' es, IsFM b [(70, 1), (69, 2), (84, 3)] es → Below w.heap.size w w' → w'.heap[w.heap.size]? = some (.map es 3) → R (.returned (.map (some w.heap.size))) w') :
    Calls Tryd.prog 23 #[.pointer (some ⟨b, 0, none⟩)] w R :=
  texts_c b w R fun es hes => h _ es hes ((Below.refl _ _).alloc (Nat.le_refl _) _).drew (heap_alloc_new w _)
theorem numbers_o (b : Nat) (w : World) (R : Ending → World → Prop)
    (h : ∀ w' es, IsFM b [(78, 4), (83, 5), (85, 6), (80, 7)] es → Below w.heap.size w w' → w'.heap[w.heap.size]? = some (.map es 4) → R (.returned (.map (some w.heap.size))) w') :
    Calls Tryd.prog 26 #[.pointer (some ⟨b, 0, none⟩)] w R :=
  numbers_c b w R fun es hes => h _ es hes ((Below.refl _ _).alloc (Nat.le_refl _) _).drew (heap_alloc_new w _)

theorem pcell {w w1 : World} (h : Below w.heap.size w w1) {a : Addr} {v : Value} (hc : w.cell? a = some v) : w1.cell? a = some v := (h.cell (World.block_lt_of_cell? w a hc)).trans hc
theorem text_cell (fs : ByteArray) (m : Msg) (A : Option Addr) (c : Nat) (hm : MsgOk m) {k : Int} {off : Nat} (h : (k, off) ∈ [((70 : Int), 1), (69, 2), (84, 3)]) :
    ∃ s, (msgCells m A c)[off]? = some (.string s) ∧ textAt fs m k = textBad fs k s ∧ s.size ≤ maxLen := by
  simp only [List.mem_cons, Prod.mk.injEq, List.mem_nil_iff, or_false] at h
  rcases h with ⟨rfl, rfl⟩ | ⟨rfl, rfl⟩ | ⟨rfl, rfl⟩
  · exact ⟨m.f, rfl, rfl, hm.f⟩
  · exact ⟨m.e, rfl, rfl, hm.e⟩
  · exact ⟨m.t, rfl, rfl, hm.t⟩
theorem check_badT {m : Msg} {fs : ByteArray} (hfs : fs = fieldsS m.kind) {k : Int} {off : Nat} (h : (k, off) ∈ [((70 : Int), 1), (69, 2), (84, 3)]) (hb : textAt fs m k = true) : checkS m = 1 := by
  have : textsBad m = true := by
    unfold textsBad
    rw [← hfs]
    simp only [List.mem_cons, Prod.mk.injEq, List.mem_nil_iff, or_false] at h
    rcases h with ⟨rfl, rfl⟩ | ⟨rfl, rfl⟩ | ⟨rfl, rfl⟩
    · have : textBad fs 70 m.f = true := hb
      simp [this]
    · have : textBad fs 69 m.e = true := hb
      simp [this]
    · have : textBad fs 84 m.t = true := hb
      simp [this]
  unfold checkS validS
  simp [this]

theorem text_done {b : Nat} {l : List (Int × Nat)} {es : Array MapEntry} {seen : Array Nat} {bad : Int → Bool} (hes : IsFM b l es) (hd : NextDone es seen) (hs : ∀ x ∈ es.toList, seen.contains x.born = true → ∀ k, x.key = .int .i32 k → bad k = false) (k : Int) (off : Nat) (hko : (k, off) ∈ l) : bad k = false := by
  obtain ⟨x, hx, hk, _⟩ := hes.has hko
  exact hs x hx (all_seen' es seen hd.none x hx) k hk

theorem num_cell (fs : ByteArray) (m : Msg) (A : Option Addr) (c : Nat) {k : Int} {off : Nat} (h : (k, off) ∈ [((78 : Int), 4), (83, 5), (85, 6), (80, 7)]) :
    ∃ v, (msgCells m A c)[off]? = some (.int .i64 v) ∧ numAt fs m k = numBad fs k v := by
  simp only [List.mem_cons, Prod.mk.injEq, List.mem_nil_iff, or_false] at h
  rcases h with ⟨rfl, rfl⟩ | ⟨rfl, rfl⟩ | ⟨rfl, rfl⟩ | ⟨rfl, rfl⟩
  · exact ⟨m.n, rfl, rfl⟩
  · exact ⟨m.state, rfl, rfl⟩
  · exact ⟨m.number, rfl, rfl⟩
  · exact ⟨m.epoch, rfl, rfl⟩
theorem check_badN {m : Msg} {fs : ByteArray} (hfs : fs = fieldsS m.kind) {k : Int} {off : Nat} (h : (k, off) ∈ [((78 : Int), 4), (83, 5), (85, 6), (80, 7)]) (hb : numAt fs m k = true) : checkS m = 1 := by
  have : numsBad m = true := by
    unfold numsBad
    rw [← hfs]
    simp only [List.mem_cons, Prod.mk.injEq, List.mem_nil_iff, or_false] at h
    rcases h with ⟨rfl, rfl⟩ | ⟨rfl, rfl⟩ | ⟨rfl, rfl⟩ | ⟨rfl, rfl⟩
    · have : numBad fs 78 m.n = true := hb
      simp [this]
    · have : numBad fs 83 m.state = true := hb
      simp [this]
    · have : numBad fs 85 m.number = true := hb
      simp [this]
    · have : numBad fs 80 m.epoch = true := hb
      simp [this]
  unfold checkS validS
  simp [this]

theorem containsI_c (fs : ByteArray) (w : World) (R : Ending → World → Prop) (h : R (.returned (.bool (hasIS fs))) w) :
    Calls Tryd.prog 30 #[.string fs, .int .i32 73] w R := by
  refine (Tryd.strings_ContainsRune_ascii fs 73 w (by omega) (by omega)).mono ?_
  rintro e w' ⟨rfl, rfl⟩
  exact h
theorem ItmsAt.below {w w' : World} {A : Option Addr} {n : Nat} {l : List Itm} (h : ItmsAt w A n l) {B : Nat} (hb : Below B w w') (hB : w.heap.size ≤ B := by exact Nat.le_refl _) : ItmsAt w' A n l :=
  ⟨h.1, fun h0 => by
    obtain ⟨b, o, e1, hlt, hc⟩ := h.2 h0
    exact ⟨b, o, e1, Nat.lt_of_lt_of_le (by omega) hb.size, fun j x hx => ⟨(hb.cell (p := ⟨b, _, none⟩) (by show b < B; omega)).trans (hc j x hx).1, (hb.cell (p := ⟨b, _, none⟩) (by show b < B; omega)).trans (hc j x hx).2⟩⟩⟩

set_option maxHeartbeats 1000000 in
theorem check_c (m : Msg) (A : Option Addr) (c : Nat) (w : World) (hm : MsgOk m) (hI : ItmsAt w A m.items.length m.items) (R : Ending → World → Prop)
    (h : ∀ w', Below w.heap.size w w' → R (.returned (.int .i64 (checkS m))) w') :
    Calls Tryd.prog 9 #[msgV m A c] w R := by
  have H := Lib.hid h
  have Hm := Lib.hid hm
  have HI := Lib.hid hI
  clear h hm hI
  have hasc := Lib.hid (ascii_at (ascii_fields m.kind))
  obtain ⟨fs, hfs⟩ : ∃ fs, fs = fieldsS m.kind := ⟨_, rfl⟩
  rw [← hfs] at hasc
  have Hfs := Lib.hid hfs
  clear hfs
  unfold msgV msgCells
  go_enter Tryd.func9, Tryd.ntmps9
  go_wp2_with fail
  refine fields_c _ _ _ ?_
  rw [← Hfs.out]
  by_cases hq : (fs.toList == [63]) = true
  · have hv : checkS m = 1 := by
      unfold checkS validS isQ
      rw [← Hfs.out, ← ByteArray.toList_eq, hq]
      rfl
    rw [hv] at H
    clear hv
    go_wp2_with fail
    exact H.out _ ((Below.refl _ _).alloc (Nat.le_refl _) _)
  have hq' : (fs.toList == [63]) = false := by simpa using hq
  have Hq := Lib.hid hq'
  clear hq
  go_wp2_with fail
  clear hq'
  refine texts_o _ _ _ (fun w1 es hes hB1 hM1 => ?_)
  have Hes := Lib.hid hes
  have hBw1 : Below w.heap.size w w1 := ((Below.refl _ _).alloc (Nat.le_refl _) _).trans (hB1.mono (by simp))
  have hC1 : w1.heap[w.heap.size]? = some (.cells (msgCells m A c) 28) := (hB1.block _ (by simp)).trans (heap_alloc_new w _)
  simp only [World.size_alloc] at hM1
  clear hes hB1
  have hrg := run_range_map (P := Tryd.prog) w1 60 21 59 (w.heap.size + 1) es 3 Tryd.underlying60 hM1
  go_wp2_with fail
  clear hrg
  go_loopw [] (fun wr => Below w.heap.size w wr ∧ wr.heap[w.heap.size]? = some (.cells (msgCells m A c) 28) ∧ wr.heap[w.heap.size + 1]? = some (.map es 3) ∧
      ∃ seen c0, wr.heap[w1.heap.size]? = some (.mapIter (some (w.heap.size + 1)) 3 seen c0) ∧ 3 ≤ c0 ∧ Hid (∀ x ∈ es.toList, seen.contains x.born = true → ∀ k, x.key = .int .i32 k → textAt fs m k = false))
    (fun wr => wr.rangeLeft (w.heap.size + 1) w1.heap.size)
  case atStart =>
    have hlt1 : w.heap.size + 1 < w1.heap.size := (Array.getElem?_eq_some_iff.1 hM1).1
    refine ⟨hBw1.alloc hBw1.size _, ?_, ?_, #[], 3, heap_alloc_new w1 _, Nat.le_refl _, Lib.hid (fun x _ h => by simp at h)⟩
    · rw [heap_alloc_old w1 _ (by omega)]; exact hC1
    · rw [heap_alloc_old w1 _ (by omega)]; exact hM1
  case round =>
    obtain ⟨hB, hC, hM, seen, c0, hIt, hc0, Hseen⟩ := hrel
    go_wp2_with (at_next; (refine wpList_next_raw _ rfl _ rfl w1.heap.size (w.heap.size + 1) 3 c0 seen es 3 rfl hIt hM (fun x hx => by obtain ⟨_, _, _, _, _, h⟩ := Hes.out.mem hx; exact h) hc0 Hes.out.born ?_ ?_))
    · intro hd
      have hT : textsBad m = false := by
        have hall := fun k off hko => text_done Hes.out hd Hseen.out k off hko
        unfold textsBad
        rw [← Hfs.out]
        have h1 : textBad fs 70 m.f = false := hall 70 1 (by simp)
        have h2 : textBad fs 69 m.e = false := hall 69 2 (by simp)
        have h3 : textBad fs 84 m.t = false := hall 84 3 (by simp)
        simp [h1, h2, h3]
      have HT := Lib.hid hT
      have hge : w.heap.size + 1 < w1.heap.size := (Array.getElem?_eq_some_iff.1 hM1).1
      clear hT hd hM hIt hM1 hC1 hBw1
      have hlt0 : w.heap.size < wr.heap.size := (Array.getElem?_eq_some_iff.1 hC).1
      go_wp2_with fail
      refine numbers_o _ _ _ (fun w5 es2 hes2 hB5 hM5 => ?_)
      have Hes2 := Lib.hid hes2
      have hBw5 : Below w.heap.size w w5 := hB.trans (hB5.mono (by omega))
      have hC5 : w5.heap[w.heap.size]? = some (.cells (msgCells m A c) 28) := (hB5.block _ hlt0).trans hC
      obtain ⟨M2, hM2e⟩ : ∃ M2, M2 = wr.heap.size := ⟨_, rfl⟩
      rw [← hM2e] at hM5 hlt0
      have HM2e := Lib.hid hM2e
      clear hes2 hB5 hB hC Hseen
      clear hM2e
      rw [← HM2e.out]
      have hrg := run_range_map (P := Tryd.prog) w5 66 21 65 M2 es2 4 Tryd.underlying66 hM5
      go_wp2_with fail
      clear hrg
      have hlt5 : M2 < w5.heap.size := (Array.getElem?_eq_some_iff.1 hM5).1
      go_loopw [] (fun wr => Below w.heap.size w wr ∧ wr.heap[w.heap.size]? = some (.cells (msgCells m A c) 28) ∧ wr.heap[M2]? = some (.map es2 4) ∧
          ∃ seen c0, wr.heap[w5.heap.size]? = some (.mapIter (some M2) 4 seen c0) ∧ 4 ≤ c0 ∧ Hid (∀ x ∈ es2.toList, seen.contains x.born = true → ∀ k, x.key = .int .i32 k → numAt fs m k = false))
        (fun wr => wr.rangeLeft M2 w5.heap.size)
      case atStart =>
        refine ⟨hBw5.alloc hBw5.size _, ?_, ?_, #[], 4, heap_alloc_new w5 _, Nat.le_refl _, Lib.hid (fun x _ h => by simp at h)⟩
        · rw [heap_alloc_old w5 _ (by omega)]; exact hC5
        · rw [heap_alloc_old w5 _ hlt5]; exact hM5
      case round =>
        clear hBw5 hC5 hM5
        obtain ⟨hB, hC, hM, seen2, c2, hIt, hc0, Hseen⟩ := hrel
        go_wp2_with (at_next; (refine wpList_next_raw _ rfl _ rfl w5.heap.size M2 4 c2 seen2 es2 4 rfl hIt hM (fun x hx => by obtain ⟨_, _, _, _, _, h⟩ := Hes2.out.mem hx; exact h) hc0 Hes2.out.born ?_ ?_))
        · intro hd
          have hN : numsBad m = false := by
            have hall := fun k off hko => text_done Hes2.out hd Hseen.out k off hko
            unfold numsBad
            rw [← Hfs.out]
            have h1 : numBad fs 78 m.n = false := hall 78 4 (by simp)
            have h2 : numBad fs 83 m.state = false := hall 83 5 (by simp)
            have h3 : numBad fs 85 m.number = false := hall 85 6 (by simp)
            have h4 : numBad fs 80 m.epoch = false := hall 80 7 (by simp)
            simp [h1, h2, h3, h4]
          have HN := Lib.hid hN
          clear hN hd hM hIt
          have hlt0 : w.heap.size < wr.heap.size := (Array.getElem?_eq_some_iff.1 hC).1
          have hk0 : wr.cell? ⟨w.heap.size, 0, none⟩ = some (.int .i64 m.kind) := by rw [cell_of_row wr w.heap.size 0 _ _ _ hC]; rfl
          have hk8 : wr.cell? ⟨w.heap.size, 8, none⟩ = some (.slice A m.items.length c) := by rw [cell_of_row wr w.heap.size 8 _ _ _ hC]; rfl
          have hIw : ItmsAt wr A m.items.length m.items := HI.out.below hB
          have HIw := Lib.hid hIw
          have HB := Lib.hid hB
          have hv : checkS m = if itemsBad m then 1 else 0 := by
            have hq2 : isQ (fieldsS m.kind) = false := by unfold isQ; rw [← Hfs.out, ← ByteArray.toList_eq]; exact Hq.out
            unfold checkS validS
            rw [hq2, HT.out, HN.out]
            cases itemsBad m <;> rfl
          have hib : itemsBad m = if hasIS fs then !listS m.kind m.items else decide (0 < m.items.length) := by unfold itemsBad; rw [Hfs.out]
          rw [hv, hib] at H
          clear hIw hB hC hv hib
          obtain ⟨n, hn⟩ : ∃ n, n = m.items.length := ⟨_, rfl⟩
          rw [← hn] at H HIw hk8
          have HIw2 := Lib.hid (Hm.out.len)
          rw [← hn] at HIw2
          clear hn
          cases hhas : hasIS fs with
          | true =>
            rw [hhas] at H
            cases hl : listS m.kind m.items with
            | true =>
              rw [hl] at H
              go_wp2_with fail
              refine containsI_c fs wr _ ?_
              go_wp2_with fail
              refine list_c m.kind A n c m.items wr HIw.out Hm.out.its Hm.out.need HIw2.out _ (fun w3 hB3 => ?_)
              go_wp2_with fail
              exact H.out _ (HB.out.trans (hB3.mono HB.out.size))
            | false =>
              rw [hl] at H
              go_wp2_with fail
              refine containsI_c fs wr _ ?_
              go_wp2_with fail
              refine list_c m.kind A n c m.items wr HIw.out Hm.out.its Hm.out.need HIw2.out _ (fun w3 hB3 => ?_)
              go_wp2_with fail
              exact H.out _ (HB.out.trans (hB3.mono HB.out.size))
          | false =>
            rw [hhas] at H
            by_cases h0 : 0 < n
            · have h0' : decide (0 < n) = true := by simp [h0]
              rw [h0'] at H
              go_wp2_with fail
              refine containsI_c fs wr _ ?_
              go_wp2_with fail
              exact H.out _ HB.out
            · have h0' : decide (0 < n) = false := by simp [h0]
              rw [h0'] at H
              go_wp2_with fail
              refine containsI_c fs wr _ ?_
              go_wp2_with fail
              exact H.out _ HB.out
        · intro e w2 hn
          obtain ⟨k, off, hko, hek, hev, _⟩ := Hes2.out.mem hn.mem
          obtain ⟨v, hcell, hat⟩ := num_cell fs m A c hko
          obtain ⟨ek, ev, eb⟩ := e
          simp only at hek hev
          subst hek
          subst hev
          have hltI : w5.heap.size < wr.heap.size := (Array.getElem?_eq_some_iff.1 hIt).1
          have hlt0 : w.heap.size < wr.heap.size := (Array.getElem?_eq_some_iff.1 hC).1
          have hge0 : w.heap.size < M2 := by assumption
          have hC2 : w2.heap[w.heap.size]? = some (.cells (msgCells m A c) 28) := (hn.grown.block _ hlt0 (by simp; omega)).trans hC
          have hB2 : Below w.heap.size w w2 := hB.grown hn.grown (by omega) (fun g hg => by cases hg; omega)
          have hcell2 : w2.cell? ⟨w.heap.size, off, none⟩ = some (.int .i64 v) := by
            rw [cell_of_row w2 w.heap.size off _ _ _ hC2]; exact hcell
          have Hat := Lib.hid hat
          have Hbad := Lib.hid (fun h => check_badN Hfs.out hko (h : numAt fs m k = true))
          have Hend : Hid (∀ w4, numAt fs m k = false → Below w2.heap.size w2 w4 → Below w.heap.size w w4 ∧ w4.heap[w.heap.size]? = some (.cells (msgCells m A c) 28) ∧ w4.heap[M2]? = some (.map es2 4) ∧
              (∃ seen c0, w4.heap[w5.heap.size]? = some (.mapIter (some M2) 4 seen c0) ∧ 4 ≤ c0 ∧ Hid (∀ x ∈ es2.toList, seen.contains x.born = true → ∀ k, x.key = .int .i32 k → numAt fs m k = false)) ∧ w4.rangeLeft M2 w5.heap.size < wr.rangeLeft M2 w5.heap.size) := Lib.hid (fun w4 hok hB4 => by
            have hs2 := hn.size
            have hI4 : w4.heap[w5.heap.size]? = some (.mapIter (some M2) 4 (seen2.push eb) 4) := (hB4.block _ (by omega)).trans hn.iter
            have hM4 : w4.heap[M2]? = some (.map es2 4) := (hB4.block _ (by omega)).trans hn.map
            refine ⟨hB2.trans (hB4.mono (by omega)), (hB4.block _ (by omega)).trans hC2, hM4, ⟨_, 4, hI4, Nat.le_refl _, Lib.hid (fun x hx hsx k' hk' => ?_)⟩, ?_⟩
            · rcases seen_push Hes2.out.born hn.mem hx hsx with rfl | h
              · injection hk' with _ hk'
                rw [← hk']; exact hok
              · exact Hseen.out x hx h k' hk'
            · simp only [World.rangeLeft, hI4, hM4, hIt, hM]
              exact hn.less)
          have hen := hn.entry
          simp only at hen
          have HB2 := Lib.hid hB2
          clear hn hat hcell hC2 hB2 hC hM hIt hB hko
          cases hhas : hasS fs k with
          | true =>
            cases hr : numberS k v with
            | true =>
              go_wp2_with fail
              refine holds_c fs k hasc.out w2 _ (fun w3 hB3 => ?_)
              have hcell3 : w3.cell? ⟨w.heap.size, off, none⟩ = some (.int .i64 v) := pcell hB3 hcell2
              go_wp2_with fail
              refine number_c k v w3 _ ?_
              go_wp2_with fail
              have e := Hend.out w3 (by rw [Hat.out]; simp [numBad, hhas, hr]) hB3
              exact ⟨⟨e.1, e.2.1, e.2.2.1, e.2.2.2.1⟩, e.2.2.2.2⟩
            | false =>
              go_wp2_with fail
              refine holds_c fs k hasc.out w2 _ (fun w3 hB3 => ?_)
              have hcell3 : w3.cell? ⟨w.heap.size, off, none⟩ = some (.int .i64 v) := pcell hB3 hcell2
              go_wp2_with fail
              refine number_c k v w3 _ ?_
              go_wp2_with fail
              have e := Hbad.out (by rw [Hat.out]; simp [numBad, hhas, hr])
              rw [e] at H
              exact H.out _ (HB2.out.trans (hB3.mono HB2.out.size))
          | false =>
            by_cases h0 : v = 0
            · have hE : (v == 0) = true := by simpa using h0
              have hE' : (v != 0) = false := by simp [h0]
              have Hs0 := Lib.hid h0
              clear h0
              go_wp2_with fail
              refine holds_c fs k hasc.out w2 _ (fun w3 hB3 => ?_)
              have hcell3 : w3.cell? ⟨w.heap.size, off, none⟩ = some (.int .i64 v) := pcell hB3 hcell2
              go_wp2_with fail
              have e := Hend.out w3 (by rw [Hat.out]; simp [numBad, hhas, Hs0.out]) hB3
              exact ⟨⟨e.1, e.2.1, e.2.2.1, e.2.2.2.1⟩, e.2.2.2.2⟩
            · have hE : (v == 0) = false := by simpa using h0
              have hE' : (v != 0) = true := by simp [h0]
              have Hs0 := Lib.hid h0
              clear h0
              go_wp2_with fail
              refine holds_c fs k hasc.out w2 _ (fun w3 hB3 => ?_)
              have hcell3 : w3.cell? ⟨w.heap.size, off, none⟩ = some (.int .i64 v) := pcell hB3 hcell2
              go_wp2_with fail
              have e := Hbad.out (by rw [Hat.out]; simp [numBad, hhas, Hs0.out])
              rw [e] at H
              exact H.out _ (HB2.out.trans (hB3.mono HB2.out.size))
    · intro e w2 hn
      obtain ⟨k, off, hko, hek, hev, _⟩ := Hes.out.mem hn.mem
      obtain ⟨s, hcell, hat, hsz⟩ := text_cell fs m A c Hm.out hko
      obtain ⟨ek, ev, eb⟩ := e
      simp only at hek hev
      subst hek
      subst hev
      have hen := hn.entry
      have hltI : w1.heap.size < wr.heap.size := (Array.getElem?_eq_some_iff.1 hIt).1
      have hlt0 : w.heap.size < wr.heap.size := (Array.getElem?_eq_some_iff.1 hC).1
      have hge : w.heap.size + 1 < w1.heap.size := (Array.getElem?_eq_some_iff.1 hM1).1
      have hC2 : w2.heap[w.heap.size]? = some (.cells (msgCells m A c) 28) := (hn.grown.block _ hlt0 (by simp; omega)).trans hC
      have hB2 : Below w.heap.size w w2 := hB.grown hn.grown (by omega) (fun g hg => by cases hg; omega)
      have hcell2 : w2.cell? ⟨w.heap.size, off, none⟩ = some (.string s) := by
        rw [cell_of_row w2 w.heap.size off _ _ _ hC2]; exact hcell
      simp only at hen
      have Hat := Lib.hid hat
      have Hbad := Lib.hid (fun h => check_badT Hfs.out hko (h : textAt fs m k = true))
      -- the round's end, whatever world it comes to
      have Hend : Hid (∀ w4, textAt fs m k = false → Below w2.heap.size w2 w4 → Below w.heap.size w w4 ∧ w4.heap[w.heap.size]? = some (.cells (msgCells m A c) 28) ∧ w4.heap[w.heap.size + 1]? = some (.map es 3) ∧
          (∃ seen c0, w4.heap[w1.heap.size]? = some (.mapIter (some (w.heap.size + 1)) 3 seen c0) ∧ 3 ≤ c0 ∧ Hid (∀ x ∈ es.toList, seen.contains x.born = true → ∀ k, x.key = .int .i32 k → textAt fs m k = false)) ∧ w4.rangeLeft (w.heap.size + 1) w1.heap.size < wr.rangeLeft (w.heap.size + 1) w1.heap.size) := Lib.hid (fun w4 hok hB4 => by
        have hs2 := hn.size
        have hI4 : w4.heap[w1.heap.size]? = some (.mapIter (some (w.heap.size + 1)) 3 (seen.push eb) 3) := (hB4.block _ (by omega)).trans hn.iter
        have hM4 : w4.heap[w.heap.size + 1]? = some (.map es 3) := (hB4.block _ (by omega)).trans hn.map
        refine ⟨hB2.trans (hB4.mono (by omega)), (hB4.block _ (by omega)).trans hC2, hM4, ⟨_, 3, hI4, Nat.le_refl _, Lib.hid (fun x hx hsx k' hk' => ?_)⟩, ?_⟩
        · rcases seen_push Hes.out.born hn.mem hx hsx with rfl | h
          · injection hk' with _ hk'
            rw [← hk']; exact hok
          · exact Hseen.out x hx h k' hk'
        · simp only [World.rangeLeft, hI4, hM4, hIt, hM]
          exact hn.less)
      clear hen
      have hen := hn.entry
      simp only at hen
      have HB2 := Lib.hid hB2
      clear hn hat hcell hC2 hB2 hC hM hIt hB hM1 hC1 hBw1 hko
      cases hhas : hasS fs k with
      | true =>
        cases hr : rightS s with
        | true =>
          go_wp2_with fail
          refine holds_c fs k hasc.out w2 _ (fun w3 hB3 => ?_)
          have hcell3 : w3.cell? ⟨w.heap.size, off, none⟩ = some (.string s) := pcell hB3 hcell2
          go_wp2_with fail
          refine right_c s (by unfold maxLen at hsz; omega) w3 _ (fun w4 hB4 => ?_)
          go_wp2_with fail
          have e := Hend.out w4 (by rw [Hat.out]; simp [textBad, hhas, hr]) (hB3.trans (hB4.mono hB3.size))
          exact ⟨⟨e.1, e.2.1, e.2.2.1, e.2.2.2.1⟩, e.2.2.2.2⟩
        | false =>
          go_wp2_with fail
          refine holds_c fs k hasc.out w2 _ (fun w3 hB3 => ?_)
          have hcell3 : w3.cell? ⟨w.heap.size, off, none⟩ = some (.string s) := pcell hB3 hcell2
          go_wp2_with fail
          refine right_c s (by unfold maxLen at hsz; omega) w3 _ (fun w4 hB4 => ?_)
          go_wp2_with fail
          have e := Hbad.out (by rw [Hat.out]; simp [textBad, hhas, hr])
          rw [e] at H
          exact H.out _ (HB2.out.trans ((hB3.trans (hB4.mono hB3.size)).mono HB2.out.size))
      | false =>
        by_cases h0 : s.toList = []
        · have hE : s.toList.isEmpty = true := by simpa using h0
          have Hs0 := Lib.hid (toList_nil_iff.1 h0)
          clear h0
          go_wp2_with fail
          refine holds_c fs k hasc.out w2 _ (fun w3 hB3 => ?_)
          have hcell3 : w3.cell? ⟨w.heap.size, off, none⟩ = some (.string s) := pcell hB3 hcell2
          go_wp2_with fail
          have e := Hend.out w3 (by rw [Hat.out]; simp [textBad, hhas, Hs0.out]) hB3
          exact ⟨⟨e.1, e.2.1, e.2.2.1, e.2.2.2.1⟩, e.2.2.2.2⟩
        · have hE : s.toList.isEmpty = false := by simpa using h0
          have Hs0 := Lib.hid (fun h => h0 (toList_nil_iff.2 h))
          clear h0
          go_wp2_with fail
          refine holds_c fs k hasc.out w2 _ (fun w3 hB3 => ?_)
          have hcell3 : w3.cell? ⟨w.heap.size, off, none⟩ = some (.string s) := pcell hB3 hcell2
          go_wp2_with fail
          have e := Hbad.out (by rw [Hat.out]; unfold textBad; rw [if_neg (by simp [hhas])]; exact decide_eq_true Hs0.out)
          rw [e] at H
          exact H.out _ (HB2.out.trans (hB3.mono HB2.out.size))
end Go.Proofs.YtjndigkphoiohaaDoor
