/-
  message.items and message.Pack: a message as bytes.
-/
import Derived.Test.YtdmcponfodohaaaGreatDoorGb
import Derived.Deep.Onto
import Derived.Outline
namespace Go.Proofs.YtdmcponfodohaaaGreatDoor
open Go.RowKit Go.Shelf
set_option maxRecDepth 100000

def partsD (x : Itm) : Int × Int := (npartsS x.re x.im).getD (0, 0)
def itemB (x : Itm) : List Int := textB x.t ++ numB (partsD x).1 ++ numB (partsD x).2
def itemsB (l : List Itm) : List Int := numB l.length ++ (l.map itemB).flatten

theorem numN_le : ∀ (k n : Nat), n < 128 ^ (k + 1) → (numN n).length ≤ k + 1
  | 0, n, h => by rw [numN.eq_def, dif_pos (by omega)]; simp
  | k + 1, n, h => by
    rw [numN.eq_def]
    split
    · simp
    · have hd : n / 128 < 128 ^ (k + 1) := by
        rw [Nat.div_lt_iff_lt_mul (by omega)]
        rwa [Nat.pow_succ] at h
      have := numN_le k (n / 128) hd
      rw [List.length_cons]
      omega
theorem numB_le (n : Int) : (numB n).length ≤ 6 := by
  unfold numB
  split
  · simp
  · have := numN_le 5 n.toNat (by have : (128 : Nat) ^ 6 = 4398046511104 := by decide
                                  omega)
    omega
theorem textB_le (s : ByteArray) : (textB s).length ≤ 206 := by
  unfold textB
  split
  · simp
  · have := numB_le s.size
    rw [List.length_append, bytesL_length]
    omega
theorem itemsB_le (l : List Itm) : (l.map itemB).flatten.length ≤ 218 * l.length := by
  induction l with
  | nil => simp
  | cons x r ih =>
    have h1 := textB_le x.t
    have h2 := numB_le (partsD x).1
    have h3 := numB_le (partsD x).2
    simp only [List.map_cons, List.flatten_cons, List.length_append, List.length_cons, itemB] at ih ⊢
    omega

theorem own_mono {w : World} {base base' : Nat} {e : TypeId} {size : Nat} {v : Value} {n : Nat} {xs : List Value} (h : w.ownsRow base e size v n xs) (hb : base' ≤ base) : w.ownsRow base' e size v n xs := World.ownsRow.mono h hb

theorem items_c (A : Option Addr) (n c : Nat) (l : List Itm) (w : World) (hS : ItmsAt w A n l) (hneed : ∀ x ∈ l, (npartsS x.re x.im).isSome = true) (hn : n ≤ 1000000) (R : Ending → World → Prop)
    (h : ∀ v w', Below w.heap.size w w' → w'.ownsRow w.heap.size 5 1 v (itemsB l).length (u8s (itemsB l)) → R (.returned v) w') :
    Calls Tryz.prog 109 #[.slice A n c] w R := by
  have H := Lib.hid h
  have HS := Lib.hid hS
  have Hneed := Lib.hid hneed
  clear h hS hneed
  go_enter Tryz.func109, Tryz.ntmps109
  go_wp2_with fail
  refine codeNumber_c _ _ _ (fun v0 w1 hB1 hown0 => ?_)
  go_wp2_with fail
  go_loopw [3, 13] (fun v i wr => ∃ k : Nat, k ≤ n ∧ i = .int .i64 k ∧ Below w.heap.size w wr ∧ Hid (wr.ownsRow w.heap.size 5 1 v (numB n ++ ((l.take k).map itemB).flatten).length (u8s (numB n ++ ((l.take k).map itemB).flatten)))) (fun _ i _ => n - (RowKit.intOf i).toNat)
  case atStart => exact ⟨0, Nat.zero_le _, rfl, hB1, Lib.hid (by simpa using hown0)⟩
  case round =>
    obtain ⟨k, hk, rfl, hB, Hown⟩ := hrel
    by_cases hlt : k < n
    · obtain ⟨b, o, x, rfl, hx, hb, hc1, hc2⟩ := HS.out.at_ hlt
      have hx1 : wr.cell? ⟨b, o + k * 2, none⟩ = some (.string x.t) := (hB.cell (p := ⟨b, _, none⟩) hb).trans hc1
      have hx2 : wr.cell? ⟨b, o + k * 2 + 1, none⟩ = some (.complex .f64 x.re x.im) := (hB.cell (p := ⟨b, _, none⟩) hb).trans hc2
      have Hx := Lib.hid hx
      obtain ⟨pm, hpm⟩ := Option.isSome_iff_exists.1 (Hneed.out x (List.mem_of_getElem? hx))
      obtain ⟨p, m⟩ := pm
      clear hc1 hc2 hx
      have hBs := hB.size
      obtain ⟨pre, hpre⟩ : ∃ pre, pre = numB n ++ ((l.take k).map itemB).flatten := ⟨_, rfl⟩
      rw [← hpre] at Hown
      have hpl : pre.length ≤ 6 + 218 * k := by
        rw [hpre, List.length_append]
        have h1 := numB_le n
        have h2 := itemsB_le (l.take k)
        have h3 : (l.take k).length ≤ k := List.length_take_le _ _
        omega
      have Hpre := Lib.hid hpre
      clear hpre
      obtain ⟨A0, c0, rfl, _⟩ := own_shape' Hown.out
      go_wp2_with fail
      refine parts_c _ _ p m hpm _ _ ?_
      go_wp2_with fail
      refine codeText_c _ _ _ (fun v1 w2 hB2 hown1 => ?_)
      obtain ⟨A1, c1, rfl, _⟩ := own_shape' hown1
      go_wp2_with fail
      refine codeNumber_c _ _ _ (fun v2 w3 hB3 hown2 => ?_)
      obtain ⟨A2, c2, rfl, _⟩ := own_shape' hown2
      go_wp2_with fail
      refine codeNumber_c _ _ _ (fun v3 w4 hB4 hown3 => ?_)
      obtain ⟨A3, c3, rfl, _⟩ := own_shape' hown3
      go_wp2_with fail
      have hsz := hB2.size
      simp only [World.size_alloc] at hsz
      have o0 := own_below' (own_below' (own_below' (Hown.out.alloc _) hB2) hB3) hB4
      have o1 := own_below' (own_below' hown1 hB3) hB4
      have o2 := own_below' hown2 hB4
      have o3 := hown3
      have hrows : RdRows (w4.alloc (.cells #[.slice A0 pre.length c0, .slice A1 (textB x.t).length c1, .slice A2 (numB p).length c2, .slice A3 (numB m).length c3] 37)) (some ⟨w4.heap.size, 0, none⟩) 4 [pre, textB x.t, numB p, numB m] := rows_of (heap_alloc_new w4 _) _ rfl (fun j l hl => by
        rcases j with _ | _ | _ | _ | j
        · cases hl; exact ⟨_, _, rfl, o0.alloc _⟩
        · cases hl; exact ⟨_, _, rfl, o1.alloc _⟩
        · cases hl; exact ⟨_, _, rfl, o2.alloc _⟩
        · cases hl; exact ⟨_, _, rfl, o3.alloc _⟩
        · cases hl)
      have htot : total [pre, textB x.t, numB p, numB m] ≤ 1000000000 := by
        have h1 := textB_le x.t
        have h2 := numB_le p
        have h3 := numB_le m
        simp only [total, List.flatten_cons, List.flatten_nil, List.length_append, List.length_nil]
        omega
      have hbase : w.heap.size ≤ w4.heap.size := by have := hB3.size; have := hB4.size; omega
      have hBw4 : Below w.heap.size w (w4.alloc (.cells #[.slice A0 pre.length c0, .slice A1 (textB x.t).length c1, .slice A2 (numB p).length c2, .slice A3 (numB m).length c3] 37)) := (((((hB.alloc hBs _).trans (hB2.mono (by simp; omega))).trans (hB3.mono (by omega))).trans (hB4.mono (by have := hB3.size; omega))).alloc hbase _)
      have HBw4 := Lib.hid hBw4
      have Hr := Lib.hid hrows
      clear hB2 hB3 hB4 o0 o1 o2 o3 hown1 hown2 hown3 hBw4 hrows hB hx1 hx2 hown0 hB1
      refine concat_c _ 4 _ _ _ Hr.out (by omega) htot _ (fun v4 w5 hB5 hown4 => ?_)
      go_wp2_with fail
      simp only [World.size_alloc] at hown4
      refine ⟨⟨k + 1, by omega, by go_num, HBw4.out.trans (hB5.mono (by simp; omega)), Lib.hid ?_⟩, by simp [RowKit.intOf]; omega⟩
      have e : numB n ++ ((l.take (k + 1)).map itemB).flatten = [pre, textB x.t, numB p, numB m].flatten := by
        rw [List.take_add_one, Hx.out, Hpre.out]
        have hp1 : partsD x = (p, m) := by unfold partsD; rw [hpm]; rfl
        simp [itemB, hp1]
      rw [e]
      exact own_mono hown4 (by omega)
    · have e : l.take k = l := by rw [show k = n by omega, ← HS.out.1]; exact List.take_length
      rw [e] at Hown
      clear e
      go_wp2_with fail
      refine H.out _ _ hB ?_
      unfold itemsB
      rw [HS.out.1]
      exact Hown.out
section
variable {P : Program} (w : World) {ops : Array Oper} {rest : List Oper} {o : Oper} {a : Act} {Q : Exit → Act → World → Prop}
/-- THE STEP of a range over a string of ASCII signs, wherever the iterator lies. -/
theorem wpList_next_str (hg : o.guard = none) (it : Operand) (hop : o.op = Op.next it true) (r : Nat) (s : ByteArray) (pos : Nat) (hit : a.eval it = .pointer (some ⟨r, 0, none⟩)) (hr : w.heap[r]? = some (.stringIter s pos)) (hp : pos < s.size) (ha : (s[pos]'hp).toNat < 128)
    (h : ∀ w1, w1.heap[r]? = some (.stringIter s (pos + 1)) → w.grownBy w1 (some r) → w1.heap.size = w.heap.size → wpList P ops Q rest (a.put o.dst (.tuple #[.bool true, .int .i64 pos, .int .i32 (s[pos]'hp).toNat])) w1) :
    wpList P ops Q (o :: rest) a w := by
  refine wpList_plain hg fun K' hK' => ?_
  have hlt : r < w.heap.size := (Array.getElem?_eq_some_iff.1 hr).1
  have hrun : (Instr.next (.pointer (some ⟨r, 0, none⟩)) true o.type).run P w = .ok (.tuple #[.bool true, .int .i64 pos, .int .i32 (s[pos]'hp).toNat]) (ChangeMaps.setBlock w r (.stringIter s (pos + 1))) := by
    simp only [Instr.next, getObj, setObj, Sem.run_bind, Sem.run, hr, Result.andThen, hp, if_true, decode_ascii s pos hp ha]
    simp [goInt, ChangeMaps.setBlock]
  unfold Oper.wp
  simp [execOp, hop, hit, hrun, Result.andThen]
  exact hK' _ _ (h _ (at_setBlock _ hlt) (grown_setBlock _ _ _) (size_setBlock _ _ _))
theorem wpList_next_ch (hg : o.guard = none) (it : Operand) (hop : o.op = Op.next it true) (r : Nat) (s : ByteArray) (pos : Nat) (hit : a.eval it = .pointer (some ⟨r, 0, none⟩)) (hr : w.heap[r]? = some (.stringIter s pos)) (hp : pos < s.size) (ha : (s[pos]'hp).toNat < 128) (ch : Int) (hch : ((s[pos]'hp).toNat : Int) = ch)
    (h : ∀ w1, w1.heap[r]? = some (.stringIter s (pos + 1)) → w.grownBy w1 (some r) → w1.heap.size = w.heap.size → wpList P ops Q rest (a.put o.dst (.tuple #[.bool true, .int .i64 pos, .int .i32 ch])) w1) :
    wpList P ops Q (o :: rest) a w := by
  subst hch
  exact wpList_next_str _ hg it hop r s pos hit hr hp ha h
theorem wpList_next_str_end (hg : o.guard = none) (it : Operand) (hop : o.op = Op.next it true) (r : Nat) (s : ByteArray) (pos : Nat) (hit : a.eval it = .pointer (some ⟨r, 0, none⟩)) (hr : w.heap[r]? = some (.stringIter s pos)) (hp : ¬ pos < s.size)
    (h : wpList P ops Q rest (a.put o.dst (.tuple #[.bool false])) w) :
    wpList P ops Q (o :: rest) a w := by
  refine wpList_plain hg fun K' hK' => ?_
  have hrun : (Instr.next (.pointer (some ⟨r, 0, none⟩)) true o.type).run P w = .ok (.tuple #[.bool false]) w := by
    simp [Instr.next, getObj, Sem.run, hr, hp]
  unfold Oper.wp
  simp [execOp, hop, hit, hrun, Result.andThen]
  exact hK' _ _ h
end

def numOf (m : Msg) (c : Int) : Int := if c = 78 then m.n else if c = 83 then m.state else if c = 85 then m.number else m.epoch
def fieldB (m : Msg) (c : Int) : List Int := if c = 70 then textB m.f else if c = 69 then textB m.e else if c = 84 then textB m.t else if c = 73 then itemsB m.items else numB (numOf m c)
def packB (m : Msg) : List Int := (m.kind % 256) :: ((bytesL (fieldsS m.kind)).map (fieldB m)).flatten
def fieldLetters : List Int := [70, 69, 84, 73, 78, 83, 85, 80]
theorem fields_letters (k : Int) : isQ (fieldsS k) = true ∨ ∀ c ∈ bytesL (fieldsS k), c ∈ fieldLetters :=
  fields_P (p := fun s => isQ s = true ∨ ∀ c ∈ bytesL s, c ∈ fieldLetters) k (by
    refine ⟨?_, ?_, ?_, ?_, ?_, ?_, ?_, ?_, ?_, ?_, ?_, ?_, ?_, ?_⟩
    all_goals first | (right; decide) | (left; decide))

theorem own_ne_obj {w : World} {base : Nat} {e : TypeId} {size n : Nat} {v : Value} {xs : List Value} (h : w.ownsRow base e size v n xs) {I : Nat} {o : Obj} (hI : w.heap[I]? = some o) (ho : ∀ cs t fr, o ≠ .cells cs t fr) : v.ownBlock ≠ some I := by
  rcases h.2 with ⟨rfl, _⟩ | ⟨g, cap, cur, rfl, _, hh, _⟩
  · simp [Value.ownBlock]
  · intro e
    have : g = I := by simpa [Value.ownBlock] using e
    subst this
    rw [hh] at hI
    injection hI with hI
    exact ho _ _ _ hI.symm
def preP (m : Msg) (fs : ByteArray) (pos : Nat) : List Int := (m.kind % 256) :: (((bytesL fs).take pos).map (fieldB m)).flatten
theorem preP_succ (m : Msg) {fs : ByteArray} {pos : Nat} {ch : Int} (h : (bytesL fs)[pos]? = some ch) : preP m fs (pos + 1) = preP m fs pos ++ fieldB m ch := by
  unfold preP
  rw [List.take_add_one, h]
  simp
theorem fieldB_le (m : Msg) (hl : m.items.length ≤ 1000000) (ch : Int) : (fieldB m ch).length ≤ 300000000 := by
  unfold fieldB
  refine ite_P (p := fun l : List Int => l.length ≤ 300000000) ?_ (ite_P (p := fun l : List Int => l.length ≤ 300000000) ?_ (ite_P (p := fun l : List Int => l.length ≤ 300000000) ?_ (ite_P (p := fun l : List Int => l.length ≤ 300000000) ?_ ?_)))
  · have := textB_le m.f; omega
  · have := textB_le m.e; omega
  · have := textB_le m.t; omega
  · have h1 := itemsB_le m.items
    have h2 := numB_le (m.items.length : Int)
    unfold itemsB
    rw [List.length_append]
    omega
  · have := numB_le (numOf m ch); omega
theorem fields_size (k : Int) : (fieldsS k).size ≤ 5 := fields_P (p := fun s => s.size ≤ 5) k (by decide)

set_option maxHeartbeats 2000000 in
theorem pack_c (m : Msg) (A : Option Addr) (c : Nat) (w : World) (hm : MsgOk m) (hI : ItmsAt w A m.items.length m.items) (hneed : validS m = true → ∀ x ∈ m.items, (npartsS x.re x.im).isSome = true) (R : Ending → World → Prop)
    (hbad : validS m = false → ∀ w', Below w.heap.size w w' → R (.returned (.tuple #[.slice none 0 0, .int .i64 1])) w')
    (hok : validS m = true → ∀ v w', Below w.heap.size w w' → w'.ownsRow w.heap.size 5 1 v (packB m).length (u8s (packB m)) → R (.returned (.tuple #[v, .int .i64 0])) w') :
    Calls Tryz.prog 76 #[msgV m A c] w R := by
  have Hbad := Lib.hid hbad
  have Hok := Lib.hid hok
  have Hm := Lib.hid hm
  have HI := Lib.hid hI
  have Hneed := Lib.hid hneed
  clear hbad hok hm hI hneed
  unfold msgV msgCells
  go_enter Tryz.func76, Tryz.ntmps76
  go_wp2_with fail
  have hB0 : Below w.heap.size w (w.alloc (.cells (msgCells m A c) 115)) := (Below.refl _ _).alloc (Nat.le_refl _) _
  cases hv : validS m with
  | false =>
    have hc : checkS m = 1 := by unfold checkS; rw [hv]; rfl
    refine check_c m A c _ Hm.out (HI.out.below hB0) _ (fun w1 hB1 => ?_)
    rw [hc]
    clear hc
    go_wp2_with fail
    exact Hbad.out hv _ (hB0.trans (hB1.mono (by simp)))
  | true =>
    have hc : checkS m = 0 := by unfold checkS; rw [hv]; rfl
    refine check_c m A c _ Hm.out (HI.out.below hB0) _ (fun w1 hB1 => ?_)
    rw [hc]
    clear hc
    have hC1 : w1.heap[w.heap.size]? = some (.cells (msgCells m A c) 115) := (hB1.block _ (by simp)).trans (heap_alloc_new w _)
    have hBw1 : Below w.heap.size w w1 := hB0.trans (hB1.mono (by simp))
    have hk0 : w1.cell? ⟨w.heap.size, 0, none⟩ = some (.int .i64 m.kind) := by rw [cell_of_row w1 w.heap.size 0 _ _ _ hC1]; rfl
    have hlet := (fields_letters m.kind).resolve_left (by
      intro hq
      unfold validS at hv
      rw [hq] at hv
      cases hv)
    have Hlet := Lib.hid hlet
    have Hok2 := Lib.hid (Hok.out hv)
    have Hneed2 := Lib.hid (Hneed.out hv)
    have hasc := Lib.hid (ascii_at (ascii_fields m.kind))
    have Hfsz := Lib.hid (fields_size m.kind)
    have hlt1 : w.heap.size < w1.heap.size := (Array.getElem?_eq_some_iff.1 hC1).1
    clear hB0 hB1 Hbad Hok Hneed hv hlet
    go_wp2_with fail
    refine fields_c _ _ _ ?_
    obtain ⟨fs, hfs⟩ : ∃ fs, fs = fieldsS m.kind := ⟨_, rfl⟩
    rw [← hfs] at hasc Hlet Hfsz
    have hpk : packB m = (m.kind % 256) :: ((bytesL fs).map (fieldB m)).flatten := by unfold packB; rw [hfs]
    rw [hpk] at Hok2
    rw [← hfs]
    have hown0 := World.ownsRow_lit (base := w.heap.size + 1) (e := 5) (size := 1) w1 #[Value.int .u8 (m.kind % 256)] 1 hlt1 (by simp [maxLen]) (by simp)
    clear hfs hpk
    go_wp2_with fail

    go_loopw [5] (fun v wr => ∃ pos, pos ≤ fs.size ∧ Below w.heap.size w wr ∧ wr.heap[w.heap.size]? = some (.cells (msgCells m A c) 115) ∧ wr.heap[w1.heap.size + 1]? = some (.stringIter fs pos) ∧
        Hid (wr.ownsRow (w.heap.size + 1) 5 1 v (preP m fs pos).length (u8s (preP m fs pos)) ∧ (preP m fs pos).length ≤ 1 + 300000000 * pos)) (fun _ wr => fs.size - wr.iterPos (w1.heap.size + 1))
    case atStart =>
      simp only [World.iter]
      refine ⟨0, Nat.zero_le _, (hBw1.alloc hBw1.size _).alloc (by simp; omega) _, ?_, ?_, Lib.hid ⟨?_, by simp [preP]⟩⟩
      · rw [heap_alloc_old _ _ (by simp; omega), heap_alloc_old _ _ hlt1]; exact hC1
      · have := heap_alloc_new (w1.alloc (.cells #[Value.int .u8 (m.kind % 256)] 5)) (.stringIter fs 0)
        simpa using this
      · exact hown0.alloc _
    case round =>
      obtain ⟨pos, hpos, hB, hC, hIt, Hown⟩ := hrel
      clear hown0
      by_cases hp : pos < fs.size
      · obtain ⟨A4, c4, rfl, _⟩ := own_shape' Hown.out.1
        have hlet := Hlet.out ((fs[pos]'hp).toNat : Int) (by
          unfold bytesL
          have hl : pos < fs.data.toList.length := by rw [data_length']; exact hp
          exact List.mem_map.2 ⟨fs.data.toList[pos]'hl, List.getElem_mem _, rfl⟩)
        have Hat : Hid ((bytesL fs)[pos]? = some ((fs[pos]'hp).toNat : Int)) := Lib.hid (by
          unfold bytesL
          have hl : pos < fs.data.toList.length := by rw [data_length']; exact hp
          rw [List.getElem?_map, List.getElem?_eq_getElem hl]
          rfl)
        have hlt0' : w.heap.size < wr.heap.size := (Array.getElem?_eq_some_iff.1 hC).1
        have hltI : w1.heap.size + 1 < wr.heap.size := (Array.getElem?_eq_some_iff.1 hIt).1
        have hasc1 := hasc.out pos hp
        have hp200 : pos ≤ 200 := by have := Hfsz.out; omega
        obtain ⟨ch, hch⟩ : ∃ ch, ((fs[pos]'hp).toNat : Int) = ch := ⟨_, rfl⟩
        rw [hch] at hlet Hat
        have Hch0 := Lib.hid hch
        -- the round's end
        have Hx : Hid (∀ w2x : World, w2x.heap[w1.heap.size + 1]? = some (.stringIter fs (pos + 1)) → wr.grownBy w2x (some (w1.heap.size + 1)) → w2x.heap.size = wr.heap.size →
            w2x.heap[w.heap.size]? = some (.cells (msgCells m A c) 115) ∧ Below w.heap.size w w2x ∧ w.heap.size < w2x.heap.size ∧
            (∀ (tb : List Int) (w3 : World), Below w2x.heap.size w2x w3 → w.heap.size + 1 ≤ w3.heap.size ∧ w3.ownsRow (w.heap.size + 1) 5 1 (.slice A4 (preP m fs pos).length c4) (preP m fs pos).length (u8s (preP m fs pos)) ∧
            ∀ v4 w4, w4.ownsRow (w.heap.size + 1) 5 1 v4 ((preP m fs pos).length + tb.length) (u8s (preP m fs pos) ++ u8s tb) → w3.grownBy w4 (Value.ownBlock (.slice A4 (preP m fs pos).length c4)) → (∀ g, Value.ownBlock (.slice A4 (preP m fs pos).length c4) = some g → w.heap.size + 1 ≤ g) → fieldB m ch = tb →
              (∃ pos, pos ≤ fs.size ∧ Below w.heap.size w w4 ∧ w4.heap[w.heap.size]? = some (.cells (msgCells m A c) 115) ∧ w4.heap[w1.heap.size + 1]? = some (.stringIter fs pos) ∧
                Hid (w4.ownsRow (w.heap.size + 1) 5 1 v4 (preP m fs pos).length (u8s (preP m fs pos)) ∧ (preP m fs pos).length ≤ 1 + 300000000 * pos)) ∧ fs.size - w4.iterPos (w1.heap.size + 1) < fs.size - wr.iterPos (w1.heap.size + 1))) := Lib.hid (fun w2x hItx hgx hsx => by
          have hCx : w2x.heap[w.heap.size]? = some (.cells (msgCells m A c) 115) := (hgx.block _ hlt0' (by simp; omega)).trans hC
          have hBx : Below w.heap.size w w2x := hB.grown hgx (by omega) (fun g hg => by cases hg; omega)
          have hlt0 : w.heap.size < w2x.heap.size := by rw [hsx]; exact hlt0'
          have hownx : w2x.ownsRow (w.heap.size + 1) 5 1 (.slice A4 (preP m fs pos).length c4) (preP m fs pos).length (u8s (preP m fs pos)) := Hown.out.1.kept hgx (.inr (own_ne_obj Hown.out.1 hIt (fun cs t fr h => by cases h)))
          have hpl := Hown.out.2
          refine ⟨hCx, hBx, hlt0, fun tb w3 hB3 => ?_⟩
          have ho3 := own_below' hownx hB3
          refine ⟨Nat.le_trans (by omega) hB3.size, ho3, fun v4 w4 hown4 hg4 hgb4 hfb => ?_⟩
          have hI3 : w3.heap[w1.heap.size + 1]? = some (.stringIter fs (pos + 1)) := (hB3.block _ (by omega)).trans hItx
          have hne := own_ne_obj ho3 hI3 (fun cs t fr h => by cases h)
          have hI4 : w4.heap[w1.heap.size + 1]? = some (.stringIter fs (pos + 1)) := (hg4.block _ (by have := hB3.size; omega) (fun e => hne e.symm)).trans hI3
          have hC4 : w4.heap[w.heap.size]? = some (.cells (msgCells m A c) 115) := (hg4.block _ (by have := hB3.size; omega) (fun e => by have := hgb4 _ e.symm; omega)).trans ((hB3.block _ hlt0).trans hCx)
          have htl := fieldB_le m Hm.out.len ch
          refine ⟨⟨pos + 1, by omega, (hBx.trans (hB3.mono (by omega))).grown hg4 (by have := hB3.size; omega) (fun g hg => by have := hgb4 g hg; omega), hC4, hI4, Lib.hid ?_⟩, ?_⟩
          · have e : preP m fs (pos + 1) = preP m fs pos ++ tb := by rw [preP_succ m Hat.out, hfb]
            rw [e, u8s_append, List.length_append]
            refine ⟨hown4, ?_⟩
            rw [← hfb]
            omega
          · simp only [World.iterPos, hI4, hIt]
            omega)
        have Hpl : Hid ((preP m fs pos).length ≤ 1 + 300000000 * 200) := Lib.hid (by have := Hown.out.2; omega)
        clear hp200
        clear hB hC Hown hBw1 hC1 hch hlt0' hltI
        simp only [fieldLetters, List.mem_cons, List.mem_nil_iff, or_false] at hlet
        rcases hlet with hlet | hlet | hlet | hlet | hlet | hlet | hlet | hlet
        · have hlk := fun (w2 : World) (es : Array MapEntry) (hes : IsFM w.heap.size [(70, 1), (69, 2), (84, 3)] es) (M : Nat) (hM : w2.heap[M]? = some (.map es 3)) => IsFM.lookup (P := Tryz.prog) Tryz.underlying139 Tryz.underlying21 hes hM (by intro k o h; simp only [List.mem_cons, Prod.mk.injEq, List.mem_nil_iff, or_false] at h; omega) (by decide) (show ((70 : Int), 1) ∈ _ by simp)
          have Hlk := Lib.hid hlk
          clear hlk
          have Hch := Lib.hid hlet
          clear hlet
          have t0 : (ch == 70) = true := by rw [Hch.out]; rfl
          go_wp2_with (at_next; (refine wpList_next_ch _ rfl _ rfl (w1.heap.size + 1) fs pos rfl hIt hp hasc1 ch Hch0.out ?_; intro w2x hItx hgx hsx; obtain ⟨hCx, hBx, hlt0, hEnd⟩ := Hx.out w2x hItx hgx hsx; have Hend := Lib.hid hEnd; clear hEnd hItx hgx hsx; skip))
          refine texts_o _ _ _ (fun w2 es hes hB2 hM2 => ?_)
          have hk := Hlk.out w2 es hes _ hM2
          rw [← Hch.out] at hk
          have hcell : w2.cell? ⟨w.heap.size, 1, none⟩ = some (.string m.f) := by rw [cell_of_row w2 w.heap.size 1 _ _ _ ((hB2.block _ hlt0).trans hCx)]; rfl
          have HB2 := Lib.hid hB2
          clear hes hM2 hB2
          go_wp2_with fail
          refine codeText_c _ _ _ (fun v3 w3 hB3 hown3 => ?_)
          obtain ⟨A3, c3, rfl, hr3, _⟩ := own_rd hown3
          have Hend2 := Lib.hid (Hend.out (textB m.f) w3 (HB2.out.trans (hB3.mono HB2.out.size)))
          have hl3 := textB_le m.f
          generalize htb : textB m.f = tb at hr3 Hend2 hl3
          have Htb := Lib.hid htb
          clear htb
          have Hl3 := Lib.hid hl3
          have hbs3 := Hend2.out.1
          have hou3 := Lib.hid Hend2.out.2.1
          clear hown3
          go_wp2_with (at_builtin; (refine app_rd (w.heap.size + 1) rfl _ _ 37 5 (.int .u8 0) 1 rfl Tryz.underlying37 infoU8 rfl (by decide) _ _ _ _ _ _ _ rfl rfl (u8s_one _) (by exact hou3.out) (by exact hr3) hbs3 (by have := Hl3.out; have := Hpl.out; omega) ?_); intro v4 w4 hown4 hg4 hgb4)
          have e := Hend2.out.2.2 v4 w4 hown4 hg4 hgb4 (by rw [Hch.out]; exact Eq.trans (by rfl) Htb.out)
          exact ⟨e.1, e.2⟩
        · have hlk := fun (w2 : World) (es : Array MapEntry) (hes : IsFM w.heap.size [(70, 1), (69, 2), (84, 3)] es) (M : Nat) (hM : w2.heap[M]? = some (.map es 3)) => IsFM.lookup (P := Tryz.prog) Tryz.underlying139 Tryz.underlying21 hes hM (by intro k o h; simp only [List.mem_cons, Prod.mk.injEq, List.mem_nil_iff, or_false] at h; omega) (by decide) (show ((69 : Int), 2) ∈ _ by simp)
          have Hlk := Lib.hid hlk
          clear hlk
          have Hch := Lib.hid hlet
          clear hlet
          have t0 : (ch == 70) = false := by rw [Hch.out]; rfl
          have t1 : (ch == 69) = true := by rw [Hch.out]; rfl
          go_wp2_with (at_next; (refine wpList_next_ch _ rfl _ rfl (w1.heap.size + 1) fs pos rfl hIt hp hasc1 ch Hch0.out ?_; intro w2x hItx hgx hsx; obtain ⟨hCx, hBx, hlt0, hEnd⟩ := Hx.out w2x hItx hgx hsx; have Hend := Lib.hid hEnd; clear hEnd hItx hgx hsx; skip))
          refine texts_o _ _ _ (fun w2 es hes hB2 hM2 => ?_)
          have hk := Hlk.out w2 es hes _ hM2
          rw [← Hch.out] at hk
          have hcell : w2.cell? ⟨w.heap.size, 2, none⟩ = some (.string m.e) := by rw [cell_of_row w2 w.heap.size 2 _ _ _ ((hB2.block _ hlt0).trans hCx)]; rfl
          have HB2 := Lib.hid hB2
          clear hes hM2 hB2
          go_wp2_with fail
          refine codeText_c _ _ _ (fun v3 w3 hB3 hown3 => ?_)
          obtain ⟨A3, c3, rfl, hr3, _⟩ := own_rd hown3
          have Hend2 := Lib.hid (Hend.out (textB m.e) w3 (HB2.out.trans (hB3.mono HB2.out.size)))
          have hl3 := textB_le m.e
          generalize htb : textB m.e = tb at hr3 Hend2 hl3
          have Htb := Lib.hid htb
          clear htb
          have Hl3 := Lib.hid hl3
          have hbs3 := Hend2.out.1
          have hou3 := Lib.hid Hend2.out.2.1
          clear hown3
          go_wp2_with (at_builtin; (refine app_rd (w.heap.size + 1) rfl _ _ 37 5 (.int .u8 0) 1 rfl Tryz.underlying37 infoU8 rfl (by decide) _ _ _ _ _ _ _ rfl rfl (u8s_one _) (by exact hou3.out) (by exact hr3) hbs3 (by have := Hl3.out; have := Hpl.out; omega) ?_); intro v4 w4 hown4 hg4 hgb4)
          have e := Hend2.out.2.2 v4 w4 hown4 hg4 hgb4 (by rw [Hch.out]; exact Eq.trans (by rfl) Htb.out)
          exact ⟨e.1, e.2⟩
        · have hlk := fun (w2 : World) (es : Array MapEntry) (hes : IsFM w.heap.size [(70, 1), (69, 2), (84, 3)] es) (M : Nat) (hM : w2.heap[M]? = some (.map es 3)) => IsFM.lookup (P := Tryz.prog) Tryz.underlying139 Tryz.underlying21 hes hM (by intro k o h; simp only [List.mem_cons, Prod.mk.injEq, List.mem_nil_iff, or_false] at h; omega) (by decide) (show ((84 : Int), 3) ∈ _ by simp)
          have Hlk := Lib.hid hlk
          clear hlk
          have Hch := Lib.hid hlet
          clear hlet
          have t0 : (ch == 70) = false := by rw [Hch.out]; rfl
          have t1 : (ch == 69) = false := by rw [Hch.out]; rfl
          have t2 : (ch == 84) = true := by rw [Hch.out]; rfl
          go_wp2_with (at_next; (refine wpList_next_ch _ rfl _ rfl (w1.heap.size + 1) fs pos rfl hIt hp hasc1 ch Hch0.out ?_; intro w2x hItx hgx hsx; obtain ⟨hCx, hBx, hlt0, hEnd⟩ := Hx.out w2x hItx hgx hsx; have Hend := Lib.hid hEnd; clear hEnd hItx hgx hsx; skip))
          refine texts_o _ _ _ (fun w2 es hes hB2 hM2 => ?_)
          have hk := Hlk.out w2 es hes _ hM2
          rw [← Hch.out] at hk
          have hcell : w2.cell? ⟨w.heap.size, 3, none⟩ = some (.string m.t) := by rw [cell_of_row w2 w.heap.size 3 _ _ _ ((hB2.block _ hlt0).trans hCx)]; rfl
          have HB2 := Lib.hid hB2
          clear hes hM2 hB2
          go_wp2_with fail
          refine codeText_c _ _ _ (fun v3 w3 hB3 hown3 => ?_)
          obtain ⟨A3, c3, rfl, hr3, _⟩ := own_rd hown3
          have Hend2 := Lib.hid (Hend.out (textB m.t) w3 (HB2.out.trans (hB3.mono HB2.out.size)))
          have hl3 := textB_le m.t
          generalize htb : textB m.t = tb at hr3 Hend2 hl3
          have Htb := Lib.hid htb
          clear htb
          have Hl3 := Lib.hid hl3
          have hbs3 := Hend2.out.1
          have hou3 := Lib.hid Hend2.out.2.1
          clear hown3
          go_wp2_with (at_builtin; (refine app_rd (w.heap.size + 1) rfl _ _ 37 5 (.int .u8 0) 1 rfl Tryz.underlying37 infoU8 rfl (by decide) _ _ _ _ _ _ _ rfl rfl (u8s_one _) (by exact hou3.out) (by exact hr3) hbs3 (by have := Hl3.out; have := Hpl.out; omega) ?_); intro v4 w4 hown4 hg4 hgb4)
          have e := Hend2.out.2.2 v4 w4 hown4 hg4 hgb4 (by rw [Hch.out]; exact Eq.trans (by rfl) Htb.out)
          exact ⟨e.1, e.2⟩
        · skip
          have Hch := Lib.hid hlet
          clear hlet
          have t0 : (ch == 70) = false := by rw [Hch.out]; rfl
          have t1 : (ch == 69) = false := by rw [Hch.out]; rfl
          have t2 : (ch == 84) = false := by rw [Hch.out]; rfl
          have t3 : (ch == 73) = true := by rw [Hch.out]; rfl
          go_wp2_with (at_next; (refine wpList_next_ch _ rfl _ rfl (w1.heap.size + 1) fs pos rfl hIt hp hasc1 ch Hch0.out ?_; intro w2x hItx hgx hsx; obtain ⟨hCx, hBx, hlt0, hEnd⟩ := Hx.out w2x hItx hgx hsx; have Hend := Lib.hid hEnd; clear hEnd hItx hgx hsx; have hk8 : w2x.cell? ⟨w.heap.size, 8, none⟩ = some (.slice A m.items.length c) := by rw [cell_of_row w2x w.heap.size 8 _ _ _ hCx]; rfl))
          refine items_c A m.items.length c m.items _ (HI.out.below hBx) Hneed2.out Hm.out.len _ (fun v3 w3 hB3 hown3 => ?_)
          obtain ⟨A3, c3, rfl, hr3, _⟩ := own_rd hown3
          have Hend2 := Lib.hid (Hend.out (itemsB m.items) w3 hB3)
          have hl3 : (itemsB m.items).length ≤ 218000006 := by
            have h1 := itemsB_le m.items
            have h2 := numB_le (m.items.length : Int)
            have h3 := Hm.out.len
            unfold itemsB
            rw [List.length_append]
            omega
          generalize htb : itemsB m.items = tb at hr3 Hend2 hl3
          have Htb := Lib.hid htb
          clear htb
          have Hl3 := Lib.hid hl3
          have hbs3 := Hend2.out.1
          have hou3 := Lib.hid Hend2.out.2.1
          clear hown3
          go_wp2_with (at_builtin; (refine app_rd (w.heap.size + 1) rfl _ _ 37 5 (.int .u8 0) 1 rfl Tryz.underlying37 infoU8 rfl (by decide) _ _ _ _ _ _ _ rfl rfl (u8s_one _) (by exact hou3.out) (by exact hr3) hbs3 (by have := Hl3.out; have := Hpl.out; omega) ?_); intro v4 w4 hown4 hg4 hgb4)
          have e := Hend2.out.2.2 v4 w4 hown4 hg4 hgb4 (by rw [Hch.out]; exact Eq.trans (by rfl) Htb.out)
          exact ⟨e.1, e.2⟩
        · have hlk := fun (w2 : World) (es : Array MapEntry) (hes : IsFM w.heap.size [(78, 4), (83, 5), (85, 6), (80, 7)] es) (M : Nat) (hM : w2.heap[M]? = some (.map es 4)) => IsFM.lookup (P := Tryz.prog) Tryz.underlying144 Tryz.underlying21 hes hM (by intro k o h; simp only [List.mem_cons, Prod.mk.injEq, List.mem_nil_iff, or_false] at h; omega) (by decide) (show ((78 : Int), 4) ∈ _ by simp)
          have Hlk := Lib.hid hlk
          clear hlk
          have Hch := Lib.hid hlet
          clear hlet
          have t0 : (ch == 70) = false := by rw [Hch.out]; rfl
          have t1 : (ch == 69) = false := by rw [Hch.out]; rfl
          have t2 : (ch == 84) = false := by rw [Hch.out]; rfl
          have t3 : (ch == 73) = false := by rw [Hch.out]; rfl
          go_wp2_with (at_next; (refine wpList_next_ch _ rfl _ rfl (w1.heap.size + 1) fs pos rfl hIt hp hasc1 ch Hch0.out ?_; intro w2x hItx hgx hsx; obtain ⟨hCx, hBx, hlt0, hEnd⟩ := Hx.out w2x hItx hgx hsx; have Hend := Lib.hid hEnd; clear hEnd hItx hgx hsx; skip))
          refine numbers_o _ _ _ (fun w2 es hes hB2 hM2 => ?_)
          have hk := Hlk.out w2 es hes _ hM2
          rw [← Hch.out] at hk
          have hcell : w2.cell? ⟨w.heap.size, 4, none⟩ = some (.int .i64 m.n) := by rw [cell_of_row w2 w.heap.size 4 _ _ _ ((hB2.block _ hlt0).trans hCx)]; rfl
          have HB2 := Lib.hid hB2
          clear hes hM2 hB2
          go_wp2_with fail
          refine codeNumber_c _ _ _ (fun v3 w3 hB3 hown3 => ?_)
          obtain ⟨A3, c3, rfl, hr3, _⟩ := own_rd hown3
          have Hend2 := Lib.hid (Hend.out (numB m.n) w3 (HB2.out.trans (hB3.mono HB2.out.size)))
          have hl3 := numB_le m.n
          generalize htb : numB m.n = tb at hr3 Hend2 hl3
          have Htb := Lib.hid htb
          clear htb
          have Hl3 := Lib.hid hl3
          have hbs3 := Hend2.out.1
          have hou3 := Lib.hid Hend2.out.2.1
          clear hown3
          go_wp2_with (at_builtin; (refine app_rd (w.heap.size + 1) rfl _ _ 37 5 (.int .u8 0) 1 rfl Tryz.underlying37 infoU8 rfl (by decide) _ _ _ _ _ _ _ rfl rfl (u8s_one _) (by exact hou3.out) (by exact hr3) hbs3 (by have := Hl3.out; have := Hpl.out; omega) ?_); intro v4 w4 hown4 hg4 hgb4)
          have e := Hend2.out.2.2 v4 w4 hown4 hg4 hgb4 (by rw [Hch.out]; exact Eq.trans (by rfl) Htb.out)
          exact ⟨e.1, e.2⟩
        · have hlk := fun (w2 : World) (es : Array MapEntry) (hes : IsFM w.heap.size [(78, 4), (83, 5), (85, 6), (80, 7)] es) (M : Nat) (hM : w2.heap[M]? = some (.map es 4)) => IsFM.lookup (P := Tryz.prog) Tryz.underlying144 Tryz.underlying21 hes hM (by intro k o h; simp only [List.mem_cons, Prod.mk.injEq, List.mem_nil_iff, or_false] at h; omega) (by decide) (show ((83 : Int), 5) ∈ _ by simp)
          have Hlk := Lib.hid hlk
          clear hlk
          have Hch := Lib.hid hlet
          clear hlet
          have t0 : (ch == 70) = false := by rw [Hch.out]; rfl
          have t1 : (ch == 69) = false := by rw [Hch.out]; rfl
          have t2 : (ch == 84) = false := by rw [Hch.out]; rfl
          have t3 : (ch == 73) = false := by rw [Hch.out]; rfl
          go_wp2_with (at_next; (refine wpList_next_ch _ rfl _ rfl (w1.heap.size + 1) fs pos rfl hIt hp hasc1 ch Hch0.out ?_; intro w2x hItx hgx hsx; obtain ⟨hCx, hBx, hlt0, hEnd⟩ := Hx.out w2x hItx hgx hsx; have Hend := Lib.hid hEnd; clear hEnd hItx hgx hsx; skip))
          refine numbers_o _ _ _ (fun w2 es hes hB2 hM2 => ?_)
          have hk := Hlk.out w2 es hes _ hM2
          rw [← Hch.out] at hk
          have hcell : w2.cell? ⟨w.heap.size, 5, none⟩ = some (.int .i64 m.state) := by rw [cell_of_row w2 w.heap.size 5 _ _ _ ((hB2.block _ hlt0).trans hCx)]; rfl
          have HB2 := Lib.hid hB2
          clear hes hM2 hB2
          go_wp2_with fail
          refine codeNumber_c _ _ _ (fun v3 w3 hB3 hown3 => ?_)
          obtain ⟨A3, c3, rfl, hr3, _⟩ := own_rd hown3
          have Hend2 := Lib.hid (Hend.out (numB m.state) w3 (HB2.out.trans (hB3.mono HB2.out.size)))
          have hl3 := numB_le m.state
          generalize htb : numB m.state = tb at hr3 Hend2 hl3
          have Htb := Lib.hid htb
          clear htb
          have Hl3 := Lib.hid hl3
          have hbs3 := Hend2.out.1
          have hou3 := Lib.hid Hend2.out.2.1
          clear hown3
          go_wp2_with (at_builtin; (refine app_rd (w.heap.size + 1) rfl _ _ 37 5 (.int .u8 0) 1 rfl Tryz.underlying37 infoU8 rfl (by decide) _ _ _ _ _ _ _ rfl rfl (u8s_one _) (by exact hou3.out) (by exact hr3) hbs3 (by have := Hl3.out; have := Hpl.out; omega) ?_); intro v4 w4 hown4 hg4 hgb4)
          have e := Hend2.out.2.2 v4 w4 hown4 hg4 hgb4 (by rw [Hch.out]; exact Eq.trans (by rfl) Htb.out)
          exact ⟨e.1, e.2⟩
        · have hlk := fun (w2 : World) (es : Array MapEntry) (hes : IsFM w.heap.size [(78, 4), (83, 5), (85, 6), (80, 7)] es) (M : Nat) (hM : w2.heap[M]? = some (.map es 4)) => IsFM.lookup (P := Tryz.prog) Tryz.underlying144 Tryz.underlying21 hes hM (by intro k o h; simp only [List.mem_cons, Prod.mk.injEq, List.mem_nil_iff, or_false] at h; omega) (by decide) (show ((85 : Int), 6) ∈ _ by simp)
          have Hlk := Lib.hid hlk
          clear hlk
          have Hch := Lib.hid hlet
          clear hlet
          have t0 : (ch == 70) = false := by rw [Hch.out]; rfl
          have t1 : (ch == 69) = false := by rw [Hch.out]; rfl
          have t2 : (ch == 84) = false := by rw [Hch.out]; rfl
          have t3 : (ch == 73) = false := by rw [Hch.out]; rfl
          go_wp2_with (at_next; (refine wpList_next_ch _ rfl _ rfl (w1.heap.size + 1) fs pos rfl hIt hp hasc1 ch Hch0.out ?_; intro w2x hItx hgx hsx; obtain ⟨hCx, hBx, hlt0, hEnd⟩ := Hx.out w2x hItx hgx hsx; have Hend := Lib.hid hEnd; clear hEnd hItx hgx hsx; skip))
          refine numbers_o _ _ _ (fun w2 es hes hB2 hM2 => ?_)
          have hk := Hlk.out w2 es hes _ hM2
          rw [← Hch.out] at hk
          have hcell : w2.cell? ⟨w.heap.size, 6, none⟩ = some (.int .i64 m.number) := by rw [cell_of_row w2 w.heap.size 6 _ _ _ ((hB2.block _ hlt0).trans hCx)]; rfl
          have HB2 := Lib.hid hB2
          clear hes hM2 hB2
          go_wp2_with fail
          refine codeNumber_c _ _ _ (fun v3 w3 hB3 hown3 => ?_)
          obtain ⟨A3, c3, rfl, hr3, _⟩ := own_rd hown3
          have Hend2 := Lib.hid (Hend.out (numB m.number) w3 (HB2.out.trans (hB3.mono HB2.out.size)))
          have hl3 := numB_le m.number
          generalize htb : numB m.number = tb at hr3 Hend2 hl3
          have Htb := Lib.hid htb
          clear htb
          have Hl3 := Lib.hid hl3
          have hbs3 := Hend2.out.1
          have hou3 := Lib.hid Hend2.out.2.1
          clear hown3
          go_wp2_with (at_builtin; (refine app_rd (w.heap.size + 1) rfl _ _ 37 5 (.int .u8 0) 1 rfl Tryz.underlying37 infoU8 rfl (by decide) _ _ _ _ _ _ _ rfl rfl (u8s_one _) (by exact hou3.out) (by exact hr3) hbs3 (by have := Hl3.out; have := Hpl.out; omega) ?_); intro v4 w4 hown4 hg4 hgb4)
          have e := Hend2.out.2.2 v4 w4 hown4 hg4 hgb4 (by rw [Hch.out]; exact Eq.trans (by rfl) Htb.out)
          exact ⟨e.1, e.2⟩
        · have hlk := fun (w2 : World) (es : Array MapEntry) (hes : IsFM w.heap.size [(78, 4), (83, 5), (85, 6), (80, 7)] es) (M : Nat) (hM : w2.heap[M]? = some (.map es 4)) => IsFM.lookup (P := Tryz.prog) Tryz.underlying144 Tryz.underlying21 hes hM (by intro k o h; simp only [List.mem_cons, Prod.mk.injEq, List.mem_nil_iff, or_false] at h; omega) (by decide) (show ((80 : Int), 7) ∈ _ by simp)
          have Hlk := Lib.hid hlk
          clear hlk
          have Hch := Lib.hid hlet
          clear hlet
          have t0 : (ch == 70) = false := by rw [Hch.out]; rfl
          have t1 : (ch == 69) = false := by rw [Hch.out]; rfl
          have t2 : (ch == 84) = false := by rw [Hch.out]; rfl
          have t3 : (ch == 73) = false := by rw [Hch.out]; rfl
          go_wp2_with (at_next; (refine wpList_next_ch _ rfl _ rfl (w1.heap.size + 1) fs pos rfl hIt hp hasc1 ch Hch0.out ?_; intro w2x hItx hgx hsx; obtain ⟨hCx, hBx, hlt0, hEnd⟩ := Hx.out w2x hItx hgx hsx; have Hend := Lib.hid hEnd; clear hEnd hItx hgx hsx; skip))
          refine numbers_o _ _ _ (fun w2 es hes hB2 hM2 => ?_)
          have hk := Hlk.out w2 es hes _ hM2
          rw [← Hch.out] at hk
          have hcell : w2.cell? ⟨w.heap.size, 7, none⟩ = some (.int .i64 m.epoch) := by rw [cell_of_row w2 w.heap.size 7 _ _ _ ((hB2.block _ hlt0).trans hCx)]; rfl
          have HB2 := Lib.hid hB2
          clear hes hM2 hB2
          go_wp2_with fail
          refine codeNumber_c _ _ _ (fun v3 w3 hB3 hown3 => ?_)
          obtain ⟨A3, c3, rfl, hr3, _⟩ := own_rd hown3
          have Hend2 := Lib.hid (Hend.out (numB m.epoch) w3 (HB2.out.trans (hB3.mono HB2.out.size)))
          have hl3 := numB_le m.epoch
          generalize htb : numB m.epoch = tb at hr3 Hend2 hl3
          have Htb := Lib.hid htb
          clear htb
          have Hl3 := Lib.hid hl3
          have hbs3 := Hend2.out.1
          have hou3 := Lib.hid Hend2.out.2.1
          clear hown3
          go_wp2_with (at_builtin; (refine app_rd (w.heap.size + 1) rfl _ _ 37 5 (.int .u8 0) 1 rfl Tryz.underlying37 infoU8 rfl (by decide) _ _ _ _ _ _ _ rfl rfl (u8s_one _) (by exact hou3.out) (by exact hr3) hbs3 (by have := Hl3.out; have := Hpl.out; omega) ?_); intro v4 w4 hown4 hg4 hgb4)
          have e := Hend2.out.2.2 v4 w4 hown4 hg4 hgb4 (by rw [Hch.out]; exact Eq.trans (by rfl) Htb.out)
          exact ⟨e.1, e.2⟩
      · have e : preP m fs pos = (m.kind % 256) :: ((bytesL fs).map (fieldB m)).flatten := by
          unfold preP
          rw [show (bytesL fs).take pos = bytesL fs from by rw [List.take_of_length_le]; rw [bytesL_length]; omega]
        rw [e] at Hown
        go_wp2_with (at_next; (refine wpList_next_str_end _ rfl _ rfl (w1.heap.size + 1) fs pos rfl hIt hp ?_))
        exact Hok2.out _ _ hB (own_mono Hown.out.1 (by omega))
end Go.Proofs.YtdmcponfodohaaaGreatDoor
