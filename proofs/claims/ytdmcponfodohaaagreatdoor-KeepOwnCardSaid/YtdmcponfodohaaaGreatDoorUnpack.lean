/-
  message.Unpack: a message out of its bytes; with bytes behind it: none.
-/
import Derived.Test.YtdmcponfodohaaaGreatDoorGe
import Derived.Outline
namespace Go.Proofs.YtdmcponfodohaaaGreatDoor
open Go.RowKit Go.Shelf
set_option maxRecDepth 100000

section
variable {P : Program} {ops : Array Oper} {rest : List Oper} {o : Oper} {a : Act} {w : World} {Q : Exit → Act → World → Prop}
theorem wpList_conv (hg : o.guard = none) (src dst : TypeId) (x : Operand) (ho : o.op = .convert src dst x) (y v : Value) (hy : a.eval x = y) (w1 : World) (hrun : (convert src dst y).run P w = .ok v w1)
    (h : wpList P ops Q rest (a.put o.dst v) w1) : wpList P ops Q (o :: rest) a w := by
  refine wpList_plain hg fun K hK => ?_
  subst hy
  unfold Oper.wp execOp
  simp only [ho, Sem.run_bind, hrun, Result.andThen_ok, Sem.run_pure]
  exact hK _ _ h
theorem wpList_sliceAt (hg : o.guard = none) (t : TypeId) (x lo : Operand) (ho : o.op = .slice t x (some lo) none none) (v l y : Value) (hx : a.eval x = y) (hl : a.eval lo = l) (hrun : (Instr.sliceAt t y (some l) none none).run P w = .ok v w)
    (h : wpList P ops Q rest (a.put o.dst v) w) : wpList P ops Q (o :: rest) a w := by
  refine wpList_plain hg fun K hK => ?_
  subst hx hl
  unfold Oper.wp execOp
  simp only [ho, Option.map_some, Option.map_none, Sem.run_bind, hrun, Result.andThen_ok, Sem.run_pure]
  exact hK _ _ h
end
theorem slice_from (A : Option Addr) (n c k : Nat) (i : Int) (hi : i = k) (hk : k ≤ n) (w : World) :
    (Instr.sliceAt 37 (.slice A n c) (some (.int .i64 i)) none none).run Tryz.prog w = .ok (.slice (if c = k then A else A.map (·.add k)) (n - k) (c - k)) w := by
  subst hi
  obtain ⟨ie, hq, _, h1, _⟩ := info_parts infoU8
  simp [Instr.sliceAt, Instr.slice, Sem.run_bind, run_underlying Tryz.underlying37, Instr.sliceBounds, Instr.sliceBound, asIntOf, sizeOf, typeInfo, hq, h1, hk]

theorem conv_fields {fs : ByteArray} (h : fs ∈ fsAll) (w : World) : ∃ (C : Array Value) (cap : Nat), (convert 9 175 (.string fs)).run Tryz.prog w = .ok (.slice (some ⟨w.heap.size, 0, none⟩) fs.size cap) (w.drew.alloc (.cells C 21)) ∧ fs.size ≤ cap ∧ ∀ (j : Nat) (ch : Int), (bytesL fs)[j]? = some ch → C[j]? = some (.int .i32 ch) := by
  have hr : Conv.runesFrom fs fs.size 0 #[] = ((bytesL fs).map (Value.int .i32)).toArray := by
    simp only [fsAll, List.mem_cons, List.mem_nil_iff, or_false] at h
    rcases h with rfl | rfl | rfl | rfl | rfl | rfl | rfl | rfl | rfl | rfl | rfl | rfl | rfl <;> kernel_rfl
  have hsz : (Conv.runesFrom fs fs.size 0 #[]).size = fs.size := by rw [hr, List.size_toArray, List.length_map, bytesL_length]
  have hle : fs.size ≤ 5 := by
    simp only [fsAll, List.mem_cons, List.mem_nil_iff, or_false] at h
    rcases h with rfl | rfl | rfl | rfl | rfl | rfl | rfl | rfl | rfl | rfl | rfl | rfl | rfl <;> decide
  have hrun := run_runes_of_string (P := Tryz.prog) w 9 175 21 fs Tryz.underlying9 Tryz.underlying175 Tryz.underlying21 (by omega)
  have hge := grownCap_ge w fs.size 0 21
  rw [hsz] at hrun
  refine ⟨_, _, hrun, hge, fun j ch hj => ?_⟩
  have hjl := (List.getElem?_eq_some_iff.1 hj).1
  rw [hr, Array.getElem?_append_left (by simpa using hjl)]
  simp [hj]

theorem fs_five {fs : ByteArray} (h : fs ∈ fsAll) : fs.size ≤ 5 := by
  simp only [fsAll, List.mem_cons, List.mem_nil_iff, or_false] at h
  rcases h with rfl | rfl | rfl | rfl | rfl | rfl | rfl | rfl | rfl | rfl | rfl | rfl | rfl <;> decide
/-- As far as the message has been read. -/
structure UnSt (w : World) (r g q : Nat) (m : Msg) (fs : ByteArray) (extra : List Int) (C : Array Value) (k : Nat) (W : World) : Prop where
  below : Below w.heap.size w W
  res : W.heap[w.heap.size]? = some (.cells (msgCells (blank 0) none 0) 115)
  mem : ∃ A' c', MB W (w.heap.size + 1) (partM m ((bytesL fs).take k)) A' c' ∧ Its W r (w.heap.size + 1) A' (partM m ((bytesL fs).take k)).items
  rdr : RdrAt W r g ((((bytesL fs).drop k).map (fieldB m)).flatten ++ extra)
  runes : W.heap[q]? = some (.cells C 21)
  r1 : w.heap.size + 1 < r
  g1 : w.heap.size + 1 < g
  q1 : w.heap.size + 1 < q
  qr : q ≠ r
theorem UnSt.step {w : World} {r g q : Nat} {m : Msg} {fs : ByteArray} {extra : List Int} {C : Array Value} {k : Nat} {W W' : World} {ch : Int} (h : UnSt w r g q m fs extra C k W) (hch : (bytesL fs)[k]? = some ch) {p : Msg} (hp : p = partM m ((bytesL fs).take k)) (hk : Kept [r, w.heap.size + 1] W W')
    (hR : RdrAt W' r g ((((bytesL fs).drop (k + 1)).map (fieldB m)).flatten ++ extra)) {A' : Option Addr} {c' : Nat} (hM : MB W' (w.heap.size + 1) (put m p ch) A' c') (hI : Its W' r (w.heap.size + 1) A' (put m p ch).items) : UnSt w r g q m fs extra C (k + 1) W' := by
  have e : partM m ((bytesL fs).take (k + 1)) = put m p ch := by
    rw [List.take_add_one, hch, hp]
    exact partM_snoc _ _ _
  have := h.r1
  have := h.q1
  have := h.qr
  refine ⟨hk.below h.below h.below.size (fun s hs => ?_), (hk.block _ (Array.getElem?_eq_some_iff.1 h.res).1 ?_).trans h.res, ⟨A', c', by rw [e]; exact hM, by rw [e]; exact hI⟩, hR, (hk.block _ (Array.getElem?_eq_some_iff.1 h.runes).1 ?_).trans h.runes, h.r1, h.g1, h.q1, h.qr⟩
  · simp at hs
    omega
  · simp
    omega
  · simp
    omega
theorem rest_at {m : Msg} {fs : ByteArray} {extra : List Int} {k : Nat} {ch : Int} (hch : (bytesL fs)[k]? = some ch) : (((bytesL fs).drop k).map (fieldB m)).flatten ++ extra = fieldB m ch ++ ((((bytesL fs).drop (k + 1)).map (fieldB m)).flatten ++ extra) := by
  have hkl := (List.getElem?_eq_some_iff.1 hch).1
  rw [List.drop_eq_getElem_cons hkl, List.map_cons, List.flatten_cons, (List.getElem?_eq_some_iff.1 hch).2, List.append_assoc]
theorem has_at {fs : ByteArray} {k : Nat} {ch : Int} (hch : (bytesL fs)[k]? = some ch) : hasS fs ch = true := by
  unfold bytesL at hch
  rw [List.getElem?_map] at hch
  obtain ⟨b, hb, rfl⟩ := Option.map_eq_some_iff.1 hch
  unfold hasS
  rw [List.any_eq_true]
  exact ⟨b, List.mem_of_getElem? hb, by simp⟩
def UnJ (w : World) (m : Msg) (fs : ByteArray) (extra : List Int) (A : Option Addr) (n c : Nat) (a' : Act) (W : World) : Prop :=
  ∃ (r g q cap k : Nat) (C : Array Value), k ≤ fs.size ∧ UnSt w r g q m fs extra C k W ∧ (∀ (j : Nat) (ch : Int), (bytesL fs)[j]? = some ch → C[j]? = some (.int .i32 ch)) ∧ ∃ (u1 u8 u9 u10 u11 u12 u13 u14 u15 u16 u17 u18 u19 u20 u21 u22 u23 u24 u25 u26 u27 u28 u29 u30 u31 u32 u33 u34 u35 u36 u37 u38 u39 u40 u41 u42 u43 u44 u45 u46 u47 u48 u49 u50 u51 u52 u53 u54 u55 u56 u57 u58 u59 u60 : Value), a' = { tmps := #[(.slice A n c), u1, (.pointer (some ⟨w.heap.size, 0, none⟩)), (.int .i64 0), (.pointer (some ⟨w.heap.size + 1, 0, none⟩)), (.int .i64 k), (.pointer (some ⟨r, 0, none⟩)), (.slice (some ⟨q, 0, none⟩) fs.size cap), u8, u9, u10, u11, u12, u13, u14, u15, u16, u17, u18, u19, u20, u21, u22, u23, u24, u25, u26, u27, u28, u29, u30, u31, u32, u33, u34, u35, u36, u37, u38, u39, u40, u41, u42, u43, u44, u45, u46, u47, u48, u49, u50, u51, u52, u53, u54, u55, u56, u57, u58, u59, u60], defers := [] }
theorem results_ct {fn : Func} {p v : Tmp} {ty : TypeId} (h : fn.results = #[.cell p ty, .tmp v]) {P : Program} (tmps : Array Value) (w : World) (a : Addr) (x : Value)
    (hp : tmps.getD p undef = .pointer (some a)) (hl : (loadVar ty a).run P w = .ok x w) :
    (results fn tmps).run P w = .ok (.tuple #[x, tmps.getD v undef]) w := by
  have hp' : tmps[p]?.getD undef = .pointer (some a) := by simpa using hp
  simp [results, h, hp', asAddr, hl, Result.andThen]

theorem namedU {P : Program} {f : Nat} {args : Array Value} {R : Ending → World → Prop} {W : World} (F : World → Prop) (hF : F W) (h : ∀ W', F W' → Calls P f args W' R) : Calls P f args W R := h W hF
theorem namedX {P : Program} {c : Code} {Q : Exit → Act → World → Prop} {a : Act} {W : World} (F : World → Prop) (hF : F W) (h : ∀ W', F W' → c.wp P Q a W') : c.wp P Q a W := h W hF
theorem un_start {w w1 : World} {r g : Nat} {m : Msg} {fs : ByteArray} {extra : List Int} {C : Array Value} (hB : Below w.heap.size w w1) (hres : w1.heap[w.heap.size]? = some (.cells (msgCells (blank 0) none 0) 115)) (hM : MB w1 (w.heap.size + 1) (blank m.kind) none 0)
    (hR : RdrAt w1 r g (((bytesL fs).map (fieldB m)).flatten ++ extra)) (h1 : w.heap.size + 2 ≤ r) (h2 : w.heap.size + 2 ≤ g) (h3 : w.heap.size + 1 < w1.heap.size) (h4 : w1.heap.size ≠ r): UnSt w r g w1.heap.size m fs extra C 0 (w1.alloc (.cells C 21)).drew := by
  have hk : Kept [] w1 (w1.alloc (.cells C 21)).drew := ((Kept.refl [] w1).alloc _).drew
  refine ⟨(hB.alloc hB.size _).drew, (hk.block _ (by omega) (by simp)).trans hres, ⟨none, 0, hM.kept hk (by simp), ⟨⟨rfl, fun h => by cases h⟩, fun h => by cases h⟩, fun a ha => by cases ha⟩, hR.kept hk (by simp) (by simp), heap_alloc_new w1 _, by omega, by omega, h3, h4⟩

def set9 (w : World) (b : Nat) (m : Msg) (A : Option Addr) (c : Nat) : World := ((((((((w.setCell ⟨b, 0, none⟩ (.int .i64 m.kind)).setCell ⟨b, 1, none⟩ (.string m.f)).setCell ⟨b, 2, none⟩ (.string m.e)).setCell ⟨b, 3, none⟩ (.string m.t)).setCell ⟨b, 4, none⟩ (.int .i64 m.n)).setCell ⟨b, 5, none⟩ (.int .i64 m.state)).setCell ⟨b, 6, none⟩ (.int .i64 m.number)).setCell ⟨b, 7, none⟩ (.int .i64 m.epoch)).setCell ⟨b, 8, none⟩ (.slice A m.items.length c)
theorem set9_kept (w : World) (b : Nat) (m : Msg) (A : Option Addr) (c : Nat) : Kept [b] w (set9 w b m A c) :=
  (((((((((Kept.refl [b] w).setCell (by simp) _).setCell (by simp) _).setCell (by simp) _).setCell (by simp) _).setCell (by simp) _).setCell (by simp) _).setCell (by simp) _).setCell (by simp) _).setCell (by simp) _
theorem set9_below (w : World) (b : Nat) (m : Msg) (A : Option Addr) (c : Nat) : Below b w (set9 w b m A c) :=
  ⟨(set9_kept w b m A c).os, (set9_kept w b m A c).tape, (set9_kept w b m A c).output, (set9_kept w b m A c).size, fun k hk => by
    by_cases hl : k < w.heap.size
    · exact (set9_kept w b m A c).block k hl (by simp; omega)
    · have : (set9 w b m A c).heap.size = w.heap.size := by simp [set9, World.setCell]
      rw [Array.getElem?_eq_none (by omega), Array.getElem?_eq_none (by omega)]⟩
theorem set9_mb {w : World} {b : Nat} {m m0 : Msg} {A A0 : Option Addr} {c c0 : Nat} (h : MB w b m0 A0 c0) : MB (set9 w b m A c) b m A c := by
  have h' : w.heap[b]? = some (.cells (msgCells m0 A0 c0) 115) := h
  unfold MB
  simp [set9, World.setCell, Array.getElem?_modify, h', msgCells]
theorem toList_len (s : ByteArray) : s.toList.length = s.size := by rw [Lib.toList_data]; exact data_length' s
theorem msg_facts {w : World} {mb : Nat} {m : Msg} {A : Option Addr} {c : Nat} (h : MB w mb m A c) : w.cell? ⟨mb, 0, none⟩ = some (.int .i64 m.kind) ∧ w.cell? ⟨mb, 1, none⟩ = some (.string m.f) ∧ w.cell? ⟨mb, 2, none⟩ = some (.string m.e) ∧ w.cell? ⟨mb, 3, none⟩ = some (.string m.t) ∧ w.cell? ⟨mb, 4, none⟩ = some (.int .i64 m.n) ∧ w.cell? ⟨mb, 5, none⟩ = some (.int .i64 m.state) ∧
    w.cell? ⟨mb, 6, none⟩ = some (.int .i64 m.number) ∧ w.cell? ⟨mb, 7, none⟩ = some (.int .i64 m.epoch) ∧ w.cell? ⟨mb, 8, none⟩ = some (.slice A m.items.length c) :=
  ⟨(h.cell 0 rfl).1, (h.cell 1 rfl).1, (h.cell 2 rfl).1, (h.cell 3 rfl).1, (h.cell 4 rfl).1, (h.cell 5 rfl).1, (h.cell 6 rfl).1, (h.cell 7 rfl).1, (h.cell 8 rfl).1⟩
theorem msg_free {w : World} {mb : Nat} {m : Msg} {A : Option Addr} {c : Nat} (h : MB w mb m A c) : ∀ k, w.frozen? ⟨mb, k, none⟩ = false := fun k => by
  have : w.heap[mb]? = some (.cells (msgCells m A c) 115) := h
  simp [World.frozen?, this]

set_option maxHeartbeats 8000000 in
theorem unpack_c (A : Option Addr) (n c : Nat) (m : Msg) (extra : List Int) (w : World) (hv : validS m = true) (hk0 : 0 ≤ m.kind) (hk1 : m.kind < 256) (hB : Back m.items) (hm : MsgOk m) (hneed : ∀ x ∈ m.items, (npartsS x.re x.im).isSome = true)
    (hfs0 : 0 < (fieldsS m.kind).size) (hR : Rd w A n (u8s (packB m ++ extra))) (hnc : n ≤ c) (hn : n ≤ 1000000000) (R : Ending → World → Prop)
    (hok : extra = [] → ∀ A' c' w', Below w.heap.size w w' → ItmsH w' A' m.items.length m.items → R (.returned (.tuple #[msgV m A' c', .int .i64 0])) w')
    (hbad : extra ≠ [] → ∀ w', Below w.heap.size w w' → R (.returned (.tuple #[msgV (blank 0) none 0, .int .i64 2])) w') :
    Calls Tryz.prog 119 #[.slice A n c] w R := by
  have Hok := Lib.hid hok
  have Hbad := Lib.hid hbad
  have HR := Lib.hid hR
  have Hv := Lib.hid hv
  have Hgood := Lib.hid (valid_good hv hB)
  have Hneed := Lib.hid hneed
  have Hm := Lib.hid hm
  have hq : isQ (fieldsS m.kind) = false := (valid_parts hv).1
  have hlet := (fields_letters m.kind).resolve_left (by rw [hq]; simp)
  have hin := (fields_in m.kind).resolve_left (by rw [hq]; simp)
  have hall := partM_all m hv
  have hpk : packB m = m.kind :: ((bytesL (fieldsS m.kind)).map (fieldB m)).flatten := by unfold packB; rw [Int.emod_eq_of_lt hk0 hk1]
  have hlen : n = (packB m ++ extra).length := by have := hR.1; rw [u8s_length] at this; exact this.symm
  have hn1 : 1 ≤ n := by rw [hlen, hpk]; simp
  obtain ⟨g0, o0, rfl, hg0, hcell⟩ : ∃ g0 o0, A = some ⟨g0, o0, none⟩ ∧ g0 < w.heap.size ∧ w.cell? ⟨g0, o0, none⟩ = some (.int .u8 m.kind) := by
    obtain ⟨g, o, e, hg, hc⟩ := hR.2 (by omega)
    exact ⟨g, o, e, hg, hc 0 _ (by rw [hpk]; rfl)⟩
  obtain ⟨fs, hfs⟩ : ∃ fs, fs = fieldsS m.kind := ⟨_, rfl⟩
  rw [← hfs] at hlet hin hall hpk hfs0
  have Hfs := Lib.hid hfs
  have Hlet := Lib.hid hlet
  have Hin := Lib.hid hin
  have hfs5 := fs_five hin
  have Hall := Lib.hid hall
  have Hpk := Lib.hid hpk
  have hdrop := hR.drop_ (k := 1) hn1 hnc
  have hd2 : (u8s (packB m ++ extra)).drop 1 = u8s ((((bytesL fs).map (fieldB m)).flatten) ++ extra) := by rw [hpk]; rfl
  rw [hd2] at hdrop
  have Hdrop := Lib.hid hdrop
  have Hnc := Lib.hid hnc
  obtain ⟨A1, hA1⟩ : ∃ A1, A1 = (if c = 1 then some (⟨g0, o0, none⟩ : Addr) else Option.map (fun x : Addr => x.add 1) (some ⟨g0, o0, none⟩)) := ⟨_, rfl⟩
  have hsl := fun w => slice_from (some ⟨g0, o0, none⟩) n c 1 1 rfl hn1 w
  rw [← hA1] at hsl Hdrop
  have Hsl := Lib.hid hsl
  have hnI : (n == 0) = false := by simp; omega
  have hnI2 : ((n : Int) == 0) = false := by simp; omega
  clear hok hbad hR hv hneed hm hq hlet hin hall hpk hlen hfs hdrop hd2 hA1 hsl hnc hB
  go_enter Tryz.func119, Tryz.ntmps119
  go_wp2_with fail
  refine wp_scope_jumps 0 (UnJ w m fs extra (some ⟨g0, o0, none⟩) n c) (fun a' _ => fs.size - (RowKit.intOf (a'.tmps.getD 5 undef)).toNat) rfl ?_ ?_
  · go_wp2_with (refine wpList_sliceAt rfl _ _ _ rfl (.slice A1 (n - 1) (c - 1)) (.int .i64 1) _ rfl rfl (Hsl.out _) ?_)
    refine namedU (fun W => Below w.heap.size w W ∧ W.heap.size = w.heap.size + 2 ∧ W.heap[w.heap.size]? = some (.cells (msgCells (blank 0) none 0) 115) ∧ MB W (w.heap.size + 1) (blank m.kind) none 0) ⟨((Below.refl _ _).alloc (Nat.le_refl _) _).alloc (by simp) _, by simp, heap_alloc2_old w _ _, heap_alloc2_new w _ _⟩ (fun W0 hW => ?_)
    obtain ⟨b0, b1, b2, b3⟩ := hW
    refine rdNew_c A1 (n - 1) (c - 1) _ W0 (Hdrop.out.below b0) (by omega) _ (fun r g w1 hB1 hr1 hg1 hR1 => ?_)
    have hM1 : MB w1 (w.heap.size + 1) (blank m.kind) none 0 := b3.kept (Kept.of_below (S := []) hB1) (by simp)
    have hres : w1.heap[w.heap.size]? = some (.cells (msgCells (blank 0) none 0) 115) := (hB1.block _ (by omega)).trans b2
    have hsz1 := hB1.size
    have hBw : Below w.heap.size w w1 := b0.trans (hB1.mono (by omega))
    obtain ⟨hc0, _⟩ := hM1.cell 0 (v := .int .i64 m.kind) rfl
    obtain ⟨C, cap, hcv, hcap, hC⟩ := conv_fields Hin.out w1
    have hml := hM1.lt
    have hrl := hR1.lt
    have HBw := Lib.hid hBw
    have HM1 := Lib.hid hM1
    have Hres := Lib.hid hres
    have HR1 := Lib.hid hR1
    have Hcv := Lib.hid hcv
    have HC := Lib.hid hC
    rw [b1] at hr1 hg1 hsz1
    clear b0 b1 b2 b3 hM1 hres hBw hcv hC hR1 hB1
    go_wp2_with fail
    refine fields_c _ _ _ ?_
    rw [← Hfs.out]
    go_wp2_with (refine wpList_conv rfl _ _ _ rfl (.string fs) _ rfl _ Hcv.out ?_)
    refine namedX (fun W => UnSt w r g w1.heap.size m fs extra C 0 W) ?_ (fun W hst => ?_)
    · exact un_start HBw.out Hres.out HM1.out HR1.out hr1 hg1 (by omega) (by omega)
    obtain ⟨q, hqq⟩ : ∃ q, q = w1.heap.size := ⟨_, rfl⟩
    rw [← hqq] at hst ⊢
    have hC := HC.out
    clear hqq HC hc0 hml hrl Hres HBw HM1 HR1 Hcv
    obtain ⟨ch, hch⟩ : ∃ ch, (bytesL fs)[0]? = some ch := ⟨_, List.getElem?_eq_getElem (by rw [bytesL_length]; exact hfs0)⟩
    have hlt := Hlet.out ch (List.mem_of_getElem? hch)
    obtain ⟨A', c', hM, hI⟩ := hst.mem
    have hcc : W.cell? ⟨q, 0, none⟩ = some (.int .i32 ch) := by rw [cell_of_row W q 0 _ _ _ hst.runes]; exact hC 0 ch hch
    have hne : (ch == 63) = false := by
      simp only [fieldLetters, List.mem_cons, List.mem_nil_iff, or_false] at hlt
      rcases hlt with rfl | rfl | rfl | rfl | rfl | rfl | rfl | rfl <;> rfl
    have t1 : decide (0 < fs.size) = true := by simp [hfs0]
    have hrd := hst.rdr
    rw [rest_at hch] at hrd
    have hqs : q < W.heap.size := (Array.getElem?_eq_some_iff.1 hst.runes).1
    have hr1 := hst.r1
    have hg1 := hst.g1
    have Hrd := Lib.hid hrd
    have Hst := Lib.hid hst
    have Hch := Lib.hid hch
    have Hlt := Lib.hid hlt
    have HM := Lib.hid hM
    have HI := Lib.hid hI
    have HC := Lib.hid hC
    clear hrd hst hch hlt hM hI hC
    go_step3
    go_wp2_with fail
    refine readAny_c (w.heap.size + 1) r g ch Hlt.out m _ A' c' _ W Hgood.out (by rw [← Hfs.out]; exact has_at Hch.out) Hrd.out HM.out HI.out (by omega) (by omega) _ (fun A2 c2 W2 hk2 hR2 hM2 hI2 => ?_)
    have Hst2 := Lib.hid (Hst.out.step Hch.out rfl hk2 hR2 hM2 hI2)
    clear hk2 hR2 hM2 hI2 hcc hne
    go_wp2_with fail
    go_step3
    exact ⟨rfl, r, g, q, cap, 1, C, by omega, Hst2.out, HC.out, _, _, _, _, _, _, _, _, _, _, _, _, _, _, _, _, _, _, _, _, _, _, _, _, _, _, _, _, _, _, _, _, _, _, _, _, _, _, _, _, _, _, _, _, _, _, _, _, _, _, _, _, _, _, rfl⟩
  · rintro a' W ⟨r, g, q, cap, k, C, hk, hst, hC, u1, u8, u9, u10, u11, u12, u13, u14, u15, u16, u17, u18, u19, u20, u21, u22, u23, u24, u25, u26, u27, u28, u29, u30, u31, u32, u33, u34, u35, u36, u37, u38, u39, u40, u41, u42, u43, u44, u45, u46, u47, u48, u49, u50, u51, u52, u53, u54, u55, u56, u57, u58, u59, u60, rfl⟩
    by_cases hkk : k < fs.size
    · obtain ⟨ch, hch⟩ : ∃ ch, (bytesL fs)[k]? = some ch := ⟨_, List.getElem?_eq_getElem (by rw [bytesL_length]; exact hkk)⟩
      have hlt := Hlet.out ch (List.mem_of_getElem? hch)
      obtain ⟨A', c', hM, hI⟩ := hst.mem
      have hcc : W.cell? ⟨q, k, none⟩ = some (.int .i32 ch) := by rw [cell_of_row W q k _ _ _ hst.runes]; exact hC k ch hch
      have hne : (ch == 63) = false := by
        simp only [fieldLetters, List.mem_cons, List.mem_nil_iff, or_false] at hlt
        rcases hlt with rfl | rfl | rfl | rfl | rfl | rfl | rfl | rfl <;> rfl
      have t1 : decide (k < fs.size) = true := by simp [hkk]
      have hrd := hst.rdr
      rw [rest_at hch] at hrd
      have hqs : q < W.heap.size := (Array.getElem?_eq_some_iff.1 hst.runes).1
      have hr1 := hst.r1
      have hg1 := hst.g1
      have Hrd := Lib.hid hrd
      have Hst := Lib.hid hst
      have Hch := Lib.hid hch
      have Hlt := Lib.hid hlt
      have HM := Lib.hid hM
      have HI := Lib.hid hI
      have HC := Lib.hid hC
      clear hrd hst hch hlt hM hI hC
      go_wp2_with fail
      refine readAny_c (w.heap.size + 1) r g ch Hlt.out m _ A' c' _ W Hgood.out (by rw [← Hfs.out]; exact has_at Hch.out) Hrd.out HM.out HI.out (by omega) (by omega) _ (fun A2 c2 W2 hk2 hR2 hM2 hI2 => ?_)
      have Hst2 := Lib.hid (Hst.out.step Hch.out rfl hk2 hR2 hM2 hI2)
      clear hk2 hR2 hM2 hI2 hcc hne
      go_wp2_with fail
      go_step3
      refine ⟨rfl, ⟨r, g, q, cap, k + 1, C, by omega, Hst2.out, HC.out, _, _, _, _, _, _, _, _, _, _, _, _, _, _, _, _, _, _, _, _, _, _, _, _, _, _, _, _, _, _, _, _, _, _, _, _, _, _, _, _, _, _, _, _, _, _, _, _, _, _, _, _, _, _, rfl⟩, ?_⟩
      simp [RowKit.intOf]
      omega
    · obtain rfl : k = fs.size := by omega
      have t1 : decide (fs.size < fs.size) = false := by simp
      obtain ⟨A', c', hM, hI⟩ := hst.mem
      have htk : (bytesL fs).take fs.size = bytesL fs := List.take_of_length_le (by rw [bytesL_length]; omega)
      rw [htk, Hall.out] at hM hI
      have hres := hst.res
      have Hres := Lib.hid hres
      have HM := Lib.hid hM
      have HI := Lib.hid hI
      have hbel := hst.below
      have Hbel := Lib.hid hbel
      have hml := hM.lt
      obtain ⟨m0, m1, m2, m3, m4, m5, m6, m7, m8⟩ := msg_facts hM
      clear hst hM hI hres hbel htk hkk hC
      go_wp2_with fail
      refine pack_c m A' c' W Hm.out HI.out.1.1 (fun _ => Hneed.out) _ (fun hx => by rw [Hv.out] at hx; cases hx) (fun _ v w2 hB2 hown => ?_)
      obtain ⟨Av, cv, rfl, hrv, _⟩ := own_rd hown
      have hc1 := conv_text (c := cv) hrv
      have hc2 := conv_text (c := c) (HR.out.below (Hbel.out.trans (hB2.mono Hbel.out.size)))
      have Hc1 := Lib.hid hc1
      have Hc2 := Lib.hid hc2
      have HM2 := Lib.hid (HM.out.kept (Kept.of_below (S := []) hB2) (by simp))
      have Hres2 : Hid (w2.heap[w.heap.size]? = some (.cells (msgCells (blank 0) none 0) 115)) := Lib.hid ((hB2.block _ (by omega)).trans Hres.out)
      have HI2 := Lib.hid (HI.out.1.below hB2)
      have HB2 := Lib.hid (Hbel.out.trans (hB2.mono Hbel.out.size))
      have hsz2 := hB2.size
      clear hrv hc1 hc2 hown hB2 m0 m1 m2 m3 m4 m5 m6 m7 m8
      go_wp2_with fail
      refine (Tryz.bytes_Equal_strs _ _ _ _ w2 Hc1.out Hc2.out).mono ?_
      rintro e w' ⟨rfl, rfl⟩
      obtain ⟨r0, r1, r2, r3, r4, r5, r6, r7, r8⟩ := msg_facts (show MB w' w.heap.size (blank 0) none 0 from Hres2.out)
      have hfr := msg_free (show MB w' w.heap.size (blank 0) none 0 from Hres2.out)
      have f0 := hfr 0
      have f1 := hfr 1
      have f2 := hfr 2
      have f3 := hfr 3
      have f4 := hfr 4
      have f5 := hfr 5
      have f6 := hfr 6
      have f7 := hfr 7
      have f8 := hfr 8
      have hrl : w.heap.size < w'.heap.size := by omega
      have hml2 : w.heap.size + 1 < w'.heap.size := by omega
      have hBz : ∀ Wz : World, Below w.heap.size w' Wz → Below w.heap.size w Wz := fun Wz h => HB2.out.trans h
      have HBz := Lib.hid hBz
      clear hfr hBz
      by_cases hex : extra = []
      · have hb : ((strOfNums (packB m)).toList == (strOfNums (packB m ++ extra)).toList) = true := by rw [hex, List.append_nil]; simp
        rw [hb]
        have H := Lib.hid (Hok.out hex)
        obtain ⟨m0, m1, m2, m3, m4, m5, m6, m7, m8⟩ := msg_facts HM2.out
        clear hb hex
        go_wp2_with fail
        simp only [Exit.jump]
        have hW := set9_mb (m := m) (A := A') (c := c') (show MB w' w.heap.size (blank 0) none 0 from Hres2.out)
        have hK := set9_kept w' w.heap.size m A' c'
        refine bodyPost_ret (results_ct rfl _ _ ⟨w.heap.size, 0, none⟩ (msgV m A' c') rfl (run_loadVar_row _ _ _ _ _ _ _ hW Tryz.underlying115 rfl (by kernel_rfl))) rfl ?_
        exact H.out A' c' _ (HBz.out _ (set9_below w' w.heap.size m A' c')) (itms_kept HI2.out hK (fun a ha h0 => by have := HI.out.2 a ha h0; simp; omega))
      · have hb : ((strOfNums (packB m)).toList == (strOfNums (packB m ++ extra)).toList) = false := by
          apply Bool.eq_false_iff.2
          intro h
          have h := eq_of_beq h
          have h2 : (strOfNums (packB m)).size = (strOfNums (packB m ++ extra)).size := by
            have := congrArg List.length h
            rwa [toList_len, toList_len] at this
          rw [strOfNums_size, strOfNums_size, List.length_append] at h2
          exact hex (List.eq_nil_of_length_eq_zero (by omega))
        rw [hb]
        have H := Lib.hid (Hbad.out hex)
        clear hb hex
        go_wp2_with fail
        simp only [Exit.jump]
        have hW := set9_mb (m := blank 0) (A := none) (c := 0) (show MB w' w.heap.size (blank 0) none 0 from Hres2.out)
        refine bodyPost_ret (results_ct rfl _ _ ⟨w.heap.size, 0, none⟩ (msgV (blank 0) none 0) rfl (run_loadVar_row _ _ _ _ _ _ _ hW Tryz.underlying115 rfl (by kernel_rfl))) rfl ?_
        exact H.out _ (HBz.out _ (set9_below w' w.heap.size (blank 0) none 0))
end Go.Proofs.YtdmcponfodohaaaGreatDoor
