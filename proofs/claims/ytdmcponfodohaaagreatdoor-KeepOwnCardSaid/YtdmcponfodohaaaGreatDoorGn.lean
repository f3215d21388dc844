/-
  Several texts in one: RecA, UpdA, AckA; each says at its head what it holds.
-/
import Derived.Test.YtdmcponfodohaaaGreatDoorGm
/-
  package record: Pack, Add; keep.add.
-/
namespace Go.Proofs.YtdmcponfodohaaaGreatDoor
open Go.RowKit Go.Shelf Go.ChangeMaps Go.MapKept
set_option maxRecDepth 100000

/-- A record. -/
def recB (b : List Int) : List Int := (b.length : Int) :: (b ++ [165])
theorem recB_len (b : List Int) : (recB b).length = b.length + 2 := by simp [recB]
theorem recB_flat (b : List Int) : [[(b.length : Int)], b, [165]].flatten = recB b := by simp [recB]
theorem rd_one (w : World) (x : Int) : Rd (w.alloc (.cells #[.int .u8 x] 5)) (some ⟨w.heap.size, 0, none⟩) 1 (u8s [x]) := rd_new w #[.int .u8 x] 5 rfl
theorem three_totalR (b : List Int) (h : b.length ≤ 1000) : total [[(b.length : Int)], b, [165]] ≤ 1000000000 := by
  simp only [total, List.flatten_cons, List.flatten_nil, List.length_append, List.length_nil, List.length_cons]
  omega
set_option maxHeartbeats 2000000 in
theorem recPack_c (A : Option Addr) (n c : Nat) (b : List Int) (w : World) (hR : Rd w A n (u8s b)) (hn : n ≤ 100) (R : Ending → World → Prop)
    (h : ∀ v w', Below w.heap.size w w' → w'.ownsRow w.heap.size 5 1 v (recB b).length (u8s (recB b)) → R (.returned v) w') :
    Calls Tryz.prog 83 #[.slice A n c] w R := by
  have H := Lib.hid h
  have hl : b.length = n := by have := hR.1; rwa [u8s_length] at this
  have hwr : IntKind.u8.wrap (n : Int) = (n : Int) := Go.IntWalk.u8_in _ (by omega)
  have hb1 : Below w.heap.size w (w.alloc (.cells #[.int .u8 (n : Int)] 5)) := (Below.refl _ _).alloc (Nat.le_refl _) _
  have hb2 : Below (w.alloc (.cells #[.int .u8 (n : Int)] 5)).heap.size (w.alloc (.cells #[.int .u8 (n : Int)] 5)) ((w.alloc (.cells #[.int .u8 (n : Int)] 5)).alloc (.cells #[.int .u8 165] 5)) := (Below.refl _ _).alloc (Nat.le_refl _) _
  have hrows := rows_3l (n1 := 1) (n2 := n) (n3 := 1) (c1 := 1) (c2 := c) (c3 := 1) ((w.alloc (.cells #[.int .u8 (n : Int)] 5)).alloc (.cells #[.int .u8 165] 5)) (l1 := [(n : Int)]) (l2 := b) (l3 := [165]) rfl hl.symm rfl ((rd_one w n).below hb2) (by rw [hl]; exact (hR.below hb1).below hb2) (rd_one _ 165)
  simp only [World.size_alloc] at hrows
  have Hrows := Lib.hid hrows
  have hb3 := (hb1.trans (hb2.mono hb1.size)).alloc (Nat.le_trans hb1.size hb2.size) (.cells #[.slice (some ⟨w.heap.size, 0, none⟩) 1 1, .slice A n c, .slice (some ⟨w.heap.size + 1, 0, none⟩) 1 1] 37)
  have Hb3 := Lib.hid hb3
  have Hl := Lib.hid hl
  clear h hR hl hb1 hb2 hb3 hrows
  go_enter Tryz.func83, Tryz.ntmps83
  go_wp2_with fail
  refine concat_c _ 3 3 _ _ Hrows.out (by omega) (by have h1 := three_totalR b (by have := Hl.out; omega); rw [Hl.out] at h1; exact h1) _ (fun v w4 hb4 hown => ?_)
  have hfl := recB_flat b
  rw [Hl.out] at hfl
  rw [hfl] at hown
  have HH := Lib.hid (H.out v w4 (Hb3.out.trans (hb4.mono Hb3.out.size)) (own_mono hown Hb3.out.size))
  clear hb4 hown hfl
  go_wp2_with fail
  exact HH.out

theorem mput_mput {κ ν : Type} [DecidableEq κ] (l : List (κ × ν)) (k : κ) (v u : ν) : mput (mput l k v) k u = mput l k u := by
  have e : ∀ (m : List (κ × ν)), (mget m k).isSome = true → mput m k u = m.map (fun p => if p.1 = k then (k, u) else p) := fun m hm => by
    unfold mput
    rw [any_mget, hm, if_pos rfl]
  rw [e _ (by rw [mget_mput]; rfl)]
  unfold mput
  rw [any_mget]
  cases hm : mget l k with
  | none =>
    simp only [Option.isSome_none, Bool.false_eq_true, if_false, List.map_append, List.map_cons, List.map_nil, if_true]
    congr 1
    refine (List.map_congr_left (g := id) fun y hy => ?_).trans (List.map_id l)
    have := mget_none hm y hy
    rw [if_neg this]
    rfl
  | some x =>
    simp only [Option.isSome_some, if_true, List.map_map]
    refine List.map_congr_left fun y hy => ?_
    simp only [Function.comp]
    by_cases h : y.1 = k
    · simp [h]
    · simp [h]
set_option maxHeartbeats 2000000 in
theorem recAdd_c (d mb : Nat) (q : Int) (l : List (ByteArray × FV)) (p : ByteArray) (A : Option Addr) (n c : Nat) (b : List Int) (w : World) (hD : DiskAt w d mb q l) (hp : full p) (hps : p.size ≤ maxLen) (hR : Rd w A n (u8s b)) (hn : n ≤ 100) (hroom : (n : Int) + 2 ≤ q - usedL l) (R : Ending → World → Prop)
    (h : ∀ f w', Kept [mb] w w' → f.b = (fileOf l p).b ++ recB b → f.sy = (f.b.length : Int) → f.fi = true → DiskAt w' d mb q (mput l p f) → R (.returned (.int .i64 0)) w') :
    Calls Tryz.prog 84 #[.pointer (some ⟨d, 0, none⟩), .string p, .slice A n c] w R := by
  have H := Lib.hid h
  have HD := Lib.hid hD
  have HR := Lib.hid hR
  have hl : b.length = n := by have := hR.1; rwa [u8s_length] at this
  have Hl := Lib.hid hl
  have t1 : decide (200 < (n : Int)) = false := by simp; omega
  clear h hD hR hl
  go_enter Tryz.func84, Tryz.ntmps84
  go_wp2_with fail
  refine recPack_c A n c b w HR.out hn _ (fun v w1 hb1 hown => ?_)
  obtain ⟨A1, c1, rfl, hr1, _⟩ := own_rd hown
  have HB1 := Lib.hid hb1
  have HR1 := Lib.hid hr1
  have HD1 := Lib.hid (HD.out.below hb1)
  have hln : (recB b).length = n + 2 := by rw [recB_len, Hl.out]
  rw [hln] at HR1 ⊢
  clear hb1 hown hr1 hln
  go_wp2_with fail
  refine append_c d mb q l p A1 (n + 2) c1 (recB b) w1 HD1.out hp hps HR1.out (by omega) _ (fun f1 w2 hk2 hf1 _ _ hD2 => ?_)
  have HD2 := Lib.hid hD2
  have Hk2 := Lib.hid ((Kept.of_below (S := [mb]) HB1.out).trans hk2)
  have Hf1 := Lib.hid hf1
  clear hk2 hf1 hD2
  go_wp2_with fail
  refine sync_c d mb q _ p w2 HD2.out hp hps (by rw [mget_mput]; rfl) _ (fun f2 w3 hk3 hf2 hs2 hi2 hD3 => ?_)
  rw [fileOf_put] at hf2 hs2
  rw [mput_mput] at hD3
  have HH := Lib.hid (H.out f2 w3 (Hk2.out.trans hk3) (by rw [hf2, Hf1.out]) (by rw [hf2]; exact hs2) hi2 hD3)
  clear hk3 hf2 hs2 hi2 hD3
  go_wp2_with fail
  exact HH.out

/-- Where a task's log is. -/
def logP (x : TKey) : ByteArray := ⟨#[108, 111, 103, 47]⟩ ++ x.f ++ ⟨#[47]⟩ ++ x.t
theorem right_size {f : ByteArray} (h : rightS f = true) : f.size ≤ 8 := by unfold rightS at h; simp only [Bool.and_eq_true, decide_eq_true_eq] at h; omega
theorem log_size (x : TKey) (hf : rightS x.f = true) (ht : rightS x.t = true) : (logP x).size ≤ 21 := by
  have h1 := right_size hf
  have h2 := right_size ht
  unfold logP
  rw [ByteArray.size_append, ByteArray.size_append, ByteArray.size_append]
  have e1 : (⟨#[108, 111, 103, 47]⟩ : ByteArray).size = 4 := rfl
  have e2 : (⟨#[47]⟩ : ByteArray).size = 1 := rfl
  omega
theorem full_of_size {p : ByteArray} (h : 0 < p.size) : full p := by
  unfold full
  rw [beq_eq_false_iff_ne]
  intro e
  have h1 := congrArg List.length e
  rw [Lib.toList_data, Lib.toList_data, data_length', data_length'] at h1
  have h0 : (⟨#[]⟩ : ByteArray).size = 0 := rfl
  omega
theorem log_full (x : TKey) : full (logP x) := full_of_size (by
  unfold logP
  rw [ByteArray.size_append, ByteArray.size_append, ByteArray.size_append]
  have e1 : (⟨#[108, 111, 103, 47]⟩ : ByteArray).size = 4 := rfl
  omega)
section
variable {k d mb sm : Nat} {q : Int} {l : List (ByteArray × FV)} {ep : Int} {es : List ER} {ss : SM}
set_option maxHeartbeats 4000000 in
theorem addk_c (x : TKey) (hf : rightS x.f = true) (ht : rightS x.t = true) (A : Option Addr) (n c : Nat) (b : List Int) (w : World) (hK : KeepAt w k d mb sm q l ep es ss) (hR : Rd w A n (u8s b)) (hn : n ≤ 100) (hroom : (n : Int) + 2 + 32 ≤ q - usedL l) (R : Ending → World → Prop)
    (h : ∀ v w', Kept [mb] w w' → v.b = (fileOf l (logP x)).b ++ recB b → v.sy = (v.b.length : Int) → v.fi = true → KeepAt w' k d mb sm q (mput l (logP x) v) ep es ss → R (.returned (.int .i64 0)) w') :
    Calls Tryz.prog 48 #[.pointer (some ⟨k, 0, none⟩), x.v, .slice A n c] w R := by
  have H := Lib.hid h
  have hls := log_size x hf ht
  have hlf := log_full x
  obtain ⟨p, hp⟩ : ∃ p, p = logP x := ⟨_, rfl⟩
  rw [← hp] at hls hlf H
  have Hp := Lib.hid hp
  have hb0 : Below w.heap.size w (w.alloc (.cells #[.string x.f, .string x.t] 33)) := (Below.refl _ _).alloc (Nat.le_refl _) _
  have HB0 := Lib.hid hb0
  have HK0 := Lib.hid (hK.below hb0)
  have HR0 := Lib.hid (hR.below hb0)
  have hX0 := heap_alloc_new w (.cells #[.string x.f, .string x.t] 33)
  have hl : b.length = n := by have := hR.1; rwa [u8s_length] at this
  have hq := hK.disk.quota
  obtain ⟨xf, xt⟩ := x
  have Hf := Lib.hid hf
  have Ht := Lib.hid ht
  unfold TKey.v
  simp only [] at HB0 HK0 HR0 hX0 Hf Ht
  have Hl := Lib.hid hl
  have HX0 := Lib.hid hX0
  obtain ⟨A0, C0, c0, c1, c2, c3, c4, z1, z2, z4, _⟩ := HK0.out.cells
  have hlt := HK0.out.lt.1
  clear h hK hR hb0 hX0 hl hp hf ht
  go_enter Tryz.func48, Tryz.ntmps48
  go_wp2_with fail
  refine room_c d mb q l _ HK0.out.disk _ (fun w1 hB1 => ?_)
  have HB1 := Lib.hid (HB0.out.trans (hB1.mono HB0.out.size))
  have HR1 := Lib.hid (HR0.out.below hB1)
  have HK1 := Lib.hid (HK0.out.below hB1)
  have HX1 := Lib.hid ((hB1.block w.heap.size (Array.getElem?_eq_some_iff.1 HX0.out).1).trans HX0.out)
  clear hB1
  go_wp2_with fail
  refine recPack_c A n c b w1 HR1.out hn _ (fun v w2 hb2 hown => ?_)
  have HB2 := Lib.hid (HB1.out.trans (hb2.mono HB1.out.size))
  have HK2 := Lib.hid (HK1.out.below hb2)
  have HR2 := Lib.hid (HR1.out.below hb2)
  have hX2 := (hb2.block w.heap.size (Array.getElem?_eq_some_iff.1 HX1.out).1).trans HX1.out
  obtain ⟨A1, C1, rfl, _, _⟩ := own_rd hown
  have hln : (recB b).length = n + 2 := by rw [recB_len, Hl.out]
  rw [hln]
  have hul : (usedL l : Int) ≤ q := HK2.out.disk.used
  obtain ⟨rm, hrm⟩ : ∃ rm, rm = q - (usedL l : Int) := ⟨_, rfl⟩
  rw [← hrm] at hroom ⊢
  have Hrm := Lib.hid hrm
  have hroom2 : decide (rm < (n : Int) + 2 + 32) = false := by simp; omega
  have hroom3 : decide (rm < ((n + 2 : Nat) : Int) + 32) = false := by simp; omega
  obtain ⟨B0, D0, c0, c1, c2, c3, c4, z1, z2, z4, _⟩ := HK2.out.cells
  have hlt2 := HK2.out.lt.1
  have x0 : w2.cell? ⟨w.heap.size, 0, none⟩ = some (.string xf) := by rw [cell_of_row _ _ _ _ _ _ hX2]; rfl
  have x1 : w2.cell? ⟨w.heap.size, 1, none⟩ = some (.string xt) := by rw [cell_of_row _ _ _ _ _ _ hX2]; rfl
  have xl := (Array.getElem?_eq_some_iff.1 hX2).1
  have HX2 := Lib.hid hX2
  clear hb2 hown hX2 hln hrm hul
  go_wp2_with fail
  go_region_with (first
    | (go_at_call 85; refine pathLog_c xf xt Hf.out Ht.out _ _ (fun w3 hB3 => ?_); have HB3 : Hid (Below w2.heap.size w2 w3) := Lib.hid ((Below.refl _ _).drew.trans hB3); have HK3 : Hid (KeepAt w3 k d mb sm q l ep es ss) := Lib.hid (HK2.out.below HB3.out); obtain ⟨A3, C3, v0, v1, v2, v3, v4, u1, u2, u4, _⟩ := HK3.out.cells; have hlt3 := HK3.out.lt.1; clear hB3)
    | (go_at_call 84; (refine recAdd_c d mb q l _ A n c b w3 HK3.out.disk (by rw [show (⟨#[108, 111, 103, 47]⟩ ++ xf ++ ⟨#[47]⟩ ++ xt : ByteArray) = p from Hp.out.symm]; exact hlf) (by rw [show (⟨#[108, 111, 103, 47]⟩ ++ xf ++ ⟨#[47]⟩ ++ xt : ByteArray) = p from Hp.out.symm]; unfold maxLen; omega) (HR2.out.below HB3.out) hn (by have := Hrm.out; omega) _ (fun fv w4 hk4 hf4 hs4 hi4 hD4 => ?_)); have HK4 : Hid (KeepAt w4 k d mb sm q (mput l (⟨#[108, 111, 103, 47]⟩ ++ xf ++ ⟨#[47]⟩ ++ xt) fv) ep es ss) := Lib.hid (HK3.out.files hk4 hD4); have Hk4 : Hid (Kept [mb] w w4) := Lib.hid ((Kept.of_below (HB2.out.trans (HB3.out.mono HB2.out.size))).trans hk4); have HF4 := Lib.hid (And.intro hf4 (And.intro hs4 hi4)); obtain ⟨A4, C4, t0, t1, t2, t3, t4, s1, s2, s4, _⟩ := HK4.out.cells; have hlt4 := HK4.out.lt.1; clear hk4 hf4 hs4 hi4 hD4)
    | (go_at_call 66; refine done_c k d mb sm q _ ep es ss 0 (by decide) w4 HK4.out _ (fun w5 hk5 hK5 => ?_); have HH := Lib.hid (H.out fv w5 (Hk4.out.trans (hk5.mono (by simp))) (by rw [Hp.out]; exact HF4.out.1) HF4.out.2.1 HF4.out.2.2 (by rw [Hp.out]; exact hK5)); clear hk5 hK5))
  all_goals
    go_wp2_with fail
    refine bodyPost_ret (results_tmp rfl _ _ _) rfl ?_
    exact HH.out
end
end Go.Proofs.YtdmcponfodohaaaGreatDoor
/-
  keep.Update, when it is done.
-/
namespace Go.Proofs.YtdmcponfodohaaaGreatDoor
open Go.RowKit Go.Shelf Go.ChangeMaps Go.MapKept
set_option maxRecDepth 100000

theorem right_okK {x : TKey} (hf : rightS x.f = true) (ht : rightS x.t = true) : okK x := by
  have h1 := right_size hf
  have h2 := right_size ht
  exact ⟨by unfold maxLen; omega, by unfold maxLen; omega⟩
theorem catB {w W Wx W' : World} (h : Below w.heap.size w W) (hx : Below W.heap.size W Wx) (h' : Below Wx.heap.size Wx W') : Below w.heap.size w W' := (h.trans (hx.mono h.size)).trans (h'.mono (Nat.le_trans h.size hx.size))
theorem total3 (l1 l2 l3 : List Int) (h1 : l1.length ≤ 1000) (h2 : l2.length ≤ 1000) (h3 : l3.length ≤ 1000) : total [l1, l2, l3] ≤ 1000000000 := by
  simp only [total, List.flatten_cons, List.flatten_nil, List.length_append, List.length_nil]
  omega
theorem total2s (l1 l2 : List Int) (h1 : l1.length ≤ 1000) (h2 : l2.length ≤ 1000) : total [l1, l2] ≤ 1000000000 := by
  simp only [total, List.flatten_cons, List.flatten_nil, List.length_append, List.length_nil]
  omega
/-- What stands behind a concatenation of three rows laid by the call. -/
theorem cat3_end {w W W' : World} {X : Obj} {v : Value} {l1 l2 l3 ls : List Int} (hls : ls = l1 ++ (l2 ++ l3)) (h : Below w.heap.size w W) (h' : Below (W.alloc X).heap.size (W.alloc X) W') (ho : W'.ownsRow (W.alloc X).heap.size 5 1 v [l1, l2, l3].flatten.length (u8s [l1, l2, l3].flatten)) :
    Below w.heap.size w W' ∧ W'.ownsRow w.heap.size 5 1 v ls.length (u8s ls) := by
  subst hls
  have h2 := h.alloc h.size X
  refine ⟨h2.trans (h'.mono h2.size), ?_⟩
  have := own_mono ho h2.size
  simpa using this
section
variable {k d mb sm : Nat} {q : Int} {l : List (ByteArray × FV)} {ep : Int} {es : List ER} {ss : SM}
theorem drew_b (W : World) : Below W.heap.size W W.drew := (Below.refl _ _).drew
theorem alloc_b (W : World) (X : Obj) : Below W.heap.size W (W.alloc X) := (Below.refl _ _).alloc (Nat.le_refl _) _
set_option maxHeartbeats 16000000 in
theorem update_c (x : TKey) (hf : rightS x.f = true) (ht : rightS x.t = true) (p : Nat × Strm) (n st : Int) (w : World) (hK : KeepAt w k d mb sm q l ep es ss) (hin : mget ss x = some p) (hfew : p.2.l.length + 1 ≤ 100) (hm : mayB (stOf p.2) st = true) (hn : n = (p.2.l.length : Int) + 1) (hs0 : 0 ≤ st) (hs1 : st < 128) (hroom : 37 ≤ q - (usedL l : Int)) (R : Ending → World → Prop)
    (h : ∀ v s' w', Kept [mb, sm] w w' → v.b = (fileOf l (logP x)).b ++ recB [1, n, st] → v.sy = (v.b.length : Int) → v.fi = true → KeepAt w' k d mb sm q (mput l (logP x) v) ep es (mput ss x (s', { p.2 with l := p.2.l ++ [(n, st)] })) → R (.returned (.int .i64 0)) w') :
    Calls Tryz.prog 11 #[.pointer (some ⟨k, 0, none⟩), x.v, .agg #[.int .i64 n, .int .i64 st]] w R := by
  have H := Lib.hid h
  obtain ⟨A, c, c0, c1, c2, c3, c4, z1, z2, z4, _⟩ := hK.cells
  have hx := right_okK hf ht
  have hlt := hK.lt.1
  have hmbl := hK.disk.lt.2
  have hsml := hK.lt.2
  have hb2 := below2 w (.cells #[.string x.f, .string x.t] 33) (.cells #[.int .i64 n, .int .i64 st] 36)
  have hlk := MapAt.lookup_some keyKey Tryz.underlying72 (hK.below hb2).map hx hin true
  rw [if_pos rfl] at hlk
  have HS := Lib.hid ((hK.below hb2).strs _ (mget_some hin))
  have HB2 := Lib.hid hb2
  have HK2 := Lib.hid (hK.below hb2)
  have hu0 := (heap_alloc_new (w.alloc (.cells #[.string x.f, .string x.t] 33)) (.cells #[.int .i64 n, .int .i64 st] 36))
  have hx0 := heap_alloc2_old w (.cells #[.string x.f, .string x.t] 33) (.cells #[.int .i64 n, .int .i64 st] 36)
  rw [World.size_alloc] at hu0
  have Hf := Lib.hid hf
  have Ht := Lib.hid ht
  have Hx := Lib.hid hx
  have Hin := Lib.hid hin
  have Hn := Lib.hid hn
  obtain ⟨xf, xt⟩ := x
  unfold TKey.v strV at hlk
  unfold TKey.v
  obtain ⟨W2, hW2⟩ : ∃ W2, W2 = ((w.alloc (.cells #[.string xf, .string xt] 33)).alloc (.cells #[.int .i64 n, .int .i64 st] 36)).drew := ⟨_, rfl⟩
  have hu1 : W2.heap[w.heap.size + 1]? = some (.cells #[.int .i64 n, .int .i64 st] 36) := by rw [hW2]; exact hu0
  have hx1 : W2.heap[w.heap.size]? = some (.cells #[.string xf, .string xt] 33) := by rw [hW2]; exact hx0
  simp only [] at HS HB2 Hf Ht HK2
  rw [← hW2] at HS HB2 HK2
  have HW := Lib.hid hW2
  have HU1 := Lib.hid hu1
  have HX1 := Lib.hid hx1
  have hs2 : W2.heap.size = w.heap.size + 2 := by rw [hW2]; exact (World.size_alloc _ _).trans (by rw [World.size_alloc])
  clear h hK hb2 hu0 hW2 hu1 hx0 hx1 hf ht hin hx hn
  go_enter Tryz.func11, Tryz.ntmps11
  go_wp2_with fail
  go_region
  all_goals go_wp2_with fail
  rw [← HW.out]
  clear hlk
  refine clone_strm_c 0 p.1 p.2 _ HS.out _ (fun s' w1 hb1 hs1' => ?_)
  have hu2 := (hb1.block (w.heap.size + 1) (by omega)).trans HU1.out
  have hx2 := (hb1.block w.heap.size (by omega)).trans HX1.out
  have d0 : w1.cell? ⟨w.heap.size + 1, 0, none⟩ = some (.int .i64 n) := by rw [cell_of_row _ _ _ _ _ _ hu2]; rfl
  have d1 : w1.cell? ⟨w.heap.size + 1, 1, none⟩ = some (.int .i64 st) := by rw [cell_of_row _ _ _ _ _ _ hu2]; rfl
  have hl1 := (Array.getElem?_eq_some_iff.1 hu2).1
  have HB1 := Lib.hid (HB2.out.trans (hb1.mono HB2.out.size))
  have Hb1w := Lib.hid hb1
  have HS1 := Lib.hid hs1'
  have HU2 := Lib.hid hu2
  have HX2 := Lib.hid hx2
  have Hw1 := Lib.hid hb1.size
  clear hb1 hs1' hu2 hx2
  go_wp2_with fail
  refine add_c _ s' p.2 st _ HS1.out (by have := Hw1.out; exact this) (by omega) hm _ (fun w3 hb3 hsz3 hs3 => ?_)
  rw [← Hn.out] at hs3 ⊢
  have hu3 := (hb3.block (w.heap.size + 1) (by omega)).trans HU2.out
  have hx3 := (hb3.block w.heap.size (by omega)).trans HX2.out
  have e0 : w3.cell? ⟨w.heap.size + 1, 0, none⟩ = some (.int .i64 n) := by rw [cell_of_row _ _ _ _ _ _ hu3]; rfl
  have e1 : w3.cell? ⟨w.heap.size + 1, 1, none⟩ = some (.int .i64 st) := by rw [cell_of_row _ _ _ _ _ _ hu3]; rfl
  have hl3 := (Array.getElem?_eq_some_iff.1 hu3).1
  have HB3 := Lib.hid (HB1.out.trans (hb3.mono HB2.out.size))
  have HK3 : Hid (KeepAt w3 k d mb sm q l ep es ss) := Lib.hid (HK2.out.below (Hb1w.out.trans hb3))
  have HS3 := Lib.hid hs3
  have HU3 := Lib.hid hu3
  have HX3 := Lib.hid hx3
  clear hb3 hs3 hu3 hx3 d0 d1
  obtain ⟨X2, hX2⟩ : ∃ X2 : Strm, X2 = { p.2 with l := p.2.l ++ [(n, st)] } := ⟨_, rfl⟩
  rw [← hX2] at HS3 H
  have hn0 : 0 ≤ n := by have := Hn.out; omega
  have hn1 : n ≤ 100 := by have := Hn.out; omega
  clear hX2
  go_wp2_with fail
  refine namedD (fun W => Below w.heap.size w W ∧ KeepAt W k d mb sm q l ep es ss ∧ StrmAt W W2.heap.size s' X2 ∧ W.heap[w.heap.size]? = some (.cells #[.string xf, .string xt] 33) ∧ W.heap[w.heap.size + 1]? = some (.cells #[.int .i64 n, .int .i64 st] 36)) ⟨HB3.out.trans ((alloc_b w3 _).mono HB3.out.size), HK3.out.below (alloc_b _ _), HS3.out.below (alloc_b _ _), (heap_alloc_old _ _ (by omega)).trans HX3.out, (heap_alloc_old _ _ hl3).trans HU3.out⟩ (fun W hW => ?_)
  obtain ⟨g1, g2, g3, g4, g5⟩ := hW
  have y0 : W.cell? ⟨w.heap.size + 1, 0, none⟩ = some (.int .i64 n) := by rw [cell_of_row _ _ _ _ _ _ g5]; rfl
  have y1 : W.cell? ⟨w.heap.size + 1, 1, none⟩ = some (.int .i64 st) := by rw [cell_of_row _ _ _ _ _ _ g5]; rfl
  have yl := (Array.getElem?_eq_some_iff.1 g5).1
  have G1 := Lib.hid g1
  have G2 := Lib.hid g2
  have G3 := Lib.hid g3
  have G4 := Lib.hid g4
  have HN1 := Lib.hid (numB_small n hn0 (by omega))
  have HN2 := Lib.hid (numB_small st hs0 (by omega))
  have HBc : Hid (Below W.heap.size W W.drew) := Lib.hid (Below.refl _ _).drew
  have HSc : Hid (∀ W', Below W.heap.size W W' → W'.cell? ⟨w.heap.size + 1, 0, none⟩ = some (.int .i64 n) ∧ W'.cell? ⟨w.heap.size + 1, 1, none⟩ = some (.int .i64 st)) := Lib.hid (fun W' hW => ⟨(hW.cell (p := ⟨_, 0, none⟩) yl).trans y0, (hW.cell (p := ⟨_, 1, none⟩) yl).trans y1⟩)
  have h3c : 3 ≤ 1000000 := by omega
  have htc : total [[1], [n], [st]] ≤ 1000000000 := total3 _ _ _ (by simp) (by simp) (by simp)
  have m0 := True.intro
  clear g1 g2 g3 g4 g5 HB3 HK3 HS3 HU3 HX3 HU2 HX2 HU1 HX1 HS1 HB1 Hw1 Hb1w HK2 HB2 HS e0 e1 hl3 hl1 y0 y1 hsz3
  go_region_held3 (fun w' => w'.cell? ⟨w.heap.size + 1, 0, none⟩ = some (.int .i64 n) ∧ w'.cell? ⟨w.heap.size + 1, 1, none⟩ = some (.int .i64 st)) (first | exact HSc.out _ HFin.out.1 | exact HSc.out _ HBc.out | exact HSc.out _ (HBc.out.alloc HBc.out.size _) | exact HSc.out _ (HBc.out.alloc HBc.out.size _).drew | go_keep) (first
    | (have mq := m2; go_at_call 46; (first
        | (have hrows := rows_3l (n1 := 1) (n2 := 1) (n3 := 1) (c1 := 1) (c2 := ca) (c3 := cb) wb (l1 := [1]) (l2 := [n]) (l3 := [st]) rfl rfl rfl ((((rd_one W 1).below (drew_b _)).below HBa.out).below HBb.out) (HOa.out.below HBb.out) HOb.out; (with_reducible refine concat_c _ 3 3 [[1], [n], [st]] _ hrows h3c htc _ (fun vd wd hBd hown => ?_)); have HFin : Hid (Below W.heap.size W wd ∧ wd.ownsRow W.heap.size 5 1 vd [1, n, st].length (u8s [1, n, st])) := Lib.hid (cat3_end (by rfl) HBc.out hBd hown); clear hBd hown hrows)
        | (have hrows := rows_3l (n1 := 1) (n2 := 1) (n3 := 1) (c1 := 1) (c2 := ca) (c3 := cb) wb (l1 := [1]) (l2 := [n]) (l3 := [st]) rfl rfl rfl ((rd_one wa 1).below HBb.out) ((HOa.out.below (alloc_b wa _)).below HBb.out) HOb.out; (with_reducible refine concat_c _ 3 3 [[1], [n], [st]] _ hrows h3c htc _ (fun vd wd hBd hown => ?_)); have HFin : Hid (Below W.heap.size W wd ∧ wd.ownsRow W.heap.size 5 1 vd [1, n, st].length (u8s [1, n, st])) := Lib.hid (cat3_end (by rfl) HBc.out hBd hown); clear hBd hown hrows)
        | (have hrows := rows_3l (n1 := 1) (n2 := 1) (n3 := 1) (c1 := 1) (c2 := ca) (c3 := cb) (wb.alloc (.cells #[.int .u8 1] 5)) (l1 := [1]) (l2 := [n]) (l3 := [st]) rfl rfl rfl (rd_one wb 1) ((HOa.out.below HBb.out).below (alloc_b wb _)) (HOb.out.below (alloc_b wb _)); rw [World.size_alloc] at hrows; (with_reducible refine concat_c _ 3 3 [[1], [n], [st]] _ hrows h3c htc _ (fun vd wd hBd hown => ?_)); have HFin : Hid (Below W.heap.size W wd ∧ wd.ownsRow W.heap.size 5 1 vd [1, n, st].length (u8s [1, n, st])) := Lib.hid (cat3_end (by rfl) (HBc.out.alloc HBc.out.size _) hBd hown); clear hBd hown hrows)))
    | (have mq := m1; go_at_call 47; refine codeNumber_c st _ _ (fun v2 wb hBb hown => ?_); rw [HN2.out] at hown; obtain ⟨Ab, cb, rfl, hrb, _⟩ := own_rd (n := 1) hown; have HOb := Lib.hid hrb; have HBb := Lib.hid hBb; have HBc : Hid (Below W.heap.size W wb) := Lib.hid (by first | exact HBc.out.trans (hBb.mono HBc.out.size) | exact (HBc.out.alloc HBc.out.size _).trans (hBb.mono (HBc.out.alloc HBc.out.size _).size)); have m2 := True.intro; clear hBb hown hrb)
    | (have mq := m0; go_at_call 47; refine codeNumber_c n _ _ (fun v1 wa hBa hown => ?_); rw [HN1.out] at hown; obtain ⟨Aa, ca, rfl, hra, _⟩ := own_rd (n := 1) hown; have HOa := Lib.hid hra; have HBa := Lib.hid hBa; have HBc : Hid (Below W.heap.size W wa) := Lib.hid (by first | exact HBc.out.trans (hBa.mono HBc.out.size) | exact (HBc.out.alloc HBc.out.size _).trans (hBa.mono (HBc.out.alloc HBc.out.size _).size)); have m1 := True.intro; clear hBa hown hra))
  all_goals
    have hx6 := (HFin.out.1.block w.heap.size (by omega)).trans G4.out
    have x0 : wd.cell? ⟨w.heap.size, 0, none⟩ = some (.string xf) := by rw [cell_of_row _ _ _ _ _ _ hx6]; rfl
    have x1 : wd.cell? ⟨w.heap.size, 1, none⟩ = some (.string xt) := by rw [cell_of_row _ _ _ _ _ _ hx6]; rfl
    have xl := (Array.getElem?_eq_some_iff.1 hx6).1
    have HX6 := Lib.hid hx6
    obtain ⟨Ad, cd, rfl, hrd, _⟩ := own_rd (n := 3) HFin.out.2
    have HRd := Lib.hid hrd
    have HBd := Lib.hid HFin.out.1
    have HKd := Lib.hid (G2.out.below HBd.out)
    have HSd := Lib.hid (G3.out.below HBd.out)
    clear hx6 hrd HFin
    go_wp2_with fail
    refine addk_c ⟨xf, xt⟩ Hf.out Ht.out Ad 3 cd [1, n, st] wd HKd.out HRd.out (by omega) (by omega) _ (fun v5 w5 hk5 hv5 hy5 hi5 hK5 => ?_)
    have hx7 := (hk5.block w.heap.size xl (by simp; omega)).trans HX6.out
    have HK5 := Lib.hid hK5
    have HV5 := Lib.hid (And.intro hv5 (And.intro hy5 hi5))
    have Hk5 := Lib.hid hk5
    have HX7 := Lib.hid hx7
    clear hk5 hv5 hy5 hi5 hK5 hx7
    obtain ⟨l5, hl5⟩ : ∃ l5, l5 = mput l (logP ⟨xf, xt⟩) v5 := ⟨_, rfl⟩
    rw [← hl5] at HK5
    have HL5 := Lib.hid hl5
    clear hl5
    go_wp2_with fail
    refine namedD (fun W6 => Kept [mb] w W6 ∧ KeepAt W6 k d mb sm q l5 ep es ss ∧ StrmAt W6 W2.heap.size s' X2 ∧ W6.heap[w.heap.size]? = some (.cells #[.string xf, .string xt] 33)) ⟨(Kept.of_below (G1.out.trans (HBd.out.mono G1.out.size))).trans Hk5.out, HK5.out, HSd.out.kept Hk5.out (by have h1 := HSd.out.base; simp; omega) (HKd.out.disk.noT _), HX7.out⟩ (fun W6 hW => ?_)
    obtain ⟨g1, g2, g3, g4⟩ := hW
    obtain ⟨ob, hup, hM⟩ := MapAt.update keyKey Tryz.underlying72 g2.drew.map Hx.out (s', X2)
    unfold TKey.v strV at hup
    obtain ⟨A9, C9, v0, v1, v2, v3, v4, u1, u2, u4, _⟩ := g2.cells
    have hlt9 := g2.lt.1
    have k0 : W6.cell? ⟨w.heap.size, 0, none⟩ = some (.string xf) := by rw [cell_of_row _ _ _ _ _ _ g4]; rfl
    have k1 : W6.cell? ⟨w.heap.size, 1, none⟩ = some (.string xt) := by rw [cell_of_row _ _ _ _ _ _ g4]; rfl
    have kl := (Array.getElem?_eq_some_iff.1 g4).1
    have HH := Lib.hid (H.out v5 s' (setBlock W6.drew sm ob) ((g1.drew.mono (by simp)).trans ((kept_set W6.drew sm ob).mono (by simp))) HV5.out.1 HV5.out.2.1 HV5.out.2.2 (by rw [← HL5.out]; exact g2.drew.put hM (g3.below (Below.refl _ _).drew)))
    clear g1 g2 g3 g4 hM x0 x1 xl
    simp only at hup
    go_region
    all_goals go_wp2_with fail
    all_goals exact HH.out
end
end Go.Proofs.YtdmcponfodohaaaGreatDoor
/-
  keep.Ack, when it is done.
-/
namespace Go.Proofs.YtdmcponfodohaaaGreatDoor
open Go.RowKit Go.Shelf Go.ChangeMaps Go.MapKept
set_option maxRecDepth 100000

/-- What stands behind a concatenation of two rows laid by the call. -/
theorem cat2_end {w W W' : World} {X : Obj} {v : Value} {l1 l2 ls : List Int} (hls : ls = l1 ++ l2) (h : Below w.heap.size w W) (h' : Below (W.alloc X).heap.size (W.alloc X) W') (ho : W'.ownsRow (W.alloc X).heap.size 5 1 v [l1, l2].flatten.length (u8s [l1, l2].flatten)) :
    Below w.heap.size w W' ∧ W'.ownsRow w.heap.size 5 1 v ls.length (u8s ls) := by
  subst hls
  have h2 := h.alloc h.size X
  refine ⟨h2.trans (h'.mono h2.size), ?_⟩
  have := own_mono ho h2.size
  simpa using this
section
variable {k d mb sm : Nat} {q : Int} {l : List (ByteArray × FV)} {ep : Int} {es : List ER} {ss : SM}
set_option maxHeartbeats 16000000 in
theorem ackk_c (x : TKey) (hf : rightS x.f = true) (ht : rightS x.t = true) (p : Nat × Strm) (u : Upd) (n : Int) (w : World) (hK : KeepAt w k d mb sm q l ep es ss) (hin : mget ss x = some p) (hu : p.2.l[p.2.acked]? = some u) (hsd : p.2.said = false) (hn : u.1 = n) (hn0 : 0 ≤ n) (hn1 : n < 128) (hroom : 36 ≤ q - (usedL l : Int)) (R : Ending → World → Prop)
    (h : ∀ v s' w', Kept [mb, sm] w w' → v.b = (fileOf l (logP x)).b ++ recB [2, n] → v.sy = (v.b.length : Int) → v.fi = true → KeepAt w' k d mb sm q (mput l (logP x) v) ep es (mput ss x (s', { p.2 with acked := p.2.acked + 1, said := false, dl := 1, due := 1 })) → R (.returned (.int .i64 0)) w') :
    Calls Tryz.prog 27 #[.pointer (some ⟨k, 0, none⟩), x.v, .int .i64 n] w R := by
  have H := Lib.hid h
  obtain ⟨A, c, c0, c1, c2, c3, c4, z1, z2, z4, _⟩ := hK.cells
  have hx := right_okK hf ht
  have hlt := hK.lt.1
  have hmbl := hK.disk.lt.2
  have hsml := hK.lt.2
  have hb2 := below1 w (.cells #[.string x.f, .string x.t] 33)
  have hlk := MapAt.lookup_some keyKey Tryz.underlying72 (hK.below hb2).map hx hin true
  rw [if_pos rfl] at hlk
  have HS := Lib.hid ((hK.below hb2).strs _ (mget_some hin))
  have HB2 := Lib.hid hb2
  have HK2 := Lib.hid (hK.below hb2)
  have hx0 := heap_alloc_new w (.cells #[.string x.f, .string x.t] 33)
  have Hf := Lib.hid hf
  have Ht := Lib.hid ht
  have Hx := Lib.hid hx
  have Hu := Lib.hid hu
  have Hsd := Lib.hid hsd
  have Hn := Lib.hid hn
  obtain ⟨xf, xt⟩ := x
  unfold TKey.v strV at hlk
  unfold TKey.v
  obtain ⟨W2, hW2⟩ : ∃ W2, W2 = (w.alloc (.cells #[.string xf, .string xt] 33)).drew := ⟨_, rfl⟩
  have hx1 : W2.heap[w.heap.size]? = some (.cells #[.string xf, .string xt] 33) := by rw [hW2]; exact hx0
  simp only [] at HS HB2 Hf Ht HK2
  rw [← hW2] at HS HB2 HK2
  have HW := Lib.hid hW2
  have HX1 := Lib.hid hx1
  have hs2 : W2.heap.size = w.heap.size + 1 := by rw [hW2]; exact World.size_alloc _ _
  clear h hK hb2 hW2 hx0 hx1 hf ht hin hx hn hu hsd
  go_enter Tryz.func27, Tryz.ntmps27
  go_wp2_with fail
  go_region
  all_goals go_wp2_with fail
  rw [← HW.out]
  clear hlk
  refine clone_strm_c 0 p.1 p.2 _ HS.out _ (fun s' w1 hb1 hs1 => ?_)
  have HX2 := Lib.hid ((hb1.block w.heap.size (by omega)).trans HX1.out)
  have Hb1 := Lib.hid hb1
  have HS1 := Lib.hid hs1
  clear hb1 hs1
  go_wp2_with fail
  refine passed_c _ s' p.2 u n _ HS1.out Hu.out Hsd.out Hn.out _ (fun w3 hk3 hs3 => ?_)
  have hb3 : Below W2.heap.size W2 w3 := Kept.below Hb1.out hk3 Hb1.out.size (fun j hj => by rw [List.mem_singleton] at hj; rw [hj]; exact HS1.out.base)
  have HB3 := Lib.hid (HB2.out.trans (hb3.mono HB2.out.size))
  have HK3 := Lib.hid (HK2.out.below hb3)
  have HX3 := Lib.hid ((hb3.block w.heap.size (by omega)).trans HX1.out)
  have HS3 := Lib.hid hs3
  obtain ⟨X2, hX2⟩ : ∃ X2 : Strm, X2 = { p.2 with acked := p.2.acked + 1, said := false, dl := 1, due := 1 } := ⟨_, rfl⟩
  rw [← hX2] at HS3 H
  clear hb3 hk3 hs3 hX2
  go_wp2_with fail
  refine namedD (fun W => Below w.heap.size w W ∧ KeepAt W k d mb sm q l ep es ss ∧ StrmAt W W2.heap.size s' X2 ∧ W.heap[w.heap.size]? = some (.cells #[.string xf, .string xt] 33)) ⟨HB3.out, HK3.out, HS3.out, HX3.out⟩ (fun W hW => ?_)
  obtain ⟨g1, g2, g3, g4⟩ := hW
  have y0 : W.cell? ⟨w.heap.size, 0, none⟩ = some (.string xf) := by rw [cell_of_row _ _ _ _ _ _ g4]; rfl
  have y1 : W.cell? ⟨w.heap.size, 1, none⟩ = some (.string xt) := by rw [cell_of_row _ _ _ _ _ _ g4]; rfl
  have yl := (Array.getElem?_eq_some_iff.1 g4).1
  have G1 := Lib.hid g1
  have G2 := Lib.hid g2
  have G3 := Lib.hid g3
  have G4 := Lib.hid g4
  have HN1 := Lib.hid (numB_small n hn0 hn1)
  have HBc : Hid (Below W.heap.size W W.drew) := Lib.hid (Below.refl _ _).drew
  have HSc : Hid (∀ W', Kept [mb] W W' → W'.cell? ⟨w.heap.size, 0, none⟩ = some (.string xf) ∧ W'.cell? ⟨w.heap.size, 1, none⟩ = some (.string xt)) := Lib.hid (fun W' hW => ⟨(hW.cell (p := ⟨_, 0, none⟩) yl (by simp; omega)).trans y0, (hW.cell (p := ⟨_, 1, none⟩) yl (by simp; omega)).trans y1⟩)
  have h2c : 2 ≤ 1000000 := by omega
  have htc : total [[2], [n]] ≤ 1000000000 := total2s _ _ (by simp) (by simp)
  have m0 := True.intro
  clear g1 g2 g3 g4 HB3 HK3 HS3 HX3 HX2 HX1 HS1 Hb1 HK2 HB2 HS y0 y1
  go_region_held3 (fun w' => w'.cell? ⟨w.heap.size, 0, none⟩ = some (.string xf) ∧ w'.cell? ⟨w.heap.size, 1, none⟩ = some (.string xt)) (first | exact HSc.out _ Hk5.out | exact HSc.out _ (Kept.of_below HBc.out) | exact HSc.out _ (Kept.of_below (HBc.out.alloc HBc.out.size _)) | exact HSc.out _ (Kept.of_below (HBc.out.alloc HBc.out.size _).drew) | go_keep) (first
    | (have mq := m2; go_at_call 48; refine addk_c ⟨xf, xt⟩ Hf.out Ht.out _ 2 _ [2, n] _ (G2.out.below HBc.out) HRd.out (by omega) (by omega) _ (fun v5 w5 hk5 hv5 hy5 hi5 hK5 => ?_); have Hk5 : Hid (Kept [mb] W w5) := Lib.hid ((Kept.of_below HBc.out).trans hk5); have HK5 := Lib.hid hK5; have HV5 := Lib.hid (And.intro hv5 (And.intro hy5 hi5)); clear hk5 hv5 hy5 hi5 hK5)
    | (have mq := m1; go_at_call 46; (first
        | (have hrows := rows_2r (n1 := 1) (n2 := 1) (c1 := 1) (c2 := ca) wa (l1 := [2]) (l2 := [n]) rfl rfl (((rd_one W 2).below (drew_b _)).below HBa.out) HOa.out; (with_reducible refine concat_c _ 2 2 [[2], [n]] _ hrows h2c htc _ (fun vd wd hBd hown => ?_)); have HFin : Hid (Below W.heap.size W wd ∧ wd.ownsRow W.heap.size 5 1 vd [2, n].length (u8s [2, n])) := Lib.hid (cat2_end (by rfl) HBc.out hBd hown); clear hBd hown hrows; obtain ⟨Ad, cd, rfl, hrd, _⟩ := own_rd (n := 2) HFin.out.2; have HRd := Lib.hid hrd; have HBc : Hid (Below W.heap.size W wd) := Lib.hid HFin.out.1; have m2 := True.intro; clear hrd)
        | (have hrows := rows_2r (n1 := 1) (n2 := 1) (c1 := 1) (c2 := ca) (wa.alloc (.cells #[.int .u8 2] 5)) (l1 := [2]) (l2 := [n]) rfl rfl (rd_one wa 2) (HOa.out.below (alloc_b wa _)); rw [World.size_alloc] at hrows; (with_reducible refine concat_c _ 2 2 [[2], [n]] _ hrows h2c htc _ (fun vd wd hBd hown => ?_)); have HFin : Hid (Below W.heap.size W wd ∧ wd.ownsRow W.heap.size 5 1 vd [2, n].length (u8s [2, n])) := Lib.hid (cat2_end (by rfl) (HBc.out.alloc HBc.out.size _) hBd hown); clear hBd hown hrows; obtain ⟨Ad, cd, rfl, hrd, _⟩ := own_rd (n := 2) HFin.out.2; have HRd := Lib.hid hrd; have HBc : Hid (Below W.heap.size W wd) := Lib.hid HFin.out.1; have m2 := True.intro; clear hrd)))
    | (have mq := m0; go_at_call 47; refine codeNumber_c n _ _ (fun v1 wa hBa hown => ?_); rw [HN1.out] at hown; obtain ⟨Aa, ca, rfl, hra, _⟩ := own_rd (n := 1) hown; have HOa := Lib.hid hra; have HBa := Lib.hid hBa; have HBc : Hid (Below W.heap.size W wa) := Lib.hid (by first | exact HBc.out.trans (hBa.mono HBc.out.size) | exact (HBc.out.alloc HBc.out.size _).trans (hBa.mono (HBc.out.alloc HBc.out.size _).size)); have m1 := True.intro; clear hBa hown hra))
  all_goals
    have hx7 := (Hk5.out.block w.heap.size yl (by simp; omega)).trans G4.out
    have HX7 := Lib.hid hx7
    have HSd : Hid (StrmAt w5 W2.heap.size s' X2) := Lib.hid (G3.out.kept Hk5.out (by have h1 := G3.out.base; simp; omega) (G2.out.disk.noT _))
    obtain ⟨l5, hl5⟩ : ∃ l5, l5 = mput l (logP ⟨xf, xt⟩) v5 := ⟨_, rfl⟩
    rw [← hl5] at HK5
    have HL5 := Lib.hid hl5
    clear hl5 hx7
    go_wp2_with fail
    refine namedD (fun W6 => Kept [mb] w W6 ∧ KeepAt W6 k d mb sm q l5 ep es ss ∧ StrmAt W6 W2.heap.size s' X2 ∧ W6.heap[w.heap.size]? = some (.cells #[.string xf, .string xt] 33)) ⟨(Kept.of_below G1.out).trans Hk5.out, HK5.out, HSd.out, HX7.out⟩ (fun W6 hW => ?_)
    obtain ⟨g1, g2, g3, g4⟩ := hW
    obtain ⟨ob, hup, hM⟩ := MapAt.update keyKey Tryz.underlying72 g2.drew.map Hx.out (s', X2)
    unfold TKey.v strV at hup
    obtain ⟨A9, C9, v0, v1, v2, v3, v4, u1, u2, u4, _⟩ := g2.cells
    have hlt9 := g2.lt.1
    have k0 : W6.cell? ⟨w.heap.size, 0, none⟩ = some (.string xf) := by rw [cell_of_row _ _ _ _ _ _ g4]; rfl
    have k1 : W6.cell? ⟨w.heap.size, 1, none⟩ = some (.string xt) := by rw [cell_of_row _ _ _ _ _ _ g4]; rfl
    have kl := (Array.getElem?_eq_some_iff.1 g4).1
    have HH := Lib.hid (H.out v5 s' (setBlock W6.drew sm ob) ((g1.drew.mono (by simp)).trans ((kept_set W6.drew sm ob).mono (by simp))) HV5.out.1 HV5.out.2.1 HV5.out.2.2 (by rw [← HL5.out]; exact g2.drew.put hM (g3.below (Below.refl _ _).drew)))
    clear g1 g2 g3 g4 hM
    simp only at hup
    go_region
    all_goals go_wp2_with fail
    all_goals exact HH.out
end
end Go.Proofs.YtdmcponfodohaaaGreatDoor
