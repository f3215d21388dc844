/-
  Several texts in one: DkD, DkE; each says at its head what it holds.
-/
import Derived.Test.YtdmcponfodohaaaGreatDoorGf
import Derived.Test.YtdmcponfodohaaaGreatDoorGa
import Derived.Outline
import Derived.Deep.RegionWith
/-
  The disk: what becomes of the files when one is put or goes; Append.
-/
namespace Go.Proofs.YtdmcponfodohaaaGreatDoor
open Go.RowKit Go.Shelf Go.ChangeMaps Go.MapKept
set_option maxRecDepth 100000

theorem mput_mem {κ ν : Type} [DecidableEq κ] {l : List (κ × ν)} {k : κ} {v : ν} {x : κ × ν} (h : x ∈ mput l k v) : x = (k, v) ∨ x ∈ l := by
  unfold mput at h
  split at h
  · obtain ⟨y, hy, e⟩ := List.mem_map.1 h
    split at e
    · exact .inl e.symm
    · exact .inr (e ▸ hy)
  · rcases List.mem_append.1 h with h | h
    · exact .inr h
    · exact .inl (by simpa using h)
theorem used_map : ∀ {l : List (ByteArray × FV)} {p : ByteArray} {v : FV}, (l.map Prod.fst).Nodup → ∀ {f : FV}, (p, f) ∈ l → usedL (l.map fun x => if x.1 = p then (p, v) else x) + f.n = usedL l + v.n
  | [], _, _, _, _, h => by cases h
  | x :: r, p, v, hn, f, h => by
    rw [List.map_cons, List.nodup_cons] at hn
    unfold usedL
    rw [List.map_cons, List.map_cons, List.map_cons, List.sum_cons, List.sum_cons]
    rcases List.mem_cons.1 h with h | h
    · subst h
      have hr : r.map (fun x => if x.1 = p then (p, v) else x) = r := by
        refine (List.map_congr_left (g := id) fun y hy => ?_).trans (List.map_id r)
        have : y.1 ≠ p := fun e => hn.1 (List.mem_map.2 ⟨y, hy, e⟩)
        rw [if_neg this]
        rfl
      rw [hr]
      simp
      omega
    · have hne : x.1 ≠ p := fun e => hn.1 (List.mem_map.2 ⟨(p, f), h, e.symm⟩)
      have ih := used_map (v := v) hn.2 h
      unfold usedL at ih
      rw [if_neg hne]
      omega
theorem used_mput {l : List (ByteArray × FV)} {p : ByteArray} (hn : (l.map Prod.fst).Nodup) (v : FV) : usedL (mput l p v) + (fileOf l p).n = usedL l + v.n := by
  unfold fileOf
  cases hm : mget l p with
  | none =>
    rw [mput_new hm]
    simp [usedL, noFile]
  | some f =>
    unfold mput
    rw [any_mget, hm]
    exact used_map hn (mget_some hm)
theorem used_del : ∀ {l : List (ByteArray × FV)} {p : ByteArray}, usedL (mdel l p) ≤ usedL l
  | [], _ => Nat.le_refl _
  | x :: r, p => by
    have ih := used_del (l := r) (p := p)
    unfold usedL mdel at *
    rw [List.filter_cons]
    split
    · rw [List.map_cons, List.sum_cons, List.map_cons, List.sum_cons]; omega
    · rw [List.map_cons, List.sum_cons]; omega
theorem disk_put {w w' : World} {d mb : Nat} {q : Int} {l : List (ByteArray × FV)} {p : ByteArray} {f : FV} (hD : DiskAt w d mb q l) (hf : f.ok w) (hk : Kept [mb] w w') (hM : MapAt w' mb Value.string FV.v okS (mput l p f)) (hu : (usedL (mput l p f) : Int) ≤ q) : DiskAt w' d mb q (mput l p f) :=
  ⟨(hk.block d hD.lt.1 (by simpa using hD.ne)).trans hD.blk, hM, fun x hx => by
    rcases mput_mem hx with rfl | hx
    · exact hf.kept hk (hD.noT _)
    · exact (hD.files x hx).kept hk (hD.noT _), hD.quota, hu⟩
theorem disk_del {w w' : World} {d mb : Nat} {q : Int} {l : List (ByteArray × FV)} {p : ByteArray} (hD : DiskAt w d mb q l) (hk : Kept [mb] w w') (hM : MapAt w' mb Value.string FV.v okS (mdel l p)) : DiskAt w' d mb q (mdel l p) :=
  ⟨(hk.block d hD.lt.1 (by simpa using hD.ne)).trans hD.blk, hM, fun x hx => (hD.files x (List.mem_filter.1 hx).1).kept hk (hD.noT _), hD.quota, by have := used_del (l := l) (p := p); have := hD.used; omega⟩
theorem kept_set (w : World) (b : Nat) (o : Obj) : Kept [b] w (setBlock w b o) := Kept.of_grown (grown_setBlock w b o)
theorem rows_2r {A1 A2 : Option Addr} {n1 n2 c1 c2 : Nat} {l1 l2 : List Int} (w2 : World) (e1 : n1 = l1.length) (e2 : n2 = l2.length) (h1 : Rd w2 A1 l1.length (u8s l1)) (h2 : Rd w2 A2 l2.length (u8s l2)) :
    RdRows (w2.alloc (.cells #[.slice A1 n1 c1, .slice A2 n2 c2] 37)) (some ⟨w2.heap.size, 0, none⟩) 2 [l1, l2] := by
  subst e1 e2
  have hb : ∀ X, Below w2.heap.size w2 (w2.alloc X) := fun X => (Below.refl _ _).alloc (Nat.le_refl _) _
  refine ⟨rfl, fun _ => ⟨w2.heap.size, 0, rfl, by simp, fun j l hl => ?_⟩⟩
  rcases j with _ | _ | j
  · cases hl; exact ⟨_, _, by rw [cell_of_row _ _ _ _ _ _ (heap_alloc_new w2 _)]; rfl, h1.below (hb _)⟩
  · cases hl; exact ⟨_, _, by rw [cell_of_row _ _ _ _ _ _ (heap_alloc_new w2 _)]; rfl, h2.below (hb _)⟩
  · cases hl
theorem fileOf_le (l : List (ByteArray × FV)) (p : ByteArray) : (fileOf l p).n ≤ usedL l := by
  unfold fileOf
  cases hm : mget l p with
  | none => simp [noFile]
  | some f => exact used_ge (mget_some hm)
theorem total2 (l1 l2 : List Int) (h1 : l1.length ≤ 100000) (h2 : l2.length ≤ 100000) : total [l1, l2] ≤ 1000000000 := by
  simp only [total, List.flatten_cons, List.flatten_nil, List.length_append, List.length_nil]
  omega

theorem namedD {P : Program} {c : Code} {Q : Exit → Act → World → Prop} {a : Act} {W : World} (F : World → Prop) (hF : F W) (h : ∀ W', F W' → c.wp P Q a W') : c.wp P Q a W := h W hF
set_option maxHeartbeats 4000000 in
theorem append_c (d mb : Nat) (q : Int) (l : List (ByteArray × FV)) (p : ByteArray) (Ab : Option Addr) (nb cb : Nat) (bs : List Int) (w : World) (hD : DiskAt w d mb q l) (hp : full p) (hps : p.size ≤ maxLen) (hR : Rd w Ab nb (u8s bs)) (hroom : (nb : Int) ≤ q - usedL l) (R : Ending → World → Prop)
    (h : ∀ f w', Kept [mb] w w' → f.b = (fileOf l p).b ++ bs → f.sy = (fileOf l p).sy → f.fi = (fileOf l p).fi → DiskAt w' d mb q (mput l p f) → R (.returned (.int .i64 0)) w') :
    Calls Tryz.prog 13 #[.pointer (some ⟨d, 0, none⟩), .string p, .slice Ab nb cb] w R := by
  have H := Lib.hid h
  have hB1 : Below w.heap.size w (w.alloc (.cells #[.string p] 9)) := (Below.refl _ _).alloc (Nat.le_refl _) _
  have hD1 := hD.below hB1
  obtain ⟨c0, c1, c2, c3⟩ := hD1.cells
  have hlt := hD.lt
  have hq := hD.quota
  have hbl : bs.length = nb := by have := hR.1; rwa [u8s_length] at this
  have Hbl := Lib.hid hbl
  have HD1 := Lib.hid hD1
  have HD := Lib.hid hD
  have HB1 := Lib.hid hB1
  have HR := Lib.hid hR
  have hful := used_mput (p := p) hD.map.nodup
  have Hful := Lib.hid hful
  have hfle := fileOf_le l p
  obtain ⟨fo, hfo⟩ : ∃ fo, fo = fileOf l p := ⟨_, rfl⟩
  rw [← hfo] at Hful hfle H
  have Hfo := Lib.hid hfo
  obtain ⟨u, hu⟩ : ∃ u, u = usedL l := ⟨_, rfl⟩
  rw [← hu] at Hful hroom hfle
  have Hu := Lib.hid hu
  have hfp : full p := hp
  have t1 : decide (q - (u : Int) < (nb : Int)) = false := by simp; omega
  have hqb := hq.2
  have hnb : nb ≤ 65536 := by omega
  have hfn : fo.n ≤ 65536 := by omega
  clear h hD hD1 hB1 hR hfo hu hful hbl hq
  go_enter Tryz.func13, Tryz.ntmps13
  go_wp2_with fail
  refine may_c d mb q l _ 1 1 [p] _ HD1.out (strs_new w [p] rfl) (by omega) (fun x hx => by simp at hx; rw [hx]; exact hfp) _ ?_
  go_wp2_with fail
  refine room_c d mb q l _ HD1.out _ (fun w2 hB2 => ?_)
  rw [← Hu.out]
  have hBw2 := HB1.out.trans (hB2.mono (by simp))
  have hD2 := HD1.out.below hB2
  have HBw2 := Lib.hid hBw2
  have HD2 := Lib.hid hD2
  clear hB2 hBw2 hD2 c0 c1 c2 c3
  go_wp2_with fail
  refine step_c d mb q l w2 HD2.out _ ?_
  obtain ⟨c0, c1, c2, c3⟩ := HD2.out.cells
  have hlt2 := HD2.out.lt
  have hlk := look HD2.out hps
  rw [← Hfo.out] at hlk
  unfold FV.v at hlk
  go_wp2_with fail
  have hfok : fo.ok w2 := by rw [Hfo.out]; exact fileOf_ok HD2.out p
  have hBx : Below w2.heap.size w2 (w2.alloc (.cells #[.slice fo.A fo.n fo.c, .int .i64 fo.sy, .bool fo.fi] 89)) := (Below.refl _ _).alloc (Nat.le_refl _) _
  have hrows := rows_2r (c1 := fo.c) (c2 := cb) (w2.alloc (.cells #[.slice fo.A fo.n fo.c, .int .i64 fo.sy, .bool fo.fi] 89)) hfok.len.symm Hbl.out.symm (by rw [hfok.len]; exact hfok.rd.below hBx) (by rw [Hbl.out]; exact (HR.out.below HBw2.out).below hBx)
  rw [World.size_alloc] at hrows
  have Hrows := Lib.hid hrows
  have Hfok := Lib.hid hfok
  have Hlen := Lib.hid hfok.len
  clear hrows hfok hBx hlk
  refine concat_c (some ⟨w2.heap.size + 1, 0, none⟩) 2 2 [fo.b, bs] _ Hrows.out (by omega) (total2 _ _ (by have := Hlen.out; omega) (by have := Hbl.out; omega)) _ (fun v w4 hB4 hown => ?_)
  have hfl : [fo.b, bs].flatten = fo.b ++ bs := by simp
  rw [hfl] at hown
  obtain ⟨A', c', rfl, hh, hcc⟩ := hard_own hown
  have hX : w4.heap[w2.heap.size]? = some (.cells #[.slice fo.A fo.n fo.c, .int .i64 fo.sy, .bool fo.fi] 89) := (hB4.block _ (by simp; omega)).trans (heap_alloc2_old w2 _ _)
  have hBw4 : Below w2.heap.size w2 w4 := (((Below.refl _ _).alloc (Nat.le_refl _) _).alloc (by simp) _).trans (hB4.mono (by simp; omega))
  have x0 : w4.cell? ⟨w2.heap.size, 0, none⟩ = some (.slice fo.A fo.n fo.c) := by rw [cell_of_row _ _ _ _ _ _ hX]; rfl
  have x1 : w4.cell? ⟨w2.heap.size, 1, none⟩ = some (.int .i64 fo.sy) := by rw [cell_of_row _ _ _ _ _ _ hX]; rfl
  have x2 : w4.cell? ⟨w2.heap.size, 2, none⟩ = some (.bool fo.fi) := by rw [cell_of_row _ _ _ _ _ _ hX]; rfl
  have xf : w4.frozen? ⟨w2.heap.size, 0, none⟩ = false := by simp [World.frozen?, hX]
  have xl := (Array.getElem?_eq_some_iff.1 hX).1
  obtain ⟨nn, hnn⟩ : ∃ nn, nn = (fo.b ++ bs).length := ⟨_, rfl⟩
  rw [← hnn] at hcc ⊢
  have Hnn := Lib.hid hnn
  have Hh := Lib.hid hh
  have Hcc := Lib.hid hcc
  have HX := Lib.hid hX
  have HBw4 := Lib.hid hBw4
  clear hfl hown hh hcc hX hBw4 hB4 hnn c0 c1 c2 c3
  go_wp2_with fail
  refine namedD (fun W => DiskAt W d mb q l ∧ Below w.heap.size w W ∧ FV.ok W ⟨A', nn, c', fo.b ++ bs, fo.sy, fo.fi⟩ ∧ W.heap[w2.heap.size]? = some (.cells #[.slice A' nn c', .int .i64 fo.sy, .bool fo.fi] 89)) ?_ (fun W hW => ?_)
  · have hks : Kept [w2.heap.size] w4 (w4.setCell ⟨w2.heap.size, 0, none⟩ (.slice A' nn c')) := (Kept.refl _ _).setCell (by simp) _
    have hno : NoT w4 5 [w2.heap.size] := NoT.one HX.out (fun cs e => by cases e)
    refine ⟨(HD2.out.below HBw4.out).kept hks (by simp; omega) (by simp; omega) hno, (HBw2.out.trans (HBw4.out.mono HBw2.out.size)).setCell HBw2.out.size _, ⟨Hnn.out.symm, Hcc.out, Hh.out.kept hks hno⟩, ?_⟩
    have := HX.out
    simp [World.setCell, Array.getElem?_modify, this]
  obtain ⟨g1, g2, g3, g4⟩ := hW
  obtain ⟨ob, hup, hM⟩ := g1.drew.map.update keyString Tryz.underlying90 hps ⟨A', nn, c', fo.b ++ bs, fo.sy, fo.fi⟩
  unfold FV.v at hup
  simp only at hup
  obtain ⟨c0, c1, c2, c3⟩ := g1.cells
  have y0 : W.cell? ⟨w2.heap.size, 0, none⟩ = some (.slice A' nn c') := by rw [cell_of_row _ _ _ _ _ _ g4]; rfl
  have y1 : W.cell? ⟨w2.heap.size, 1, none⟩ = some (.int .i64 fo.sy) := by rw [cell_of_row _ _ _ _ _ _ g4]; rfl
  have y2 : W.cell? ⟨w2.heap.size, 2, none⟩ = some (.bool fo.fi) := by rw [cell_of_row _ _ _ _ _ _ g4]; rfl
  have yl := (Array.getElem?_eq_some_iff.1 g4).1
  have hltW := g1.lt
  have G1 := Lib.hid g1
  have G2 := Lib.hid g2
  have G3 := Lib.hid g3
  have HM := Lib.hid hM
  clear g1 g2 g3 g4 hM x0 x1 x2 xf xl hlt2
  go_region
  all_goals go_wp2_with fail
  all_goals
    have hkW : Kept [mb] W.drew (setBlock W.drew mb ob) := kept_set _ _ _
    refine H.out ⟨A', nn, c', fo.b ++ bs, fo.sy, fo.fi⟩ _ ((Kept.of_below G2.out.drew).trans hkW) rfl rfl rfl (disk_put G1.out.drew ⟨G3.out.len, G3.out.cap, G3.out.hard.below (Below.refl _ _).drew⟩ hkW HM.out ?_)
    have h1 := Hful.out ⟨A', nn, c', fo.b ++ bs, fo.sy, fo.fi⟩
    have h2 := Hnn.out
    have h3 := Hlen.out
    have h4 := Hbl.out
    rw [List.length_append] at h2
    simp only at h1
    omega
end Go.Proofs.YtdmcponfodohaaaGreatDoor
/-
  The disk: whole, Sync, Remove, Rename, Cut.
-/
namespace Go.Proofs.YtdmcponfodohaaaGreatDoor
open Go.RowKit Go.Shelf Go.ChangeMaps Go.MapKept
set_option maxRecDepth 100000

def wholeV (A : Option Addr) (n c : Nat) (b : List Int) : FV := ⟨A, n, c, b, n, true⟩
theorem build_file (w : World) (A : Option Addr) (n c : Nat) (k : Int) : (Instr.build 89 #[(0, .slice A n c), (1, .int .i64 k), (2, .bool true)]).run Tryz.prog w = .ok (.agg #[.slice A n c, .int .i64 k, .bool true]) w := by kernel_rfl
theorem whole_c (A : Option Addr) (n c : Nat) (w : World) (R : Ending → World → Prop)
    (h : ∀ w', Below w.heap.size w w' → R (.returned (.agg #[.slice A n c, .int .i64 n, .bool true])) w') : Calls Tryz.prog 53 #[.slice A n c] w R := by
  have H := Lib.hid h
  clear h
  go_enter Tryz.func53, Tryz.ntmps53
  go_wp2_with fail
  refine bodyPost_ret (results_cell_row rfl _ _ w.heap.size 89 #[.slice A n c, .int .i64 n, .bool true] (0, 0) _ rfl (heap_alloc_new w _) Tryz.underlying89 rfl (by kernel_rfl)) rfl ?_
  exact H.out _ ((Below.refl _ _).alloc (Nat.le_refl _) _)

theorem field_file (w : World) (A : Option Addr) (n c : Nat) (k : Int) (b : Bool) : (Instr.field 89 (.agg #[.slice A n c, .int .i64 k, .bool b]) 0).run Tryz.prog w = .ok (.slice A n c) w := by kernel_rfl
theorem used_same {w : World} {d mb : Nat} {q : Int} {l : List (ByteArray × FV)} (hD : DiskAt w d mb q l) (p : ByteArray) {f : FV} (hf : f.n ≤ (fileOf l p).n) : (usedL (mput l p f) : Int) ≤ q := by
  have h1 := used_mput (p := p) hD.map.nodup f
  have h2 := hD.used
  omega

set_option maxHeartbeats 4000000 in
theorem sync_c (d mb : Nat) (q : Int) (l : List (ByteArray × FV)) (p : ByteArray) (w : World) (hD : DiskAt w d mb q l) (hp : full p) (hps : p.size ≤ maxLen) (hin : (mget l p).isSome = true) (R : Ending → World → Prop)
    (h : ∀ f w', Kept [mb] w w' → f.b = (fileOf l p).b → f.sy = ((fileOf l p).b.length : Int) → f.fi = true → DiskAt w' d mb q (mput l p f) → R (.returned (.int .i64 0)) w') :
    Calls Tryz.prog 14 #[.pointer (some ⟨d, 0, none⟩), .string p] w R := by
  have H := Lib.hid h
  have HD := Lib.hid hD
  have hq := hD.quota
  have hu := hD.used
  have hfle := fileOf_le l p
  obtain ⟨fo, hfo⟩ : ∃ fo, fo = fileOf l p := ⟨_, rfl⟩
  rw [← hfo] at H hfle
  have Hfo := Lib.hid hfo
  have hfn : fo.n ≤ 65536 := by omega
  clear h hD hfo hq hu hfle
  go_enter Tryz.func14, Tryz.ntmps14
  go_wp2_with fail
  refine thereD_c d mb q l p w HD.out hp hps hin _ (fun w1 hB1 => ?_)
  have HD1 := Lib.hid (HD.out.below hB1)
  have HB1 := Lib.hid hB1
  clear hB1
  go_wp2_with fail
  refine step_c d mb q l w1 HD1.out _ ?_
  obtain ⟨c0, c1, c2, c3⟩ := HD1.out.drew.cells
  have hlt := HD1.out.drew.lt
  have hlk := look HD1.out.drew hps
  rw [← Hfo.out] at hlk
  have hfok : fo.ok w1 := by rw [Hfo.out]; exact fileOf_ok HD1.out p
  have Hfok := Lib.hid hfok
  unfold FV.v at hlk
  have hfd := fun W => field_file W fo.A fo.n fo.c fo.sy fo.fi
  clear hfok
  go_wp2_with fail
  go_region_with (first
    | (go_at_call 53; refine whole_c fo.A fo.n fo.c _ _ (fun w2 hB2 => ?_); have hD2 := HD1.out.drew.below hB2; obtain ⟨ob, hup, hM⟩ := hD2.map.update keyString Tryz.underlying90 hps (wholeV fo.A fo.n fo.c fo.b); unfold FV.v wholeV at hup; obtain ⟨d0, _, _, _⟩ := hD2.cells; have HD2 : Hid (DiskAt w2 d mb q l) := Lib.hid hD2; have HB2 : Hid (Below w1.heap.size w1 w2) := Lib.hid ((Below.refl _ w1).drew.trans hB2); have HM := Lib.hid hM; clear hD2 hB2 hM))
  all_goals
    go_wp2_with fail
    have hkW : Kept [mb] w2 (setBlock w2 mb ob) := kept_set _ _ _
    have hf2 : FV.ok w2 (wholeV fo.A fo.n fo.c fo.b) := ⟨Hfok.out.len, Hfok.out.cap, Hfok.out.hard.below HB2.out⟩
    refine H.out (wholeV fo.A fo.n fo.c fo.b) _ ((Kept.of_below (HB1.out.trans (HB2.out.mono HB1.out.size))).trans hkW) rfl (by have := Hfok.out.len; show ((fo.n : Nat) : Int) = _; rw [this]) rfl (disk_put HD2.out hf2 hkW HM.out (used_same HD.out p (by rw [← Hfo.out]; exact Nat.le_refl _)))

set_option maxHeartbeats 1000000 in
theorem remove_c (d mb : Nat) (q : Int) (l : List (ByteArray × FV)) (p : ByteArray) (w : World) (hD : DiskAt w d mb q l) (hp : full p) (hps : p.size ≤ maxLen) (hin : (mget l p).isSome = true) (R : Ending → World → Prop)
    (h : ∀ w', Kept [mb] w w' → DiskAt w' d mb q (mdel l p) → R (.returned (.int .i64 0)) w') :
    Calls Tryz.prog 74 #[.pointer (some ⟨d, 0, none⟩), .string p] w R := by
  have H := Lib.hid h
  have HD := Lib.hid hD
  clear h hD
  go_enter Tryz.func74, Tryz.ntmps74
  go_wp2_with fail
  refine thereD_c d mb q l p w HD.out hp hps hin _ (fun w1 hB1 => ?_)
  have HD1 := Lib.hid (HD.out.below hB1)
  have HB1 := Lib.hid hB1
  clear hB1
  go_wp2_with fail
  refine step_c d mb q l w1 HD1.out _ ?_
  obtain ⟨c0, c1, c2, c3⟩ := HD1.out.cells
  have hlt := HD1.out.lt
  go_wp2_with (at_delete; refine wpList_delete_at rfl _ _ rfl keyString Tryz.underlying90 HD1.out.map hps rfl rfl ?_; intro ob hM; have HM := Lib.hid hM; clear hM)
  exact H.out _ ((Kept.of_below HB1.out).trans (kept_set _ _ _)) (disk_del HD1.out (kept_set _ _ _) HM.out)
end Go.Proofs.YtdmcponfodohaaaGreatDoor
