/-
  The disk: Rename, Cut.
-/
import Derived.Test.YtdmcponfodohaaaGreatDoorGg
import Derived.Outline
import Derived.Deep.RegionWith
namespace Go.Proofs.YtdmcponfodohaaaGreatDoor
open Go.RowKit Go.Shelf Go.ChangeMaps Go.MapKept
set_option maxRecDepth 100000

theorem used_del_eq : ∀ {l : List (ByteArray × FV)} {p : ByteArray} {f : FV}, (l.map Prod.fst).Nodup → (p, f) ∈ l → usedL (mdel l p) + f.n = usedL l
  | [], _, _, _, h => by cases h
  | x :: r, p, f, hn, h => by
    rw [List.map_cons, List.nodup_cons] at hn
    unfold usedL mdel
    rcases List.mem_cons.1 h with h | h
    · subst h
      have hr : r.filter (fun x => decide (x.1 ≠ p)) = r := by
        rw [List.filter_eq_self]
        intro y hy
        have : y.1 ≠ p := fun e => hn.1 (List.mem_map.2 ⟨y, hy, e⟩)
        simpa using this
      rw [List.filter_cons_of_neg (by simp), hr, List.map_cons, List.sum_cons]
      exact Nat.add_comm _ _
    · have hne : x.1 ≠ p := fun e => hn.1 (List.mem_map.2 ⟨(p, f), h, e.symm⟩)
      have ih := used_del_eq hn.2 h
      unfold usedL mdel at ih
      rw [List.filter_cons_of_pos (by simpa using hne), List.map_cons, List.sum_cons, List.map_cons, List.sum_cons]
      omega
theorem nodup_del {l : List (ByteArray × FV)} {p : ByteArray} (h : (l.map Prod.fst).Nodup) : ((mdel l p).map Prod.fst).Nodup := List.Nodup.sublist (List.Sublist.map _ List.filter_sublist) h
theorem fileOf_some {l : List (ByteArray × FV)} {p : ByteArray} (h : (mget l p).isSome = true) : (p, fileOf l p) ∈ l := by
  unfold fileOf
  cases hm : mget l p with
  | none => rw [hm] at h; cases h
  | some f => exact mget_some hm

set_option maxHeartbeats 4000000 in
theorem rename_c (d mb : Nat) (q : Int) (l : List (ByteArray × FV)) (p p2 : ByteArray) (w : World) (hD : DiskAt w d mb q l) (hp : full p) (hps : p.size ≤ maxLen) (hp2 : full p2) (hps2 : p2.size ≤ maxLen) (hin : (mget l p).isSome = true) (R : Ending → World → Prop)
    (h : ∀ f w', Kept [mb] w w' → f.b = (fileOf l p).b → f.sy = ((fileOf l p).b.length : Int) → f.fi = true → DiskAt w' d mb q (mput (mdel l p) p2 f) → R (.returned (.int .i64 0)) w') :
    Calls Tryz.prog 99 #[.pointer (some ⟨d, 0, none⟩), .string p, .string p2] w R := by
  have H := Lib.hid h
  have hB0 : Below w.heap.size w (w.alloc (.cells #[.string p, .string p2] 9)) := (Below.refl _ _).alloc (Nat.le_refl _) _
  have HB0 := Lib.hid hB0
  have HD0 := Lib.hid (hD.below hB0)
  have hq := hD.quota
  have hu := hD.used
  have hfle := fileOf_le l p
  have hde := used_del_eq hD.map.nodup (fileOf_some hin)
  have hnd := nodup_del (p := p) hD.map.nodup
  have Hnd := Lib.hid hnd
  obtain ⟨fo, hfo⟩ : ∃ fo, fo = fileOf l p := ⟨_, rfl⟩
  rw [← hfo] at H hfle hde
  have Hde := Lib.hid hde
  have Hfo := Lib.hid hfo
  have hfn : fo.n ≤ 65536 := by omega
  have hfp : full p := hp
  have hfp2 : full p2 := hp2
  clear h hD hfo hq hu hfle hde hnd hB0
  go_enter Tryz.func99, Tryz.ntmps99
  go_wp2_with fail
  refine may_c d mb q l _ 2 2 [p, p2] _ HD0.out (strs_new w [p, p2] rfl) (by omega) (fun x hx => by simp at hx; rcases hx with rfl | rfl <;> assumption) _ ?_
  go_wp2_with fail
  refine thereD_c d mb q l p _ HD0.out hp hps hin _ (fun w1 hB1 => ?_)
  have HD1 := Lib.hid (HD0.out.below hB1)
  have HB1 := Lib.hid (HB0.out.trans (hB1.mono (by simp)))
  clear hB1
  go_wp2_with fail
  refine step_c d mb q l w1 HD1.out _ ?_
  obtain ⟨c0, c1, c2, c3⟩ := HD1.out.cells
  have hlt := HD1.out.lt
  have hlk := look HD1.out hps
  rw [← Hfo.out] at hlk
  have hfok : fo.ok w1 := by rw [Hfo.out]; exact fileOf_ok HD1.out p
  have Hfok := Lib.hid hfok
  unfold FV.v at hlk
  have hfd := fun W => field_file W fo.A fo.n fo.c fo.sy fo.fi
  clear hfok
  go_wp2_with fail
  refine whole_c fo.A fo.n fo.c _ _ (fun w2 hB2 => ?_)
  have HD2 := Lib.hid (HD1.out.below hB2)
  have HB2 := Lib.hid hB2
  have HD3 := Lib.hid (HD2.out.below ((Below.refl _ _).alloc (Nat.le_refl _) (.cells #[.slice fo.A fo.n fo.c, .int .i64 fo.n, .bool true] 89)))
  obtain ⟨e0, e1, e2, e3⟩ := HD2.out.cells
  have hlt2 := HD2.out.lt
  clear hB2 c0 c1 c2 c3 hlk hfd
  go_wp2_with (at_delete; refine wpList_delete_at rfl _ _ rfl keyString Tryz.underlying90 HD3.out.map hps rfl rfl ?_; intro ob hM; have HM := Lib.hid hM; clear hM)
  refine namedD (fun W => DiskAt W d mb q (mdel l p) ∧ Kept [mb] w W ∧ FV.ok W (wholeV fo.A fo.n fo.c fo.b) ∧ W.heap[w2.heap.size]? = some (.cells #[.slice fo.A fo.n fo.c, .int .i64 fo.n, .bool true] 89)) ?_ (fun W hW => ?_)
  · have hk := kept_set (w2.alloc (.cells #[.slice fo.A fo.n fo.c, .int .i64 fo.n, .bool true] 89)) mb ob
    have hba : Below w2.heap.size w2 (w2.alloc (.cells #[.slice fo.A fo.n fo.c, .int .i64 fo.n, .bool true] 89)) := (Below.refl _ _).alloc (Nat.le_refl _) _
    have hb3 := (HB1.out.trans (HB2.out.mono HB1.out.size)).trans (hba.mono (Nat.le_trans HB1.out.size HB2.out.size))
    refine ⟨disk_del HD3.out hk HM.out, (Kept.of_below hb3).trans hk, ⟨Hfok.out.len, Hfok.out.cap, ((Hfok.out.hard.below HB2.out).below hba).kept hk (HD3.out.noT _)⟩, ?_⟩
    exact (hk.block _ (by simp) (by simp; omega)).trans (heap_alloc_new w2 _)
  obtain ⟨g1, g2, g3, g4⟩ := hW
  obtain ⟨ob2, hup, hM2⟩ := g1.drew.map.update keyString Tryz.underlying90 hps2 (wholeV fo.A fo.n fo.c fo.b)
  unfold FV.v wholeV at hup
  simp only at hup
  obtain ⟨c0, c1, c2, c3⟩ := g1.cells
  have y0 : W.cell? ⟨w2.heap.size, 0, none⟩ = some (.slice fo.A fo.n fo.c) := by rw [cell_of_row _ _ _ _ _ _ g4]; rfl
  have y1 : W.cell? ⟨w2.heap.size, 1, none⟩ = some (.int .i64 fo.n) := by rw [cell_of_row _ _ _ _ _ _ g4]; rfl
  have y2 : W.cell? ⟨w2.heap.size, 2, none⟩ = some (.bool true) := by rw [cell_of_row _ _ _ _ _ _ g4]; rfl
  have yl := (Array.getElem?_eq_some_iff.1 g4).1
  have hltW := g1.lt
  have G1 := Lib.hid g1
  have G2 := Lib.hid g2
  have G3 := Lib.hid g3
  have HM2 := Lib.hid hM2
  clear g1 g2 g3 g4 hM2 e0 e1 e2 e3 hlt2
  go_region
  all_goals go_wp2_with fail
  all_goals
    have hkW : Kept [mb] W.drew (setBlock W.drew mb ob2) := kept_set _ _ _
    refine H.out (wholeV fo.A fo.n fo.c fo.b) _ (G2.out.drew.trans hkW) rfl (by have e : fo.b.length = fo.n := G3.out.len; show ((fo.n : Nat) : Int) = ((fo.b.length : Nat) : Int); rw [e]) rfl (disk_put G1.out.drew ⟨G3.out.len, G3.out.cap, G3.out.hard.below (Below.refl _ _).drew⟩ hkW HM2.out ?_)
    have h1 := used_mput (p := p2) Hnd.out (wholeV fo.A fo.n fo.c fo.b)
    have h2 := HD0.out.used
    have h3 := Hde.out
    have h4 : (wholeV fo.A fo.n fo.c fo.b).n = fo.n := rfl
    omega

set_option maxHeartbeats 4000000 in
theorem cut_c (d mb : Nat) (q : Int) (l : List (ByteArray × FV)) (p : ByteArray) (k : Nat) (w : World) (hD : DiskAt w d mb q l) (hp : full p) (hps : p.size ≤ maxLen) (hin : (mget l p).isSome = true) (hk : k ≤ (fileOf l p).n) (R : Ending → World → Prop)
    (h : ∀ f w', Kept [mb] w w' → f.b = (fileOf l p).b.take k → f.sy = (k : Int) → f.fi = true → DiskAt w' d mb q (mput l p f) → R (.returned (.int .i64 0)) w') :
    Calls Tryz.prog 122 #[.pointer (some ⟨d, 0, none⟩), .string p, .int .i64 k] w R := by
  have H := Lib.hid h
  have HD := Lib.hid hD
  have hq := hD.quota
  have hu := hD.used
  have hfle := fileOf_le l p
  obtain ⟨fo, hfo⟩ : ∃ fo, fo = fileOf l p := ⟨_, rfl⟩
  rw [← hfo] at H hfle hk
  have Hfo := Lib.hid hfo
  have hfn : fo.n ≤ 65536 := by omega
  clear h hD hfo hq hu hfle
  go_enter Tryz.func122, Tryz.ntmps122
  go_wp2_with fail
  refine thereD_c d mb q l p w HD.out hp hps hin _ (fun w1 hB1 => ?_)
  have HD1 := Lib.hid (HD.out.below hB1)
  have HB1 := Lib.hid hB1
  obtain ⟨c0, c1, c2, c3⟩ := HD1.out.cells
  have hlt := HD1.out.lt
  have hlk := look HD1.out hps
  rw [← Hfo.out] at hlk
  have hfok : fo.ok w1 := by rw [Hfo.out]; exact fileOf_ok HD1.out p
  have Hfok := Lib.hid hfok
  have hcap := hfok.cap
  unfold FV.v at hlk
  have hfd := fun W => field_file W fo.A fo.n fo.c fo.sy fo.fi
  have t1 : decide (fo.n < k) = false := by simp; omega
  clear hfok hB1
  go_wp2_with fail
  refine step_c d mb q l w1 HD1.out _ ?_
  obtain ⟨c0', c1', c2', c3'⟩ := HD1.out.drew.cells
  have hlt' := HD1.out.drew.lt
  have hlk' := look HD1.out.drew hps
  rw [← Hfo.out] at hlk'
  unfold FV.v at hlk'
  clear hlk c0 c1 c2 c3
  go_wp2_with fail
  have hrt : Rd w1.drew fo.A k (u8s (fo.b.take k)) := by
    have h1 := (Hfok.out.rd.below (Below.refl _ _).drew).take_ hk
    have e2 : (u8s fo.b).take k = u8s (fo.b.take k) := by unfold u8s; rw [← List.map_take]
    rwa [e2] at h1
  have Hrt := Lib.hid hrt
  clear hrt
  go_region_with (first
    | (go_at_call 58; refine clone_c fo.A k fo.c (fo.b.take k) _ Hrt.out (by omega) _ (fun A2 c2x w2 hB2 hh2 hc2 => ?_); have HB2 : Hid (Below w1.heap.size w1 w2) := Lib.hid ((Below.refl _ w1).drew.trans hB2); have Hh2 := Lib.hid hh2; have Hc2 := Lib.hid hc2; obtain ⟨d0, _, _, _⟩ := (HD1.out.drew.below hB2).cells; have HD2 : Hid (DiskAt w2 d mb q l) := Lib.hid (HD1.out.drew.below hB2); have hlt2 := HD2.out.lt; clear hB2 hh2 hc2)
    | (go_at_call 53; refine whole_c A2 k c2x _ _ (fun w3 hB3 => ?_); have hD3 := HD2.out.below hB3; obtain ⟨ob, hup, hM⟩ := hD3.map.update keyString Tryz.underlying90 hps (wholeV A2 k c2x (fo.b.take k)); unfold FV.v wholeV at hup; obtain ⟨e0, _, _, _⟩ := hD3.cells; have HD3 : Hid (DiskAt w3 d mb q l) := Lib.hid hD3; have HB3 : Hid (Below w2.heap.size w2 w3) := Lib.hid hB3; have HM := Lib.hid hM; have hlt3 := hD3.lt; clear hD3 hB3 hM))
  all_goals
    go_wp2_with fail
    have hkW : Kept [mb] w3 (setBlock w3 mb ob) := kept_set _ _ _
    have hf2 : FV.ok w3 (wholeV A2 k c2x (fo.b.take k)) := ⟨by show (fo.b.take k).length = k; rw [List.length_take, Hfok.out.len]; omega, Hc2.out, Hh2.out.below HB3.out⟩
    have hb := (HB1.out.trans (HB2.out.mono HB1.out.size)).trans (HB3.out.mono (Nat.le_trans HB1.out.size HB2.out.size))
    exact H.out (wholeV A2 k c2x (fo.b.take k)) _ ((Kept.of_below hb).trans hkW) rfl rfl rfl (disk_put HD3.out hf2 hkW HM.out (used_same HD.out p (by rw [← Hfo.out]; exact hk)))
end Go.Proofs.YtdmcponfodohaaaGreatDoor
