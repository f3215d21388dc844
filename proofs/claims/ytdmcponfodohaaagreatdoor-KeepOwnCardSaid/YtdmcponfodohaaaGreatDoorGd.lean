/-
  Several texts in one: Rd, RdNum, RdText; each says at its head what it holds.
-/
import Derived.Test.YtdmcponfodohaaaGreatDoorGb
import Derived.Outline
import Derived.WalkMore
import Derived.ScopeJumps
/-
  code.Reader: what the reader reads, New, Bad; frames by the list of the blocks that may turn.
-/
namespace Go.Proofs.YtdmcponfodohaaaGreatDoor
open Go.RowKit Go.Shelf
set_option maxRecDepth 100000

/-- But for the blocks of S, w' is as w was. -/
structure Kept (S : List Nat) (w w' : World) : Prop where
  os : w'.os = w.os
  tape : w'.tape = w.tape
  output : w'.output = w.output
  size : w.heap.size ≤ w'.heap.size
  block : ∀ k, k < w.heap.size → k ∉ S → w'.heap[k]? = w.heap[k]?
theorem Kept.refl (S : List Nat) (w : World) : Kept S w w := ⟨rfl, rfl, rfl, Nat.le_refl _, fun _ _ _ => rfl⟩
theorem Kept.trans {S : List Nat} {a b c : World} (h : Kept S a b) (k : Kept S b c) : Kept S a c :=
  ⟨k.os.trans h.os, k.tape.trans h.tape, k.output.trans h.output, Nat.le_trans h.size k.size, fun i hi hs => (k.block i (Nat.lt_of_lt_of_le hi h.size) hs).trans (h.block i hi hs)⟩
theorem Kept.mono {S S' : List Nat} {w w' : World} (h : Kept S w w') (hS : ∀ k ∈ S, k ∈ S') : Kept S' w w' := ⟨h.os, h.tape, h.output, h.size, fun k hk hs => h.block k hk (fun e => hs (hS k e))⟩
theorem Kept.of_below {S : List Nat} {w w' : World} (h : Below w.heap.size w w') : Kept S w w' := ⟨h.os, h.tape, h.output, h.size, fun k hk _ => h.block k hk⟩
theorem Kept.of_grown {w w' : World} {g : Nat} (h : w.grownBy w' (some g)) : Kept [g] w w' := ⟨h.os, h.tape, h.output, h.size, fun k hk hs => h.block k hk (fun e => hs (by injection e with e; simp [e]))⟩
theorem Kept.drew {S : List Nat} {w w' : World} (h : Kept S w w') : Kept S w w'.drew := ⟨h.os, h.tape, h.output, h.size, h.block⟩
theorem Kept.alloc {S : List Nat} {w w' : World} (h : Kept S w w') (o : Obj) : Kept S w (w'.alloc o) := h.trans (.of_below ((Below.refl _ _).alloc (Nat.le_refl _) _))
theorem Kept.setCell {S : List Nat} {w w' : World} (h : Kept S w w') {p : Addr} (hp : p.block ∈ S) (u : Value) : Kept S w (w'.setCell p u) :=
  h.trans ⟨rfl, rfl, rfl, by simp [World.setCell], fun k _ hs => Below.heap_setCell _ _ _ _ (fun e => hs (by rw [e]; exact hp))⟩
theorem Kept.below {S : List Nat} {B : Nat} {w0 w w' : World} (h0 : Below B w0 w) (h : Kept S w w') (hB : B ≤ w.heap.size) (hS : ∀ k ∈ S, B ≤ k) : Below B w0 w' :=
  h0.trans ⟨h.os, h.tape, h.output, h.size, fun k hk => h.block k (by omega) (fun e => by have := hS k e; omega)⟩
theorem Kept.below_self {S : List Nat} {w w' : World} (h : Kept S w w') (hS : ∀ k ∈ S, w.heap.size ≤ k) : Below w.heap.size w w' := h.below (Below.refl _ _) (Nat.le_refl _) hS
theorem Kept.cell {S : List Nat} {w w' : World} (h : Kept S w w') {p : Addr} (hp : p.block < w.heap.size) (hS : p.block ∉ S) : w'.cell? p = w.cell? p := World.cell?_of_block (h.block _ hp hS)

/-- Cells that are read in block g. -/
def RdG (w : World) (g : Nat) (A : Option Addr) (n : Nat) (vs : List Value) : Prop := vs.length = n ∧ (0 < n → ∃ o, A = some ⟨g, o, none⟩ ∧ g < w.heap.size ∧ ∀ j u, vs[j]? = some u → w.cell? ⟨g, o + j, none⟩ = some u)
theorem RdG.rd {w : World} {g : Nat} {A : Option Addr} {n : Nat} {vs : List Value} (h : RdG w g A n vs) : Rd w A n vs :=
  ⟨h.1, fun h0 => by obtain ⟨o, e, hg, hc⟩ := h.2 h0; exact ⟨g, o, e, hg, hc⟩⟩
theorem RdG.kept {S : List Nat} {w w' : World} {g : Nat} {A : Option Addr} {n : Nat} {vs : List Value} (h : RdG w g A n vs) (hk : Kept S w w') (hg : g ∉ S) : RdG w' g A n vs :=
  ⟨h.1, fun h0 => by
    obtain ⟨o, e, hlt, hc⟩ := h.2 h0
    exact ⟨o, e, Nat.lt_of_lt_of_le hlt hk.size, fun j u hu => (hk.cell (p := ⟨g, _, none⟩) hlt hg).trans (hc j u hu)⟩⟩
theorem RdG.at_ {w : World} {g : Nat} {A : Option Addr} {n : Nat} {vs : List Value} (h : RdG w g A n vs) {k : Nat} {u : Value} (hu : vs[k]? = some u) : ∃ o, A = some ⟨g, o, none⟩ ∧ g < w.heap.size ∧ w.cell? ⟨g, o + k, none⟩ = some u := by
  have hl := (List.getElem?_eq_some_iff.1 hu).1
  obtain ⟨o, e, hlt, hc⟩ := h.2 (by have := h.1; omega)
  exact ⟨o, e, hlt, hc k u hu⟩
theorem RdG.drop_ {w : World} {g : Nat} {A : Option Addr} {n c : Nat} {vs : List Value} (h : RdG w g A n vs) {k : Nat} (hk : k ≤ n) (hc : n ≤ c) : RdG w g (if c = k then A else A.map (·.add k)) (n - k) (vs.drop k) := by
  refine ⟨by rw [List.length_drop, h.1], fun h0 => ?_⟩
  obtain ⟨o, rfl, hlt, hcell⟩ := h.2 (by omega)
  rw [if_neg (by omega)]
  refine ⟨o + k, ?_, hlt, fun j u hu => ?_⟩
  · simp only [Option.map_some, Addr.add_lit]
  · rw [List.getElem?_drop] at hu
    rw [Nat.add_assoc]
    exact hcell _ u hu

/-- The reader in block r reads l, whose bytes lie in block g. -/
def RdrAt (w : World) (r g : Nat) (l : List Int) : Prop := g ≠ r ∧ ∃ A n c, w.heap[r]? = some (.cells #[.slice A n c, .bool false] 150) ∧ n ≤ c ∧ RdG w g A n (u8s l)
theorem RdrAt.kept {S : List Nat} {w w' : World} {r g : Nat} {l : List Int} (h : RdrAt w r g l) (hk : Kept S w w') (hr : r ∉ S) (hg : g ∉ S) : RdrAt w' r g l := by
  obtain ⟨hne, A, n, c, hb, hnc, hR⟩ := h
  exact ⟨hne, A, n, c, (hk.block r (Array.getElem?_eq_some_iff.1 hb).1 hr).trans hb, hnc, hR.kept hk hg⟩
theorem RdrAt.lt {w : World} {r g : Nat} {l : List Int} (h : RdrAt w r g l) : r < w.heap.size := by
  obtain ⟨hne, A, n, c, hb, hnc, hR⟩ := h
  exact (Array.getElem?_eq_some_iff.1 hb).1
/-- What the walk is told of a reader. -/
theorem RdrAt.open_ {w : World} {r g : Nat} {l : List Int} (h : RdrAt w r g l) : ∃ A n c, w.cell? ⟨r, 0, none⟩ = some (.slice A n c) ∧ w.cell? ⟨r, 1, none⟩ = some (.bool false) ∧ w.frozen? ⟨r, 0, none⟩ = false ∧ r < w.heap.size ∧ l.length = n ∧ n ≤ c ∧ RdG w g A n (u8s l) := by
  obtain ⟨hne, A, n, c, hb, hnc, hR⟩ := h
  refine ⟨A, n, c, by rw [cell_of_row w r _ _ _ _ hb]; rfl, by rw [cell_of_row w r _ _ _ _ hb]; rfl, by simp [World.frozen?, hb], (Array.getElem?_eq_some_iff.1 hb).1, ?_, hnc, hR⟩
  have := hR.1
  rwa [u8s_length] at this
/-- The reader goes on. -/
theorem RdrAt.step {w : World} {r g : Nat} {l : List Int} (h : RdrAt w r g l) {A : Option Addr} {n c : Nat} {l' : List Int} (hR : RdG w g A n (u8s l')) (hnc : n ≤ c) : RdrAt (w.setCell ⟨r, 0, none⟩ (.slice A n c)) r g l' := by
  obtain ⟨hne, A0, n0, c0, hb, hnc0, hR0⟩ := h
  refine ⟨hne, A, n, c, ?_, hnc, hR.kept (S := [r]) ((Kept.refl [r] w).setCell (by simp) _) (by simpa using hne)⟩
  simp [World.setCell, Array.getElem?_modify, hb]

theorem rdG_own {w : World} {base n : Nat} {v : Value} {xs : List Value} (h : w.ownsRow base 5 1 v n xs) (hb : base ≤ w.heap.size) : ∃ g A c, v = .slice A n c ∧ base ≤ g ∧ g ≤ w.heap.size ∧ n ≤ c ∧ RdG w g A n xs := by
  rcases h.2 with ⟨rfl, rfl⟩ | ⟨g, cap, cur, rfl, hg, hh, hnc, _⟩
  · exact ⟨w.heap.size, none, 0, rfl, hb, Nat.le_refl _, Nat.le_refl _, by have := h.1; omega, fun h => absurd h (by omega)⟩
  · have hlt := (Array.getElem?_eq_some_iff.1 hh).1
    refine ⟨g, _, cap, rfl, hg, Nat.le_of_lt hlt, hnc, by have := h.1; omega, fun _ => ⟨0, rfl, hlt, fun j u hu => ?_⟩⟩
    have := h.cells (g := g) rfl j u hu
    rwa [Addr.add_lit] at this

section
variable {P : Program} {ops : Array Oper} {rest : List Oper} {o : Oper} {a : Act} {w : World} {Q : Exit → Act → World → Prop}
/-- A struct literal, by what its run is. -/
theorem wpList_build (hg : o.guard = none) (t : TypeId) (parts : Array (Nat × Operand)) (ho : o.op = .build t parts) (v : Value) (hrun : (Instr.build t (parts.map fun (i, x) => (i, a.eval x))).run P w = .ok v w)
    (h : wpList P ops Q rest (a.put o.dst v) w) : wpList P ops Q (o :: rest) a w := by
  refine wpList_plain hg fun K hK => ?_
  unfold Oper.wp execOp
  simp only [ho, Sem.run_bind, hrun, Result.andThen_ok, Sem.run_pure]
  exact hK _ _ h
end
theorem build_rd (w : World) (A : Option Addr) (n c : Nat) : (Instr.build 150 #[(0, .slice A n c)]).run Tryz.prog w = .ok (.agg #[.slice A n c, .bool false]) w := by kernel_rfl
theorem new_own {w w1 : World} {v1 : Value} {n : Nat} {l : List Int} (hown1 : w1.ownsRow w.heap.size 5 1 v1 (0 + n) ([] ++ u8s l)) (hg1 : w.grownBy w1 (Value.ownBlock (.slice none 0 0))) :
    ∃ g A c, v1 = .slice A n c ∧ w.heap.size ≤ g ∧ g ≤ w1.heap.size ∧ n ≤ c ∧ Hid (Below w.heap.size w w1) ∧ Hid (RdG w1 g A n (u8s l)) := by
  have hb1 : Below w.heap.size w w1 := below_grown' (Below.refl _ _) (Nat.le_refl _) hg1 (fun g hg => by cases hg)
  rw [Nat.zero_add, List.nil_append] at hown1
  obtain ⟨g, A1, c1, rfl, hg0, hg2, hnc, hRG⟩ := rdG_own hown1 hb1.size
  exact ⟨g, A1, c1, rfl, hg0, hg2, hnc, hb1, hRG⟩
theorem rdNew_c (A : Option Addr) (n c : Nat) (l : List Int) (w : World) (hR : Rd w A n (u8s l)) (hn : n ≤ 1000000000) (R : Ending → World → Prop)
    (h : ∀ r g w', Below w.heap.size w w' → w.heap.size ≤ r → w.heap.size ≤ g → RdrAt w' r g l → R (.returned (.pointer (some ⟨r, 0, none⟩))) w') :
    Calls Tryz.prog 89 #[.slice A n c] w R := by
  have H := Lib.hid h
  clear h
  have HR := Lib.hid hR
  clear hR
  go_enter Tryz.func89, Tryz.ntmps89
  go_wp2_with (at_builtin; (refine app_rd w.heap.size rfl _ _ 37 5 (.int .u8 0) 1 rfl Tryz.underlying37 infoU8 rfl (by decide) _ 0 [] _ _ _ _ rfl rfl (u8s_one l) (own_nil' _ _ _ _) (by exact HR.out) (Nat.le_refl _) (by omega) ?_); intro v1 w1 hown1 hg1 hgb; obtain ⟨g, A1, c1, rfl, hg0, hg2, hnc, Hb1, HRG⟩ := new_own hown1 hg1; clear hown1 hg1 hgb)
  refine H.out w1.heap.size (if g = w1.heap.size then w1.heap.size + 1 else g) _ (Hb1.out.alloc Hb1.out.size _) Hb1.out.size (by have := Hb1.out.size; split <;> omega) ⟨by split <;> omega, A1, n, c1, heap_alloc_new w1 _, hnc, ?_⟩
  by_cases hg : g = w1.heap.size
  · have h0 : n = 0 := by
      rcases Nat.eq_zero_or_pos n with h0 | h0
      · exact h0
      · obtain ⟨o, _, hlt, _⟩ := HRG.out.2 h0
        omega
    exact ⟨HRG.out.1, fun hh => by omega⟩
  · rw [if_neg hg]
    exact HRG.out.kept (Kept.of_below (S := []) ((Below.refl _ _).alloc (Nat.le_refl _) _)) (by simp)

theorem rdBad_c (r g : Nat) (l : List Int) (w : World) (h : RdrAt w r g l) (R : Ending → World → Prop) (hR : R (.returned (.bool false)) w) : Calls Tryz.prog 118 #[.pointer (some ⟨r, 0, none⟩)] w R := by
  obtain ⟨A, n, c, h0, h1, _, h2, _⟩ := h.open_
  go_enter Tryz.func118, Tryz.ntmps118
  go_wp2_with fail
  exact hR

theorem or_low (k acc x : Nat) (ha : acc < 2 ^ k) (hx : acc + 2 ^ k * x < 9223372036854775808) : bits .or .i64 (acc : Int) ((2 ^ k * x : Nat) : Int) = ((acc + 2 ^ k * x : Nat) : Int) := by
  have h1 : 2 ^ k * x < 2 ^ 64 := by omega
  have h2 : acc < 2 ^ 64 := by omega
  have e : (BitVec.ofInt 64 (acc : Int) ||| BitVec.ofInt 64 ((2 ^ k * x : Nat) : Int)).toNat = acc + 2 ^ k * x := by
    rw [BitVec.toNat_or, BitVec.ofInt_natCast, BitVec.ofInt_natCast, BitVec.toNat_ofNat, BitVec.toNat_ofNat, Nat.mod_eq_of_lt h1, Nat.mod_eq_of_lt h2, Nat.or_comm, ← Nat.two_pow_add_eq_or_of_lt ha]
    omega
  show IntKind.i64.wrap _ = _
  show IntKind.i64.wrap ((BitVec.ofInt 64 (acc : Int) ||| BitVec.ofInt 64 ((2 ^ k * x : Nat) : Int)).toNat : Int) = _
  rw [e]
  exact Go.IntWalk.i64_in _ (by omega)
end Go.Proofs.YtdmcponfodohaaaGreatDoor
/-
  code.Reader.Number: the next number, where the bytes begin with one.
-/
namespace Go.Proofs.YtdmcponfodohaaaGreatDoor
open Go.RowKit Go.Shelf
set_option maxRecDepth 100000

/-- Behind k bytes of a number: what was read of it, and what is left. -/
structure NumSt (n : Nat) (l rest : List Int) (k acc cur : Nat) : Prop where
  drop : l.drop k = numN cur ++ rest
  sum : acc + 2 ^ (7 * k) * cur = n
  low : acc < 2 ^ (7 * k)
  high : cur < 2 ^ (35 - 7 * k)
  pos : k = 0 ∨ 1 ≤ cur
  four : k ≤ 4
theorem NumSt.start {n : Nat} (hn : n < 2 ^ 35) (rest : List Int) : NumSt n (numN n ++ rest) rest 0 0 n := ⟨rfl, by simp, by simp, by simpa using hn, .inl rfl, by omega⟩
theorem drop_cons {l t : List Int} {c : Int} {k : Nat} (h : l.drop k = c :: t) : l[k]? = some c ∧ l.drop (k + 1) = t := by
  constructor
  · have := congrArg (fun x => x[0]?) h
    simpa using this
  · have := congrArg (List.drop 1) h
    simpa using this
theorem NumSt.last {n : Nat} {l rest : List Int} {k acc cur : Nat} (h : NumSt n l rest k acc cur) (hc : cur < 128) : l[k]? = some (cur : Int) ∧ l.drop (k + 1) = rest := by
  have := h.drop
  rw [numN.eq_def, dif_pos hc] at this
  exact drop_cons this
theorem NumSt.more {n : Nat} {l rest : List Int} {k acc cur : Nat} (h : NumSt n l rest k acc cur) (hc : ¬ cur < 128) : l[k]? = some ((cur % 128 + 128 : Nat) : Int) ∧ k ≤ 3 ∧ NumSt n l rest (k + 1) (acc + 2 ^ (7 * k) * (cur % 128)) (cur / 128) := by
  have h1 := h.drop
  rw [numN.eq_def, dif_neg hc] at h1
  obtain ⟨h2, h3⟩ := drop_cons h1
  obtain ⟨_, hs, hl, hh, _, h4⟩ := h
  have hk : k ≤ 3 := by
    rcases Nat.lt_or_ge k 4 with hk | hk
    · omega
    · have : k = 4 := by omega
      subst this
      simp at hh
      omega
  refine ⟨h2, hk, h3, ?_, ?_, ?_, .inr (by omega), by omega⟩
  · have : 2 ^ (7 * (k + 1)) = 2 ^ (7 * k) * 128 := by rw [Nat.mul_add, Nat.pow_add]
    rw [this, ← hs, Nat.mul_assoc, Nat.add_assoc, ← Nat.mul_add]
    congr 2
    omega
  · have : 2 ^ (7 * (k + 1)) = 2 ^ (7 * k) * 128 := by rw [Nat.mul_add, Nat.pow_add]
    rw [this]
    have h5 : cur % 128 ≤ 127 := by omega
    have := Nat.mul_le_mul_left (2 ^ (7 * k)) h5
    omega
  · have : 2 ^ (35 - 7 * k) = 2 ^ (35 - 7 * (k + 1)) * 128 := by
      rw [show 35 - 7 * k = (35 - 7 * (k + 1)) + 7 by omega, Nat.pow_add]
    rw [this] at hh
    exact Nat.div_lt_of_lt_mul (by rw [Nat.mul_comm]; exact hh)
theorem num_in {k acc x n : Nat} (h : acc + 2 ^ (7 * k) * x ≤ n) (hn : n < 2 ^ 35) (hl : acc < 2 ^ (7 * k)) {a : Int} (ha : a = (acc : Int)) {y : Int} (hy : y = ((2 ^ (7 * k) * x : Nat) : Int)) : bits .or .i64 a y = ((acc + 2 ^ (7 * k) * x : Nat) : Int) := by
  subst ha hy
  exact or_low (7 * k) acc x hl (by omega)

theorem num_end {w : World} {r g : Nat} {l rest : List Int} {o len c k : Nat} (h : RdrAt w r g l) (hG : RdG w g (some ⟨g, o, none⟩) len (u8s l)) (e : l.drop (k + 1) = rest) (hk : k + 1 ≤ len) (hnc : len ≤ c) (hc : c = k + 1) : RdrAt (w.setCell ⟨r, 0, none⟩ (.slice (some ⟨g, o, none⟩) (len - (k + 1)) 0)) r g rest := by
  have := hG.drop_ hk hnc
  rw [if_pos hc] at this
  have e2 : (u8s l).drop (k + 1) = u8s rest := by unfold u8s; rw [← List.map_drop, e]
  rw [e2] at this
  exact h.step this (by omega)
theorem num_end' {w : World} {r g : Nat} {l rest : List Int} {o len c k : Nat} (h : RdrAt w r g l) (hG : RdG w g (some ⟨g, o, none⟩) len (u8s l)) (e : l.drop (k + 1) = rest) (hk : k + 1 ≤ len) (hnc : len ≤ c) (hc : ¬ c = k + 1) : RdrAt (w.setCell ⟨r, 0, none⟩ (.slice (some ⟨g, o + (k + 1), none⟩) (len - (k + 1)) (c - (k + 1)))) r g rest := by
  have := hG.drop_ hk hnc
  rw [if_neg hc] at this
  have e2 : (u8s l).drop (k + 1) = u8s rest := by unfold u8s; rw [← List.map_drop, e]
  rw [e2, Option.map_some, Addr.add_lit] at this
  exact h.step this (by omega)
theorem fin_num {R : Ending → World → Prop} {W : World} {a : Int} {n : Nat} (h : R (.returned (.int .i64 n)) W) (e : a = n) : R (.returned (.int .i64 a)) W := by subst e; exact h
theorem NumSt.fin {n : Nat} {l rest : List Int} {k acc cur : Nat} (h : NumSt n l rest k acc cur) (hn : n < 2 ^ 35) {a : Int} (ha : a = (acc : Int)) {y : Int} (hy : y = ((2 ^ (7 * k) * cur : Nat) : Int)) : bits .or .i64 a y = (n : Int) := by
  rw [num_in (n := n) (by have := h.sum; omega) hn h.low ha hy, h.sum]
theorem NumSt.mid {n : Nat} {l rest : List Int} {k acc cur : Nat} (h : NumSt n l rest k acc cur) (hn : n < 2 ^ 35) {a : Int} (ha : a = (acc : Int)) {y : Int} (hy : y = ((2 ^ (7 * k) * (cur % 128) : Nat) : Int)) : bits .or .i64 a y = ((acc + 2 ^ (7 * k) * (cur % 128) : Nat) : Int) := by
  refine num_in (n := n) ?_ hn h.low ha hy
  have := Nat.mul_le_mul_left (2 ^ (7 * k)) (Nat.mod_le cur 128)
  have := h.sum
  omega

def numJ (r n : Nat) (l rest : List Int) (w : World) (a' : Act) (w' : World) : Prop :=
  w' = w ∧ ∃ (k acc cur : Nat) (accI : Int), 1 ≤ k ∧ NumSt n l rest k acc cur ∧ accI = (acc : Int) ∧ ∃ (u1 u5 u6 u7 u8 u9 u10 u11 u12 u13 u14 u15 u16 u17 u18 u19 u20 u21 u22 u23 u24 u25 u26 u27 u28 u29 u30 u31 u32 u33 u34 u35 u36 u37 u38 u39 u40 u41 u42 u43 u44 u45 u46 u47 u48 u49 u50 u51 u52 u53 u54 u55 u56 u57 u58 u59 u60 u61 : Value), a' = { tmps := #[.pointer (some ⟨r, 0, none⟩), u1, .int .i64 0, .int .i64 accI, .int .i64 k, u5, u6, u7, u8, u9, u10, u11, u12, u13, u14, u15, u16, u17, u18, u19, u20, u21, u22, u23, u24, u25, u26, u27, u28, u29, u30, u31, u32, u33, u34, u35, u36, u37, u38, u39, u40, u41, u42, u43, u44, u45, u46, u47, u48, u49, u50, u51, u52, u53, u54, u55, u56, u57, u58, u59, u60, u61], defers := [] }

set_option maxHeartbeats 4000000 in
theorem rdNumber_c (r g : Nat) (n : Nat) (rest : List Int) (w : World) (hn : n < 2 ^ 35) (hR : RdrAt w r g (numN n ++ rest)) (R : Ending → World → Prop)
    (h : ∀ w', Kept [r] w w' → RdrAt w' r g rest → R (.returned (.int .i64 n)) w') :
    Calls Tryz.prog 90 #[.pointer (some ⟨r, 0, none⟩)] w R := by
  have H := Lib.hid h
  have HR := Lib.hid hR
  have Hn := Lib.hid hn
  have Hst := Lib.hid (NumSt.start hn rest)
  obtain ⟨l, hll⟩ : ∃ l, l = numN n ++ rest := ⟨_, rfl⟩
  rw [← hll] at HR Hst
  clear h hR hll hn
  obtain ⟨A, len, c, c0, c1, f0, hlt, hlen, hnc, hG⟩ := HR.out.open_
  have HG := Lib.hid hG
  have Hlen := Lib.hid hlen
  clear hG hlen
  go_enter Tryz.func90, Tryz.ntmps90
  go_wp2_with fail
  refine wp_scope_jumps 0 (numJ r n l rest w) (fun a' _ => 5 - (RowKit.intOf (a'.tmps.getD 4 undef)).toNat) rfl ?_ ?_
  · by_cases hc : n < 128
    · obtain ⟨e1, e2⟩ := Hst.out.last hc
      obtain ⟨o, rfl, hgl, hcell⟩ := HG.out.at_ (k := 0) (u := .int .u8 n) (by unfold u8s; rw [List.getElem?_map, e1]; rfl)
      rw [Nat.add_zero] at hcell
      have hk : 0 < len := by rw [← Hlen.out]; exact (List.getElem?_eq_some_iff.1 e1).1
      have t1 : decide (len ≤ 0) = false := by simp; omega
      have E2 := Lib.hid e2
      clear e1 e2
      go_wp2_with fail
      go_step3
      go_wp2_with fail
      all_goals
        refine fin_num (H.out _ ((Kept.refl [r] w).setCell (by simp) _) ?_) (Hst.out.fin Hn.out rfl ?_)
        · first | exact num_end (k := 0) HR.out HG.out E2.out hk hnc (by assumption) | exact num_end' (k := 0) HR.out HG.out E2.out hk hnc (by assumption)
        · simp
          omega
    · obtain ⟨e1, _, hst⟩ := Hst.out.more hc
      obtain ⟨ci, hci⟩ : ∃ ci : Int, ci = ((n % 128 + 128 : Nat) : Int) := ⟨_, rfl⟩
      rw [← hci] at e1
      obtain ⟨o, rfl, hgl, hcell⟩ := HG.out.at_ (k := 0) (u := .int .u8 ci) (by unfold u8s; rw [List.getElem?_map, e1]; rfl)
      rw [Nat.add_zero] at hcell
      have hk : 0 < len := by rw [← Hlen.out]; exact (List.getElem?_eq_some_iff.1 e1).1
      have t1 : decide (len ≤ 0) = false := by simp; omega
      have b1 : 128 ≤ ci := by omega
      have b2 : ci < 256 := by omega
      have Hci := Lib.hid hci
      have Hs2 := Lib.hid hst
      clear e1 hci hst hc
      go_wp2_with fail
      go_step3
      go_wp2_with fail
      go_step3
      refine ⟨rfl, rfl, 1, _, _, _, by omega, Hs2.out, Hst.out.mid Hn.out rfl ?_, _, _, _, _, _, _, _, _, _, _, _, _, _, _, _, _, _, _, _, _, _, _, _, _, _, _, _, _, _, _, _, _, _, _, _, _, _, _, _, _, _, _, _, _, _, _, _, _, _, _, _, _, _, _, _, _, _, _, rfl⟩
      have := Hci.out
      simp
      omega
  · rintro a' w' ⟨rfl, k, acc, cur, accI, hk1, hst, hacc, u1, u5, u6, u7, u8, u9, u10, u11, u12, u13, u14, u15, u16, u17, u18, u19, u20, u21, u22, u23, u24, u25, u26, u27, u28, u29, u30, u31, u32, u33, u34, u35, u36, u37, u38, u39, u40, u41, u42, u43, u44, u45, u46, u47, u48, u49, u50, u51, u52, u53, u54, u55, u56, u57, u58, u59, u60, u61, rfl⟩
    have hk4 := hst.four
    have Hs := Lib.hid hst
    have Ha := Lib.hid hacc
    clear hst hacc
    by_cases hc : cur < 128
    · obtain ⟨e1, e2⟩ := Hs.out.last hc
      obtain ⟨o, rfl, hgl, hcell⟩ := HG.out.at_ (k := k) (u := .int .u8 cur) (by unfold u8s; rw [List.getElem?_map, e1]; rfl)
      have hk : k < len := by rw [← Hlen.out]; exact (List.getElem?_eq_some_iff.1 e1).1
      have hp : 1 ≤ cur := by rcases Hs.out.pos with h | h <;> omega
      have E2 := Lib.hid e2
      clear e1 e2
      have hkk : k = 1 ∨ k = 2 ∨ k = 3 ∨ k = 4 := by omega
      rcases hkk with rfl | rfl | rfl | rfl
      all_goals
        go_wp2_with fail
      all_goals
        refine fin_num (H.out _ ((Kept.refl [r] _).setCell (by simp) _) ?_) (Hs.out.fin Hn.out Ha.out ?_)
        · first | exact num_end HR.out HG.out E2.out hk hnc (by assumption) | exact num_end' HR.out HG.out E2.out hk hnc (by assumption)
        · simp
          omega
    · obtain ⟨e1, hk3, hst⟩ := Hs.out.more hc
      obtain ⟨ci, hci⟩ : ∃ ci : Int, ci = ((cur % 128 + 128 : Nat) : Int) := ⟨_, rfl⟩
      rw [← hci] at e1
      obtain ⟨o, rfl, hgl, hcell⟩ := HG.out.at_ (k := k) (u := .int .u8 ci) (by unfold u8s; rw [List.getElem?_map, e1]; rfl)
      have hk : k < len := by rw [← Hlen.out]; exact (List.getElem?_eq_some_iff.1 e1).1
      have b1 : 128 ≤ ci := by omega
      have b2 : ci < 256 := by omega
      have Hci := Lib.hid hci
      have Hs2 := Lib.hid hst
      clear e1 hci hst hc
      have hkk : k = 1 ∨ k = 2 ∨ k = 3 := by omega
      rcases hkk with rfl | rfl | rfl
      all_goals
        go_wp2_with fail
        go_step3
        refine ⟨rfl, ⟨rfl, _, _, _, _, ?_, Hs2.out, Hs.out.mid Hn.out Ha.out ?_, _, _, _, _, _, _, _, _, _, _, _, _, _, _, _, _, _, _, _, _, _, _, _, _, _, _, _, _, _, _, _, _, _, _, _, _, _, _, _, _, _, _, _, _, _, _, _, _, _, _, _, _, _, _, _, _, _, _, rfl⟩, ?_⟩
        · omega
        · have := Hci.out
          simp
          omega
        · simp [RowKit.intOf]
end Go.Proofs.YtdmcponfodohaaaGreatDoor
/-
  code.Reader.Text: the next text, where the bytes begin with one.
-/
namespace Go.Proofs.YtdmcponfodohaaaGreatDoor
open Go.RowKit Go.Shelf
set_option maxRecDepth 100000

theorem conv_text {w : World} {A : Option Addr} {n c : Nat} {xs : List Int} (hR : Rd w A n (u8s xs)) : (convert 37 9 (.slice A n c)).run Tryz.prog w = .ok (.string (strOfNums xs)) w := by
  have hl : xs.length = n := by have := hR.1; rwa [u8s_length] at this
  rcases A with _ | a
  · have h0 : n = 0 := by
      rcases Nat.eq_zero_or_pos n with h | h
      · exact h
      · obtain ⟨g, o, e, _⟩ := hR.2 h
        cases e
    subst h0
    obtain rfl : xs = [] := List.eq_nil_of_length_eq_zero hl
    exact run_convert_bytes_nil w _ _ Tryz.underlying37 Tryz.underlying5 _ _ _ Tryz.underlying9
  · have hld : (loadCells a n).run Tryz.prog w = .ok (u8s xs).toArray w := by
      have := run_loadCells_list (P := Tryz.prog) w a (u8s xs) (fun j v hj => by
        obtain ⟨g, o, e, _, hc⟩ := hR.2 (by have := (List.getElem?_eq_some_iff.1 hj).1; rw [u8s_length] at this; omega)
        injection e with e
        subst e
        rw [Addr.add_lit]
        exact hc j v hj)
      rwa [u8s_length, hl] at this
    rw [run_convert_bytes_string w _ _ _ _ n c Tryz.underlying37 Tryz.underlying5 Tryz.underlying9, run_bytesToString w _ n c xs hld, foldl_push_bytes]
    simp [strOfNums, ByteArray.empty, ByteArray.emptyWithCapacity]
    rfl
theorem str_bytes (t : ByteArray) : strOfNums (bytesL t) = t := by
  unfold strOfNums bytesL
  rw [List.map_map]
  have : ((fun n : Int => UInt8.ofNat n.toNat) ∘ fun b : UInt8 => (b.toNat : Int)) = id := by
    funext b
    simp
  rw [this, List.map_id, Array.toArray_toList]
theorem rd_end {w : World} {r g : Nat} {l : List Int} {A : Option Addr} {len c n : Nat} (h : RdrAt w r g l) (hG : RdG w g A len (u8s l)) (hk : n ≤ len) (hnc : len ≤ c) : RdrAt (w.setCell ⟨r, 0, none⟩ (.slice (if c = n then A else A.map (·.add n)) (len - n) (c - n))) r g (l.drop n) := by
  have := hG.drop_ hk hnc
  have e2 : (u8s l).drop n = u8s (l.drop n) := by unfold u8s; rw [← List.map_drop]
  rw [e2] at this
  exact h.step this (by omega)
theorem rdG_take {w : World} {g : Nat} {A : Option Addr} {len n : Nat} {l : List Int} (hG : RdG w g A len (u8s l)) (hk : n ≤ len) : Rd w A n (u8s (l.take n)) := by
  have := hG.rd.take_ hk
  have e2 : (u8s l).take n = u8s (l.take n) := by unfold u8s; rw [← List.map_take]
  rwa [e2] at this
theorem textB_eq {t : ByteArray} (hs : t.size ≤ 200) : textB t = numN t.size ++ bytesL t := by
  unfold textB numB
  rw [if_neg (by omega), if_neg (by omega)]
  rfl

set_option maxHeartbeats 4000000 in
theorem rdText_c (r g : Nat) (t : ByteArray) (rest : List Int) (w : World) (hs : t.size ≤ 200) (hR : RdrAt w r g (textB t ++ rest)) (R : Ending → World → Prop)
    (h : ∀ w', Kept [r] w w' → RdrAt w' r g rest → R (.returned (.string t)) w') :
    Calls Tryz.prog 117 #[.pointer (some ⟨r, 0, none⟩)] w R := by
  have H := Lib.hid h
  rw [textB_eq hs, List.append_assoc] at hR
  have HR := Lib.hid hR
  clear h hR
  go_enter Tryz.func117, Tryz.ntmps117
  go_wp2_with fail
  refine rdNumber_c r g t.size (bytesL t ++ rest) w (by omega) HR.out _ (fun w1 hk1 hR1 => ?_)
  have HK := Lib.hid hk1
  have HR1 := Lib.hid hR1
  clear hk1 hR1
  obtain ⟨A, len, c, c0, c1, f0, hlt, hlen, hnc, hG⟩ := HR1.out.open_
  have hfin := fun (h : t.size ≤ len) => rd_end HR1.out hG h hnc
  have hnl : t.size ≤ len := by rw [← hlen, List.length_append, bytesL_length]; omega
  have hcv := conv_text (c := c) (rdG_take hG hnl)
  have e1 : (bytesL t ++ rest).take t.size = bytesL t := by rw [List.take_append_of_le_length (by rw [bytesL_length]; omega), List.take_of_length_le (by rw [bytesL_length]; omega)]
  have e2 : (bytesL t ++ rest).drop t.size = rest := by rw [List.drop_append_of_le_length (by rw [bytesL_length]; omega), List.drop_eq_nil_of_le (by rw [bytesL_length]; omega)]; rfl
  rw [e1, str_bytes] at hcv
  have Hfin : Hid (RdrAt (w1.setCell ⟨r, 0, none⟩ (.slice (if c = t.size then A else A.map (·.add t.size)) (len - t.size) (c - t.size))) r g rest) := Lib.hid (by have := hfin hnl; rwa [e2] at this)
  have HG := Lib.hid hG
  obtain ⟨n, hn⟩ : ∃ n, n = t.size := ⟨_, rfl⟩
  rw [← hn] at Hfin hnl hcv hs ⊢
  have t1 : decide (200 < (n : Int)) = false := by simp; omega
  have t2 : decide (len < n) = false := by simp; omega
  clear hfin hlen hG e1 e2 hn
  rcases A with _ | a
  · go_wp2_with fail
    refine H.out _ (HK.out.setCell (by simp) _) ?_
    have hf := Hfin.out
    rw [show (if c = n then none else Option.map (fun x : Addr => x.add n) none) = none by split <;> rfl] at hf
    exact hf
  · go_wp2_with fail
    · have hc := h; clear h
      refine H.out _ (HK.out.setCell (by simp) _) ?_
      have hf := Hfin.out
      rw [if_pos hc, show c - n = 0 by omega] at hf
      exact hf
    · have hc := h; clear h
      refine H.out _ (HK.out.setCell (by simp) _) ?_
      have hf := Hfin.out
      rw [if_neg hc] at hf
      exact hf
end Go.Proofs.YtdmcponfodohaaaGreatDoor
