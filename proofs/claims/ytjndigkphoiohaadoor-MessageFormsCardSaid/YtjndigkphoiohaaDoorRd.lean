/-
  code.Reader: what the reader reads, New, Bad; frames by the list of the blocks that may turn.
-/
import Derived.Test.YtjndigkphoiohaaDoorConcat
import Derived.Outline
import Derived.WalkMore
import Derived.ScopeJumps
namespace Go.Proofs.YtjndigkphoiohaaDoor
open Go.RowKit Go.Shelf
set_option maxRecDepth 100000

/-- But for the blocks of S, w' is as w was. -/
structure Kept (S : List Nat) (w w' : World) : Prop where
  os : w'.os = w.os
  tape : w'.tape = w.tape
  output : w'.output = w.output
  size : w.heap.size ≤ w'.heap.size
  block : ∀ k, k < w.heap.size → k ∉ S → w'.heap[k]? = w.heap[k]?
theorem Kept.refl (S : List Nat) (w : World) : Kept S w w := ⟨rfl, rfl, rfl, Nat.le_refl _, fun _ _ _ => rfl⟩
theorem Kept.trans {S : List Nat} {a b c : World} (h : Kept S a b) (k : Kept S b c) : Kept S a c :=
  ⟨k.os.trans h.os, k.tape.trans h.tape, k.output.trans h.output, Nat.le_trans h.size k.size, fun i hi hs => (k.block i (Nat.lt_of_lt_of_le hi h.size) hs).trans (h.block i hi hs)⟩
theorem Kept.mono {S S' : List Nat} {w w' : World} (h : Kept S w w') (hS : ∀ k ∈ S, k ∈ S') : Kept S' w w' := ⟨h.os, h.tape, h.output, h.size, fun k hk hs => h.block k hk (fun e => hs (hS k e))⟩
theorem Kept.of_below {S : List Nat} {w w' : World} (h : Below w.heap.size w w') : Kept S w w' := ⟨h.os, h.tape, h.output, h.size, fun k hk _ => h.block k hk⟩
theorem Kept.of_grown {w w' : World} {g : Nat} (h : w.grownBy w' (some g)) : Kept [g] w w' := ⟨h.os, h.tape, h.output, h.size, fun k hk hs => h.block k hk (fun e => hs (by injection e with e; simp [e]))⟩
theorem Kept.drew {S : List Nat} {w w' : World} (h : Kept S w w') : Kept S w w'.drew := ⟨h.os, h.tape, h.output, h.size, h.block⟩
theorem Kept.alloc {S : List Nat} {w w' : World} (h : Kept S w w') (o : Obj) : Kept S w (w'.alloc o) := h.trans (.of_below ((Below.refl _ _).alloc (Nat.le_refl _) _))
theorem Kept.setCell {S : List Nat} {w w' : World} (h : Kept S w w') {p : Addr} (hp : p.block ∈ S) (u : Value) : Kept S w (w'.setCell p u) :=
  h.trans ⟨rfl, rfl, rfl, by simp [World.setCell], fun k _ hs => Below.heap_setCell _ _ _ _ (fun e => hs (by rw [e]; exact hp))⟩
theorem Kept.below {S : List Nat} {B : Nat} {w0 w w' : World} (h0 : Below B w0 w) (h : Kept S w w') (hB : B ≤ w.heap.size) (hS : ∀ k ∈ S, B ≤ k) : Below B w0 w' :=
  h0.trans ⟨h.os, h.tape, h.output, h.size, fun k hk => h.block k (by omega) (fun e => by have := hS k e; omega)⟩
theorem Kept.below_self {S : List Nat} {w w' : World} (h : Kept S w w') (hS : ∀ k ∈ S, w.heap.size ≤ k) : Below w.heap.size w w' := h.below (Below.refl _ _) (Nat.le_refl _) hS
theorem Kept.cell {S : List Nat} {w w' : World} (h : Kept S w w') {p : Addr} (hp : p.block < w.heap.size) (hS : p.block ∉ S) : w'.cell? p = w.cell? p := World.cell?_of_block (h.block _ hp hS)

/-- Cells that are read in block g. -/
def RdG (w : World) (g : Nat) (A : Option Addr) (n : Nat) (vs : List Value) : Prop := vs.length = n ∧ (0 < n → ∃ o, A = some ⟨g, o, none⟩ ∧ g < w.heap.size ∧ ∀ j u, vs[j]? = some u → w.cell? ⟨g, o + j, none⟩ = some u)
theorem RdG.rd {w : World} {g : Nat} {A : Option Addr} {n : Nat} {vs : List Value} (h : RdG w g A n vs) : Rd w A n vs :=
  ⟨h.1, fun h0 => by obtain ⟨o, e, hg, hc⟩ := h.2 h0; exact ⟨g, o, e, hg, hc⟩⟩
theorem RdG.kept {S : List Nat} {w w' : World} {g : Nat} {A : Option Addr} {n : Nat} {vs : List Value} (h : RdG w g A n vs) (hk : Kept S w w') (hg : g ∉ S) : RdG w' g A n vs :=
  ⟨h.1, fun h0 => by
    obtain ⟨o, e, hlt, hc⟩ := h.2 h0
    exact ⟨o, e, Nat.lt_of_lt_of_le hlt hk.size, fun j u hu => (hk.cell (p := ⟨g, _, none⟩) hlt hg).trans (hc j u hu)⟩⟩
theorem RdG.at_ {w : World} {g : Nat} {A : Option Addr} {n : Nat} {vs : List Value} (h : RdG w g A n vs) {k : Nat} {u : Value} (hu : vs[k]? = some u) : ∃ o, A = some ⟨g, o, none⟩ ∧ g < w.heap.size ∧ w.cell? ⟨g, o + k, none⟩ = some u := by
  have hl := (List.getElem?_eq_some_iff.1 hu).1
  obtain ⟨o, e, hlt, hc⟩ := h.2 (by have := h.1; omega)
  exact ⟨o, e, hlt, hc k u hu⟩
theorem RdG.drop_ {w : World} {g : Nat} {A : Option Addr} {n c : Nat} {vs : List Value} (h : RdG w g A n vs) {k : Nat} (hk : k ≤ n) (hc : n ≤ c) : RdG w g (if c = k then A else A.map (·.add k)) (n - k) (vs.drop k) := by
  refine ⟨by rw [List.length_drop, h.1], fun h0 => ?_⟩
  obtain ⟨o, rfl, hlt, hcell⟩ := h.2 (by omega)
  rw [if_neg (by omega)]
  refine ⟨o + k, ?_, hlt, fun j u hu => ?_⟩
  · simp only [Option.map_some, Addr.add_lit]
  · rw [List.getElem?_drop] at hu
    rw [Nat.add_assoc]
    exact hcell _ u hu

/-- The reader in block r reads l, whose bytes lie in block g. -/
def RdrAt (w : World) (r g : Nat) (l : List Int) : Prop := g ≠ r ∧ ∃ A n c, w.heap[r]? = some (.cells #[.slice A n c, .bool false] 93) ∧ n ≤ c ∧ RdG w g A n (u8s l)
theorem RdrAt.kept {S : List Nat} {w w' : World} {r g : Nat} {l : List Int} (h : RdrAt w r g l) (hk : Kept S w w') (hr : r ∉ S) (hg : g ∉ S) : RdrAt w' r g l := by
  obtain ⟨hne, A, n, c, hb, hnc, hR⟩ := h
  exact ⟨hne, A, n, c, (hk.block r (Array.getElem?_eq_some_iff.1 hb).1 hr).trans hb, hnc, hR.kept hk hg⟩
theorem RdrAt.lt {w : World} {r g : Nat} {l : List Int} (h : RdrAt w r g l) : r < w.heap.size := by
  obtain ⟨hne, A, n, c, hb, hnc, hR⟩ := h
  exact (Array.getElem?_eq_some_iff.1 hb).1
/-- What the walk is told of a reader. -/
theorem RdrAt.open_ {w : World} {r g : Nat} {l : List Int} (h : RdrAt w r g l) : ∃ A n c, w.cell? ⟨r, 0, none⟩ = some (.slice A n c) ∧ w.cell? ⟨r, 1, none⟩ = some (.bool false) ∧ w.frozen? ⟨r, 0, none⟩ = false ∧ r < w.heap.size ∧ l.length = n ∧ n ≤ c ∧ RdG w g A n (u8s l) := by
  obtain ⟨hne, A, n, c, hb, hnc, hR⟩ := h
  refine ⟨A, n, c, by rw [cell_of_row w r _ _ _ _ hb]; rfl, by rw [cell_of_row w r _ _ _ _ hb]; rfl, by simp [World.frozen?, hb], (Array.getElem?_eq_some_iff.1 hb).1, ?_, hnc, hR⟩
  have := hR.1
  rwa [u8s_length] at this
/-- The reader goes on. -/
theorem RdrAt.step {w : World} {r g : Nat} {l : List Int} (h : RdrAt w r g l) {A : Option Addr} {n c : Nat} {l' : List Int} (hR : RdG w g A n (u8s l')) (hnc : n ≤ c) : RdrAt (w.setCell ⟨r, 0, none⟩ (.slice A n c)) r g l' := by
  obtain ⟨hne, A0, n0, c0, hb, hnc0, hR0⟩ := h
  refine ⟨hne, A, n, c, ?_, hnc, hR.kept (S := [r]) ((Kept.refl [r] w).setCell (by simp) _) (by simpa using hne)⟩
  simp [World.setCell, Array.getElem?_modify, hb]

theorem rdG_own {w : World} {base n : Nat} {v : Value} {xs : List Value} (h : w.ownsRow base 5 1 v n xs) (hb : base ≤ w.heap.size) : ∃ g A c, v = .slice A n c ∧ base ≤ g ∧ g ≤ w.heap.size ∧ n ≤ c ∧ RdG w g A n xs := by
  rcases h.2 with ⟨rfl, rfl⟩ | ⟨g, cap, cur, rfl, hg, hh, hnc, _⟩
  · exact ⟨w.heap.size, none, 0, rfl, hb, Nat.le_refl _, Nat.le_refl _, by have := h.1; omega, fun h => absurd h (by omega)⟩
  · have hlt := (Array.getElem?_eq_some_iff.1 hh).1
    refine ⟨g, _, cap, rfl, hg, Nat.le_of_lt hlt, hnc, by have := h.1; omega, fun _ => ⟨0, rfl, hlt, fun j u hu => ?_⟩⟩
    have := h.cells (g := g) rfl j u hu
    rwa [Addr.add_lit] at this

section
variable {P : Program} {ops : Array Oper} {rest : List Oper} {o : Oper} {a : Act} {w : World} {Q : Exit → Act → World → Prop}
/-- A struct literal, by what its run is. -/
theorem wpList_build (hg : o.guard = none) (t : TypeId) (parts : Array (Nat × Operand)) (ho : o.op = .build t parts) (v : Value) (hrun : (Instr.build t (parts.map fun (i, x) => (i, a.eval x))).run P w = .ok v w)
    (h : wpList P ops Q rest (a.put o.dst v) w) : wpList P ops Q (o :: rest) a w := by
  refine wpList_plain hg fun K hK => ?_
  unfold Oper.wp execOp
  simp only [ho, Sem.run_bind, hrun, Result.andThen_ok, Sem.run_pure]
  exact hK _ _ h
end
theorem build_rd (w : World) (A : Option Addr) (n c : Nat) : (Instr.build 93 #[(0, .slice A n c)]).run Tryd.prog w = .ok (.agg #[.slice A n c, .bool false]) w := by kernel_rfl
theorem new_own {w w1 : World} {v1 : Value} {n : Nat} {l : List Int} (hown1 : w1.ownsRow w.heap.size 5 1 v1 (0 + n) ([] ++ u8s l)) (hg1 : w.grownBy w1 (Value.ownBlock (.slice none 0 0))) :
    ∃ g A c, v1 = .slice A n c ∧ w.heap.size ≤ g ∧ g ≤ w1.heap.size ∧ n ≤ c ∧ Hid (Below w.heap.size w w1) ∧ Hid (RdG w1 g A n (u8s l)) := by
  have hb1 : Below w.heap.size w w1 := below_grown' (Below.refl _ _) (Nat.le_refl _) hg1 (fun g hg => by cases hg)
  rw [Nat.zero_add, List.nil_append] at hown1
  obtain ⟨g, A1, c1, rfl, hg0, hg2, hnc, hRG⟩ := rdG_own hown1 hb1.size
  exact ⟨g, A1, c1, rfl, hg0, hg2, hnc, hb1, hRG⟩
theorem rdNew_c (A : Option Addr) (n c : Nat) (l : List Int) (w : World) (hR : Rd w A n (u8s l)) (hn : n ≤ 1000000000) (R : Ending → World → Prop)
    (h : ∀ r g w', Below w.heap.size w w' → w.heap.size ≤ r → w.heap.size ≤ g → RdrAt w' r g l → R (.returned (.pointer (some ⟨r, 0, none⟩))) w') :
    Calls Tryd.prog 39 #[.slice A n c] w R := by
  have H := Lib.hid h
  clear h
  have HR := Lib.hid hR
  clear hR
  go_enter Tryd.func39, Tryd.ntmps39
  go_wp2_with (at_builtin; (refine app_rd w.heap.size rfl _ _ 30 5 (.int .u8 0) 1 rfl Tryd.underlying30 infoU8 rfl (by decide) _ 0 [] _ _ _ _ rfl rfl (u8s_one l) (own_nil' _ _ _ _) (by exact HR.out) (Nat.le_refl _) (by omega) ?_); intro v1 w1 hown1 hg1 hgb; obtain ⟨g, A1, c1, rfl, hg0, hg2, hnc, Hb1, HRG⟩ := new_own hown1 hg1; clear hown1 hg1 hgb)
  refine H.out w1.heap.size (if g = w1.heap.size then w1.heap.size + 1 else g) _ (Hb1.out.alloc Hb1.out.size _) Hb1.out.size (by have := Hb1.out.size; split <;> omega) ⟨by split <;> omega, A1, n, c1, heap_alloc_new w1 _, hnc, ?_⟩
  by_cases hg : g = w1.heap.size
  · have h0 : n = 0 := by
      rcases Nat.eq_zero_or_pos n with h0 | h0
      · exact h0
      · obtain ⟨o, _, hlt, _⟩ := HRG.out.2 h0
        omega
    exact ⟨HRG.out.1, fun hh => by omega⟩
  · rw [if_neg hg]
    exact HRG.out.kept (Kept.of_below (S := []) ((Below.refl _ _).alloc (Nat.le_refl _) _)) (by simp)

theorem rdBad_c (r g : Nat) (l : List Int) (w : World) (h : RdrAt w r g l) (R : Ending → World → Prop) (hR : R (.returned (.bool false)) w) : Calls Tryd.prog 68 #[.pointer (some ⟨r, 0, none⟩)] w R := by
  obtain ⟨A, n, c, h0, h1, _, h2, _⟩ := h.open_
  go_enter Tryd.func68, Tryd.ntmps68
  go_wp2_with fail
  exact hR

theorem or_low (k acc x : Nat) (ha : acc < 2 ^ k) (hx : acc + 2 ^ k * x < 9223372036854775808) : bits .or .i64 (acc : Int) ((2 ^ k * x : Nat) : Int) = ((acc + 2 ^ k * x : Nat) : Int) := by
  have h1 : 2 ^ k * x < 2 ^ 64 := by omega
  have h2 : acc < 2 ^ 64 := by omega
  have e : (BitVec.ofInt 64 (acc : Int) ||| BitVec.ofInt 64 ((2 ^ k * x : Nat) : Int)).toNat = acc + 2 ^ k * x := by
    rw [BitVec.toNat_or, BitVec.ofInt_natCast, BitVec.ofInt_natCast, BitVec.toNat_ofNat, BitVec.toNat_ofNat, Nat.mod_eq_of_lt h1, Nat.mod_eq_of_lt h2, Nat.or_comm, ← Nat.two_pow_add_eq_or_of_lt ha]
    omega
  show IntKind.i64.wrap _ = _
  show IntKind.i64.wrap ((BitVec.ofInt 64 (acc : Int) ||| BitVec.ofInt 64 ((2 ^ k * x : Nat) : Int)).toNat : Int) = _
  rw [e]
  exact Go.IntWalk.i64_in _ (by omega)
end Go.Proofs.YtjndigkphoiohaaDoor
