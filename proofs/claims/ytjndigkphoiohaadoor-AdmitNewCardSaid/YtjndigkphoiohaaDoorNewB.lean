/-
  Plain facts for AdmitNew: what the three entries know; entries that an append has laid.
-/
import Derived.Test.YtjndigkphoiohaaDoorNewA
import Derived.Test.YtjndigkphoiohaaDoorFormsB
namespace Go.Proofs.YtjndigkphoiohaaDoor
open Go.RowKit Go.Shelf
set_option maxRecDepth 100000

abbrev tG : ByteArray := ⟨#[103]⟩
abbrev tZZ : ByteArray := ⟨#[122, 122]⟩
abbrev tZY : ByteArray := ⟨#[122, 121]⟩
def ne0 (x : ByteArray) : Ent := ⟨tF, tX, 2, [⟨x, bit1, 0⟩]⟩
def ne1 : Ent := ⟨tF, ⟨#[121]⟩, 0, [⟨tZZ, 4611686018427387904, 0⟩]⟩
def ne2 : Ent := ⟨tF, tX, 1, [⟨tZY, 4613937818241073152, 0⟩]⟩
def newL (x : ByteArray) : List Ent := [ne0 x, ne1, ne2]

theorem task_mem (k : Int) (h0 : 0 ≤ k) (h1 : k < 8) : taskS k ∈ tasks8 := by
  unfold taskS
  have h : k.toNat < tasks8.length := by show k.toNat < 8; omega
  rw [List.getD_eq_getElem?_getD, List.getElem?_eq_getElem h]
  exact List.getElem_mem h
theorem newL_f : ∀ x ∈ tasks8, ∀ y ∈ tasks8, ((([⟨y, 0, 0⟩] : List Itm).any fun z => knownB (newL x) tF z.t) = (x.toList == y.toList)) := by decide +kernel
theorem newL_g : ∀ x ∈ tasks8, ((([⟨x, 0, 0⟩] : List Itm).any fun z => knownB (newL x) tG z.t) = false) := by decide +kernel
theorem newL_q : ∀ x ∈ tasks8, ((([⟨⟨#[113]⟩, 0, 0⟩, ⟨tZZ, 0, 0⟩] : List Itm).any fun z => knownB (newL x) tF z.t) = true) := by decide +kernel
theorem newL_hits : ∀ x ∈ tasks8, hit tF tZY (ne0 x) = false ∧ hit tF tZY ne1 = false ∧ hit tF tZY ne2 = true := by decide +kernel
theorem newL_last (x : ByteArray) : lastS tF tX (newL x) = 2 ∧ lastS tF ⟨#[121]⟩ (newL x) = 0 ∧ lastS tG tX (newL x) = 0 := ⟨by kernel_rfl, by kernel_rfl, by kernel_rfl⟩
theorem newL_known {x : ByteArray} (hx : x ∈ tasks8) {i : Nat} {e : Ent} {j : Nat} {y : Itm} (hi : (newL x)[i]? = some e) (hh : hit tF tZY e = true) (hj : e.items[j]? = some y) : i = 2 ∧ y = ⟨tZY, 4613937818241073152, 0⟩ := by
  obtain ⟨h0, h1, h2⟩ := newL_hits x hx
  rcases i with _ | _ | _ | i
  · simp only [newL, List.getElem?_cons_zero, Option.some.injEq] at hi
    subst hi
    rw [h0] at hh
    cases hh
  · have hi' : some ne1 = some e := hi
    injection hi' with hi'
    subst hi'
    rw [h1] at hh
    cases hh
  · have hi' : some ne2 = some e := hi
    injection hi' with hi'
    subst hi'
    refine ⟨rfl, ?_⟩
    rcases j with _ | j
    · have hj' : some (⟨tZY, 4613937818241073152, 0⟩ : Itm) = some y := hj
      injection hj' with hj'
      exact hj'.symm
    · cases hj
  · cases hi
theorem newL_none {x : ByteArray} (hx : x ∈ tasks8) (h : ∀ e ∈ newL x, hit tF tZY e = false) : False := by
  have := h ne2 (by simp [newL])
  rw [(newL_hits x hx).2.2] at this
  cases this
theorem many_g : ∀ x ∈ tasks8, ∀ k : Nat, ((([⟨x, 0, 0⟩] : List Itm).any fun z => knownB (List.replicate k (ne0 x)) tG z.t) = false) := by
  intro x hx k
  have h0 : ∀ x ∈ tasks8, hit tG x (ne0 x) = false := by decide +kernel
  simp only [List.any_cons, List.any_nil, Bool.or_false]
  refine knownB_false (fun e he => ?_)
  rw [(List.mem_replicate.1 he).2]
  exact h0 x hx

/-- The world behind the three entries. -/
structure NewW (w0 : World) (x : ByteArray) (B : Nat) (W : World) : Prop where
  below : Below w0.heap.size w0 W
  ents : EntsAt W (some ⟨B, 0, none⟩) 3 (newL x)
theorem newW {w0 : World} (x : ByteArray) : NewW w0 x (w0.heap.size + 3) ((((w0.alloc (.cells (rowCells [⟨x, bit1, 0⟩]).toArray 25)).alloc (.cells (rowCells [⟨tZZ, 4611686018427387904, 0⟩]).toArray 25)).alloc (.cells (rowCells [⟨tZY, 4613937818241073152, 0⟩]).toArray 25)).alloc
    (.cells #[.string tF, .string tX, .int .i64 2, .slice (some ⟨w0.heap.size, 0, none⟩) 1 1, .string tF, .string ⟨#[121]⟩, .int .i64 0, .slice (some ⟨w0.heap.size + 1, 0, none⟩) 1 1, .string tF, .string tX, .int .i64 1, .slice (some ⟨w0.heap.size + 1 + 1, 0, none⟩) 1 1] 39)) := by
  obtain ⟨s3, s4, s5, s6, s7⟩ := three_at w0 (.cells (rowCells [⟨x, bit1, 0⟩]).toArray 25) (.cells (rowCells [⟨tZZ, 4611686018427387904, 0⟩]).toArray 25) (.cells (rowCells [⟨tZY, 4613937818241073152, 0⟩]).toArray 25)
  obtain ⟨W3, hW3⟩ : ∃ W3, W3 = (((w0.alloc (.cells (rowCells [⟨x, bit1, 0⟩]).toArray 25)).alloc (.cells (rowCells [⟨tZZ, 4611686018427387904, 0⟩]).toArray 25)).alloc (.cells (rowCells [⟨tZY, 4613937818241073152, 0⟩]).toArray 25)) := ⟨_, rfl⟩
  rw [← hW3] at s3 s4 s5 s6 s7 ⊢
  clear hW3
  have hb3 : ∀ X, Below W3.heap.size W3 (W3.alloc X) := fun X => (Below.refl _ _).alloc (Nat.le_refl _) _
  rw [← s3]
  refine ⟨s4.alloc s4.size _, rfl, fun _ => ⟨_, 0, rfl, by simp, fun j e hj => ?_⟩⟩
  have hX := heap_alloc_new W3 (.cells #[.string tF, .string tX, .int .i64 2, .slice (some ⟨w0.heap.size, 0, none⟩) 1 1, .string tF, .string ⟨#[121]⟩, .int .i64 0, .slice (some ⟨w0.heap.size + 1, 0, none⟩) 1 1, .string tF, .string tX, .int .i64 1, .slice (some ⟨w0.heap.size + 1 + 1, 0, none⟩) 1 1] 39)
  rcases j with _ | _ | _ | j
  · have hj' : some (ne0 x) = some e := hj
    injection hj' with hj'
    subst hj'
    refine ⟨some ⟨w0.heap.size, 0, none⟩, 1, ?_, ?_, ?_, ?_, (itms_of (l := [⟨x, bit1, 0⟩]) s5).below (hb3 _), by simp [ne0]⟩
    all_goals rw [cell_of_row _ _ _ _ _ _ hX]; rfl
  · have hj' : some ne1 = some e := hj
    injection hj' with hj'
    subst hj'
    refine ⟨some ⟨w0.heap.size + 1, 0, none⟩, 1, ?_, ?_, ?_, ?_, (itms_of (l := [⟨tZZ, 4611686018427387904, 0⟩]) s6).below (hb3 _), by simp [ne1]⟩
    all_goals rw [cell_of_row _ _ _ _ _ _ hX]; rfl
  · have hj' : some ne2 = some e := hj
    injection hj' with hj'
    subst hj'
    refine ⟨some ⟨w0.heap.size + 1 + 1, 0, none⟩, 1, ?_, ?_, ?_, ?_, (itms_of (l := [⟨tZY, 4613937818241073152, 0⟩]) s7).below (hb3 _), by simp [ne2]⟩
    all_goals rw [cell_of_row _ _ _ _ _ _ hX]; rfl
  · cases hj
theorem namedC {P : Program} {f : Nat} {args : Array Value} {R : Ending → World → Prop} {W : World} (F : World → Prop) (hF : F W) (h : ∀ W', F W' → Calls P f args W' R) : Calls P f args W R := h W hF

theorem named_ents {w0 W : World} {x : ByteArray} (h : NewW w0 x (w0.heap.size + 3) W) (y : ByteArray) : Below w0.heap.size w0 (W.alloc (.cells #[.string y, .complex .f64 0 0] 25)) ∧ EntsAt (W.alloc (.cells #[.string y, .complex .f64 0 0] 25)) (some ⟨w0.heap.size + 1 + 1 + 1, 0, none⟩) 3 (newL x) := by
  refine ⟨h.below.alloc h.below.size _, h.ents.below ((Below.refl _ _).alloc (Nat.le_refl _) _)⟩
/-- The cells of k copies of one entry. -/
def entCells (A : Option Addr) (c : Nat) : List Value := [.string tF, .string tX, .int .i64 2, .slice A 1 c]
def copies (k : Nat) (l : List Value) : List Value := (List.replicate k l).flatten
theorem copies_succ (k : Nat) (l : List Value) : copies k l ++ l = copies (k + 1) l := by
  unfold copies
  rw [List.replicate_succ']
  simp
theorem copies_at (l : List Value) (s : Nat) (hl : l.length = s) : ∀ (k j i : Nat), j < k → i < s → (copies k l)[j * s + i]? = l[i]?
  | 0, j, i, h, _ => by omega
  | k + 1, 0, i, _, hi => by
    unfold copies
    rw [List.replicate_succ, List.flatten_cons, List.getElem?_append_left (by omega)]
    simp
  | k + 1, j + 1, i, h, hi => by
    have := copies_at l s hl k j i (by omega) hi
    unfold copies at this ⊢
    rw [List.replicate_succ, List.flatten_cons, List.getElem?_append_right (by rw [hl, Nat.add_mul]; omega), ← this]
    congr 1
    rw [hl, Nat.add_mul]
    omega
theorem own_ents {w : World} {base k : Nat} {v : Value} {A : Option Addr} {c0 : Nat} {x : ByteArray} (h : w.ownsRow base 39 4 v k (copies k (entCells A c0))) (hA : ItmsAt w A 1 [⟨x, bit1, 0⟩]) : ∃ A' c, v = .slice A' k c ∧ EntsAt w A' k (List.replicate k (ne0 x)) := by
  obtain ⟨A', c, rfl, hs⟩ := own_shape' h
  refine ⟨A', c, rfl, List.length_replicate, fun h0 => ?_⟩
  obtain ⟨g, rfl, _, hg⟩ := hs h0
  refine ⟨g, 0, rfl, hg, fun j e hj => ?_⟩
  have hjk : j < k := by have := (List.getElem?_eq_some_iff.1 hj).1; simpa using this
  rw [List.getElem?_replicate, if_pos hjk] at hj
  injection hj with hj
  subst hj
  have hc : ∀ i u, i < 4 → (entCells A c0)[i]? = some u → w.cell? ⟨g, 0 + j * 4 + i, none⟩ = some u := fun i u hi hu => by
    have := h.cells (g := g) rfl (j * 4 + i) u (by rw [copies_at _ 4 rfl k j i hjk hi]; exact hu)
    rw [Addr.add_lit] at this
    rw [show 0 + j * 4 + i = 0 + (j * 4 + i) by omega]
    exact this
  exact ⟨A, c0, hc 0 _ (by omega) rfl, hc 1 _ (by omega) rfl, hc 2 _ (by omega) rfl, hc 3 _ (by omega) rfl, hA, by simp [ne0]⟩
theorem new_at {w : World} {o : Obj} {n : Nat} (h : n = w.heap.size) : (w.alloc o).heap[n]? = some o := by
  subst h
  exact heap_alloc_new w o
theorem ents0 {W : World} {b : Nat} {x : ByteArray} (h : EntsAt W (some ⟨b, 0, none⟩) 3 (newL x)) : ∃ B c, W.cell? ⟨b, 0, none⟩ = some (.string tF) ∧ W.cell? ⟨b, 1, none⟩ = some (.string tX) ∧ W.cell? ⟨b, 2, none⟩ = some (.int .i64 2) ∧ W.cell? ⟨b, 3, none⟩ = some (.slice B 1 c) ∧ ItmsAt W B 1 [⟨x, bit1, 0⟩] ∧ b < W.heap.size := by
  obtain ⟨b', o, x', B, c, e, hx, hb, h0, h1, h2, h3, h4, _⟩ := h.at_ (k := 0) (by omega)
  injection e with e
  injection e with e1 e2
  subst e1 e2
  have hx' : some (ne0 x) = some x' := hx
  injection hx' with hx'
  subst hx'
  exact ⟨B, c, h0, h1, h2, h3, h4, hb⟩
theorem infoEnt3 : (Tryd.prog.info? 39).map (fun i => (i.zero, i.size, i.bytes)) = some (some (.agg #[.string ⟨#[]⟩, .string ⟨#[]⟩, .int .i64 0, .slice none 0 0]), 4, 64) := infoEnt
end Go.Proofs.YtjndigkphoiohaaDoor
