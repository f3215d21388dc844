/-
  A field of a message, read: whatever its letter; the message as far as it has been read.
-/
import Derived.Test.YtjndigkphoiohaaDoorRead
namespace Go.Proofs.YtjndigkphoiohaaDoor
open Go.RowKit Go.Shelf
set_option maxRecDepth 100000

/-- One field more. -/
def put (m p : Msg) (ch : Int) : Msg := if ch = 70 ∨ ch = 69 ∨ ch = 84 then setT p ch (if ch = 70 then m.f else if ch = 69 then m.e else m.t) else if ch = 73 then setI p m.items else setN p ch (numOf m ch)
def blank (k : Int) : Msg := ⟨k, ⟨#[]⟩, ⟨#[]⟩, ⟨#[]⟩, 0, 0, 0, 0, []⟩
def partM (m : Msg) (l : List Int) : Msg := l.foldl (put m) (blank m.kind)
theorem partM_snoc (m : Msg) (l : List Int) (ch : Int) : partM m (l ++ [ch]) = put m (partM m l) ch := by
  unfold partM
  rw [List.foldl_append]
  rfl
/-- The items' slice, apart from the blocks that turn. -/
def Its (w : World) (r mb : Nat) (A : Option Addr) (l : List Itm) : Prop := ItmsAt w A l.length l ∧ ∀ a, A = some a → 0 < l.length → a.block ≠ r ∧ mb < a.block
theorem itms_kept {S : List Nat} {w w' : World} {A : Option Addr} {n : Nat} {l : List Itm} (h : ItmsAt w A n l) (hk : Kept S w w') (hA : ∀ a, A = some a → 0 < n → a.block ∉ S) : ItmsAt w' A n l :=
  ⟨h.1, fun h0 => by
    obtain ⟨b, o, e, hb, hc⟩ := h.2 h0
    have hs : b ∉ S := hA _ e h0
    exact ⟨b, o, e, Nat.lt_of_lt_of_le hb hk.size, fun j x hx => ⟨(hk.cell (p := ⟨b, _, none⟩) hb hs).trans (hc j x hx).1, (hk.cell (p := ⟨b, _, none⟩) hb hs).trans (hc j x hx).2⟩⟩⟩
theorem Its.kept {w w' : World} {r mb : Nat} {A : Option Addr} {l : List Itm} (h : Its w r mb A l) (hk : Kept [r, mb] w w') : Its w' r mb A l :=
  ⟨itms_kept h.1 hk (fun a ha h0 => by have := h.2 a ha h0; simp; omega), h.2⟩
/-- What of a message is asked for its bytes to come back. -/
structure Good (m : Msg) : Prop where
  f : hasS (fieldsS m.kind) 70 = true → m.f.size ≤ 200
  e : hasS (fieldsS m.kind) 69 = true → m.e.size ≤ 200
  t : hasS (fieldsS m.kind) 84 = true → m.t.size ≤ 200
  n : ∀ ch, 0 ≤ numOf m ch ∧ numOf m ch ≤ 34359738367
  items : Back m.items
theorem numB_ne (n : Int) (h0 : 0 ≤ n) (h1 : n ≤ 34359738367) : 0 < (numB n).length := by
  rw [numB_nat h0 h1]
  rw [numN.eq_def]
  split <;> simp
theorem setT_items (p : Msg) (ch : Int) (t : ByteArray) : (setT p ch t).items = p.items := by unfold setT; split <;> (try split) <;> rfl
theorem setN_items (p : Msg) (ch n : Int) : (setN p ch n).items = p.items := by unfold setN; split <;> (try split) <;> (try split) <;> rfl

theorem readAny_c (mb r g : Nat) (ch : Int) (hch : ch ∈ fieldLetters) (m p : Msg) (A : Option Addr) (c : Nat) (rest : List Int) (w : World) (hG : Good m) (hhas : hasS (fieldsS m.kind) ch = true)
    (hR : RdrAt w r g (fieldB m ch ++ rest)) (hM : MB w mb p A c) (hI : Its w r mb A p.items) (hmr : mb ≠ r) (hmg : mb ≠ g) (R : Ending → World → Prop)
    (h : ∀ A' c' w', Kept [r, mb] w w' → RdrAt w' r g rest → MB w' mb (put m p ch) A' c' → Its w' r mb A' (put m p ch).items → R (.returned (.tuple #[])) w') :
    Calls Tryd.prog 40 #[.pointer (some ⟨mb, 0, none⟩), .int .i32 ch, .pointer (some ⟨r, 0, none⟩)] w R := by
  by_cases h73 : ch = 73
  · subst h73
    have hf : fieldB m 73 = itemsB m.items := by unfold fieldB; rw [if_neg (by decide), if_neg (by decide), if_neg (by decide), if_pos rfl]
    have hp : put m p 73 = setI p m.items := by unfold put; rw [if_neg (by decide), if_pos rfl]
    rw [hf] at hR
    rw [hp] at h
    have hgw : g < w.heap.size := by
      obtain ⟨_, A1, n1, c1, _, _, hRG⟩ := hR
      have h1 := hRG.1
      rw [u8s_length, List.length_append] at h1
      have h2 : 0 < (itemsB m.items).length := by
        unfold itemsB
        rw [List.length_append]
        have := numB_ne (m.items.length : Int) (by omega) (by have := hG.items.1; omega)
        omega
      obtain ⟨o, _, hlt, _⟩ := hRG.2 (by omega)
      exact hlt
    have hrl := hR.lt
    have hml := hM.lt
    exact readI_c mb r g p A c m.items rest w hG.items hR hM hmr hmg hgw R (fun A' c' w' hk hr hm hi ha => h A' c' w' hk hr hm ⟨hi, fun a e h0 => by have := ha a e; exact ⟨by omega, by omega⟩⟩)
  · by_cases ht : ch = 70 ∨ ch = 69 ∨ ch = 84
    · obtain ⟨t, ht0⟩ : ∃ t, t = (if ch = 70 then m.f else if ch = 69 then m.e else m.t) := ⟨_, rfl⟩
      have hf : fieldB m ch = textB t := by
        subst ht0
        unfold fieldB
        rcases ht with rfl | rfl | rfl <;> simp
      have hs : t.size ≤ 200 := by
        subst ht0
        rcases ht with rfl | rfl | rfl
        · exact hG.f hhas
        · exact hG.e hhas
        · exact hG.t hhas
      have hp : put m p ch = setT p ch t := by unfold put; rw [if_pos ht, ht0]
      rw [hf] at hR
      rw [hp] at h
      rw [setT_items] at h
      have hoff : ∃ off, (ch = 70 ∧ off = 1) ∨ (ch = 69 ∧ off = 2) ∨ (ch = 84 ∧ off = 3) := by
        rcases ht with rfl | rfl | rfl
        · exact ⟨1, by simp⟩
        · exact ⟨2, by simp⟩
        · exact ⟨3, by simp⟩
      obtain ⟨off, hoff⟩ := hoff
      exact readT_c mb r g ch off hoff p A c t rest w hs hR hM hmr hmg R (fun w' hk hr hm => h A c w' hk hr hm (hI.kept hk))
    · have hf : fieldB m ch = numB (numOf m ch) := by
        unfold fieldB
        rw [if_neg (by omega), if_neg (by omega), if_neg (by omega), if_neg h73]
      have hp : put m p ch = setN p ch (numOf m ch) := by unfold put; rw [if_neg ht, if_neg h73]
      rw [hf] at hR
      rw [hp] at h
      rw [setN_items] at h
      have hoff : ∃ off, (ch = 78 ∧ off = 4) ∨ (ch = 83 ∧ off = 5) ∨ (ch = 85 ∧ off = 6) ∨ (ch = 80 ∧ off = 7) := by
        simp only [fieldLetters, List.mem_cons, List.mem_nil_iff, or_false] at hch
        rcases hch with rfl | rfl | rfl | rfl | rfl | rfl | rfl | rfl
        all_goals first | exact absurd rfl h73 | exact absurd (by decide) ht | exact ⟨4, Or.inl ⟨rfl, rfl⟩⟩ | exact ⟨5, Or.inr (Or.inl ⟨rfl, rfl⟩)⟩ | exact ⟨6, Or.inr (Or.inr (Or.inl ⟨rfl, rfl⟩))⟩ | exact ⟨7, Or.inr (Or.inr (Or.inr ⟨rfl, rfl⟩))⟩
      obtain ⟨off, hoff⟩ := hoff
      exact readN_c mb r g ch off hoff p A c (numOf m ch) rest w (hG.n ch).1 (hG.n ch).2 hR hM hmr hmg R (fun w' hk hr hm => h A c w' hk hr hm (hI.kept hk))

def fsAll : List ByteArray := [⟨#[70, 69, 73]⟩, ⟨#[70, 84]⟩, ⟨#[70]⟩, ⟨#[70, 84, 85, 80]⟩, ⟨#[70, 73]⟩, ⟨#[]⟩, ⟨#[70, 69, 78]⟩, ⟨#[70, 69, 78, 84, 83]⟩, ⟨#[80]⟩, ⟨#[70, 84, 85, 80, 83]⟩, ⟨#[70, 84, 83]⟩, ⟨#[70, 69, 78, 73]⟩, ⟨#[70, 69, 78, 84]⟩]
theorem fields_in (k : Int) : isQ (fieldsS k) = true ∨ fieldsS k ∈ fsAll :=
  fields_P (p := fun s => isQ s = true ∨ s ∈ fsAll) k (by
    refine ⟨?_, ?_, ?_, ?_, ?_, ?_, ?_, ?_, ?_, ?_, ?_, ?_, ?_, ?_⟩
    all_goals first | (left; decide; done) | (right; simp [fsAll]; done))
theorem text_none {fs s : ByteArray} {k : Int} (h : textBad fs k s = false) (hh : hasS fs k = false) : s = ⟨#[]⟩ := by
  unfold textBad at h
  rw [hh] at h
  have h0 : s.size = 0 := by simpa using h
  obtain ⟨d⟩ := s
  have : d = #[] := Array.eq_empty_of_size_eq_zero h0
  rw [this]
theorem num_none {fs : ByteArray} {k n : Int} (h : numBad fs k n = false) (hh : hasS fs k = false) : n = 0 := by
  unfold numBad at h
  rw [hh] at h
  simpa using h
theorem valid_parts {m : Msg} (h : validS m = true) : isQ (fieldsS m.kind) = false ∧ (textBad (fieldsS m.kind) 70 m.f = false ∧ textBad (fieldsS m.kind) 69 m.e = false ∧ textBad (fieldsS m.kind) 84 m.t = false) ∧
    (numBad (fieldsS m.kind) 78 m.n = false ∧ numBad (fieldsS m.kind) 83 m.state = false ∧ numBad (fieldsS m.kind) 85 m.number = false ∧ numBad (fieldsS m.kind) 80 m.epoch = false) ∧ itemsBad m = false := by
  unfold validS textsBad numsBad at h
  simp only [Bool.and_eq_true, Bool.not_eq_true', Bool.or_eq_false_iff] at h
  obtain ⟨⟨⟨h1, ⟨h2, h3⟩, h4⟩, ⟨⟨h5, h6⟩, h7⟩, h8⟩, h9⟩ := h
  exact ⟨h1, ⟨h2, h3, h4⟩, ⟨h5, h6, h7, h8⟩, h9⟩
theorem items_none {fs : ByteArray} {m : Msg} (e : fieldsS m.kind = fs) (h : itemsBad m = false) (hh : hasIS fs = false) : m.items = [] := by
  unfold itemsBad at h
  rw [e, hh] at h
  have : m.items.length = 0 := by simpa using h
  exact List.eq_nil_of_length_eq_zero this
theorem partM_all (m : Msg) (hv : validS m = true) : partM m (bytesL (fieldsS m.kind)) = m := by
  obtain ⟨hq, ⟨h1, h2, h3⟩, ⟨h4, h5, h6, h7⟩, h8⟩ := valid_parts hv
  have hin := (fields_in m.kind).resolve_left (by rw [hq]; simp)
  obtain ⟨fs, hfs⟩ : ∃ fs, fieldsS m.kind = fs := ⟨_, rfl⟩
  rw [hfs] at h1 h2 h3 h4 h5 h6 h7 hin ⊢
  have h8' := fun hh => items_none hfs h8 hh
  clear hv hq h8 hfs
  simp only [fsAll, List.mem_cons, List.mem_nil_iff, or_false] at hin
  rcases hin with rfl | rfl | rfl | rfl | rfl | rfl | rfl | rfl | rfl | rfl | rfl | rfl | rfl
  all_goals
    obtain ⟨k, f, e, t, n, s, u, p, l⟩ := m
    try (have z := text_none h1 (by decide +kernel); simp only at z; subst z)
    try (have z := text_none h2 (by decide +kernel); simp only at z; subst z)
    try (have z := text_none h3 (by decide +kernel); simp only at z; subst z)
    try (have z := num_none h4 (by decide +kernel); simp only at z; subst z)
    try (have z := num_none h5 (by decide +kernel); simp only at z; subst z)
    try (have z := num_none h6 (by decide +kernel); simp only at z; subst z)
    try (have z := num_none h7 (by decide +kernel); simp only at z; subst z)
    try (have z := h8' (by decide +kernel); simp only at z; subst z)
    rfl
theorem valid_good {m : Msg} (hv : validS m = true) (hI : Back m.items) : Good m := by
  obtain ⟨hq, ⟨h1, h2, h3⟩, ⟨h4, h5, h6, h7⟩, h8⟩ := valid_parts hv
  have ht : ∀ {k : Int} {s : ByteArray}, textBad (fieldsS m.kind) k s = false → hasS (fieldsS m.kind) k = true → s.size ≤ 200 := fun {k s} h hh => by
    unfold textBad at h
    rw [hh] at h
    have hr : rightS s = true := by simpa using h
    unfold rightS at hr
    simp only [Bool.and_eq_true, decide_eq_true_eq] at hr
    omega
  have hn : ∀ {k n : Int}, numBad (fieldsS m.kind) k n = false → 0 ≤ n ∧ n ≤ 34359738367 := fun {k n} h => by
    unfold numBad numberS at h
    split at h
    · simp only [Bool.not_eq_false'] at h
      split at h
      · simp at h; omega
      · simp at h; omega
    · have : n = 0 := by simpa using h
      omega
  refine ⟨ht h1, ht h2, ht h3, fun ch => ?_, hI⟩
  unfold numOf
  split
  · exact hn h4
  · split
    · exact hn h5
    · split
      · exact hn h6
      · exact hn h7
end Go.Proofs.YtjndigkphoiohaaDoor
