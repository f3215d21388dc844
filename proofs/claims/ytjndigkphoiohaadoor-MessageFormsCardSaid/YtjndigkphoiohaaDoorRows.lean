/-
  NARROWER THAN 'FOR EVERY INPUT', by the rows' own cells (each row's printed sentence says how): MessageErrors: laid · AdmitForms: laid · AdmitNew: laid · MessageForms: laid.
  DERIVED. THE GIVEN ROWS OF THIS SEAT. 4 by the template 'for every input the law returns true; each argument reads behind the call as it read before'; 0 by the template 'total and deterministic' (their statements: YtjndigkphoiohaaDoorTotals.lean).
  GIVEN WITH THE SEED: the statements are not yours to turn. If you find one false, say at which input.
  Laid BY PROGRAM, IN A SANDBOX (cutbox-rows.mjs): the forced cells as the released guide's own fill.sh prints them over the translation 070905a82041f4b9… (all of the seat's roots in one cut). By AI agents, Wed Nov 11 2026. No macro, syntax, notation, axiom, sorry.
-/
import Derived.Test.YtjndigkphoiohaaDoorChecked
import GoSem.PinnedTables
import GoSem.Claim
import GoSem.ClaimJoined
import GoSem.ClaimMapViews
import Derived.JoinedTies
import Derived.KernelRfl
namespace Go.Proofs.YtjndigkphoiohaaDoor
/- THE CELL 'sum', in the pinned program and in every row, IS THE sha256 OF THE DUMP (.gsa) THAT YtjndigkphoiohaaDoorProg.lean LOADS. Nothing in Lean hashes anything: it is a label: what it is worth is what the hold of that sum in a sandbox is worth. -/
noncomputable def Tryd.pinned : Pinned := { name := "ytjndigkphoiohaadoor", sum := "070905a82041f4b9e7a685ba5ad175e1d3c3bf86118a6bc3c001cd5acc2b0d13", checked := Tryd.checked }
namespace Rows
def none {H : Type} : Left H := { results := [], args := [] }

/- WHAT THE LISTED PACKAGE-LEVEL VARIABLES READ AS WHEN THE CALL BEGINS. Each datum BY PROGRAM (the guide's laid-datum.mjs) off the statement by which the dump's own 'gosem.cut.vars' lays the variable. In a bare row this is a premise. The card (YtjndigkphoiohaaDoorCards.lean) ties it to the program's text. -/
def laid_unicode_utf8_acceptRanges {H : Type} : DataW H := .agg [.agg [.lit (.int .u8 128), .lit (.int .u8 191)], .agg [.lit (.int .u8 160), .lit (.int .u8 191)], .agg [.lit (.int .u8 128), .lit (.int .u8 159)], .agg [.lit (.int .u8 144), .lit (.int .u8 191)], .agg [.lit (.int .u8 128), .lit (.int .u8 143)], .agg [.lit (.int .u8 0), .lit (.int .u8 0)], .agg [.lit (.int .u8 0), .lit (.int .u8 0)], .agg [.lit (.int .u8 0), .lit (.int .u8 0)], .agg [.lit (.int .u8 0), .lit (.int .u8 0)], .agg [.lit (.int .u8 0), .lit (.int .u8 0)], .agg [.lit (.int .u8 0), .lit (.int .u8 0)], .agg [.lit (.int .u8 0), .lit (.int .u8 0)], .agg [.lit (.int .u8 0), .lit (.int .u8 0)], .agg [.lit (.int .u8 0), .lit (.int .u8 0)], .agg [.lit (.int .u8 0), .lit (.int .u8 0)], .agg [.lit (.int .u8 0), .lit (.int .u8 0)]]
/-- One of Go's own tables, pinned by name: the form's constant. -/
def laid_unicode_utf8_first : DataW Unit := Go.Pinned.utf8First

/-- 'hostlerlaw04.MessageErrors': WHATEVER THE INPUT: true; the input reads as it did. -/
def messageErrorsSpec : ChangeSpec := { name := "messageErrors", fn := fun _ => fun
  | [d] => { results := [.lit (.bool true)], args := [d] }
  | _ => none }
def messageErrorsRow : OpenClaim := { program := "ytjndigkphoiohaadoor", sum := "070905a82041f4b9e7a685ba5ad175e1d3c3bf86118a6bc3c001cd5acc2b0d13", func := "hostler/hostlerlaw04.MessageErrors", spec := "messageErrors", inPlace := ["internal/bytealg.IndexByteString", "internal/bytealg.IndexString"], unfollowed := true, recurses := true, named := ["unicode/utf8.first", "unicode/utf8.acceptRanges", "internal/bytealg.MaxLen"], apart := false, laid := [("unicode/utf8.acceptRanges", laid_unicode_utf8_acceptRanges), ("unicode/utf8.first", laid_unicode_utf8_first)] }
def MessageErrorsSaid : Prop := messageErrorsRow.holds Tryd.pinned (OpenSpec.ofChange messageErrorsSpec)

/-- ITS FALSE NEIGHBOUR: 'it returns false'. Refute it at one input. -/
def messageErrorsWrong : ChangeSpec := { name := "messageErrors", fn := fun _ => fun
  | [d] => { results := [.lit (.bool false)], args := [d] }
  | _ => none }
def MessageErrorsWrongFalsely : Prop := messageErrorsRow.holds Tryd.pinned (OpenSpec.ofChange messageErrorsWrong)

/-- 'hostlerlaw13.AdmitForms': WHATEVER THE INPUT: true; the input reads as it did. -/
def admitFormsSpec : ChangeSpec := { name := "admitForms", fn := fun _ => fun
  | [d1, d2, d3] => { results := [.lit (.bool true)], args := [d1, d2, d3] }
  | _ => none }
def admitFormsRow : OpenClaim := { program := "ytjndigkphoiohaadoor", sum := "070905a82041f4b9e7a685ba5ad175e1d3c3bf86118a6bc3c001cd5acc2b0d13", func := "hostler/hostlerlaw13.AdmitForms", spec := "admitForms", inPlace := ["internal/bytealg.IndexByteString", "internal/bytealg.IndexString"], unfollowed := true, recurses := true, named := ["unicode/utf8.first", "unicode/utf8.acceptRanges", "internal/bytealg.MaxLen"], apart := false, laid := [("unicode/utf8.acceptRanges", laid_unicode_utf8_acceptRanges), ("unicode/utf8.first", laid_unicode_utf8_first)] }
def AdmitFormsSaid : Prop := admitFormsRow.holds Tryd.pinned (OpenSpec.ofChange admitFormsSpec)

/-- ITS FALSE NEIGHBOUR: 'it returns false'. Refute it at one input. -/
def admitFormsWrong : ChangeSpec := { name := "admitForms", fn := fun _ => fun
  | [d1, d2, d3] => { results := [.lit (.bool false)], args := [d1, d2, d3] }
  | _ => none }
def AdmitFormsWrongFalsely : Prop := admitFormsRow.holds Tryd.pinned (OpenSpec.ofChange admitFormsWrong)

/-- 'hostlerlaw13.AdmitNew': WHATEVER THE INPUT: true; the input reads as it did. -/
def admitNewSpec : ChangeSpec := { name := "admitNew", fn := fun _ => fun
  | [d1, d2, d3] => { results := [.lit (.bool true)], args := [d1, d2, d3] }
  | _ => none }
def admitNewRow : OpenClaim := { program := "ytjndigkphoiohaadoor", sum := "070905a82041f4b9e7a685ba5ad175e1d3c3bf86118a6bc3c001cd5acc2b0d13", func := "hostler/hostlerlaw13.AdmitNew", spec := "admitNew", inPlace := ["internal/bytealg.IndexByteString", "internal/bytealg.IndexString"], unfollowed := true, recurses := true, named := ["unicode/utf8.first", "unicode/utf8.acceptRanges", "internal/bytealg.MaxLen"], apart := false, laid := [("unicode/utf8.acceptRanges", laid_unicode_utf8_acceptRanges), ("unicode/utf8.first", laid_unicode_utf8_first)] }
def AdmitNewSaid : Prop := admitNewRow.holds Tryd.pinned (OpenSpec.ofChange admitNewSpec)

/-- ITS FALSE NEIGHBOUR: 'it returns false'. Refute it at one input. -/
def admitNewWrong : ChangeSpec := { name := "admitNew", fn := fun _ => fun
  | [d1, d2, d3] => { results := [.lit (.bool false)], args := [d1, d2, d3] }
  | _ => none }
def AdmitNewWrongFalsely : Prop := admitNewRow.holds Tryd.pinned (OpenSpec.ofChange admitNewWrong)

/-- 'hostlerlaw04.MessageForms': WHATEVER THE INPUT: true; the input reads as it did. -/
def messageFormsSpec : ChangeSpec := { name := "messageForms", fn := fun _ => fun
  | [d1, d2, d3, d4, d5] => { results := [.lit (.bool true)], args := [d1, d2, d3, d4, d5] }
  | _ => none }
def messageFormsRow : OpenClaim := { program := "ytjndigkphoiohaadoor", sum := "070905a82041f4b9e7a685ba5ad175e1d3c3bf86118a6bc3c001cd5acc2b0d13", func := "hostler/hostlerlaw04.MessageForms", spec := "messageForms", inPlace := ["internal/bytealg.IndexByteString", "internal/bytealg.IndexString"], unfollowed := true, recurses := true, named := ["unicode/utf8.first", "unicode/utf8.acceptRanges", "internal/bytealg.MaxLen"], apart := false, laid := [("unicode/utf8.acceptRanges", laid_unicode_utf8_acceptRanges), ("unicode/utf8.first", laid_unicode_utf8_first)] }
def MessageFormsSaid : Prop := messageFormsRow.holds Tryd.pinned (OpenSpec.ofChange messageFormsSpec)

/-- ITS FALSE NEIGHBOUR: 'it returns false'. Refute it at one input. -/
def messageFormsWrong : ChangeSpec := { name := "messageForms", fn := fun _ => fun
  | [d1, d2, d3, d4, d5] => { results := [.lit (.bool false)], args := [d1, d2, d3, d4, d5] }
  | _ => none }
def MessageFormsWrongFalsely : Prop := messageFormsRow.holds Tryd.pinned (OpenSpec.ofChange messageFormsWrong)

/- THE SECOND FORM. 'bulk': how many values and letters a reading holds, each counted each time it is reached (what is shared counts as often as it is met; a slice's spare places count too). A statement '..UptoSaid' is the law's where the arguments, and the package variables that the reading takes, are together of bulk at most 1048576: NARROWER than '..Said'. Prove '..Said' where nothing that the law and all that it calls make is longer than what came in: it says more and counts as full. Else prove '..UptoSaid'. A law counts once. -/
mutual
def uptoBulk {H : Type} : DataW H → Nat
  | .lit (.string bytes) => bytes.length + 1
  | .lit _ => 1
  | .nil => 1
  | .ptr d => uptoBulk d + 1
  | .slice elems spare => uptoBulkAll elems + uptoBulkAll spare + 1
  | .agg parts => uptoBulkAll parts + 1
  | .iface _ d => uptoBulk d + 1
  | .map entries => uptoBulkEntries entries + 1
  | .held _ => 1
def uptoBulkAll {H : Type} : List (DataW H) → Nat
  | [] => 0
  | d :: r => uptoBulk d + uptoBulkAll r
def uptoBulkEntries {H : Type} : List (Lit × DataW H) → Nat
  | [] => 0
  | x :: r => uptoBulkEntry x + uptoBulkEntries r
def uptoBulkEntry {H : Type} : Lit × DataW H → Nat
  | (.string bytes, d) => bytes.length + uptoBulk d + 1
  | (_, d) => uptoBulk d + 1
 end
def uptoSmall : (H : Type) → List (DataW H) → Bool := fun _ ds => decide (uptoBulkAll ds ≤ 1048576)
def OpenSpec.upto (s : _root_.Go.ChangeSpec) : _root_.Go.OpenSpec := { _root_.Go.OpenSpec.ofChange s with cond := some uptoSmall }

/-- 'hostlerlaw04.MessageErrors', WHERE WHAT IT READS IS OF BULK AT MOST 1048576: true; the input reads as it did. -/
def messageErrorsUptoRow : OpenClaim := { program := "ytjndigkphoiohaadoor", sum := "070905a82041f4b9e7a685ba5ad175e1d3c3bf86118a6bc3c001cd5acc2b0d13", func := "hostler/hostlerlaw04.MessageErrors", spec := "messageErrors", inPlace := ["internal/bytealg.IndexByteString", "internal/bytealg.IndexString"], unfollowed := true, recurses := true, named := ["unicode/utf8.first", "unicode/utf8.acceptRanges", "internal/bytealg.MaxLen"], apart := false, laid := [("unicode/utf8.acceptRanges", laid_unicode_utf8_acceptRanges), ("unicode/utf8.first", laid_unicode_utf8_first)], narrowed := true }
def MessageErrorsUptoSaid : Prop := messageErrorsUptoRow.holds Tryd.pinned (OpenSpec.upto messageErrorsSpec)

/-- 'hostlerlaw13.AdmitForms', WHERE WHAT IT READS IS OF BULK AT MOST 1048576: true; the input reads as it did. -/
def admitFormsUptoRow : OpenClaim := { program := "ytjndigkphoiohaadoor", sum := "070905a82041f4b9e7a685ba5ad175e1d3c3bf86118a6bc3c001cd5acc2b0d13", func := "hostler/hostlerlaw13.AdmitForms", spec := "admitForms", inPlace := ["internal/bytealg.IndexByteString", "internal/bytealg.IndexString"], unfollowed := true, recurses := true, named := ["unicode/utf8.first", "unicode/utf8.acceptRanges", "internal/bytealg.MaxLen"], apart := false, laid := [("unicode/utf8.acceptRanges", laid_unicode_utf8_acceptRanges), ("unicode/utf8.first", laid_unicode_utf8_first)], narrowed := true }
def AdmitFormsUptoSaid : Prop := admitFormsUptoRow.holds Tryd.pinned (OpenSpec.upto admitFormsSpec)

/-- 'hostlerlaw13.AdmitNew', WHERE WHAT IT READS IS OF BULK AT MOST 1048576: true; the input reads as it did. -/
def admitNewUptoRow : OpenClaim := { program := "ytjndigkphoiohaadoor", sum := "070905a82041f4b9e7a685ba5ad175e1d3c3bf86118a6bc3c001cd5acc2b0d13", func := "hostler/hostlerlaw13.AdmitNew", spec := "admitNew", inPlace := ["internal/bytealg.IndexByteString", "internal/bytealg.IndexString"], unfollowed := true, recurses := true, named := ["unicode/utf8.first", "unicode/utf8.acceptRanges", "internal/bytealg.MaxLen"], apart := false, laid := [("unicode/utf8.acceptRanges", laid_unicode_utf8_acceptRanges), ("unicode/utf8.first", laid_unicode_utf8_first)], narrowed := true }
def AdmitNewUptoSaid : Prop := admitNewUptoRow.holds Tryd.pinned (OpenSpec.upto admitNewSpec)

/-- 'hostlerlaw04.MessageForms', WHERE WHAT IT READS IS OF BULK AT MOST 1048576: true; the input reads as it did. -/
def messageFormsUptoRow : OpenClaim := { program := "ytjndigkphoiohaadoor", sum := "070905a82041f4b9e7a685ba5ad175e1d3c3bf86118a6bc3c001cd5acc2b0d13", func := "hostler/hostlerlaw04.MessageForms", spec := "messageForms", inPlace := ["internal/bytealg.IndexByteString", "internal/bytealg.IndexString"], unfollowed := true, recurses := true, named := ["unicode/utf8.first", "unicode/utf8.acceptRanges", "internal/bytealg.MaxLen"], apart := false, laid := [("unicode/utf8.acceptRanges", laid_unicode_utf8_acceptRanges), ("unicode/utf8.first", laid_unicode_utf8_first)], narrowed := true }
def MessageFormsUptoSaid : Prop := messageFormsUptoRow.holds Tryd.pinned (OpenSpec.upto messageFormsSpec)

end Rows
end Go.Proofs.YtjndigkphoiohaaDoor
