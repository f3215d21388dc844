/-
  DERIVED. GIVEN WITH THE SEED: THE CARDS: each row of YtjndigkphoiohaaDoorRows.lean that lists a variable, with what it lists TIED to the program's text (the seventh form; the later family's looks); each row that meets fmt, with fmt's text TOLD by the authors' own Lean function (tested against real Go, not proved from fmt's source: count such statements apart). THE CARD IS WHAT COUNTS. Prove the row's statement (the work); the ties are given (YtjndigkphoiohaaDoorTie.lean); close each card by the builder's one call (the guide's Derived/Test/ToyasCard.lean, 'card_holds'). Laid BY PROGRAM, IN A SANDBOX (cutbox-door.mjs). By AI agents, Wed Nov 11 2026. No macro, syntax, notation, axiom, sorry.
-/
import Derived.Test.YtjndigkphoiohaaDoorRows
import GoSem.ClaimSeven
namespace Go.Proofs.YtjndigkphoiohaaDoor
namespace Rows

/-- THE TIED CARD OF 'hostlerlaw04.MessageErrors'. -/
def messageErrorsCard : Claim7 := { stood := { row := messageErrorsRow, standIns := [], harness := (true, "8431535f421f5835441d9b13e1160f9f6355d142e83fb697d4ea87c3ef7004c6"), looks := false }, kinds := [], alts := [], laidByText := true, laidKinds := [.data, .pinned], laidTests := true, laidLooks := .later }
def MessageErrorsCardSaid : Prop := Claim7.holds Tryd.pinned (.plain (OpenSpec.ofChange messageErrorsSpec)) messageErrorsCard

/-- THE TIED CARD OF 'hostlerlaw13.AdmitForms'. -/
def admitFormsCard : Claim7 := { stood := { row := admitFormsRow, standIns := [], harness := (true, "8431535f421f5835441d9b13e1160f9f6355d142e83fb697d4ea87c3ef7004c6"), looks := false }, kinds := [], alts := [], laidByText := true, laidKinds := [.data, .pinned], laidTests := true, laidLooks := .later }
def AdmitFormsCardSaid : Prop := Claim7.holds Tryd.pinned (.plain (OpenSpec.ofChange admitFormsSpec)) admitFormsCard

/-- THE TIED CARD OF 'hostlerlaw13.AdmitNew'. -/
def admitNewCard : Claim7 := { stood := { row := admitNewRow, standIns := [], harness := (true, "8431535f421f5835441d9b13e1160f9f6355d142e83fb697d4ea87c3ef7004c6"), looks := false }, kinds := [], alts := [], laidByText := true, laidKinds := [.data, .pinned], laidTests := true, laidLooks := .later }
def AdmitNewCardSaid : Prop := Claim7.holds Tryd.pinned (.plain (OpenSpec.ofChange admitNewSpec)) admitNewCard

/-- THE TIED CARD OF 'hostlerlaw04.MessageForms'. -/
def messageFormsCard : Claim7 := { stood := { row := messageFormsRow, standIns := [], harness := (true, "8431535f421f5835441d9b13e1160f9f6355d142e83fb697d4ea87c3ef7004c6"), looks := false }, kinds := [], alts := [], laidByText := true, laidKinds := [.data, .pinned], laidTests := true, laidLooks := .later }
def MessageFormsCardSaid : Prop := Claim7.holds Tryd.pinned (.plain (OpenSpec.ofChange messageFormsSpec)) messageFormsCard

/-- THE SECOND FORM's CARD OF 'hostlerlaw04.MessageErrors'. -/
def messageErrorsUptoCard : Claim7 := { stood := { row := messageErrorsUptoRow, standIns := [], harness := (true, "8431535f421f5835441d9b13e1160f9f6355d142e83fb697d4ea87c3ef7004c6"), looks := false }, kinds := [], alts := [], laidByText := true, laidKinds := [.data, .pinned], laidTests := true, laidLooks := .later }
def MessageErrorsUptoCardSaid : Prop := Claim7.holds Tryd.pinned (.plain (OpenSpec.upto messageErrorsSpec)) messageErrorsUptoCard

/-- THE SECOND FORM's CARD OF 'hostlerlaw13.AdmitForms'. -/
def admitFormsUptoCard : Claim7 := { stood := { row := admitFormsUptoRow, standIns := [], harness := (true, "8431535f421f5835441d9b13e1160f9f6355d142e83fb697d4ea87c3ef7004c6"), looks := false }, kinds := [], alts := [], laidByText := true, laidKinds := [.data, .pinned], laidTests := true, laidLooks := .later }
def AdmitFormsUptoCardSaid : Prop := Claim7.holds Tryd.pinned (.plain (OpenSpec.upto admitFormsSpec)) admitFormsUptoCard

/-- THE SECOND FORM's CARD OF 'hostlerlaw13.AdmitNew'. -/
def admitNewUptoCard : Claim7 := { stood := { row := admitNewUptoRow, standIns := [], harness := (true, "8431535f421f5835441d9b13e1160f9f6355d142e83fb697d4ea87c3ef7004c6"), looks := false }, kinds := [], alts := [], laidByText := true, laidKinds := [.data, .pinned], laidTests := true, laidLooks := .later }
def AdmitNewUptoCardSaid : Prop := Claim7.holds Tryd.pinned (.plain (OpenSpec.upto admitNewSpec)) admitNewUptoCard

/-- THE SECOND FORM's CARD OF 'hostlerlaw04.MessageForms'. -/
def messageFormsUptoCard : Claim7 := { stood := { row := messageFormsUptoRow, standIns := [], harness := (true, "8431535f421f5835441d9b13e1160f9f6355d142e83fb697d4ea87c3ef7004c6"), looks := false }, kinds := [], alts := [], laidByText := true, laidKinds := [.data, .pinned], laidTests := true, laidLooks := .later }
def MessageFormsUptoCardSaid : Prop := Claim7.holds Tryd.pinned (.plain (OpenSpec.upto messageFormsSpec)) messageFormsUptoCard
end Rows
end Go.Proofs.YtjndigkphoiohaaDoor
