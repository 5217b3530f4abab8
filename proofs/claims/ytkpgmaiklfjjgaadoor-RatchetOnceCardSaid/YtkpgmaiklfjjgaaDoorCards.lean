/-
  DERIVED. GIVEN WITH THE SEED: THE CARDS: each row of YtkpgmaiklfjjgaaDoorRows.lean that lists a variable, with what it lists TIED to the program's text (the seventh form; the later family's looks); each row that meets fmt, with fmt's text TOLD by the authors' own Lean function (tested against real Go, not proved from fmt's source: count such statements apart). THE CARD IS WHAT COUNTS. Prove the row's statement (the work); the ties are given (YtkpgmaiklfjjgaaDoorTie.lean); close each card by the builder's one call (the guide's Derived/Test/ToyasCard.lean, 'card_holds'). Laid BY PROGRAM, IN A SANDBOX (cutbox-door.mjs). By AI agents, Wed Nov 11 2026. No macro, syntax, notation, axiom, sorry.
-/
import Derived.Test.YtkpgmaiklfjjgaaDoorRows
import GoSem.ClaimSeven
namespace Go.Proofs.YtkpgmaiklfjjgaaDoor
namespace Rows

/-- THE TIED CARD OF 'oubliettelaw33.RatchetSteps'. -/
def ratchetStepsCard : Claim7 := { stood := { row := ratchetStepsRow, standIns := [], harness := (true, "dbc6c7590020782628f59839991bdb4936bb09d59c7abf536453e814be3f741e"), looks := true }, kinds := [], alts := [], laidByText := true, laidKinds := [.data], laidTests := true, laidLooks := .later }
def RatchetStepsCardSaid : Prop := Claim7.holds Tryd.pinned (.plain (OpenSpec.ofChange ratchetStepsSpec)) ratchetStepsCard

/-- THE TIED CARD OF 'oubliettelaw33.RatchetOnce'. -/
def ratchetOnceCard : Claim7 := { stood := { row := ratchetOnceRow, standIns := [], harness := (true, "dbc6c7590020782628f59839991bdb4936bb09d59c7abf536453e814be3f741e"), looks := true }, kinds := [], alts := [], laidByText := true, laidKinds := [.data], laidTests := true, laidLooks := .later }
def RatchetOnceCardSaid : Prop := Claim7.holds Tryd.pinned (.plain (OpenSpec.ofChange ratchetOnceSpec)) ratchetOnceCard

/-- THE TIED CARD OF 'oubliettelaw14.DrawKeys'. -/
def drawKeysCard : Claim7 := { stood := { row := drawKeysRow, standIns := [], harness := (true, "dbc6c7590020782628f59839991bdb4936bb09d59c7abf536453e814be3f741e"), looks := true }, kinds := [], alts := [], laidByText := true, laidKinds := [.data, .data, .data, .data], laidTests := true, laidLooks := .later }
def DrawKeysCardSaid : Prop := Claim7.holds Tryd.pinned (.plain (OpenSpec.ofChange drawKeysSpec)) drawKeysCard

/-- THE TIED CARD OF 'oubliettelaw14.DrawAlike'. -/
def drawAlikeCard : Claim7 := { stood := { row := drawAlikeRow, standIns := [], harness := (true, "dbc6c7590020782628f59839991bdb4936bb09d59c7abf536453e814be3f741e"), looks := true }, kinds := [], alts := [], laidByText := true, laidKinds := [.data, .data, .data, .data], laidTests := true, laidLooks := .later }
def DrawAlikeCardSaid : Prop := Claim7.holds Tryd.pinned (.plain (OpenSpec.ofChange drawAlikeSpec)) drawAlikeCard

/-- THE TIED CARD OF 'oubliettelaw14.DrawBytes'. -/
def drawBytesCard : Claim7 := { stood := { row := drawBytesRow, standIns := [], harness := (true, "dbc6c7590020782628f59839991bdb4936bb09d59c7abf536453e814be3f741e"), looks := true }, kinds := [], alts := [], laidByText := true, laidKinds := [.data, .data, .data, .data], laidTests := true, laidLooks := .later }
def DrawBytesCardSaid : Prop := Claim7.holds Tryd.pinned (.plain (OpenSpec.ofChange drawBytesSpec)) drawBytesCard

/-- THE TIED CARD OF 'oubliettelaw34.EpochAlike'. -/
def epochAlikeCard : Claim7 := { stood := { row := epochAlikeRow, standIns := [], harness := (true, "dbc6c7590020782628f59839991bdb4936bb09d59c7abf536453e814be3f741e"), looks := true }, kinds := [], alts := [], laidByText := true, laidKinds := [.data, .data, .data, .data], laidTests := true, laidLooks := .later }
def EpochAlikeCardSaid : Prop := Claim7.holds Tryd.pinned (.plain (OpenSpec.ofChange epochAlikeSpec)) epochAlikeCard

/-- THE TIED CARD OF 'oubliettelaw33.RatchetForgets'. -/
def ratchetForgetsCard : Claim7 := { stood := { row := ratchetForgetsRow, standIns := [], harness := (true, "dbc6c7590020782628f59839991bdb4936bb09d59c7abf536453e814be3f741e"), looks := true }, kinds := [], alts := [], laidByText := true, laidKinds := [.data, .data, .data, .data], laidTests := true, laidLooks := .later }
def RatchetForgetsCardSaid : Prop := Claim7.holds Tryd.pinned (.plain (OpenSpec.ofChange ratchetForgetsSpec)) ratchetForgetsCard

/-- THE SECOND FORM's CARD OF 'oubliettelaw33.RatchetSteps'. -/
def ratchetStepsUptoCard : Claim7 := { stood := { row := ratchetStepsUptoRow, standIns := [], harness := (true, "dbc6c7590020782628f59839991bdb4936bb09d59c7abf536453e814be3f741e"), looks := true }, kinds := [], alts := [], laidByText := true, laidKinds := [.data], laidTests := true, laidLooks := .later }
def RatchetStepsUptoCardSaid : Prop := Claim7.holds Tryd.pinned (.plain (OpenSpec.upto ratchetStepsSpec)) ratchetStepsUptoCard

/-- THE SECOND FORM's CARD OF 'oubliettelaw33.RatchetOnce'. -/
def ratchetOnceUptoCard : Claim7 := { stood := { row := ratchetOnceUptoRow, standIns := [], harness := (true, "dbc6c7590020782628f59839991bdb4936bb09d59c7abf536453e814be3f741e"), looks := true }, kinds := [], alts := [], laidByText := true, laidKinds := [.data], laidTests := true, laidLooks := .later }
def RatchetOnceUptoCardSaid : Prop := Claim7.holds Tryd.pinned (.plain (OpenSpec.upto ratchetOnceSpec)) ratchetOnceUptoCard

/-- THE SECOND FORM's CARD OF 'oubliettelaw14.DrawKeys'. -/
def drawKeysUptoCard : Claim7 := { stood := { row := drawKeysUptoRow, standIns := [], harness := (true, "dbc6c7590020782628f59839991bdb4936bb09d59c7abf536453e814be3f741e"), looks := true }, kinds := [], alts := [], laidByText := true, laidKinds := [.data, .data, .data, .data], laidTests := true, laidLooks := .later }
def DrawKeysUptoCardSaid : Prop := Claim7.holds Tryd.pinned (.plain (OpenSpec.upto drawKeysSpec)) drawKeysUptoCard

/-- THE SECOND FORM's CARD OF 'oubliettelaw14.DrawAlike'. -/
def drawAlikeUptoCard : Claim7 := { stood := { row := drawAlikeUptoRow, standIns := [], harness := (true, "dbc6c7590020782628f59839991bdb4936bb09d59c7abf536453e814be3f741e"), looks := true }, kinds := [], alts := [], laidByText := true, laidKinds := [.data, .data, .data, .data], laidTests := true, laidLooks := .later }
def DrawAlikeUptoCardSaid : Prop := Claim7.holds Tryd.pinned (.plain (OpenSpec.upto drawAlikeSpec)) drawAlikeUptoCard

/-- THE SECOND FORM's CARD OF 'oubliettelaw14.DrawBytes'. -/
def drawBytesUptoCard : Claim7 := { stood := { row := drawBytesUptoRow, standIns := [], harness := (true, "dbc6c7590020782628f59839991bdb4936bb09d59c7abf536453e814be3f741e"), looks := true }, kinds := [], alts := [], laidByText := true, laidKinds := [.data, .data, .data, .data], laidTests := true, laidLooks := .later }
def DrawBytesUptoCardSaid : Prop := Claim7.holds Tryd.pinned (.plain (OpenSpec.upto drawBytesSpec)) drawBytesUptoCard

/-- THE SECOND FORM's CARD OF 'oubliettelaw34.EpochAlike'. -/
def epochAlikeUptoCard : Claim7 := { stood := { row := epochAlikeUptoRow, standIns := [], harness := (true, "dbc6c7590020782628f59839991bdb4936bb09d59c7abf536453e814be3f741e"), looks := true }, kinds := [], alts := [], laidByText := true, laidKinds := [.data, .data, .data, .data], laidTests := true, laidLooks := .later }
def EpochAlikeUptoCardSaid : Prop := Claim7.holds Tryd.pinned (.plain (OpenSpec.upto epochAlikeSpec)) epochAlikeUptoCard

/-- THE SECOND FORM's CARD OF 'oubliettelaw33.RatchetForgets'. -/
def ratchetForgetsUptoCard : Claim7 := { stood := { row := ratchetForgetsUptoRow, standIns := [], harness := (true, "dbc6c7590020782628f59839991bdb4936bb09d59c7abf536453e814be3f741e"), looks := true }, kinds := [], alts := [], laidByText := true, laidKinds := [.data, .data, .data, .data], laidTests := true, laidLooks := .later }
def RatchetForgetsUptoCardSaid : Prop := Claim7.holds Tryd.pinned (.plain (OpenSpec.upto ratchetForgetsSpec)) ratchetForgetsUptoCard
end Rows
end Go.Proofs.YtkpgmaiklfjjgaaDoor
