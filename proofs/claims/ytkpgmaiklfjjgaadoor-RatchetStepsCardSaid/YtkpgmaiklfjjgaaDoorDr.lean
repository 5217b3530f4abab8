/-
  What the rows' conditions say of the tables that start-up code lays.
-/
import Derived.Test.YtkpgmaiklfjjgaaDoorDq
import Derived.Test.YtkpgmaiklfjjgaaDoorCards
import Derived.Test.YtkpgmaiklfjjgaaDoorTie
import Derived.Test.YtkpgmaiklfjjgaaDoorGm
import Derived.Test.YtkpgmaiklfjjgaaDoorGn
import Derived.ChangeSame
import Derived.ChangeVars
import Derived.JoinedOf
import Derived.RowKit
import Derived.RowKitTokens
import Derived.LaidLaws
import Derived.LaidMore
import Derived.LaidHandle
import Derived.LaidByTextLater
import Derived.SevenTiedAt
import Derived.Lib.LaidTab
import Derived.Stop.Joined
import Derived.Stop.LaidErr
import Derived.MakeChecks
set_option maxRecDepth 100000
set_option linter.unusedVariables false
namespace Go.Proofs.YtkpgmaiklfjjgaaDoor
open Go Go.G Go.ChangeShapes Go.WideShapes Go.ChangeAt Go.RowKit
theorem opens_bytes : Opens Tryd.prog 22 (.slice .byte) := opens_slice Tryd.underlying22 (by kernel_rfl) (opens_byte Tryd.underlying5)
theorem opens_ints : Opens Tryd.prog 42 (.slice (.int .i64)) := opens_slice Tryd.underlying42 (by kernel_rfl) (opens_int Tryd.underlying3)
def kInts : List Int := kT.map fun x => (x.toNat : Int)
theorem k_data : (Rows.laid_oubliette_sha_k : DataW Unit) = Lib.tabData .u32 kInts := by kernel_rfl
theorem p_data : (Rows.laid_internal_strconv_uint64pow10 : DataW Unit) = Lib.tabData .u64 Lib.pow10Tab := by kernel_rfl
abbrev laid1 : List (String × DataW Unit) := [("oubliette/sha.k", Rows.laid_oubliette_sha_k)]
abbrev laid4 : List (String × DataW Unit) := [("math/bits.deBruijn32tab", Rows.laid_math_bits_deBruijn32tab), ("math/bits.deBruijn64tab", Rows.laid_math_bits_deBruijn64tab), ("internal/strconv.uint64pow10", Rows.laid_internal_strconv_uint64pow10), ("oubliette/sha.k", Rows.laid_oubliette_sha_k)]
theorem gK : Tryd.prog.globalNamed "oubliette/sha.k" = some 2 := by kernel_rfl
theorem kt_of {W : World} (h : Lib.TabIs Tryd.prog W "oubliette/sha.k" .u32 kInts) : KT W := fun i hi => by
  have hl : kInts.length = kT.length := by simp [kInts]
  have := h.cell gK i (by omega)
  rw [this]
  simp [kInts, u, List.getD, hi]
theorem gP : Tryd.prog.globalNamed "internal/strconv.uint64pow10" = some 0 := by kernel_rfl
theorem of_laid1 {W : World} (h : laidMetH Tryd.prog laid1 W) : KT W := by
  rw [MakeChecks.laidMetH_plain _ _ _ (by kernel_rfl)] at h
  unfold laid1 at h
  rw [k_data] at h
  exact kt_of (Lib.tabIs_of_head gK (by kernel_rfl) Tryd.underlying155 Tryd.underlying154 (by kernel_rfl) (by kernel_rfl) h)
theorem of_laid4 {W : World} (h : laidMetH Tryd.prog laid4 W) : TB W := by
  rw [MakeChecks.laidMetH_plain _ _ _ (by kernel_rfl)] at h
  unfold laid4 at h
  have h2 := h.tail.tail
  have h3 := h2.tail
  rw [k_data] at h3
  rw [p_data] at h2
  exact ⟨kt_of (Lib.tabIs_of_head gK (by kernel_rfl) Tryd.underlying155 Tryd.underlying154 (by kernel_rfl) (by kernel_rfl) h3),
    Lib.tabIs_of_head gP (by kernel_rfl) Tryd.underlying181 Tryd.underlying112 (by kernel_rfl) (by kernel_rfl) h2⟩
theorem own : ownKnob Tryd.prog.godebug = none := by kernel_rfl
theorem door_met1 (os : Os) (args : Array Value) : laidMetH Tryd.prog laid1 ((World.doorLaid Tryd.prog 600 os).forCall (fun _ _ => 0) ⟨#[], args, []⟩).memory := by
  rw [MakeChecks.laidMetH_plain _ _ _ (by kernel_rfl)]
  exact laidMet_of_run' 8 (by kernel_rfl) (by kernel_rfl)
theorem door_met4 (os : Os) (args : Array Value) : laidMetH Tryd.prog laid4 ((World.doorLaid Tryd.prog 600 os).forCall (fun _ _ => 0) ⟨#[], args, []⟩).memory := by
  rw [MakeChecks.laidMetH_plain _ _ _ (by kernel_rfl)]
  exact laidMet_of_run' 8 (by kernel_rfl) (by kernel_rfl)
end Go.Proofs.YtkpgmaiklfjjgaaDoor
