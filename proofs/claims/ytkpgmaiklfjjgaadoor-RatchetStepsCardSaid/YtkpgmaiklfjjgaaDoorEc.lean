/-
  A chain as it comes in.
-/
import Derived.Test.YtkpgmaiklfjjgaaDoorEb
import Derived.Test.YtkpgmaiklfjjgaaDoorDr
set_option maxRecDepth 100000
set_option linter.unusedVariables false
namespace Go.Proofs.YtkpgmaiklfjjgaaDoor
open Go Go.G Go.ChangeShapes Go.WideShapes Go.ChangeAt Go.RowKit
abbrev tChain : Ty := .pair (.int .i64) (.pair (.slice .byte) (.slice tSkip))
theorem opens_skips : Opens Tryd.prog 23 (.slice tSkip) :=
  opens_slice Tryd.underlying23 (by kernel_rfl) (opens_pair Tryd.underlying84 rfl (by kernel_rfl) rfl rfl (by kernel_rfl) (by kernel_rfl) (opens_int Tryd.underlying3) opens_bytes)
theorem opens_chain : Opens Tryd.prog 25 tChain :=
  opens_three Tryd.underlying25 rfl (by kernel_rfl) rfl rfl rfl (by kernel_rfl) (by kernel_rfl) (by kernel_rfl) (opens_int Tryd.underlying3) opens_bytes opens_skips
theorem chain_of {v : Value} {w : World} {D : Nat → Prop} {x : tChain.D} (h : RdV tChain D w v x) (hv : ∃ cs, v = .agg cs) :
    ∃ gen vc vs, v = chainV gen vc vs ∧ -9223372036854775808 ≤ gen ∧ gen ≤ 9223372036854775807 ∧ ∃ cur : List UInt8, ∃ sk : List (Int × List UInt8), Rd (.slice .byte) D w [vc] cur ∧ Rd (.slice tSkip) D w [vs] sk := by
  obtain ⟨cs, rfl⟩ := hv
  obtain ⟨va, vb, h1, _, _, h2, vc, vd, h3, hc, hd, h4, h5⟩ := h
  obtain ⟨c, rfl⟩ := List.length_eq_one_iff.1 hc
  obtain ⟨d, rfl⟩ := List.length_eq_one_iff.1 hd
  refine ⟨x.1, c, d, ?_, h2.2.1, h2.2.2, x.2.1, x.2.2, h4, h5⟩
  rw [h3, h2.1] at h1
  unfold chainV
  congr 1
  apply Array.ext'
  simpa [Value.cells] using h1
end Go.Proofs.YtkpgmaiklfjjgaaDoor
