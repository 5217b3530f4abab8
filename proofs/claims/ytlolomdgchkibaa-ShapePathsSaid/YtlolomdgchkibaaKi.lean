/-
  What the tree's laws are given reads as whole numbers.
-/
import Derived.Test.YtlolomdgchkibaaRows
import Derived.Test.YtlolomdgchkibaaKa
import Derived.Test.YtlolomdgchkibaaGm
set_option maxRecDepth 100000
set_option linter.unusedVariables false
namespace Go.Proofs.Ytlolomdgchkibaa
open Go Go.G Go.ChangeShapes Go.WideShapes Go.ChangeAt Go.RowKit
theorem own : ownKnob Try.prog.godebug = none := by kernel_rfl
theorem opens_geo : Opens Try.prog 33 (.pair (.int .i64) (.pair (.int .i64) (.int .i64))) :=
  opens_three Try.underlying33 rfl (by kernel_rfl) rfl rfl rfl (by kernel_rfl) (by kernel_rfl) (by kernel_rfl) (opens_int Try.underlying3) (opens_int Try.underlying3) (opens_int Try.underlying3)
theorem geo_of {v : Value} {w : World} {D : Nat → Prop} {x : Int × Int × Int} (h : RdV (.pair (.int .i64) (.pair (.int .i64) (.int .i64))) D w v x) (hv : ∃ cs, v = .agg cs) : ∃ a d l, v = geo a d l := by
  obtain ⟨cs, rfl⟩ := hv
  obtain ⟨va, vb, h1, _, _, h2, vc, vd, h3, _, _, h4, h5⟩ := h
  refine ⟨x.1, x.2.1, x.2.2, ?_⟩
  rw [h3, h2.1, h4.1, h5.1] at h1
  unfold geo
  congr 1
  apply Array.ext'
  simpa [Value.cells] using h1
end Go.Proofs.Ytlolomdgchkibaa
