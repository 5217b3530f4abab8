/-
  For every geometry, page and number the law on where pages stand hands back true, and turns nothing of what came in.
-/
import Derived.Test.YtlolomdgchkibaaRows
import Derived.Test.YtlolomdgchkibaaKf
import Derived.Test.YtlolomdgchkibaaGm
set_option maxRecDepth 100000
set_option linter.unusedVariables false
namespace Go.Proofs.Ytlolomdgchkibaa
open Go Go.G Go.ChangeShapes Go.WideShapes Go.ChangeAt Go.RowKit
theorem own : ownKnob Try.prog.godebug = none := by kernel_rfl
theorem opens_geo : Opens Try.prog 33 (.pair (.int .i64) (.pair (.int .i64) (.int .i64))) :=
  opens_three Try.underlying33 rfl (by kernel_rfl) rfl rfl rfl (by kernel_rfl) (by kernel_rfl) (by kernel_rfl) (opens_int Try.underlying3) (opens_int Try.underlying3) (opens_int Try.underlying3)
theorem geo_of {v : Value} {w : World} {D : Nat → Prop} {x : Int × Int × Int} (h : RdV (.pair (.int .i64) (.pair (.int .i64) (.int .i64))) D w v x) (hv : ∃ cs, v = .agg cs) : ∃ a d l, v = geo a d l := by
  obtain ⟨cs, rfl⟩ := hv
  obtain ⟨va, vb, h1, _, _, h2, vc, vd, h3, _, _, h4, h5⟩ := h
  refine ⟨x.1, x.2.1, x.2.2, ?_⟩
  rw [h3, h2.1, h4.1, h5.1] at h1
  unfold geo
  congr 1
  apply Array.ext'
  simpa [Value.cells] using h1
theorem shapeLooks_lifted (os : Os) (started : os.Started) (H : Type) (enc : TypeId × Value → H) :
    ReturnsInHanded {} Try.checked os 4 .any (Rows.shapeLooksSpec.pre6 enc Try.prog Try.f4 Rows.shapeLooksRow.domain false) (Rows.shapeLooksSpec.post enc Try.prog Try.f4 false true false false) := by
  refine returnsInHanded_of_change (C := Try.checked) own started (by kernel_rfl) Try.func4
    (ChangeSpec.witness6 (enc := enc) (C := Try.checked) false ⟨#[], #[geo 0 0 0, .int .i64 0, .int .i64 0], []⟩ 8 (by kernel_rfl) (by kernel_rfl) (by kernel_rfl) (by kernel_rfl)) ?_
  intro W base args ds gs before hval0 hW hcnd _
  refine law_end (tb := 4) hW rfl (fun ds h => match ds, h with | [a, b, c], _ => rfl) rfl (by kernel_rfl) (by kernel_rfl) (by
    have hp : Try.f4.params.toList.all (fun t => Try.prog.readableRec t && decide (t < Try.prog.types.size)) = true := by kernel_rfl
    intro t ht
    have := List.all_eq_true.1 hp t ht
    simp only [Bool.and_eq_true, decide_eq_true_eq] at this
    exact this) ?_
  obtain ⟨p, q, hA, hV, rfl, hfz, hnd⟩ := hW
  have hval : ∀ (j : Nat) t v, Try.f4.params[j]? = some t → args[j]? = some v → Value.okWide Try.prog W .any base t v := hval0
  rw [Try.params4] at hA hval
  obtain ⟨v0, vs0, d0, ds0, p0, q0, hargs, rfl, rfl, ⟨f0, h0⟩, r0⟩ := trodAll_cons hA
  obtain ⟨v1, vs1, d1, ds1, p1, q1, rfl, rfl, rfl, h1, r1⟩ := trodAll_cons r0
  obtain ⟨v2, vs2, d2, ds2, p2, q2, rfl, rfl, rfl, h2, r2⟩ := trodAll_cons r1
  obtain ⟨rfl, rfl, rfl⟩ := trodAll_nil r2
  obtain rfl : args = #[v0, v1, v2] := by cases args; simp_all
  obtain ⟨y0, hy0⟩ := opens_geo H enc W _ _ _ _ h0
  obtain ⟨cs0, e0, _⟩ := okWide_struct Try.underlying33 (hval 0 33 v0 rfl rfl)
  obtain ⟨a, d, l, rfl⟩ := geo_of hy0 ⟨cs0, e0⟩
  obtain ⟨p, rfl⟩ := okWide_int Try.underlying3 (hval 1 3 v1 rfl rfl)
  obtain ⟨k, rfl⟩ := okWide_int Try.underlying3 (hval 2 3 v2 rfl rfl)
  exact law27_Looks_c fun w' h => ⟨rfl, h⟩
theorem shapeLooks_proved : Rows.ShapeLooksSaid :=
  OpenClaim.holds_of_wide 4 Try.f4 rfl rfl rfl rfl rfl rfl rfl ⟨rfl, rfl, rfl, rfl, rfl⟩ rfl rfl rfl rfl rfl (by kernel_rfl) Try.func4 (by kernel_rfl)
    (of_decide_eq_true (by kernel_rfl)) (by unfold Func.isWrapper; rw [if_neg (of_decide_eq_false (by kernel_rfl))]; exact ⟨rfl, rfl⟩)
    (fun os started H enc _ => shapeLooks_lifted os started H enc)
#print axioms shapeLooks_proved
end Go.Proofs.Ytlolomdgchkibaa
