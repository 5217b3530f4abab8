/-
  For every row of writes and all numbers the law on images hands back true, and turns nothing of what came in.
-/
import Derived.Test.YtlolomdgchkibaaTm
import Derived.Test.YtlolomdgchkibaaTn
set_option maxRecDepth 100000
set_option linter.unusedVariables false
namespace Go.Proofs.Ytlolomdgchkibaa
open Go Go.G Go.ChangeShapes Go.WideShapes Go.ChangeAt Go.RowKit
theorem trailImages_lifted (os : Os) (started : os.Started) (H : Type) (enc : TypeId × Value → H) :
    ReturnsInHanded {} Try.checked os 6 .any (Rows.trailImagesSpec.pre6 enc Try.prog Try.f6 Rows.trailImagesRow.domain false) (Rows.trailImagesSpec.post enc Try.prog Try.f6 false true false false) := by
  refine returnsInHanded_of_change (C := Try.checked) own started (by kernel_rfl) Try.func6
    (ChangeSpec.witness6 (enc := enc) (C := Try.checked) false ⟨#[], #[.slice none 0 0, .int .i64 0, .int .i64 0, .int .i64 0], []⟩ 8 (by kernel_rfl) (by kernel_rfl) (by kernel_rfl) (by kernel_rfl)) ?_
  intro W base args ds gs before hval0 hW hcnd _
  refine law_end (tb := 4) hW rfl (fun ds h => match ds, h with | [a, b, c, d], _ => rfl) rfl (by kernel_rfl) (by kernel_rfl) (by
    have hp : Try.f6.params.toList.all (fun t => Try.prog.readableRec t && decide (t < Try.prog.types.size)) = true := by kernel_rfl
    intro t ht
    have := List.all_eq_true.1 hp t ht
    simp only [Bool.and_eq_true, decide_eq_true_eq] at this
    exact this) ?_
  obtain ⟨p, q, hA, hV, rfl, hfz, hnd⟩ := hW
  have hval : ∀ (j : Nat) t v, Try.f6.params[j]? = some t → args[j]? = some v → Value.okWide Try.prog W .any base t v := hval0
  rw [Try.params6] at hA hval
  obtain ⟨v0, vs0, d0, ds0, p0, q0, hargs, rfl, rfl, ⟨f0, h0⟩, r0⟩ := trodAll_cons hA
  obtain ⟨v1, vs1, d1, ds1, p1, q1, rfl, rfl, rfl, ⟨f1, h1⟩, r1⟩ := trodAll_cons r0
  obtain ⟨v2, vs2, d2, ds2, p2, q2, rfl, rfl, rfl, ⟨f2, h2⟩, r2⟩ := trodAll_cons r1
  obtain ⟨v3, vs3, d3, ds3, p3, q3, rfl, rfl, rfl, ⟨f3, h3⟩, r3⟩ := trodAll_cons r2
  obtain ⟨rfl, rfl, rfl⟩ := trodAll_nil r3
  obtain rfl : args = #[v0, v1, v2, v3] := by cases args; simp_all
  obtain ⟨y0, hy0⟩ := opens_writes H enc W _ _ _ _ h0
  obtain ⟨a0, l0, c0, rfl⟩ := okWide_slice Try.underlying40 (hval 0 40 v0 rfl rfl)
  obtain ⟨n1, rfl⟩ := okWide_int Try.underlying3 (hval 1 3 v1 rfl rfl)
  obtain ⟨z1, hy1⟩ := opens_int Try.underlying3 H enc W _ _ _ _ h1
  obtain ⟨hz1, hb1⟩ := hy1
  obtain rfl : n1 = z1 := by simpa [Value.cells] using hz1
  obtain ⟨n2, rfl⟩ := okWide_int Try.underlying3 (hval 2 3 v2 rfl rfl)
  obtain ⟨z2, hy2⟩ := opens_int Try.underlying3 H enc W _ _ _ _ h2
  obtain ⟨hz2, hb2⟩ := hy2
  obtain rfl : n2 = z2 := by simpa [Value.cells] using hz2
  obtain ⟨n3, rfl⟩ := okWide_int Try.underlying3 (hval 3 3 v3 rfl rfl)
  obtain ⟨z3, hy3⟩ := opens_int Try.underlying3 H enc W _ _ _ _ h3
  obtain ⟨hz3, hb3⟩ := hy3
  obtain rfl : n3 = z3 := by simpa [Value.cells] using hz3
  exact law20_Images_c hy0 (fun _ h => h) fun w' h => ⟨rfl, h⟩
theorem trailImages_proved : Rows.TrailImagesSaid :=
  OpenClaim.holds_of_wide 6 Try.f6 rfl rfl rfl rfl rfl rfl rfl ⟨rfl, rfl, rfl, rfl, rfl⟩ rfl rfl rfl rfl rfl (by kernel_rfl) Try.func6 (by kernel_rfl)
    (of_decide_eq_true (by kernel_rfl)) (by unfold Func.isWrapper; rw [if_neg (of_decide_eq_false (by kernel_rfl))]; exact ⟨rfl, rfl⟩)
    (fun os started H enc _ => trailImages_lifted os started H enc)
#print axioms trailImages_proved
end Go.Proofs.Ytlolomdgchkibaa
