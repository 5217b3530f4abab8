/-
  For every geometry, slot, page and row of slots the law on paths hands back true, and turns nothing of what came in.
-/
import Derived.Test.YtlolomdgchkibaaKm
import Derived.Test.YtlolomdgchkibaaTn
set_option maxRecDepth 100000
set_option linter.unusedVariables false
namespace Go.Proofs.Ytlolomdgchkibaa
open Go Go.G Go.ChangeShapes Go.WideShapes Go.ChangeAt Go.RowKit
theorem shapePaths_lifted (os : Os) (started : os.Started) (H : Type) (enc : TypeId × Value → H) :
    ReturnsInHanded {} Try.checked os 9 .any (Rows.shapePathsSpec.pre6 enc Try.prog Try.f9 Rows.shapePathsRow.domain false) (Rows.shapePathsSpec.post enc Try.prog Try.f9 false true false false) := by
  refine returnsInHanded_of_change (C := Try.checked) own started (by kernel_rfl) Try.func9
    (ChangeSpec.witness6 (enc := enc) (C := Try.checked) false ⟨#[], #[geo 0 0 0, .int .i64 0, .int .i64 0, .slice none 0 0], []⟩ 8 (by kernel_rfl) (by kernel_rfl) (by kernel_rfl) (by kernel_rfl)) ?_
  intro W base args ds gs before hval0 hW hcnd _
  refine law_end (tb := 4) hW rfl (fun ds h => match ds, h with | [a, b, c, d], _ => rfl) rfl (by kernel_rfl) (by kernel_rfl) (by
    have hp : Try.f9.params.toList.all (fun t => Try.prog.readableRec t && decide (t < Try.prog.types.size)) = true := by kernel_rfl
    intro t ht
    have := List.all_eq_true.1 hp t ht
    simp only [Bool.and_eq_true, decide_eq_true_eq] at this
    exact this) ?_
  obtain ⟨p, q, hA, hV, rfl, hfz, hnd⟩ := hW
  have hval : ∀ (j : Nat) t v, Try.f9.params[j]? = some t → args[j]? = some v → Value.okWide Try.prog W .any base t v := hval0
  rw [Try.params9] at hA hval
  obtain ⟨v0, vs0, d0, ds0, p0, q0, hargs, rfl, rfl, ⟨f0, h0⟩, r0⟩ := trodAll_cons hA
  obtain ⟨v1, vs1, d1, ds1, p1, q1, rfl, rfl, rfl, ⟨f1, h1⟩, r1⟩ := trodAll_cons r0
  obtain ⟨v2, vs2, d2, ds2, p2, q2, rfl, rfl, rfl, ⟨f2, h2⟩, r2⟩ := trodAll_cons r1
  obtain ⟨v3, vs3, d3, ds3, p3, q3, rfl, rfl, rfl, ⟨f3, h3⟩, r3⟩ := trodAll_cons r2
  obtain ⟨rfl, rfl, rfl⟩ := trodAll_nil r3
  obtain rfl : args = #[v0, v1, v2, v3] := by cases args; simp_all
  obtain ⟨y0, hy0⟩ := opens_geo H enc W _ _ _ _ h0
  obtain ⟨cs0, e0, _⟩ := okWide_struct Try.underlying33 (hval 0 33 v0 rfl rfl)
  obtain ⟨n1, rfl⟩ := okWide_int Try.underlying3 (hval 1 3 v1 rfl rfl)
  obtain ⟨z1, hy1⟩ := opens_int Try.underlying3 H enc W _ _ _ _ h1
  obtain ⟨hz1, hb1⟩ := hy1
  obtain rfl : n1 = z1 := by simpa [Value.cells] using hz1
  obtain ⟨n2, rfl⟩ := okWide_int Try.underlying3 (hval 2 3 v2 rfl rfl)
  obtain ⟨z2, hy2⟩ := opens_int Try.underlying3 H enc W _ _ _ _ h2
  obtain ⟨hz2, hb2⟩ := hy2
  obtain rfl : n2 = z2 := by simpa [Value.cells] using hz2
  obtain ⟨y3, hy3⟩ := opens_ints H enc W _ _ _ _ h3
  obtain ⟨a3, l3, c3, rfl⟩ := okWide_slice Try.underlying27 (hval 3 27 v3 rfl rfl)
  obtain ⟨aa, dd, ll, rfl⟩ := geo_of hy0 ⟨cs0, e0⟩; exact law27_Paths_c hy3 (fun _ h => h) fun w' h => ⟨rfl, h⟩
theorem shapePaths_proved : Rows.ShapePathsSaid :=
  OpenClaim.holds_of_wide 9 Try.f9 rfl rfl rfl rfl rfl rfl rfl ⟨rfl, rfl, rfl, rfl, rfl⟩ rfl rfl rfl rfl rfl (by kernel_rfl) Try.func9 (by kernel_rfl)
    (of_decide_eq_true (by kernel_rfl)) (by unfold Func.isWrapper; rw [if_neg (of_decide_eq_false (by kernel_rfl))]; exact ⟨rfl, rfl⟩)
    (fun os started H enc _ => shapePaths_lifted os started H enc)
#print axioms shapePaths_proved
end Go.Proofs.Ytlolomdgchkibaa
