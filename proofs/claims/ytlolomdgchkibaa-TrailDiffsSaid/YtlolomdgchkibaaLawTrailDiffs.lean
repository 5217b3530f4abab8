/-
  For every two images and every two rows of bytes the law on what is unlike hands back true, and turns nothing of what came in.
-/
import Derived.Test.YtlolomdgchkibaaKi
import Derived.Test.YtlolomdgchkibaaTd
set_option maxRecDepth 100000
set_option linter.unusedVariables false
namespace Go.Proofs.Ytlolomdgchkibaa
open Go Go.G Go.ChangeShapes Go.WideShapes Go.ChangeAt Go.RowKit
theorem opens_bytes : Opens Try.prog 23 (.slice .byte) := opens_slice Try.underlying23 (by kernel_rfl) (opens_byte Try.underlying5)
theorem opens_rows : Opens Try.prog 22 (.slice (.slice .byte)) := opens_slice Try.underlying22 (by kernel_rfl) opens_bytes
theorem trailDiffs_lifted (os : Os) (started : os.Started) (H : Type) (enc : TypeId × Value → H) :
    ReturnsInHanded {} Try.checked os 3 .any (Rows.trailDiffsSpec.pre6 enc Try.prog Try.f3 Rows.trailDiffsRow.domain false) (Rows.trailDiffsSpec.post enc Try.prog Try.f3 false true false false) := by
  refine returnsInHanded_of_change (C := Try.checked) own started (by kernel_rfl) Try.func3
    (ChangeSpec.witness6 (enc := enc) (C := Try.checked) false ⟨#[], #[.slice none 0 0, .slice none 0 0, .slice none 0 0, .slice none 0 0, .int .i64 0], []⟩ 8 (by kernel_rfl) (by kernel_rfl) (by kernel_rfl) (by kernel_rfl)) ?_
  intro W base args ds gs before hval0 hW hcnd _
  refine law_end (tb := 4) hW rfl (fun ds h => match ds, h with | [a, b, c, d, e], _ => rfl) rfl (by kernel_rfl) (by kernel_rfl) (by
    have hp : Try.f3.params.toList.all (fun t => Try.prog.readableRec t && decide (t < Try.prog.types.size)) = true := by kernel_rfl
    intro t ht
    have := List.all_eq_true.1 hp t ht
    simp only [Bool.and_eq_true, decide_eq_true_eq] at this
    exact this) ?_
  obtain ⟨p, q, hA, hV, rfl, hfz, hnd⟩ := hW
  have hval : ∀ (j : Nat) t v, Try.f3.params[j]? = some t → args[j]? = some v → Value.okWide Try.prog W .any base t v := hval0
  rw [Try.params3] at hA hval
  obtain ⟨v0, vs0, d0, ds0, p0, q0, hargs, rfl, rfl, ⟨f0, h0⟩, r0⟩ := trodAll_cons hA
  obtain ⟨v1, vs1, d1, ds1, p1, q1, rfl, rfl, rfl, ⟨f1, h1⟩, r1⟩ := trodAll_cons r0
  obtain ⟨v2, vs2, d2, ds2, p2, q2, rfl, rfl, rfl, ⟨f2, h2⟩, r2⟩ := trodAll_cons r1
  obtain ⟨v3, vs3, d3, ds3, p3, q3, rfl, rfl, rfl, ⟨f3, h3⟩, r3⟩ := trodAll_cons r2
  obtain ⟨v4, vs4, d4, ds4, p4, q4, rfl, rfl, rfl, ⟨f4, h4⟩, r4⟩ := trodAll_cons r3
  obtain ⟨rfl, rfl, rfl⟩ := trodAll_nil r4
  obtain rfl : args = #[v0, v1, v2, v3, v4] := by cases args; simp_all
  obtain ⟨y0, hy0⟩ := opens_rows H enc W _ _ _ _ h0
  obtain ⟨a0, l0, c0, rfl⟩ := okWide_slice Try.underlying22 (hval 0 22 v0 rfl rfl)
  obtain ⟨y1, hy1⟩ := opens_rows H enc W _ _ _ _ h1
  obtain ⟨a1, l1, c1, rfl⟩ := okWide_slice Try.underlying22 (hval 1 22 v1 rfl rfl)
  obtain ⟨y2, hy2⟩ := opens_bytes H enc W _ _ _ _ h2
  obtain ⟨a2, l2, c2, rfl⟩ := okWide_slice Try.underlying23 (hval 2 23 v2 rfl rfl)
  obtain ⟨y3, hy3⟩ := opens_bytes H enc W _ _ _ _ h3
  obtain ⟨a3, l3, c3, rfl⟩ := okWide_slice Try.underlying23 (hval 3 23 v3 rfl rfl)
  obtain ⟨n4, rfl⟩ := okWide_int Try.underlying3 (hval 4 3 v4 rfl rfl)
  obtain ⟨z4, hy4⟩ := opens_int Try.underlying3 H enc W _ _ _ _ h4
  obtain ⟨hz4, hb4⟩ := hy4
  obtain rfl : n4 = z4 := by simpa [Value.cells] using hz4
  exact law20_Diffs_c hy0 hy1 hy2 hy3 (fun _ h => h) fun w' h => ⟨rfl, h⟩
theorem trailDiffs_proved : Rows.TrailDiffsSaid :=
  OpenClaim.holds_of_wide 3 Try.f3 rfl rfl rfl rfl rfl rfl rfl ⟨rfl, rfl, rfl, rfl, rfl⟩ rfl rfl rfl rfl rfl (by kernel_rfl) Try.func3 (by kernel_rfl)
    (of_decide_eq_true (by kernel_rfl)) (by unfold Func.isWrapper; rw [if_neg (of_decide_eq_false (by kernel_rfl))]; exact ⟨rfl, rfl⟩)
    (fun os started H enc _ => trailDiffs_lifted os started H enc)
#print axioms trailDiffs_proved
end Go.Proofs.Ytlolomdgchkibaa
