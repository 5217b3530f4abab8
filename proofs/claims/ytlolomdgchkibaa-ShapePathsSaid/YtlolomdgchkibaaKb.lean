/-
  What the document's answers for the tree compute, and the way up.
-/
import Derived.Test.YtlolomdgchkibaaKa
import Derived.Test.YtlolomdgchkibaaGl
set_option linter.unusedSimpArgs false
set_option linter.unusedVariables false
namespace Go.Proofs.Ytlolomdgchkibaa
open Go Go.G
variable {X : KX} {w : World} {K : KV} {a d l : Int}
theorem ref21_Least_c (h : ∀ w', Ext w w' → K (.int .i64 (leastF a d)) w') : GCalls Try.prog 80 [geo a d l] K X w := by
  apply oublietteref21_Least.calls; unfold oublietteref21_Least.b
  refine boxC fun g w1 _ h1 b => ?_
  have hk := h w1 h1
  unfold leastF at hk
  by_cases c1 : a < 2
  · simp only [↓eBinI, ↓eDiv, ↓eShift, ↓eBinS, ↓ePick, ↓eNot, ↓eNeg, ↓eConv, ↓eConvS, ↓eExt0, ↓eExt1, ↓eExt2, ↓eFA, ↓eIA, ↓eLenSl, ↓eCapSl, ↓eLenS, ↓eMin, ↓eMax, ↓eCondT, ↓eCondF, ↓gIf_tt, ↓gIf_ff, ↓gIf_tf, ↓gIf_ft, ↓gIf_u, ↓gIfW_u, ↓gIfW_tt, ↓gIfW_ff, ↓gIfW_tf, ↓gIfW_ft, binI, divI, shiftI, add_mk, Nat.zero_add, cond_true, cond_false, decide_true, decide_false, Bool.not_true, Bool.not_false, Bool.and_true, Bool.true_and, Bool.and_false, Bool.false_and, Int.toNat_natCast, Nat.mul_one, ↓b.c0, ↓b.c1, ↓b.ld3, c1, true_or, if_true] at hk ⊢
    exact hk
  by_cases c2 : 4 < a
  · simp only [↓eBinI, ↓eDiv, ↓eShift, ↓eBinS, ↓ePick, ↓eNot, ↓eNeg, ↓eConv, ↓eConvS, ↓eExt0, ↓eExt1, ↓eExt2, ↓eFA, ↓eIA, ↓eLenSl, ↓eCapSl, ↓eLenS, ↓eMin, ↓eMax, ↓eCondT, ↓eCondF, ↓gIf_tt, ↓gIf_ff, ↓gIf_tf, ↓gIf_ft, ↓gIf_u, ↓gIfW_u, ↓gIfW_tt, ↓gIfW_ff, ↓gIfW_tf, ↓gIfW_ft, binI, divI, shiftI, add_mk, Nat.zero_add, cond_true, cond_false, decide_true, decide_false, Bool.not_true, Bool.not_false, Bool.and_true, Bool.true_and, Bool.and_false, Bool.false_and, Int.toNat_natCast, Nat.mul_one, ↓b.c0, ↓b.c1, ↓b.ld3, c1, c2, gt_iff_lt, true_or, or_true, if_true] at hk ⊢
    exact hk
  by_cases c3 : d < 1
  · simp only [↓eBinI, ↓eDiv, ↓eShift, ↓eBinS, ↓ePick, ↓eNot, ↓eNeg, ↓eConv, ↓eConvS, ↓eExt0, ↓eExt1, ↓eExt2, ↓eFA, ↓eIA, ↓eLenSl, ↓eCapSl, ↓eLenS, ↓eMin, ↓eMax, ↓eCondT, ↓eCondF, ↓gIf_tt, ↓gIf_ff, ↓gIf_tf, ↓gIf_ft, ↓gIf_u, ↓gIfW_u, ↓gIfW_tt, ↓gIfW_ff, ↓gIfW_tf, ↓gIfW_ft, binI, divI, shiftI, add_mk, Nat.zero_add, cond_true, cond_false, decide_true, decide_false, Bool.not_true, Bool.not_false, Bool.and_true, Bool.true_and, Bool.and_false, Bool.false_and, Int.toNat_natCast, Nat.mul_one, ↓b.c0, ↓b.c1, ↓b.ld3, c1, c2, c3, gt_iff_lt, true_or, or_true, if_true] at hk ⊢
    exact hk
  by_cases c4 : 3 < d
  · simp only [↓eBinI, ↓eDiv, ↓eShift, ↓eBinS, ↓ePick, ↓eNot, ↓eNeg, ↓eConv, ↓eConvS, ↓eExt0, ↓eExt1, ↓eExt2, ↓eFA, ↓eIA, ↓eLenSl, ↓eCapSl, ↓eLenS, ↓eMin, ↓eMax, ↓eCondT, ↓eCondF, ↓gIf_tt, ↓gIf_ff, ↓gIf_tf, ↓gIf_ft, ↓gIf_u, ↓gIfW_u, ↓gIfW_tt, ↓gIfW_ff, ↓gIfW_tf, ↓gIfW_ft, binI, divI, shiftI, add_mk, Nat.zero_add, cond_true, cond_false, decide_true, decide_false, Bool.not_true, Bool.not_false, Bool.and_true, Bool.true_and, Bool.and_false, Bool.false_and, Int.toNat_natCast, Nat.mul_one, ↓b.c0, ↓b.c1, ↓b.ld3, c1, c2, c3, c4, gt_iff_lt, true_or, or_true, if_true] at hk ⊢
    exact hk
  simp only [↓eBinI, ↓eDiv, ↓eShift, ↓eBinS, ↓ePick, ↓eNot, ↓eNeg, ↓eConv, ↓eConvS, ↓eExt0, ↓eExt1, ↓eExt2, ↓eFA, ↓eIA, ↓eLenSl, ↓eCapSl, ↓eLenS, ↓eMin, ↓eMax, ↓eCondT, ↓eCondF, ↓gIf_tt, ↓gIf_ff, ↓gIf_tf, ↓gIf_ft, ↓gIf_u, ↓gIfW_u, ↓gIfW_tt, ↓gIfW_ff, ↓gIfW_tf, ↓gIfW_ft, binI, divI, shiftI, add_mk, Nat.zero_add, cond_true, cond_false, decide_true, decide_false, Bool.not_true, Bool.not_false, Bool.and_true, Bool.true_and, Bool.and_false, Bool.false_and, Int.toNat_natCast, Nat.mul_one, ↓b.c0, ↓b.c1, ↓b.ld3, c1, c2, c3, c4, gt_iff_lt, or_false, if_false] at hk ⊢
  rw [wrap64 (by omega) (by omega)]
  exact hk
theorem ref21_Right_c (h : ∀ w', Ext w w' → K (.bool (rightF a d l)) w') : GCalls Try.prog 63 [geo a d l] K X w := by
  apply oublietteref21_Right.calls; unfold oublietteref21_Right.b
  refine boxC fun g w1 _ h1 b => draw_ fun w1' h1' => ?_
  replace b := b.ext h1'
  simp only [↓eBinI, ↓eDiv, ↓eShift, ↓eBinS, ↓ePick, ↓eNot, ↓eNeg, ↓eConv, ↓eConvS, ↓eExt0, ↓eExt1, ↓eExt2, ↓eFA, ↓eIA, ↓eLenSl, ↓eCapSl, ↓eLenS, ↓eMin, ↓eMax, ↓eCondT, ↓eCondF, ↓gIf_tt, ↓gIf_ff, ↓gIf_tf, ↓gIf_ft, ↓gIf_u, ↓gIfW_u, ↓gIfW_tt, ↓gIfW_ff, ↓gIfW_tf, ↓gIfW_ft, binI, divI, shiftI, add_mk, Nat.zero_add, cond_true, cond_false, decide_true, decide_false, Bool.not_true, Bool.not_false, Bool.and_true, Bool.true_and, Bool.and_false, Bool.false_and, Int.toNat_natCast, Nat.mul_one, ↓b.le3]
  refine ref21_Least_c fun w2 h2 => anew_ ?_
  replace b := b.ext h2
  have h12 := (h1.tr h1').tr h2
  have hk := h w2 h12
  rw [rightF_eq] at hk
  by_cases c1 : leastF a d > 0
  · simp only [↓eBinI, ↓eDiv, ↓eShift, ↓eBinS, ↓ePick, ↓eNot, ↓eNeg, ↓eConv, ↓eConvS, ↓eExt0, ↓eExt1, ↓eExt2, ↓eFA, ↓eIA, ↓eLenSl, ↓eCapSl, ↓eLenS, ↓eMin, ↓eMax, ↓eCondT, ↓eCondF, ↓gIf_tt, ↓gIf_ff, ↓gIf_tf, ↓gIf_ft, ↓gIf_u, ↓gIfW_u, ↓gIfW_tt, ↓gIfW_ff, ↓gIfW_tf, ↓gIfW_ft, binI, divI, shiftI, add_mk, Nat.zero_add, cond_true, cond_false, decide_true, decide_false, Bool.not_true, Bool.not_false, Bool.and_true, Bool.true_and, Bool.and_false, Bool.false_and, Int.toNat_natCast, Nat.mul_one, ↓b.e2, ↓b.le3, c1] at hk ⊢
    refine ref21_Least_c fun w3 h3 => ⟨h3, ?_⟩
    replace hk := h w3 (h12.tr h3)
    rw [rightF_eq] at hk
    by_cases c2 : l ≥ leastF a d
    · simp only [↓eBinI, ↓eDiv, ↓eShift, ↓eBinS, ↓ePick, ↓eNot, ↓eNeg, ↓eConv, ↓eConvS, ↓eExt0, ↓eExt1, ↓eExt2, ↓eFA, ↓eIA, ↓eLenSl, ↓eCapSl, ↓eLenS, ↓eMin, ↓eMax, ↓eCondT, ↓eCondF, ↓gIf_tt, ↓gIf_ff, ↓gIf_tf, ↓gIf_ft, ↓gIf_u, ↓gIfW_u, ↓gIfW_tt, ↓gIfW_ff, ↓gIfW_tf, ↓gIfW_ft, binI, divI, shiftI, add_mk, Nat.zero_add, cond_true, cond_false, decide_true, decide_false, Bool.not_true, Bool.not_false, Bool.and_true, Bool.true_and, Bool.and_false, Bool.false_and, Int.toNat_natCast, Nat.mul_one, ↓b.e2, c1, c2] at hk ⊢
      exact hk
    · simp only [↓eBinI, ↓eDiv, ↓eShift, ↓eBinS, ↓ePick, ↓eNot, ↓eNeg, ↓eConv, ↓eConvS, ↓eExt0, ↓eExt1, ↓eExt2, ↓eFA, ↓eIA, ↓eLenSl, ↓eCapSl, ↓eLenS, ↓eMin, ↓eMax, ↓eCondT, ↓eCondF, ↓gIf_tt, ↓gIf_ff, ↓gIf_tf, ↓gIf_ft, ↓gIf_u, ↓gIfW_u, ↓gIfW_tt, ↓gIfW_ff, ↓gIfW_tf, ↓gIfW_ft, binI, divI, shiftI, add_mk, Nat.zero_add, cond_true, cond_false, decide_true, decide_false, Bool.not_true, Bool.not_false, Bool.and_true, Bool.true_and, Bool.and_false, Bool.false_and, Int.toNat_natCast, Nat.mul_one, ↓b.e2, c1, c2] at hk ⊢
      exact hk
  · simp only [↓eBinI, ↓eDiv, ↓eShift, ↓eBinS, ↓ePick, ↓eNot, ↓eNeg, ↓eConv, ↓eConvS, ↓eExt0, ↓eExt1, ↓eExt2, ↓eFA, ↓eIA, ↓eLenSl, ↓eCapSl, ↓eLenS, ↓eMin, ↓eMax, ↓eCondT, ↓eCondF, ↓gIf_tt, ↓gIf_ff, ↓gIf_tf, ↓gIf_ft, ↓gIf_u, ↓gIfW_u, ↓gIfW_tt, ↓gIfW_ff, ↓gIfW_tf, ↓gIfW_ft, binI, divI, shiftI, add_mk, Nat.zero_add, cond_true, cond_false, decide_true, decide_false, Bool.not_true, Bool.not_false, Bool.and_true, Bool.true_and, Bool.and_false, Bool.false_and, Int.toNat_natCast, Nat.mul_one, ↓b.c2, c1] at hk ⊢
    exact ⟨Fr.refl _ _, hk⟩
theorem ref21_Leaves_c (h : ∀ w', Ext w w' → K (.int .i64 (leavesF a d l)) w') : GCalls Try.prog 62 [geo a d l] K X w := by
  apply oublietteref21_Leaves.calls; unfold oublietteref21_Leaves.b
  refine boxC fun g w1 _ h1 b => ?_
  simp only [↓eBinI, ↓eDiv, ↓eShift, ↓eBinS, ↓ePick, ↓eNot, ↓eNeg, ↓eConv, ↓eConvS, ↓eExt0, ↓eExt1, ↓eExt2, ↓eFA, ↓eIA, ↓eLenSl, ↓eCapSl, ↓eLenS, ↓eMin, ↓eMax, ↓eCondT, ↓eCondF, ↓gIf_tt, ↓gIf_ff, ↓gIf_tf, ↓gIf_ft, ↓gIf_u, ↓gIfW_u, ↓gIfW_tt, ↓gIfW_ff, ↓gIfW_tf, ↓gIfW_ft, binI, divI, shiftI, add_mk, Nat.zero_add, cond_true, cond_false, decide_true, decide_false, Bool.not_true, Bool.not_false, Bool.and_true, Bool.true_and, Bool.and_false, Bool.false_and, Int.toNat_natCast, Nat.mul_one, ↓b.ld3]
  refine ref21_Right_c fun w2 h2 => ?_
  replace b := b.ext h2
  have h12 := h1.tr h2
  unfold leavesF at h
  cases hr : rightF a d l with
  | false =>
    simp only [↓eBinI, ↓eDiv, ↓eShift, ↓eBinS, ↓ePick, ↓eNot, ↓eNeg, ↓eConv, ↓eConvS, ↓eExt0, ↓eExt1, ↓eExt2, ↓eFA, ↓eIA, ↓eLenSl, ↓eCapSl, ↓eLenS, ↓eMin, ↓eMax, ↓eCondT, ↓eCondF, ↓gIf_tt, ↓gIf_ff, ↓gIf_tf, ↓gIf_ft, ↓gIf_u, ↓gIfW_u, ↓gIfW_tt, ↓gIfW_ff, ↓gIfW_tf, ↓gIfW_ft, binI, divI, shiftI, add_mk, Nat.zero_add, cond_true, cond_false, decide_true, decide_false, Bool.not_true, Bool.not_false, Bool.and_true, Bool.true_and, Bool.and_false, Bool.false_and, Int.toNat_natCast, Nat.mul_one, hr] at h ⊢
    exact h w2 h12
  | true =>
    simp only [↓eBinI, ↓eDiv, ↓eShift, ↓eBinS, ↓ePick, ↓eNot, ↓eNeg, ↓eConv, ↓eConvS, ↓eExt0, ↓eExt1, ↓eExt2, ↓eFA, ↓eIA, ↓eLenSl, ↓eCapSl, ↓eLenS, ↓eMin, ↓eMax, ↓eCondT, ↓eCondF, ↓gIf_tt, ↓gIf_ff, ↓gIf_tf, ↓gIf_ft, ↓gIf_u, ↓gIfW_u, ↓gIfW_tt, ↓gIfW_ff, ↓gIfW_tf, ↓gIfW_ft, binI, divI, shiftI, add_mk, Nat.zero_add, cond_true, cond_false, decide_true, decide_false, Bool.not_true, Bool.not_false, Bool.and_true, Bool.true_and, Bool.and_false, Bool.false_and, Int.toNat_natCast, Nat.mul_one, hr, ↓b.c1] at h ⊢
    have hb := right_bd hr
    refine oublietteref21_Leaves.loop1 (fun x3 x4 w' => ∃ i : Nat, i ≤ d.toNat ∧ x3 = .int .i64 (powF a i) ∧ x4 = .int .i64 i ∧ Ext w2 w') (fun _ x4 _ => d.toNat - (iv x4).toNat) ⟨0, Nat.zero_le _, rfl, rfl, Fr.refl _ _⟩ ?_
    rintro x3 x4 gg w3 ⟨i, hi, rfl, rfl, h3⟩
    replace b := b.ext h3
    unfold oublietteref21_Leaves.b1
    by_cases c : (i : Int) < d
    · have p1 := pow_bd hb.1 hb.2.1 (i := i) (by omega)
      have p2 := pow_bd hb.1 hb.2.1 (i := i + 1) (by omega)
      simp only [↓eBinI, ↓eDiv, ↓eShift, ↓eBinS, ↓ePick, ↓eNot, ↓eNeg, ↓eConv, ↓eConvS, ↓eExt0, ↓eExt1, ↓eExt2, ↓eFA, ↓eIA, ↓eLenSl, ↓eCapSl, ↓eLenS, ↓eMin, ↓eMax, ↓eCondT, ↓eCondF, ↓gIf_tt, ↓gIf_ff, ↓gIf_tf, ↓gIf_ft, ↓gIf_u, ↓gIfW_u, ↓gIfW_tt, ↓gIfW_ff, ↓gIfW_tf, ↓gIfW_ft, binI, divI, shiftI, add_mk, Nat.zero_add, cond_true, cond_false, decide_true, decide_false, Bool.not_true, Bool.not_false, Bool.and_true, Bool.true_and, Bool.and_false, Bool.false_and, Int.toNat_natCast, Nat.mul_one, c, ↓b.c0, ↓b.c1]
      refine oublietteref21_Leaves.leaf1 ⟨i + 1, by omega, ?_, ?_, h3⟩ ?_
      · rw [wrap64 (by simp only [powF] at p2; omega) (by simp only [powF] at p2; omega)]; rfl
      · rw [wrap64 (by omega) (by omega)]; simp
      · rw [wrap64 (by omega) (by omega)]; simp only [iv]; omega
    · simp only [↓eBinI, ↓eDiv, ↓eShift, ↓eBinS, ↓ePick, ↓eNot, ↓eNeg, ↓eConv, ↓eConvS, ↓eExt0, ↓eExt1, ↓eExt2, ↓eFA, ↓eIA, ↓eLenSl, ↓eCapSl, ↓eLenS, ↓eMin, ↓eMax, ↓eCondT, ↓eCondF, ↓gIf_tt, ↓gIf_ff, ↓gIf_tf, ↓gIf_ft, ↓gIf_u, ↓gIfW_u, ↓gIfW_tt, ↓gIfW_ff, ↓gIfW_tf, ↓gIfW_ft, binI, divI, shiftI, add_mk, Nat.zero_add, cond_true, cond_false, decide_true, decide_false, Bool.not_true, Bool.not_false, Bool.and_true, Bool.true_and, Bool.and_false, Bool.false_and, Int.toNat_natCast, Nat.mul_one, c, ↓b.c1]
      have : i = d.toNat := by omega
      subst this
      exact h w3 (h12.tr h3)
theorem ref21_Nodes_c (h : ∀ w', Ext w w' → K (.int .i64 (nodesF a d l)) w') : GCalls Try.prog 32 [geo a d l] K X w := by
  apply oublietteref21_Nodes.calls; unfold oublietteref21_Nodes.b
  refine boxC fun g w1 _ h1 b => ?_
  simp only [↓eBinI, ↓eDiv, ↓eShift, ↓eBinS, ↓ePick, ↓eNot, ↓eNeg, ↓eConv, ↓eConvS, ↓eExt0, ↓eExt1, ↓eExt2, ↓eFA, ↓eIA, ↓eLenSl, ↓eCapSl, ↓eLenS, ↓eMin, ↓eMax, ↓eCondT, ↓eCondF, ↓gIf_tt, ↓gIf_ff, ↓gIf_tf, ↓gIf_ft, ↓gIf_u, ↓gIfW_u, ↓gIfW_tt, ↓gIfW_ff, ↓gIfW_tf, ↓gIfW_ft, binI, divI, shiftI, add_mk, Nat.zero_add, cond_true, cond_false, decide_true, decide_false, Bool.not_true, Bool.not_false, Bool.and_true, Bool.true_and, Bool.and_false, Bool.false_and, Int.toNat_natCast, Nat.mul_one, ↓b.ld3]
  refine ref21_Right_c fun w2 h2 => ?_
  replace b := b.ext h2
  have h12 := h1.tr h2
  unfold nodesF at h
  cases hr : rightF a d l with
  | false =>
    simp only [↓eBinI, ↓eDiv, ↓eShift, ↓eBinS, ↓ePick, ↓eNot, ↓eNeg, ↓eConv, ↓eConvS, ↓eExt0, ↓eExt1, ↓eExt2, ↓eFA, ↓eIA, ↓eLenSl, ↓eCapSl, ↓eLenS, ↓eMin, ↓eMax, ↓eCondT, ↓eCondF, ↓gIf_tt, ↓gIf_ff, ↓gIf_tf, ↓gIf_ft, ↓gIf_u, ↓gIfW_u, ↓gIfW_tt, ↓gIfW_ff, ↓gIfW_tf, ↓gIfW_ft, binI, divI, shiftI, add_mk, Nat.zero_add, cond_true, cond_false, decide_true, decide_false, Bool.not_true, Bool.not_false, Bool.and_true, Bool.true_and, Bool.and_false, Bool.false_and, Int.toNat_natCast, Nat.mul_one, hr] at h ⊢
    exact h w2 h12
  | true =>
    simp only [↓eBinI, ↓eDiv, ↓eShift, ↓eBinS, ↓ePick, ↓eNot, ↓eNeg, ↓eConv, ↓eConvS, ↓eExt0, ↓eExt1, ↓eExt2, ↓eFA, ↓eIA, ↓eLenSl, ↓eCapSl, ↓eLenS, ↓eMin, ↓eMax, ↓eCondT, ↓eCondF, ↓gIf_tt, ↓gIf_ff, ↓gIf_tf, ↓gIf_ft, ↓gIf_u, ↓gIfW_u, ↓gIfW_tt, ↓gIfW_ff, ↓gIfW_tf, ↓gIfW_ft, binI, divI, shiftI, add_mk, Nat.zero_add, cond_true, cond_false, decide_true, decide_false, Bool.not_true, Bool.not_false, Bool.and_true, Bool.true_and, Bool.and_false, Bool.false_and, Int.toNat_natCast, Nat.mul_one, hr, ↓b.c1] at h ⊢
    have hb := right_bd hr
    refine oublietteref21_Nodes.loop1 (fun x3 x4 x5 w' => ∃ i : Nat, i ≤ d.toNat ∧ x4 = .int .i64 (nodF a i) ∧ x3 = .int .i64 (powF a i) ∧ x5 = .int .i64 i ∧ Ext w2 w') (fun _ _ x5 _ => d.toNat - (iv x5).toNat) ⟨0, Nat.zero_le _, rfl, rfl, rfl, Fr.refl _ _⟩ ?_
    rintro x3 x4 x5 gg w3 ⟨i, hi, rfl, rfl, rfl, h3⟩
    replace b := b.ext h3
    unfold oublietteref21_Nodes.b1
    by_cases c : (i : Int) < d
    · have p1 := pow_bd hb.1 hb.2.1 (i := i) (by omega)
      have p2 := pow_bd hb.1 hb.2.1 (i := i + 1) (by omega)
      simp only [↓eBinI, ↓eDiv, ↓eShift, ↓eBinS, ↓ePick, ↓eNot, ↓eNeg, ↓eConv, ↓eConvS, ↓eExt0, ↓eExt1, ↓eExt2, ↓eFA, ↓eIA, ↓eLenSl, ↓eCapSl, ↓eLenS, ↓eMin, ↓eMax, ↓eCondT, ↓eCondF, ↓gIf_tt, ↓gIf_ff, ↓gIf_tf, ↓gIf_ft, ↓gIf_u, ↓gIfW_u, ↓gIfW_tt, ↓gIfW_ff, ↓gIfW_tf, ↓gIfW_ft, binI, divI, shiftI, add_mk, Nat.zero_add, cond_true, cond_false, decide_true, decide_false, Bool.not_true, Bool.not_false, Bool.and_true, Bool.true_and, Bool.and_false, Bool.false_and, Int.toNat_natCast, Nat.mul_one, c, ↓b.c0, ↓b.c1]
      refine oublietteref21_Nodes.leaf1 ⟨i + 1, by omega, ?_, ?_, ?_, h3⟩ ?_
      · rw [wrap64 (by omega) (by omega)]; rfl
      · rw [wrap64 (by simp only [powF] at p2; omega) (by simp only [powF] at p2; omega)]; rfl
      · rw [wrap64 (by omega) (by omega)]; simp
      · rw [wrap64 (by omega) (by omega)]; simp only [iv]; omega
    · simp only [↓eBinI, ↓eDiv, ↓eShift, ↓eBinS, ↓ePick, ↓eNot, ↓eNeg, ↓eConv, ↓eConvS, ↓eExt0, ↓eExt1, ↓eExt2, ↓eFA, ↓eIA, ↓eLenSl, ↓eCapSl, ↓eLenS, ↓eMin, ↓eMax, ↓eCondT, ↓eCondF, ↓gIf_tt, ↓gIf_ff, ↓gIf_tf, ↓gIf_ft, ↓gIf_u, ↓gIfW_u, ↓gIfW_tt, ↓gIfW_ff, ↓gIfW_tf, ↓gIfW_ft, binI, divI, shiftI, add_mk, Nat.zero_add, cond_true, cond_false, decide_true, decide_false, Bool.not_true, Bool.not_false, Bool.and_true, Bool.true_and, Bool.and_false, Bool.false_and, Int.toNat_natCast, Nat.mul_one, c, ↓b.c1]
      have : i = d.toNat := by omega
      subst this
      exact h w3 (h12.tr h3)
theorem ref21_Pages_c (h : ∀ w', Ext w w' → K (.int .i64 (pagesF a d l)) w') : GCalls Try.prog 31 [geo a d l] K X w := by
  apply oublietteref21_Pages.calls; unfold oublietteref21_Pages.b
  refine boxC fun g w1 _ h1 b => draw_ fun w1' h1' => ?_
  replace b := b.ext h1'
  simp only [↓eBinI, ↓eDiv, ↓eShift, ↓eBinS, ↓ePick, ↓eNot, ↓eNeg, ↓eConv, ↓eConvS, ↓eExt0, ↓eExt1, ↓eExt2, ↓eFA, ↓eIA, ↓eLenSl, ↓eCapSl, ↓eLenS, ↓eMin, ↓eMax, ↓eCondT, ↓eCondF, ↓gIf_tt, ↓gIf_ff, ↓gIf_tf, ↓gIf_ft, ↓gIf_u, ↓gIfW_u, ↓gIfW_tt, ↓gIfW_ff, ↓gIfW_tf, ↓gIfW_ft, binI, divI, shiftI, add_mk, Nat.zero_add, cond_true, cond_false, decide_true, decide_false, Bool.not_true, Bool.not_false, Bool.and_true, Bool.true_and, Bool.and_false, Bool.false_and, Int.toNat_natCast, Nat.mul_one, ↓b.le3]
  refine ref21_Nodes_c fun w2 h2 => ⟨h2, ?_⟩
  refine ref21_Leaves_c fun w3 h3 => ⟨h2.tr h3, ?_⟩
  have b1 := @nodesF_bd a d l; have b2 := @leavesF_bd a d l
  simp only [↓eBinI, ↓eDiv, ↓eShift, ↓eBinS, ↓ePick, ↓eNot, ↓eNeg, ↓eConv, ↓eConvS, ↓eExt0, ↓eExt1, ↓eExt2, ↓eFA, ↓eIA, ↓eLenSl, ↓eCapSl, ↓eLenS, ↓eMin, ↓eMax, ↓eCondT, ↓eCondF, ↓gIf_tt, ↓gIf_ff, ↓gIf_tf, ↓gIf_ft, ↓gIf_u, ↓gIfW_u, ↓gIfW_tt, ↓gIfW_ff, ↓gIfW_tf, ↓gIfW_ft, binI, divI, shiftI, add_mk, Nat.zero_add, cond_true, cond_false, decide_true, decide_false, Bool.not_true, Bool.not_false, Bool.and_true, Bool.true_and, Bool.and_false, Bool.false_and, Int.toNat_natCast, Nat.mul_one]
  rw [wrap64 (by omega) (by omega)]
  exact h w3 (((h1.tr h1').tr h2).tr h3)
/-- At what level a page stands. -/
def lvF (a p : Int) : Nat := if p < nodF a 1 then 0 else if p < nodF a 2 then 1 else if p < nodF a 3 then 2 else 3
theorem three (h1 : 2 ≤ a) (h2 : a ≤ 4) : a = 2 ∨ a = 3 ∨ a = 4 := by omega
theorem lvF_eq {p : Int} {i : Nat} (h1 : 2 ≤ a) (h2 : a ≤ 4) (hi : i ≤ 3) (hl : nodF a i ≤ p) (hu : p < nodF a (i + 1)) : lvF a p = i := by
  have hi' : i = 0 ∨ i = 1 ∨ i = 2 ∨ i = 3 := by omega
  rcases three h1 h2 with rfl | rfl | rfl <;> rcases hi' with rfl | rfl | rfl | rfl <;> simp [nodF, powF] at hl hu <;> unfold lvF <;> simp [nodF, powF] <;> split <;> (try omega) <;> split <;> (try omega) <;> split <;> omega
theorem pages_eq (h : rightF a d l = true) : pagesF a d l = nodF a (d.toNat + 1) := by
  unfold pagesF nodesF leavesF; simp [h, nodF]
theorem ref27_Place_c {p : Int} (h0 : thereF a d l p = false → ∀ w', Ext w w' → K (.tuple #[.int .i64 0, .int .i64 0, .bool false]) w')
    (h : thereF a d l p = true → lvF a p ≤ d.toNat → ∀ w', Ext w w' → K (.tuple #[.int .i64 (lvF a p), .int .i64 (p - nodF a (lvF a p)), .bool true]) w') : GCalls Try.prog 57 [geo a d l, .int .i64 p] K X w := by
  apply oublietteref27_Place.calls; unfold oublietteref27_Place.b
  refine boxC fun g w1 _ h1 b => ?_
  by_cases c1 : p < 0
  · simp only [↓eBinI, ↓eDiv, ↓eShift, ↓eBinS, ↓ePick, ↓eNot, ↓eNeg, ↓eConv, ↓eConvS, ↓eExt0, ↓eExt1, ↓eExt2, ↓eFA, ↓eIA, ↓eLenSl, ↓eCapSl, ↓eLenS, ↓eMin, ↓eMax, ↓eCondT, ↓eCondF, ↓gIf_tt, ↓gIf_ff, ↓gIf_tf, ↓gIf_ft, ↓gIf_u, ↓gIfW_u, ↓gIfW_tt, ↓gIfW_ff, ↓gIfW_tf, ↓gIfW_ft, binI, divI, shiftI, add_mk, Nat.zero_add, cond_true, cond_false, decide_true, decide_false, Bool.not_true, Bool.not_false, Bool.and_true, Bool.true_and, Bool.and_false, Bool.false_and, Int.toNat_natCast, Nat.mul_one, ↓b.ld3, c1]
    exact h0 (by unfold thereF; simp; omega) w1 h1
  simp only [↓eBinI, ↓eDiv, ↓eShift, ↓eBinS, ↓ePick, ↓eNot, ↓eNeg, ↓eConv, ↓eConvS, ↓eExt0, ↓eExt1, ↓eExt2, ↓eFA, ↓eIA, ↓eLenSl, ↓eCapSl, ↓eLenS, ↓eMin, ↓eMax, ↓eCondT, ↓eCondF, ↓gIf_tt, ↓gIf_ff, ↓gIf_tf, ↓gIf_ft, ↓gIf_u, ↓gIfW_u, ↓gIfW_tt, ↓gIfW_ff, ↓gIfW_tf, ↓gIfW_ft, binI, divI, shiftI, add_mk, Nat.zero_add, cond_true, cond_false, decide_true, decide_false, Bool.not_true, Bool.not_false, Bool.and_true, Bool.true_and, Bool.and_false, Bool.false_and, Int.toNat_natCast, Nat.mul_one, ↓b.ld3, c1]
  refine ref21_Pages_c fun w2 h2 => ?_
  replace b := b.ext h2
  have h12 := h1.tr h2
  by_cases c2 : p ≥ pagesF a d l
  · simp only [↓eBinI, ↓eDiv, ↓eShift, ↓eBinS, ↓ePick, ↓eNot, ↓eNeg, ↓eConv, ↓eConvS, ↓eExt0, ↓eExt1, ↓eExt2, ↓eFA, ↓eIA, ↓eLenSl, ↓eCapSl, ↓eLenS, ↓eMin, ↓eMax, ↓eCondT, ↓eCondF, ↓gIf_tt, ↓gIf_ff, ↓gIf_tf, ↓gIf_ft, ↓gIf_u, ↓gIfW_u, ↓gIfW_tt, ↓gIfW_ff, ↓gIfW_tf, ↓gIfW_ft, binI, divI, shiftI, add_mk, Nat.zero_add, cond_true, cond_false, decide_true, decide_false, Bool.not_true, Bool.not_false, Bool.and_true, Bool.true_and, Bool.and_false, Bool.false_and, Int.toNat_natCast, Nat.mul_one, ↓b.ld3, c2]
    exact h0 (by unfold thereF; simp; omega) w2 h12
  have ht : thereF a d l p = true := by unfold thereF; simp; omega
  have hb := there_bd ht
  have hpg := pages_eq hb.2.2.2.1
  simp only [↓eBinI, ↓eDiv, ↓eShift, ↓eBinS, ↓ePick, ↓eNot, ↓eNeg, ↓eConv, ↓eConvS, ↓eExt0, ↓eExt1, ↓eExt2, ↓eFA, ↓eIA, ↓eLenSl, ↓eCapSl, ↓eLenS, ↓eMin, ↓eMax, ↓eCondT, ↓eCondF, ↓gIf_tt, ↓gIf_ff, ↓gIf_tf, ↓gIf_ft, ↓gIf_u, ↓gIfW_u, ↓gIfW_tt, ↓gIfW_ff, ↓gIfW_tf, ↓gIfW_ft, binI, divI, shiftI, add_mk, Nat.zero_add, cond_true, cond_false, decide_true, decide_false, Bool.not_true, Bool.not_false, Bool.and_true, Bool.true_and, Bool.and_false, Bool.false_and, Int.toNat_natCast, Nat.mul_one, ↓b.ld3, c2]
  refine oublietteref27_Place.loop1 (fun x1 x7 x8 w' => ∃ i : Nat, i ≤ d.toNat ∧ nodF a i ≤ p ∧ x1 = .int .i64 (p - nodF a i) ∧ x7 = .int .i64 i ∧ x8 = .int .i64 (powF a i) ∧ Ext w2 w') (fun _ x7 _ _ => d.toNat - (iv x7).toNat) ⟨0, Nat.zero_le _, ?_, ?_, rfl, rfl, Fr.refl _ _⟩ ?_
  · simp only [nodF]; omega
  · simp only [nodF]; simp
  rintro x1 x7 x8 gg w3 ⟨i, hi, hle, rfl, rfl, rfl, h3⟩
  replace b := b.ext h3
  have p1 := pow_bd (a := a) (by omega) (by omega) (i := i) (by omega)
  unfold oublietteref27_Place.b1
  by_cases c : p - nodF a i ≥ powF a i
  · have hlt : i < d.toNat := by
      rcases Nat.lt_or_ge i d.toNat with h | h
      · exact h
      · have : i = d.toNat := by omega
        subst this
        rw [hpg] at c2; simp only [nodF] at c2; omega
    have p2 := pow_bd (a := a) (by omega) (by omega) (i := i + 1) (by omega)
    simp only [↓eBinI, ↓eDiv, ↓eShift, ↓eBinS, ↓ePick, ↓eNot, ↓eNeg, ↓eConv, ↓eConvS, ↓eExt0, ↓eExt1, ↓eExt2, ↓eFA, ↓eIA, ↓eLenSl, ↓eCapSl, ↓eLenS, ↓eMin, ↓eMax, ↓eCondT, ↓eCondF, ↓gIf_tt, ↓gIf_ff, ↓gIf_tf, ↓gIf_ft, ↓gIf_u, ↓gIfW_u, ↓gIfW_tt, ↓gIfW_ff, ↓gIfW_tf, ↓gIfW_ft, binI, divI, shiftI, add_mk, Nat.zero_add, cond_true, cond_false, decide_true, decide_false, Bool.not_true, Bool.not_false, Bool.and_true, Bool.true_and, Bool.and_false, Bool.false_and, Int.toNat_natCast, Nat.mul_one, c, ↓b.c0]
    refine oublietteref27_Place.leaf1 ⟨i + 1, by omega, ?_, ?_, ?_, ?_, h3⟩ ?_
    · simp only [nodF]; omega
    · rw [wrap64 (by omega) (by omega)]; simp only [nodF]; congr 1; omega
    · rw [wrap64 (by omega) (by omega)]; simp
    · rw [wrap64 (by simp only [powF] at p2; omega) (by simp only [powF] at p2; omega)]; rfl
    · rw [wrap64 (by omega) (by omega)]; simp only [iv]; omega
  · simp only [↓eBinI, ↓eDiv, ↓eShift, ↓eBinS, ↓ePick, ↓eNot, ↓eNeg, ↓eConv, ↓eConvS, ↓eExt0, ↓eExt1, ↓eExt2, ↓eFA, ↓eIA, ↓eLenSl, ↓eCapSl, ↓eLenS, ↓eMin, ↓eMax, ↓eCondT, ↓eCondF, ↓gIf_tt, ↓gIf_ff, ↓gIf_tf, ↓gIf_ft, ↓gIf_u, ↓gIfW_u, ↓gIfW_tt, ↓gIfW_ff, ↓gIfW_tf, ↓gIfW_ft, binI, divI, shiftI, add_mk, Nat.zero_add, cond_true, cond_false, decide_true, decide_false, Bool.not_true, Bool.not_false, Bool.and_true, Bool.true_and, Bool.and_false, Bool.false_and, Int.toNat_natCast, Nat.mul_one, c]
    have e := lvF_eq (a := a) (p := p) (i := i) (by omega) (by omega) (by omega) hle (by simp only [nodF]; omega)
    have := h ht (by omega) w3 (h12.tr h3)
    rw [e] at this
    exact this
theorem ref27_At_c {i : Nat} {p : Int} (h1 : 2 ≤ a) (h2 : a ≤ 4) (hi : i ≤ 3) (hp : 0 ≤ p) (hp' : p ≤ 1000) (h : ∀ w', Ext w w' → K (.int .i64 (nodF a i + p)) w') : GCalls Try.prog 58 [geo a d l, .int .i64 i, .int .i64 p] K X w := by
  apply oublietteref27_At.calls; unfold oublietteref27_At.b
  refine boxC fun g w1 _ e1 b => ?_
  refine oublietteref27_At.loop1 (fun x7 x8 x9 w' => ∃ j : Nat, j ≤ i ∧ x7 = .int .i64 (nodF a j) ∧ x8 = .int .i64 (powF a j) ∧ x9 = .int .i64 j ∧ Ext w1 w') (fun _ _ x9 _ => i - (iv x9).toNat) ⟨0, Nat.zero_le _, rfl, rfl, rfl, Fr.refl _ _⟩ ?_
  rintro x7 x8 x9 gg w3 ⟨j, hj, rfl, rfl, rfl, h3⟩
  replace b := b.ext h3
  have p1 := pow_bd h1 h2 (i := j) (by omega)
  unfold oublietteref27_At.b1
  by_cases c : (j : Int) < i
  · have p2 := pow_bd h1 h2 (i := j + 1) (by omega)
    simp only [↓eBinI, ↓eDiv, ↓eShift, ↓eBinS, ↓ePick, ↓eNot, ↓eNeg, ↓eConv, ↓eConvS, ↓eExt0, ↓eExt1, ↓eExt2, ↓eFA, ↓eIA, ↓eLenSl, ↓eCapSl, ↓eLenS, ↓eMin, ↓eMax, ↓eCondT, ↓eCondF, ↓gIf_tt, ↓gIf_ff, ↓gIf_tf, ↓gIf_ft, ↓gIf_u, ↓gIfW_u, ↓gIfW_tt, ↓gIfW_ff, ↓gIfW_tf, ↓gIfW_ft, binI, divI, shiftI, add_mk, Nat.zero_add, cond_true, cond_false, decide_true, decide_false, Bool.not_true, Bool.not_false, Bool.and_true, Bool.true_and, Bool.and_false, Bool.false_and, Int.toNat_natCast, Nat.mul_one, c, ↓b.c0]
    refine oublietteref27_At.leaf1 ⟨j + 1, by omega, ?_, ?_, ?_, h3⟩ ?_
    · rw [wrap64 (by omega) (by omega)]; rfl
    · rw [wrap64 (by simp only [powF] at p2; omega) (by simp only [powF] at p2; omega)]; rfl
    · rw [wrap64 (by omega) (by omega)]; simp
    · rw [wrap64 (by omega) (by omega)]; simp only [iv]; omega
  · have : j = i := by omega
    subst this
    simp only [↓eBinI, ↓eDiv, ↓eShift, ↓eBinS, ↓ePick, ↓eNot, ↓eNeg, ↓eConv, ↓eConvS, ↓eExt0, ↓eExt1, ↓eExt2, ↓eFA, ↓eIA, ↓eLenSl, ↓eCapSl, ↓eLenS, ↓eMin, ↓eMax, ↓eCondT, ↓eCondF, ↓gIf_tt, ↓gIf_ff, ↓gIf_tf, ↓gIf_ft, ↓gIf_u, ↓gIfW_u, ↓gIfW_tt, ↓gIfW_ff, ↓gIfW_tf, ↓gIfW_ft, binI, divI, shiftI, add_mk, Nat.zero_add, cond_true, cond_false, decide_true, decide_false, Bool.not_true, Bool.not_false, Bool.and_true, Bool.true_and, Bool.and_false, Bool.false_and, Int.toNat_natCast, Nat.mul_one, c]
    rw [wrap64 (by omega) (by omega)]
    exact h w3 (e1.tr h3)
end Go.Proofs.Ytlolomdgchkibaa
