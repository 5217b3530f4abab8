/-
  The document's answers for one page are the program's.
-/
import Derived.Test.YtlolomdgchkibaaKb
set_option linter.unusedSimpArgs false
set_option linter.unusedVariables false
namespace Go.Proofs.Ytlolomdgchkibaa
open Go Go.G
variable {X : KX} {w : World} {K : KV} {a d l : Int}
theorem nod_succ : ∀ i, nodF a (i + 1) = a * nodF a i + 1
  | 0 => by simp [nodF, powF]
  | i + 1 => by
    have h := nod_succ i
    have e : nodF a (i + 1 + 1) = nodF a (i + 1) + powF a (i + 1) := rfl
    have e2 : nodF a (i + 1) = nodF a i + powF a i := rfl
    have e3 : powF a (i + 1) = powF a i * a := rfl
    rw [e, e3]
    conv => rhs; rw [e2, Int.mul_add]
    rw [h, Int.mul_comm (powF a i) a]; omega
theorem nod_mono (h1 : 2 ≤ a) (h2 : a ≤ 4) {i j : Nat} (hij : i ≤ j) (hj : j ≤ 4) : nodF a i ≤ nodF a j := by
  have hj' : j = 0 ∨ j = 1 ∨ j = 2 ∨ j = 3 ∨ j = 4 := by omega
  have hi' : i = 0 ∨ i = 1 ∨ i = 2 ∨ i = 3 ∨ i = 4 := by omega
  rcases three h1 h2 with rfl | rfl | rfl <;> rcases hj' with rfl | rfl | rfl | rfl | rfl <;> rcases hi' with rfl | rfl | rfl | rfl | rfl <;> first | omega | decide
theorem lv_spec {p : Int} (h : thereF a d l p = true) : nodF a (lvF a p) ≤ p ∧ p < nodF a (lvF a p + 1) ∧ lvF a p ≤ 3 := by
  have hb := there_bd h
  have hpg := pages_eq hb.2.2.2.1
  have hm := nod_mono (a := a) (by omega) (by omega) (i := d.toNat + 1) (j := 4) (by omega) (by omega)
  by_cases c1 : p < nodF a 1
  · have e : lvF a p = 0 := by unfold lvF; rw [if_pos c1]
    rw [e]; exact ⟨hb.1, c1, by omega⟩
  by_cases c2 : p < nodF a 2
  · have e : lvF a p = 1 := by unfold lvF; rw [if_neg c1, if_pos c2]
    rw [e]; exact ⟨by omega, c2, by omega⟩
  by_cases c3 : p < nodF a 3
  · have e : lvF a p = 2 := by unfold lvF; rw [if_neg c1, if_neg c2, if_pos c3]
    rw [e]; exact ⟨by omega, c3, by omega⟩
  have e : lvF a p = 3 := by unfold lvF; rw [if_neg c1, if_neg c2, if_neg c3]
  rw [e]; exact ⟨by omega, (by omega : p < nodF a 4), by omega⟩
theorem nodes_eq (h : rightF a d l = true) : nodesF a d l = nodF a d.toNat := by unfold nodesF; simp [h]
theorem lv_nodes {p : Int} (h : thereF a d l p = true) (hl : lvF a p ≤ d.toNat) : p < nodesF a d l ↔ lvF a p ≠ d.toNat := by
  have hb := there_bd h
  have hs := lv_spec h
  rw [nodes_eq hb.2.2.2.1]
  constructor
  · intro h1 e; rw [e] at hs; omega
  · intro hne
    have := nod_mono (a := a) (by omega) (by omega) (i := lvF a p + 1) (j := d.toNat) (by omega) (by omega)
    omega
theorem ref27_Level_c {p : Int} (h : ∀ w', Ext w w' → K (.int .i64 (if thereF a d l p then (lvF a p : Int) else -1)) w') : GCalls Try.prog 25 [geo a d l, .int .i64 p] K X w := by
  apply oublietteref27_Level.calls; unfold oublietteref27_Level.b
  refine boxC fun g w1 _ h1 b => ?_
  simp only [↓eBinI, ↓eDiv, ↓eShift, ↓eBinS, ↓ePick, ↓eNot, ↓eNeg, ↓eConv, ↓eConvS, ↓eExt0, ↓eExt1, ↓eExt2, ↓eFA, ↓eIA, ↓eLenSl, ↓eCapSl, ↓eLenS, ↓eMin, ↓eMax, ↓eCondT, ↓eCondF, ↓gIf_tt, ↓gIf_ff, ↓gIf_tf, ↓gIf_ft, ↓gIf_u, ↓gIfW_u, ↓gIfW_tt, ↓gIfW_ff, ↓gIfW_tf, ↓gIfW_ft, binI, divI, shiftI, add_mk, Nat.zero_add, cond_true, cond_false, decide_true, decide_false, Bool.not_true, Bool.not_false, Bool.and_true, Bool.true_and, Bool.and_false, Bool.false_and, Int.toNat_natCast, Nat.mul_one, ↓b.ld3]
  refine ref27_Place_c (fun ht w2 h2 => ?_) (fun ht hl w2 h2 => ?_)
  · have := h w2 (h1.tr h2)
    simp only [↓eBinI, ↓eDiv, ↓eShift, ↓eBinS, ↓ePick, ↓eNot, ↓eNeg, ↓eConv, ↓eConvS, ↓eExt0, ↓eExt1, ↓eExt2, ↓eFA, ↓eIA, ↓eLenSl, ↓eCapSl, ↓eLenS, ↓eMin, ↓eMax, ↓eCondT, ↓eCondF, ↓gIf_tt, ↓gIf_ff, ↓gIf_tf, ↓gIf_ft, ↓gIf_u, ↓gIfW_u, ↓gIfW_tt, ↓gIfW_ff, ↓gIfW_tf, ↓gIfW_ft, binI, divI, shiftI, add_mk, Nat.zero_add, cond_true, cond_false, decide_true, decide_false, Bool.not_true, Bool.not_false, Bool.and_true, Bool.true_and, Bool.and_false, Bool.false_and, Int.toNat_natCast, Nat.mul_one, ht] at this ⊢; exact this
  · have := h w2 (h1.tr h2)
    simp only [↓eBinI, ↓eDiv, ↓eShift, ↓eBinS, ↓ePick, ↓eNot, ↓eNeg, ↓eConv, ↓eConvS, ↓eExt0, ↓eExt1, ↓eExt2, ↓eFA, ↓eIA, ↓eLenSl, ↓eCapSl, ↓eLenS, ↓eMin, ↓eMax, ↓eCondT, ↓eCondF, ↓gIf_tt, ↓gIf_ff, ↓gIf_tf, ↓gIf_ft, ↓gIf_u, ↓gIfW_u, ↓gIfW_tt, ↓gIfW_ff, ↓gIfW_tf, ↓gIfW_ft, binI, divI, shiftI, add_mk, Nat.zero_add, cond_true, cond_false, decide_true, decide_false, Bool.not_true, Bool.not_false, Bool.and_true, Bool.true_and, Bool.and_false, Bool.false_and, Int.toNat_natCast, Nat.mul_one, ht, if_true] at this ⊢; exact this
theorem ref27_Which_c {p : Int} (h : ∀ w', Ext w w' → K (.int .i64 (whichF a d l p)) w') : GCalls Try.prog 23 [geo a d l, .int .i64 p] K X w := by
  apply oublietteref27_Which.calls; unfold oublietteref27_Which.b
  refine boxC fun g w1 _ h1 b => ?_
  simp only [↓eBinI, ↓eDiv, ↓eShift, ↓eBinS, ↓ePick, ↓eNot, ↓eNeg, ↓eConv, ↓eConvS, ↓eExt0, ↓eExt1, ↓eExt2, ↓eFA, ↓eIA, ↓eLenSl, ↓eCapSl, ↓eLenS, ↓eMin, ↓eMax, ↓eCondT, ↓eCondF, ↓gIf_tt, ↓gIf_ff, ↓gIf_tf, ↓gIf_ft, ↓gIf_u, ↓gIfW_u, ↓gIfW_tt, ↓gIfW_ff, ↓gIfW_tf, ↓gIfW_ft, binI, divI, shiftI, add_mk, Nat.zero_add, cond_true, cond_false, decide_true, decide_false, Bool.not_true, Bool.not_false, Bool.and_true, Bool.true_and, Bool.and_false, Bool.false_and, Int.toNat_natCast, Nat.mul_one, ↓b.ld3]
  unfold whichF at h
  refine ref27_Place_c (fun ht w2 h2 => ?_) (fun ht hl w2 h2 => ?_)
  · have := h w2 (h1.tr h2)
    simp only [↓eBinI, ↓eDiv, ↓eShift, ↓eBinS, ↓ePick, ↓eNot, ↓eNeg, ↓eConv, ↓eConvS, ↓eExt0, ↓eExt1, ↓eExt2, ↓eFA, ↓eIA, ↓eLenSl, ↓eCapSl, ↓eLenS, ↓eMin, ↓eMax, ↓eCondT, ↓eCondF, ↓gIf_tt, ↓gIf_ff, ↓gIf_tf, ↓gIf_ft, ↓gIf_u, ↓gIfW_u, ↓gIfW_tt, ↓gIfW_ff, ↓gIfW_tf, ↓gIfW_ft, binI, divI, shiftI, add_mk, Nat.zero_add, cond_true, cond_false, decide_true, decide_false, Bool.not_true, Bool.not_false, Bool.and_true, Bool.true_and, Bool.and_false, Bool.false_and, Int.toNat_natCast, Nat.mul_one, ht, true_or, if_true] at this ⊢; exact this
  · have hk := h w2 (h1.tr h2)
    have hb := there_bd ht
    have hs := lv_spec ht
    replace b := b.ext h2
    by_cases c : p = 0
    · subst c
      have e : lvF a 0 = 0 := lvF_eq (by omega) (by omega) (by omega) (by simp [nodF]) (by simp [nodF, powF])
      simp only [↓eBinI, ↓eDiv, ↓eShift, ↓eBinS, ↓ePick, ↓eNot, ↓eNeg, ↓eConv, ↓eConvS, ↓eExt0, ↓eExt1, ↓eExt2, ↓eFA, ↓eIA, ↓eLenSl, ↓eCapSl, ↓eLenS, ↓eMin, ↓eMax, ↓eCondT, ↓eCondF, ↓gIf_tt, ↓gIf_ff, ↓gIf_tf, ↓gIf_ft, ↓gIf_u, ↓gIfW_u, ↓gIfW_tt, ↓gIfW_ff, ↓gIfW_tf, ↓gIfW_ft, binI, divI, shiftI, add_mk, Nat.zero_add, cond_true, cond_false, decide_true, decide_false, Bool.not_true, Bool.not_false, Bool.and_true, Bool.true_and, Bool.and_false, Bool.false_and, Int.toNat_natCast, Nat.mul_one, ht, e, or_true, if_true, beq_self_eq_true, Int.natCast_zero, Int.ofNat_zero] at hk ⊢; exact hk
    · have hne : lvF a p ≠ 0 := fun e => by rw [e] at hs; simp [nodF, powF] at hs; omega
      have e : (((lvF a p : Nat) : Int) == 0) = false := by simpa using hne
      simp only [↓eBinI, ↓eDiv, ↓eShift, ↓eBinS, ↓ePick, ↓eNot, ↓eNeg, ↓eConv, ↓eConvS, ↓eExt0, ↓eExt1, ↓eExt2, ↓eFA, ↓eIA, ↓eLenSl, ↓eCapSl, ↓eLenS, ↓eMin, ↓eMax, ↓eCondT, ↓eCondF, ↓gIf_tt, ↓gIf_ff, ↓gIf_tf, ↓gIf_ft, ↓gIf_u, ↓gIfW_u, ↓gIfW_tt, ↓gIfW_ff, ↓gIfW_tf, ↓gIfW_ft, binI, divI, shiftI, add_mk, Nat.zero_add, cond_true, cond_false, decide_true, decide_false, Bool.not_true, Bool.not_false, Bool.and_true, Bool.true_and, Bool.and_false, Bool.false_and, Int.toNat_natCast, Nat.mul_one, ↓b.c0, ht, e, c, or_false, Bool.true_eq_false, if_false] at hk ⊢
      refine ⟨by omega, ?_⟩
      obtain ⟨i, hi⟩ : ∃ i, lvF a p = i + 1 := ⟨lvF a p - 1, by omega⟩
      rw [hi, nod_succ] at hs ⊢
      have e2 : (p - (a * nodF a i + 1)).tmod a = (p - 1).tmod a := by
        rw [Int.tmod_eq_emod_of_nonneg (by omega), Int.tmod_eq_emod_of_nonneg (by omega), show p - (a * nodF a i + 1) = p - 1 - a * nodF a i by omega, Int.sub_mul_emod_self_left]
      rw [e2]; exact hk
theorem ref27_Slot_c {p : Int} (h : ∀ w', Ext w w' → K (.int .i64 (slotF a d l p)) w') : GCalls Try.prog 29 [geo a d l, .int .i64 p] K X w := by
  apply oublietteref27_Slot.calls; unfold oublietteref27_Slot.b
  refine boxC fun g w1 _ h1 b => ?_
  simp only [↓eBinI, ↓eDiv, ↓eShift, ↓eBinS, ↓ePick, ↓eNot, ↓eNeg, ↓eConv, ↓eConvS, ↓eExt0, ↓eExt1, ↓eExt2, ↓eFA, ↓eIA, ↓eLenSl, ↓eCapSl, ↓eLenS, ↓eMin, ↓eMax, ↓eCondT, ↓eCondF, ↓gIf_tt, ↓gIf_ff, ↓gIf_tf, ↓gIf_ft, ↓gIf_u, ↓gIfW_u, ↓gIfW_tt, ↓gIfW_ff, ↓gIfW_tf, ↓gIfW_ft, binI, divI, shiftI, add_mk, Nat.zero_add, cond_true, cond_false, decide_true, decide_false, Bool.not_true, Bool.not_false, Bool.and_true, Bool.true_and, Bool.and_false, Bool.false_and, Int.toNat_natCast, Nat.mul_one, ↓b.ld3]
  unfold slotF at h
  refine ref27_Place_c (fun ht w2 h2 => ?_) (fun ht hl w2 h2 => ?_)
  · have := h w2 (h1.tr h2)
    simp only [↓eBinI, ↓eDiv, ↓eShift, ↓eBinS, ↓ePick, ↓eNot, ↓eNeg, ↓eConv, ↓eConvS, ↓eExt0, ↓eExt1, ↓eExt2, ↓eFA, ↓eIA, ↓eLenSl, ↓eCapSl, ↓eLenS, ↓eMin, ↓eMax, ↓eCondT, ↓eCondF, ↓gIf_tt, ↓gIf_ff, ↓gIf_tf, ↓gIf_ft, ↓gIf_u, ↓gIfW_u, ↓gIfW_tt, ↓gIfW_ff, ↓gIfW_tf, ↓gIfW_ft, binI, divI, shiftI, add_mk, Nat.zero_add, cond_true, cond_false, decide_true, decide_false, Bool.not_true, Bool.not_false, Bool.and_true, Bool.true_and, Bool.and_false, Bool.false_and, Int.toNat_natCast, Nat.mul_one, ht, true_or, if_true] at this ⊢; exact this
  · have hk := h w2 (h1.tr h2)
    have hb := there_bd ht
    have hn := lv_nodes ht hl
    replace b := b.ext h2
    by_cases c : lvF a p = d.toNat
    · have e : (((lvF a p : Nat) : Int) != d) = false := by simp; omega
      simp only [↓eBinI, ↓eDiv, ↓eShift, ↓eBinS, ↓ePick, ↓eNot, ↓eNeg, ↓eConv, ↓eConvS, ↓eExt0, ↓eExt1, ↓eExt2, ↓eFA, ↓eIA, ↓eLenSl, ↓eCapSl, ↓eLenS, ↓eMin, ↓eMax, ↓eCondT, ↓eCondF, ↓gIf_tt, ↓gIf_ff, ↓gIf_tf, ↓gIf_ft, ↓gIf_u, ↓gIfW_u, ↓gIfW_tt, ↓gIfW_ff, ↓gIfW_tf, ↓gIfW_ft, binI, divI, shiftI, add_mk, Nat.zero_add, cond_true, cond_false, decide_true, decide_false, Bool.not_true, Bool.not_false, Bool.and_true, Bool.true_and, Bool.and_false, Bool.false_and, Int.toNat_natCast, Nat.mul_one, ↓b.c1, ht, e, (show ¬ p < nodesF a d l by rw [hn]; omega), or_false, Bool.true_eq_false, if_false] at hk ⊢
      rw [nodes_eq hb.2.2.2.1, ← c] at hk; exact hk
    · have e : (((lvF a p : Nat) : Int) != d) = true := by simp; omega
      simp only [↓eBinI, ↓eDiv, ↓eShift, ↓eBinS, ↓ePick, ↓eNot, ↓eNeg, ↓eConv, ↓eConvS, ↓eExt0, ↓eExt1, ↓eExt2, ↓eFA, ↓eIA, ↓eLenSl, ↓eCapSl, ↓eLenS, ↓eMin, ↓eMax, ↓eCondT, ↓eCondF, ↓gIf_tt, ↓gIf_ff, ↓gIf_tf, ↓gIf_ft, ↓gIf_u, ↓gIfW_u, ↓gIfW_tt, ↓gIfW_ff, ↓gIfW_tf, ↓gIfW_ft, binI, divI, shiftI, add_mk, Nat.zero_add, cond_true, cond_false, decide_true, decide_false, Bool.not_true, Bool.not_false, Bool.and_true, Bool.true_and, Bool.and_false, Bool.false_and, Int.toNat_natCast, Nat.mul_one, ↓b.c1, ht, e, (show p < nodesF a d l by rw [hn]; omega), or_true, if_true] at hk ⊢
      exact hk
theorem ref27_Leaf_c {s : Int} (h : ∀ w', Ext w w' → K (.int .i64 (leafF a d l s)) w') : GCalls Try.prog 27 [geo a d l, .int .i64 s] K X w := by
  apply oublietteref27_Leaf.calls; unfold oublietteref27_Leaf.b
  refine boxC fun g w1 _ h1 b => ?_
  unfold leafF at h
  by_cases c1 : s < 0
  · simp only [↓eBinI, ↓eDiv, ↓eShift, ↓eBinS, ↓ePick, ↓eNot, ↓eNeg, ↓eConv, ↓eConvS, ↓eExt0, ↓eExt1, ↓eExt2, ↓eFA, ↓eIA, ↓eLenSl, ↓eCapSl, ↓eLenS, ↓eMin, ↓eMax, ↓eCondT, ↓eCondF, ↓gIf_tt, ↓gIf_ff, ↓gIf_tf, ↓gIf_ft, ↓gIf_u, ↓gIfW_u, ↓gIfW_tt, ↓gIfW_ff, ↓gIfW_tf, ↓gIfW_ft, binI, divI, shiftI, add_mk, Nat.zero_add, cond_true, cond_false, decide_true, decide_false, Bool.not_true, Bool.not_false, Bool.and_true, Bool.true_and, Bool.and_false, Bool.false_and, Int.toNat_natCast, Nat.mul_one, c1, true_or, if_true] at h ⊢
    exact h w1 h1
  simp only [↓eBinI, ↓eDiv, ↓eShift, ↓eBinS, ↓ePick, ↓eNot, ↓eNeg, ↓eConv, ↓eConvS, ↓eExt0, ↓eExt1, ↓eExt2, ↓eFA, ↓eIA, ↓eLenSl, ↓eCapSl, ↓eLenS, ↓eMin, ↓eMax, ↓eCondT, ↓eCondF, ↓gIf_tt, ↓gIf_ff, ↓gIf_tf, ↓gIf_ft, ↓gIf_u, ↓gIfW_u, ↓gIfW_tt, ↓gIfW_ff, ↓gIfW_tf, ↓gIfW_ft, binI, divI, shiftI, add_mk, Nat.zero_add, cond_true, cond_false, decide_true, decide_false, Bool.not_true, Bool.not_false, Bool.and_true, Bool.true_and, Bool.and_false, Bool.false_and, Int.toNat_natCast, Nat.mul_one, ↓b.ld3, c1, false_or] at h ⊢
  refine ref21_Leaves_c fun w2 h2 => ?_
  replace b := b.ext h2
  by_cases c2 : s ≥ leavesF a d l
  · simp only [↓eBinI, ↓eDiv, ↓eShift, ↓eBinS, ↓ePick, ↓eNot, ↓eNeg, ↓eConv, ↓eConvS, ↓eExt0, ↓eExt1, ↓eExt2, ↓eFA, ↓eIA, ↓eLenSl, ↓eCapSl, ↓eLenS, ↓eMin, ↓eMax, ↓eCondT, ↓eCondF, ↓gIf_tt, ↓gIf_ff, ↓gIf_tf, ↓gIf_ft, ↓gIf_u, ↓gIfW_u, ↓gIfW_tt, ↓gIfW_ff, ↓gIfW_tf, ↓gIfW_ft, binI, divI, shiftI, add_mk, Nat.zero_add, cond_true, cond_false, decide_true, decide_false, Bool.not_true, Bool.not_false, Bool.and_true, Bool.true_and, Bool.and_false, Bool.false_and, Int.toNat_natCast, Nat.mul_one, c2, if_true] at h ⊢
    exact h w2 (h1.tr h2)
  have hr : rightF a d l = true := by
    cases hr : rightF a d l with
    | true => rfl
    | false => unfold leavesF at c2; simp [hr] at c2; omega
  have hb := right_bd hr
  have b2 := @leavesF_bd a d l
  simp only [↓eBinI, ↓eDiv, ↓eShift, ↓eBinS, ↓ePick, ↓eNot, ↓eNeg, ↓eConv, ↓eConvS, ↓eExt0, ↓eExt1, ↓eExt2, ↓eFA, ↓eIA, ↓eLenSl, ↓eCapSl, ↓eLenS, ↓eMin, ↓eMax, ↓eCondT, ↓eCondF, ↓gIf_tt, ↓gIf_ff, ↓gIf_tf, ↓gIf_ft, ↓gIf_u, ↓gIfW_u, ↓gIfW_tt, ↓gIfW_ff, ↓gIfW_tf, ↓gIfW_ft, binI, divI, shiftI, add_mk, Nat.zero_add, cond_true, cond_false, decide_true, decide_false, Bool.not_true, Bool.not_false, Bool.and_true, Bool.true_and, Bool.and_false, Bool.false_and, Int.toNat_natCast, Nat.mul_one, ↓b.ld3, ↓b.c1, c2, if_false] at h ⊢
  rw [show d = ((d.toNat : Nat) : Int) by omega]
  refine ref27_At_c (i := d.toNat) (by omega) (by omega) (by omega) (by omega) (by omega) fun w3 h3 => ?_
  have := h w3 ((h1.tr h2).tr h3)
  rw [nodes_eq hr] at this
  exact this
theorem ref27_Parent_c {p : Int} (h : ∀ w', Ext w w' → K (.int .i64 (parentF a d l p)) w') : GCalls Try.prog 21 [geo a d l, .int .i64 p] K X w := by
  apply oublietteref27_Parent.calls; unfold oublietteref27_Parent.b
  refine boxC fun g w1 _ h1 b => ?_
  simp only [↓eBinI, ↓eDiv, ↓eShift, ↓eBinS, ↓ePick, ↓eNot, ↓eNeg, ↓eConv, ↓eConvS, ↓eExt0, ↓eExt1, ↓eExt2, ↓eFA, ↓eIA, ↓eLenSl, ↓eCapSl, ↓eLenS, ↓eMin, ↓eMax, ↓eCondT, ↓eCondF, ↓gIf_tt, ↓gIf_ff, ↓gIf_tf, ↓gIf_ft, ↓gIf_u, ↓gIfW_u, ↓gIfW_tt, ↓gIfW_ff, ↓gIfW_tf, ↓gIfW_ft, binI, divI, shiftI, add_mk, Nat.zero_add, cond_true, cond_false, decide_true, decide_false, Bool.not_true, Bool.not_false, Bool.and_true, Bool.true_and, Bool.and_false, Bool.false_and, Int.toNat_natCast, Nat.mul_one, ↓b.ld3]
  unfold parentF at h
  refine ref27_Place_c (fun ht w2 h2 => ?_) (fun ht hl w2 h2 => ?_)
  · have := h w2 (h1.tr h2)
    simp only [↓eBinI, ↓eDiv, ↓eShift, ↓eBinS, ↓ePick, ↓eNot, ↓eNeg, ↓eConv, ↓eConvS, ↓eExt0, ↓eExt1, ↓eExt2, ↓eFA, ↓eIA, ↓eLenSl, ↓eCapSl, ↓eLenS, ↓eMin, ↓eMax, ↓eCondT, ↓eCondF, ↓gIf_tt, ↓gIf_ff, ↓gIf_tf, ↓gIf_ft, ↓gIf_u, ↓gIfW_u, ↓gIfW_tt, ↓gIfW_ff, ↓gIfW_tf, ↓gIfW_ft, binI, divI, shiftI, add_mk, Nat.zero_add, cond_true, cond_false, decide_true, decide_false, Bool.not_true, Bool.not_false, Bool.and_true, Bool.true_and, Bool.and_false, Bool.false_and, Int.toNat_natCast, Nat.mul_one, ht, true_or, if_true] at this ⊢; exact this
  · have hb := there_bd ht
    have hs := lv_spec ht
    replace b := b.ext h2
    by_cases c : p = 0
    · have hk := h w2 (h1.tr h2)
      subst c
      have e : lvF a 0 = 0 := lvF_eq (by omega) (by omega) (by omega) (by simp [nodF]) (by simp [nodF, powF])
      simp only [↓eBinI, ↓eDiv, ↓eShift, ↓eBinS, ↓ePick, ↓eNot, ↓eNeg, ↓eConv, ↓eConvS, ↓eExt0, ↓eExt1, ↓eExt2, ↓eFA, ↓eIA, ↓eLenSl, ↓eCapSl, ↓eLenS, ↓eMin, ↓eMax, ↓eCondT, ↓eCondF, ↓gIf_tt, ↓gIf_ff, ↓gIf_tf, ↓gIf_ft, ↓gIf_u, ↓gIfW_u, ↓gIfW_tt, ↓gIfW_ff, ↓gIfW_tf, ↓gIfW_ft, binI, divI, shiftI, add_mk, Nat.zero_add, cond_true, cond_false, decide_true, decide_false, Bool.not_true, Bool.not_false, Bool.and_true, Bool.true_and, Bool.and_false, Bool.false_and, Int.toNat_natCast, Nat.mul_one, ht, e, or_true, if_true, beq_self_eq_true, Int.natCast_zero, Int.ofNat_zero] at hk ⊢; exact hk
    · have hne : lvF a p ≠ 0 := fun e => by rw [e] at hs; simp [nodF, powF] at hs; omega
      have e : (((lvF a p : Nat) : Int) == 0) = false := by simpa using hne
      simp only [↓eBinI, ↓eDiv, ↓eShift, ↓eBinS, ↓ePick, ↓eNot, ↓eNeg, ↓eConv, ↓eConvS, ↓eExt0, ↓eExt1, ↓eExt2, ↓eFA, ↓eIA, ↓eLenSl, ↓eCapSl, ↓eLenS, ↓eMin, ↓eMax, ↓eCondT, ↓eCondF, ↓gIf_tt, ↓gIf_ff, ↓gIf_tf, ↓gIf_ft, ↓gIf_u, ↓gIfW_u, ↓gIfW_tt, ↓gIfW_ff, ↓gIfW_tf, ↓gIfW_ft, binI, divI, shiftI, add_mk, Nat.zero_add, cond_true, cond_false, decide_true, decide_false, Bool.not_true, Bool.not_false, Bool.and_true, Bool.true_and, Bool.and_false, Bool.false_and, Int.toNat_natCast, Nat.mul_one, ht, e, c, or_false, Bool.true_eq_false, if_false] at h ⊢
      refine draw_ fun w3 h3 => ?_
      replace b := b.ext h3
      obtain ⟨i, hi⟩ : ∃ i, lvF a p = i + 1 := ⟨lvF a p - 1, by omega⟩
      rw [hi, nod_succ] at hs ⊢
      have h0 := pow_bd (a := a) (by omega) (by omega) (i := i) (by omega)
      have p1 : 0 ≤ a * nodF a i := Int.mul_nonneg (by omega) (by omega)
      have ed : (p - (a * nodF a i + 1)).tdiv a = (p - 1).tdiv a - nodF a i := by
        rw [Int.tdiv_eq_ediv_of_nonneg (by omega), Int.tdiv_eq_ediv_of_nonneg (by omega), show p - (a * nodF a i + 1) = p - 1 - nodF a i * a by rw [Int.mul_comm]; omega, Int.sub_mul_ediv_right _ _ (by omega)]
      have hd := tdiv_bd (a := a) (p := p - (a * nodF a i + 1)) (by omega) (by omega) (by omega)
      simp only [↓eBinI, ↓eDiv, ↓eShift, ↓eBinS, ↓ePick, ↓eNot, ↓eNeg, ↓eConv, ↓eConvS, ↓eExt0, ↓eExt1, ↓eExt2, ↓eFA, ↓eIA, ↓eLenSl, ↓eCapSl, ↓eLenS, ↓eMin, ↓eMax, ↓eCondT, ↓eCondF, ↓gIf_tt, ↓gIf_ff, ↓gIf_tf, ↓gIf_ft, ↓gIf_u, ↓gIfW_u, ↓gIfW_tt, ↓gIfW_ff, ↓gIfW_tf, ↓gIfW_ft, binI, divI, shiftI, add_mk, Nat.zero_add, cond_true, cond_false, decide_true, decide_false, Bool.not_true, Bool.not_false, Bool.and_true, Bool.true_and, Bool.and_false, Bool.false_and, Int.toNat_natCast, Nat.mul_one, ↓b.le3, ↓b.e0]
      refine ⟨by omega, ?_⟩
      rw [wrap64 (by omega) (by omega), wrap64 (by omega) (by omega), show (((i + 1 : Nat) : Int) - 1) = ((i : Nat) : Int) by omega]
      refine ref27_At_c (by omega) (by omega) (by omega) (by omega) (by omega) fun w4 h4 => ⟨h4, ?_⟩
      have := h w4 (((h1.tr h2).tr h3).tr h4)
      rw [ed, show nodF a i + ((p - 1).tdiv a - nodF a i) = (p - 1).tdiv a by omega]
      exact this
theorem ref27_Child_c {n k : Int} (h : ∀ w', Ext w w' → K (.int .i64 (childF a d l n k)) w') : GCalls Try.prog 19 [geo a d l, .int .i64 n, .int .i64 k] K X w := by
  apply oublietteref27_Child.calls; unfold oublietteref27_Child.b
  refine boxC fun g w1 _ h1 b => ?_
  simp only [↓eBinI, ↓eDiv, ↓eShift, ↓eBinS, ↓ePick, ↓eNot, ↓eNeg, ↓eConv, ↓eConvS, ↓eExt0, ↓eExt1, ↓eExt2, ↓eFA, ↓eIA, ↓eLenSl, ↓eCapSl, ↓eLenS, ↓eMin, ↓eMax, ↓eCondT, ↓eCondF, ↓gIf_tt, ↓gIf_ff, ↓gIf_tf, ↓gIf_ft, ↓gIf_u, ↓gIfW_u, ↓gIfW_tt, ↓gIfW_ff, ↓gIfW_tf, ↓gIfW_ft, binI, divI, shiftI, add_mk, Nat.zero_add, cond_true, cond_false, decide_true, decide_false, Bool.not_true, Bool.not_false, Bool.and_true, Bool.true_and, Bool.and_false, Bool.false_and, Int.toNat_natCast, Nat.mul_one, ↓b.ld3]
  unfold childF at h
  have b1 := @nodesF_bd a d l; have b2 := @leavesF_bd a d l
  refine ref27_Place_c (fun ht w2 h2 => ?_) (fun ht hl w2 h2 => ?_)
  · have := h w2 (h1.tr h2)
    have hn : n < 0 ∨ n ≥ nodesF a d l := by
      unfold thereF pagesF at ht
      simp at ht
      omega
    rw [if_pos (by omega)] at this
    simp only [↓eBinI, ↓eDiv, ↓eShift, ↓eBinS, ↓ePick, ↓eNot, ↓eNeg, ↓eConv, ↓eConvS, ↓eExt0, ↓eExt1, ↓eExt2, ↓eFA, ↓eIA, ↓eLenSl, ↓eCapSl, ↓eLenS, ↓eMin, ↓eMax, ↓eCondT, ↓eCondF, ↓gIf_tt, ↓gIf_ff, ↓gIf_tf, ↓gIf_ft, ↓gIf_u, ↓gIfW_u, ↓gIfW_tt, ↓gIfW_ff, ↓gIfW_tf, ↓gIfW_ft, binI, divI, shiftI, add_mk, Nat.zero_add, cond_true, cond_false, decide_true, decide_false, Bool.not_true, Bool.not_false, Bool.and_true, Bool.true_and, Bool.and_false, Bool.false_and, Int.toNat_natCast, Nat.mul_one] at this ⊢; exact this
  · have hb := there_bd ht
    have hs := lv_spec ht
    have hn := lv_nodes ht hl
    replace b := b.ext h2
    have hk := h w2 (h1.tr h2)
    by_cases c : lvF a n = d.toNat
    · have e : (((lvF a n : Nat) : Int) == d) = true := by simp; omega
      rw [if_pos (by omega)] at hk
      simp only [↓eBinI, ↓eDiv, ↓eShift, ↓eBinS, ↓ePick, ↓eNot, ↓eNeg, ↓eConv, ↓eConvS, ↓eExt0, ↓eExt1, ↓eExt2, ↓eFA, ↓eIA, ↓eLenSl, ↓eCapSl, ↓eLenS, ↓eMin, ↓eMax, ↓eCondT, ↓eCondF, ↓gIf_tt, ↓gIf_ff, ↓gIf_tf, ↓gIf_ft, ↓gIf_u, ↓gIfW_u, ↓gIfW_tt, ↓gIfW_ff, ↓gIfW_tf, ↓gIfW_ft, binI, divI, shiftI, add_mk, Nat.zero_add, cond_true, cond_false, decide_true, decide_false, Bool.not_true, Bool.not_false, Bool.and_true, Bool.true_and, Bool.and_false, Bool.false_and, Int.toNat_natCast, Nat.mul_one, ↓b.c1, e] at hk ⊢
      exact hk
    have e : (((lvF a n : Nat) : Int) == d) = false := by simp; omega
    by_cases c3 : k < 0
    · rw [if_pos (by omega)] at hk
      simp only [↓eBinI, ↓eDiv, ↓eShift, ↓eBinS, ↓ePick, ↓eNot, ↓eNeg, ↓eConv, ↓eConvS, ↓eExt0, ↓eExt1, ↓eExt2, ↓eFA, ↓eIA, ↓eLenSl, ↓eCapSl, ↓eLenS, ↓eMin, ↓eMax, ↓eCondT, ↓eCondF, ↓gIf_tt, ↓gIf_ff, ↓gIf_tf, ↓gIf_ft, ↓gIf_u, ↓gIfW_u, ↓gIfW_tt, ↓gIfW_ff, ↓gIfW_tf, ↓gIfW_ft, binI, divI, shiftI, add_mk, Nat.zero_add, cond_true, cond_false, decide_true, decide_false, Bool.not_true, Bool.not_false, Bool.and_true, Bool.true_and, Bool.and_false, Bool.false_and, Int.toNat_natCast, Nat.mul_one, ↓b.c1, e, c3] at hk ⊢
      exact hk
    by_cases c4 : k ≥ a
    · rw [if_pos (by omega)] at hk
      simp only [↓eBinI, ↓eDiv, ↓eShift, ↓eBinS, ↓ePick, ↓eNot, ↓eNeg, ↓eConv, ↓eConvS, ↓eExt0, ↓eExt1, ↓eExt2, ↓eFA, ↓eIA, ↓eLenSl, ↓eCapSl, ↓eLenS, ↓eMin, ↓eMax, ↓eCondT, ↓eCondF, ↓gIf_tt, ↓gIf_ff, ↓gIf_tf, ↓gIf_ft, ↓gIf_u, ↓gIfW_u, ↓gIfW_tt, ↓gIfW_ff, ↓gIfW_tf, ↓gIfW_ft, binI, divI, shiftI, add_mk, Nat.zero_add, cond_true, cond_false, decide_true, decide_false, Bool.not_true, Bool.not_false, Bool.and_true, Bool.true_and, Bool.and_false, Bool.false_and, Int.toNat_natCast, Nat.mul_one, ↓b.c1, ↓b.c0, e, c3, c4] at hk ⊢
      exact hk
    have hlt : n < nodesF a d l := hn.2 c
    rw [if_neg (by omega)] at h
    have p1 := pow_bd (a := a) (by omega) (by omega) (i := lvF a n) (by omega)
    have e2 : nodF a (lvF a n + 1) = nodF a (lvF a n) + powF a (lvF a n) := rfl
    have q : 0 ≤ (n - nodF a (lvF a n)) * a ∧ (n - nodF a (lvF a n)) * a ≤ 256 := by
      rcases three (a := a) (by omega) (by omega) with h | h | h <;> rw [h] at hs p1 e2 ⊢ <;> omega
    simp only [↓eBinI, ↓eDiv, ↓eShift, ↓eBinS, ↓ePick, ↓eNot, ↓eNeg, ↓eConv, ↓eConvS, ↓eExt0, ↓eExt1, ↓eExt2, ↓eFA, ↓eIA, ↓eLenSl, ↓eCapSl, ↓eLenS, ↓eMin, ↓eMax, ↓eCondT, ↓eCondF, ↓gIf_tt, ↓gIf_ff, ↓gIf_tf, ↓gIf_ft, ↓gIf_u, ↓gIfW_u, ↓gIfW_tt, ↓gIfW_ff, ↓gIfW_tf, ↓gIfW_ft, binI, divI, shiftI, add_mk, Nat.zero_add, cond_true, cond_false, decide_true, decide_false, Bool.not_true, Bool.not_false, Bool.and_true, Bool.true_and, Bool.and_false, Bool.false_and, Int.toNat_natCast, Nat.mul_one, ↓b.c1, ↓b.c0, ↓b.ld3, e, c3, c4] at h ⊢
    rw [wrap64 (by omega) (by omega), wrap64 (n := (n - nodF a (lvF a n)) * a) (by omega) (by omega), wrap64 (by omega) (by omega), show (((lvF a n : Nat) : Int) + 1) = ((lvF a n + 1 : Nat) : Int) by omega]
    refine ref27_At_c (by omega) (by omega) (by omega) (by omega) (by omega) fun w3 h3 => ?_
    have := h w3 ((h1.tr h2).tr h3)
    rw [nod_succ, Int.sub_mul, Int.mul_comm (nodF a (lvF a n)) a, Int.mul_comm n a, show a * nodF a (lvF a n) + 1 + (a * n - a * nodF a (lvF a n) + k) = a * n + 1 + k by omega]
    exact this
end Go.Proofs.Ytlolomdgchkibaa
