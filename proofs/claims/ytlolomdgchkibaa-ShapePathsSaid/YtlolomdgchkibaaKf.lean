/-
  The chapter's example of the tree, and what the law on looks hands back.
-/
import Derived.Test.YtlolomdgchkibaaKe
set_option linter.unusedSimpArgs false
set_option linter.unusedVariables false
namespace Go.Proofs.Ytlolomdgchkibaa
open Go Go.G
variable {X : KX} {w : World} {K : KV} {a d l : Int}
theorem law27_alive_c (h : ∀ w', Ext w w' → K (.bool true) w') : GCalls Try.prog 30 [] K X w := by
  apply oubliettelaw27_alive.calls; unfold oubliettelaw27_alive.b
  refine ⟨[.int .i64 2, .int .i64 2, .int .i64 4], by simp [fillL, Value.cells, cutIn], ?_⟩
  refine boxC fun g w1 hg h1 b => ?_
  refine b.setN rfl rfl (by simp [one]) fun w2 b hf => ?_
  have h12 : Ext w w2 := h1.tn hf (fun x e => by omega)
  simp only [↓eBinI, ↓eDiv, ↓eShift, ↓eBinS, ↓ePick, ↓eNot, ↓eNeg, ↓eConv, ↓eConvS, ↓eExt0, ↓eExt1, ↓eExt2, ↓eFA, ↓eIA, ↓eLenSl, ↓eCapSl, ↓eLenS, ↓eMin, ↓eMax, ↓eCondT, ↓eCondF, ↓gIf_tt, ↓gIf_ff, ↓gIf_tf, ↓gIf_ft, ↓gIf_u, ↓gIfW_u, ↓gIfW_tt, ↓gIfW_ff, ↓gIfW_tf, ↓gIfW_ft, binI, divI, shiftI, add_mk, Nat.zero_add, cond_true, cond_false, decide_true, decide_false, Bool.not_true, Bool.not_false, Bool.and_true, Bool.true_and, Bool.and_false, Bool.false_and, Int.toNat_natCast, Nat.mul_one, ↓b.ld3]
  refine shape_Path_c fun v w3 h3 hv => ?_
  have e1 : pathF 2 2 4 3 = [0, 2] := by decide
  rw [e1] at hv
  replace b := b.ext h3
  refine Cs.bslice (cs := [.int .i64 0, .int .i64 2]) (by simp [fillL, Value.cells, cutIn, rowOf]) fun r w4 hr h4 b4 => ?_
  replace b := b.ext h4
  have hr2 : Rd (.slice (.int .i64)) (fun _ => True) w4 [.slice (some ⟨r, 0, none⟩) 2 2] [0, 2] := by
    refine Rd.of_rows (t := .int .i64) (D := fun _ => True) (cs := [.int .i64 0, .int .i64 2]) (xs := [0, 2]) ⟨_, _, rfl, rdInt (by omega) (by omega), _, _, rfl, rdInt (by omega) (by omega), rfl⟩ (fun _ h => h) (by decide) (by decide) fun i u hu => ⟨_, rfl, rfl, trivial, ?_⟩
    rw [add_mk, Nat.zero_add, b4.c]; exact hu
  refine Ints_c ((hv.ext h4).rd (D' := fun _ => True) (fun _ _ => trivial) (fun _ _ => trivial) (by decide)) hr2 fun w5 h5 => ?_
  replace b := b.ext h5
  simp only [↓eBinI, ↓eDiv, ↓eShift, ↓eBinS, ↓ePick, ↓eNot, ↓eNeg, ↓eConv, ↓eConvS, ↓eExt0, ↓eExt1, ↓eExt2, ↓eFA, ↓eIA, ↓eLenSl, ↓eCapSl, ↓eLenS, ↓eMin, ↓eMax, ↓eCondT, ↓eCondF, ↓gIf_tt, ↓gIf_ff, ↓gIf_tf, ↓gIf_ft, ↓gIf_u, ↓gIfW_u, ↓gIfW_tt, ↓gIfW_ff, ↓gIfW_tf, ↓gIfW_ft, binI, divI, shiftI, add_mk, Nat.zero_add, cond_true, cond_false, decide_true, decide_false, Bool.not_true, Bool.not_false, Bool.and_true, Bool.true_and, Bool.and_false, Bool.false_and, Int.toNat_natCast, Nat.mul_one, ↓b.ld3]
  refine shape_Leaf_c fun w6 h6 => ?_
  have e2 : leafF 2 2 4 3 = 6 := by decide
  simp only [↓eBinI, ↓eDiv, ↓eShift, ↓eBinS, ↓ePick, ↓eNot, ↓eNeg, ↓eConv, ↓eConvS, ↓eExt0, ↓eExt1, ↓eExt2, ↓eFA, ↓eIA, ↓eLenSl, ↓eCapSl, ↓eLenS, ↓eMin, ↓eMax, ↓eCondT, ↓eCondF, ↓gIf_tt, ↓gIf_ff, ↓gIf_tf, ↓gIf_ft, ↓gIf_u, ↓gIfW_u, ↓gIfW_tt, ↓gIfW_ff, ↓gIfW_tf, ↓gIfW_ft, binI, divI, shiftI, add_mk, Nat.zero_add, cond_true, cond_false, decide_true, decide_false, Bool.not_true, Bool.not_false, Bool.and_true, Bool.true_and, Bool.and_false, Bool.false_and, Int.toNat_natCast, Nat.mul_one, e2, beq_self_eq_true]
  exact h w6 ((((h12.tr h3).tr h4).tr h5).tr h6)
theorem law27_Looks_c {p k : Int} (h : ∀ w', Ext w w' → K (.bool true) w') : GCalls Try.prog 4 [geo a d l, .int .i64 p, .int .i64 k] K X w := by
  apply oubliettelaw27_ShapeLooks.calls; unfold oubliettelaw27_ShapeLooks.b
  refine boxC fun g w1 hg h1 b => draw_ fun w2 h2 => ?_
  replace b := b.ext h2
  simp only [↓eBinI, ↓eDiv, ↓eShift, ↓eBinS, ↓ePick, ↓eNot, ↓eNeg, ↓eConv, ↓eConvS, ↓eExt0, ↓eExt1, ↓eExt2, ↓eFA, ↓eIA, ↓eLenSl, ↓eCapSl, ↓eLenS, ↓eMin, ↓eMax, ↓eCondT, ↓eCondF, ↓gIf_tt, ↓gIf_ff, ↓gIf_tf, ↓gIf_ft, ↓gIf_u, ↓gIfW_u, ↓gIfW_tt, ↓gIfW_ff, ↓gIfW_tf, ↓gIfW_ft, binI, divI, shiftI, add_mk, Nat.zero_add, cond_true, cond_false, decide_true, decide_false, Bool.not_true, Bool.not_false, Bool.and_true, Bool.true_and, Bool.and_false, Bool.false_and, Int.toNat_natCast, Nat.mul_one, ↓b.le3]
  refine shape_Child_c fun w3 h3 => ⟨h3, ?_⟩
  refine ref27_Child_c fun w4 h4 => ⟨h3.tr h4, ?_⟩
  have h24 := h3.tr h4
  simp only [↓eBinI, ↓eDiv, ↓eShift, ↓eBinS, ↓ePick, ↓eNot, ↓eNeg, ↓eConv, ↓eConvS, ↓eExt0, ↓eExt1, ↓eExt2, ↓eFA, ↓eIA, ↓eLenSl, ↓eCapSl, ↓eLenS, ↓eMin, ↓eMax, ↓eCondT, ↓eCondF, ↓gIf_tt, ↓gIf_ff, ↓gIf_tf, ↓gIf_ft, ↓gIf_u, ↓gIfW_u, ↓gIfW_tt, ↓gIfW_ff, ↓gIfW_tf, ↓gIfW_ft, binI, divI, shiftI, add_mk, Nat.zero_add, cond_true, cond_false, decide_true, decide_false, Bool.not_true, Bool.not_false, Bool.and_true, Bool.true_and, Bool.and_false, Bool.false_and, Int.toNat_natCast, Nat.mul_one, ↓b.le3, beq_self_eq_true]
  refine shape_Parent_c fun w5 h5 => ⟨h24.tr h5, ?_⟩
  refine ref27_Parent_c fun w6 h6 => ⟨(h24.tr h5).tr h6, ?_⟩
  have h26 := (h24.tr h5).tr h6
  simp only [↓eBinI, ↓eDiv, ↓eShift, ↓eBinS, ↓ePick, ↓eNot, ↓eNeg, ↓eConv, ↓eConvS, ↓eExt0, ↓eExt1, ↓eExt2, ↓eFA, ↓eIA, ↓eLenSl, ↓eCapSl, ↓eLenS, ↓eMin, ↓eMax, ↓eCondT, ↓eCondF, ↓gIf_tt, ↓gIf_ff, ↓gIf_tf, ↓gIf_ft, ↓gIf_u, ↓gIfW_u, ↓gIfW_tt, ↓gIfW_ff, ↓gIfW_tf, ↓gIfW_ft, binI, divI, shiftI, add_mk, Nat.zero_add, cond_true, cond_false, decide_true, decide_false, Bool.not_true, Bool.not_false, Bool.and_true, Bool.true_and, Bool.and_false, Bool.false_and, Int.toNat_natCast, Nat.mul_one, ↓b.le3, beq_self_eq_true]
  refine shape_Which_c fun w7 h7 => ⟨h26.tr h7, ?_⟩
  refine ref27_Which_c fun w8 h8 => ⟨(h26.tr h7).tr h8, ?_⟩
  have h28 := (h26.tr h7).tr h8
  simp only [↓eBinI, ↓eDiv, ↓eShift, ↓eBinS, ↓ePick, ↓eNot, ↓eNeg, ↓eConv, ↓eConvS, ↓eExt0, ↓eExt1, ↓eExt2, ↓eFA, ↓eIA, ↓eLenSl, ↓eCapSl, ↓eLenS, ↓eMin, ↓eMax, ↓eCondT, ↓eCondF, ↓gIf_tt, ↓gIf_ff, ↓gIf_tf, ↓gIf_ft, ↓gIf_u, ↓gIfW_u, ↓gIfW_tt, ↓gIfW_ff, ↓gIfW_tf, ↓gIfW_ft, binI, divI, shiftI, add_mk, Nat.zero_add, cond_true, cond_false, decide_true, decide_false, Bool.not_true, Bool.not_false, Bool.and_true, Bool.true_and, Bool.and_false, Bool.false_and, Int.toNat_natCast, Nat.mul_one, ↓b.le3, beq_self_eq_true]
  refine shape_Level_c fun w9 h9 => ⟨h28.tr h9, ?_⟩
  refine ref27_Level_c fun wa ha => ⟨(h28.tr h9).tr ha, ?_⟩
  have h2a := (h28.tr h9).tr ha
  simp only [↓eBinI, ↓eDiv, ↓eShift, ↓eBinS, ↓ePick, ↓eNot, ↓eNeg, ↓eConv, ↓eConvS, ↓eExt0, ↓eExt1, ↓eExt2, ↓eFA, ↓eIA, ↓eLenSl, ↓eCapSl, ↓eLenS, ↓eMin, ↓eMax, ↓eCondT, ↓eCondF, ↓gIf_tt, ↓gIf_ff, ↓gIf_tf, ↓gIf_ft, ↓gIf_u, ↓gIfW_u, ↓gIfW_tt, ↓gIfW_ff, ↓gIfW_tf, ↓gIfW_ft, binI, divI, shiftI, add_mk, Nat.zero_add, cond_true, cond_false, decide_true, decide_false, Bool.not_true, Bool.not_false, Bool.and_true, Bool.true_and, Bool.and_false, Bool.false_and, Int.toNat_natCast, Nat.mul_one, ↓b.le3, beq_self_eq_true]
  refine shape_Leaf_c fun wb hb => ⟨h2a.tr hb, ?_⟩
  refine ref27_Leaf_c fun wc hc => ⟨(h2a.tr hb).tr hc, ?_⟩
  have h2c := (h2a.tr hb).tr hc
  simp only [↓eBinI, ↓eDiv, ↓eShift, ↓eBinS, ↓ePick, ↓eNot, ↓eNeg, ↓eConv, ↓eConvS, ↓eExt0, ↓eExt1, ↓eExt2, ↓eFA, ↓eIA, ↓eLenSl, ↓eCapSl, ↓eLenS, ↓eMin, ↓eMax, ↓eCondT, ↓eCondF, ↓gIf_tt, ↓gIf_ff, ↓gIf_tf, ↓gIf_ft, ↓gIf_u, ↓gIfW_u, ↓gIfW_tt, ↓gIfW_ff, ↓gIfW_tf, ↓gIfW_ft, binI, divI, shiftI, add_mk, Nat.zero_add, cond_true, cond_false, decide_true, decide_false, Bool.not_true, Bool.not_false, Bool.and_true, Bool.true_and, Bool.and_false, Bool.false_and, Int.toNat_natCast, Nat.mul_one, ↓b.le3, beq_self_eq_true]
  refine shape_Slot_c fun wd hd => ⟨h2c.tr hd, ?_⟩
  refine ref27_Slot_c fun we he => ⟨(h2c.tr hd).tr he, ?_⟩
  have h2e := (h2c.tr hd).tr he
  simp only [↓eBinI, ↓eDiv, ↓eShift, ↓eBinS, ↓ePick, ↓eNot, ↓eNeg, ↓eConv, ↓eConvS, ↓eExt0, ↓eExt1, ↓eExt2, ↓eFA, ↓eIA, ↓eLenSl, ↓eCapSl, ↓eLenS, ↓eMin, ↓eMax, ↓eCondT, ↓eCondF, ↓gIf_tt, ↓gIf_ff, ↓gIf_tf, ↓gIf_ft, ↓gIf_u, ↓gIfW_u, ↓gIfW_tt, ↓gIfW_ff, ↓gIfW_tf, ↓gIfW_ft, binI, divI, shiftI, add_mk, Nat.zero_add, cond_true, cond_false, decide_true, decide_false, Bool.not_true, Bool.not_false, Bool.and_true, Bool.true_and, Bool.and_false, Bool.false_and, Int.toNat_natCast, Nat.mul_one, ↓b.le3, beq_self_eq_true]
  refine law27_alive_c fun wf hf => ⟨h2e.tr hf, ?_⟩
  exact h wf ((h1.tr h2).tr (h2e.tr hf))
end Go.Proofs.Ytlolomdgchkibaa
