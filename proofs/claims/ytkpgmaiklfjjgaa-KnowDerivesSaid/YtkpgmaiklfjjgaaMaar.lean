/-
  The walk of KnowDerives, whole.
  The row's frame: what comes in reads as lists and numbers; a law that hands back true and turns nothing holds.
  What acts and numbers read as, at a law's door.
-/
import Derived.Test.YtkpgmaiklfjjgaaMaaq
import Derived.WalkKit
import Derived.ProofKit
import Derived.OpenShut
import Derived.Carry
import Derived.Test.YtkpgmaiklfjjgaaRows
section
set_option linter.unusedSimpArgs false
set_option linter.unusedVariables false
set_option maxRecDepth 100000
namespace Go.Proofs.Ytkpgmaiklfjjgaa
open Go Go.G
variable {X : KX} {w : World} {K : KV} {D D' : Nat → Prop} {x0 x1 : Value}
theorem ePEqB {a b neg : Bool} {K : KP} : pEq .bool neg (.bool a) (.bool b) K = K (.bool ((a == b) != neg)) := by
  apply propext; constructor
  · rintro ⟨r, h1, k⟩; cases h1; exact k
  · exact fun k => ⟨_, rfl, k⟩
set_option maxHeartbeats 8000000 in
theorem KnowDerives_c {l : List Act} {ids : List Int} (hx : Rd (.slice tAct) D w [x0] l) (hy : Rd (.slice (.int .i64)) D' w [x1] ids) (h : ∀ w', Ext w w' → K (.bool true) w') : GCalls Try.prog 3 [x0, x1] K X w := by
  have hx := rd_bd hx
  have hy := rd_bd hy
  apply oubliettelaw16_KnowDerives.calls; unfold oubliettelaw16_KnowDerives.b
  refine light_c hx hy fun r hr => ?_
  cases r with
  | false =>
    simp only [↓eBinI, ↓eDiv, ↓eShift, ↓eBinS, ↓ePick, ↓eNot, ↓eNeg, ↓eConv, ↓eConvS, ↓eExt0, ↓eExt1, ↓eExt2, ↓eFA, ↓eIA, ↓eLenSl, ↓eCapSl, ↓eLenS, ↓eMin, ↓eMax, ↓eCondT, ↓eCondF, ↓gIf_tt, ↓gIf_ff, ↓gIf_tf, ↓gIf_ft, ↓gIf_u, ↓gIfW_u, ↓gIfW_tt, ↓gIfW_ff, ↓gIfW_tf, ↓gIfW_ft, binI, divI, shiftI, add_mk, Nat.zero_add, cond_true, cond_false, decide_true, decide_false, Bool.not_true, Bool.not_false, Bool.and_true, Bool.true_and, Bool.and_false, Bool.false_and, Int.toNat_natCast, Nat.mul_one]
    refine alive16_c fun w1 h1 => ?_
    try simp only [↓eBinI, ↓eDiv, ↓eShift, ↓eBinS, ↓ePick, ↓eNot, ↓eNeg, ↓eConv, ↓eConvS, ↓eExt0, ↓eExt1, ↓eExt2, ↓eFA, ↓eIA, ↓eLenSl, ↓eCapSl, ↓eLenS, ↓eMin, ↓eMax, ↓eCondT, ↓eCondF, ↓gIf_tt, ↓gIf_ff, ↓gIf_tf, ↓gIf_ft, ↓gIf_u, ↓gIfW_u, ↓gIfW_tt, ↓gIfW_ff, ↓gIfW_tf, ↓gIfW_ft, binI, divI, shiftI, add_mk, Nat.zero_add, cond_true, cond_false, decide_true, decide_false, Bool.not_true, Bool.not_false, Bool.and_true, Bool.true_and, Bool.and_false, Bool.false_and, Int.toNat_natCast, Nat.mul_one]
    exact h w1 h1
  | true =>
  obtain ⟨hl1, hl2, hl3⟩ := hr rfl
  simp only [↓eBinI, ↓eDiv, ↓eShift, ↓eBinS, ↓ePick, ↓eNot, ↓eNeg, ↓eConv, ↓eConvS, ↓eExt0, ↓eExt1, ↓eExt2, ↓eFA, ↓eIA, ↓eLenSl, ↓eCapSl, ↓eLenS, ↓eMin, ↓eMax, ↓eCondT, ↓eCondF, ↓gIf_tt, ↓gIf_ff, ↓gIf_tf, ↓gIf_ft, ↓gIf_u, ↓gIfW_u, ↓gIfW_tt, ↓gIfW_ff, ↓gIfW_tf, ↓gIfW_ft, binI, divI, shiftI, add_mk, Nat.zero_add, cond_true, cond_false, decide_true, decide_false, Bool.not_true, Bool.not_false, Bool.and_true, Bool.true_and, Bool.and_false, Bool.false_and, Int.toNat_natCast, Nat.mul_one]
  refine made_c hx (by omega) (fun i hi => by have := hl3 i hi; omega) fun gT F v w1 h1 hF hv t1 o1 hn => ?_
  generalize hns : actsN l = ns at t1 o1 hn
  have z1 := h1.size
  have hg := t1.good
  have hFl := t1.fp
  try simp only [↓eBinI, ↓eDiv, ↓eShift, ↓eBinS, ↓ePick, ↓eNot, ↓eNeg, ↓eConv, ↓eConvS, ↓eExt0, ↓eExt1, ↓eExt2, ↓eFA, ↓eIA, ↓eLenSl, ↓eCapSl, ↓eLenS, ↓eMin, ↓eMax, ↓eCondT, ↓eCondF, ↓gIf_tt, ↓gIf_ff, ↓gIf_tf, ↓gIf_ft, ↓gIf_u, ↓gIfW_u, ↓gIfW_tt, ↓gIfW_ff, ↓gIfW_tf, ↓gIfW_ft, binI, divI, shiftI, add_mk, Nat.zero_add, cond_true, cond_false, decide_true, decide_false, Bool.not_true, Bool.not_false, Bool.and_true, Bool.true_and, Bool.and_false, Bool.false_and, Int.toNat_natCast, Nat.mul_one]
  refine KNew_c (ns := ns) fun gK gL FK w2 h2 hFK k2 => ?_
  have z2 := h2.size
  have t2 := t1.ext h2
  have d2 : ∀ b, FK b → ¬ F b := fun b hb hf => by have := hFK b hb; have := hFl b hf; omega
  have hFK2 := k2.fp
  have rdv : Rd (.slice tNode) (fun b => w.heap.size ≤ b ∧ b < w1.heap.size) w1 [v] ns := o1.rd2 (fun _ h => h.elim) (fun b hb _ _ => ⟨(hv b hb).1, (hv b hb).2.1⟩) (by show ns.length < _; omega)
  have rd2 := rdv.ext h2
  obtain ⟨a1, cx1, e11, _, hil⟩ := hy.form
  refine oubliettelaw16_KnowDerives.loop1 (fun x8 w' => ∃ i : Nat, i ≤ ids.length ∧ x8 = .int .i64 (i : Int) ∧ Fr FK w2 w' ∧ Know w' gK gT gL FK ns (learnN ns [] (ids.take i))) (fun x8 _ => ids.length - (iv x8).toNat)
    ⟨0, by omega, rfl, Fr.refl _ _, k2⟩ ?_
  rintro x8 gg w3 ⟨i, hi, rfl, f3, k3⟩
  unfold oubliettelaw16_KnowDerives.b1
  have z3 := f3.size
  have x3 : Ext w w3 := (h1.tr h2).tn f3 (fun b hb => by have := hFK b hb; omega)
  have t3 := t2.fr f3 (fun b hb e => d2 b e hb)
  rw [e11]
  by_cases ci : (i : Int) < (ids.length : Int)
  · have hi' : i < ids.length := by omega
    obtain ⟨ad, c, u, e, s1, _, qu, ru⟩ := (hy.ext x3).idx rfl hi'
    rw [e11] at e
    simp only [Value.slice.injEq, true_and] at e
    obtain ⟨rfl, rfl⟩ := e
    have hu := ru.1
    simp only [List.cons.injEq, and_true] at hu
    subst hu
    have hin : InI ids[i] := ⟨ru.2.1, ru.2.2⟩
    have e9 : IntKind.i64.wrap ((i : Int) + 1) = ((i + 1 : Nat) : Int) := by rw [wrap64 (by omega) (by omega)]; omega
    simp only [↓eBinI, ↓eDiv, ↓eShift, ↓eBinS, ↓ePick, ↓eNot, ↓eNeg, ↓eConv, ↓eConvS, ↓eExt0, ↓eExt1, ↓eExt2, ↓eFA, ↓eIA, ↓eLenSl, ↓eCapSl, ↓eLenS, ↓eMin, ↓eMax, ↓eCondT, ↓eCondF, ↓gIf_tt, ↓gIf_ff, ↓gIf_tf, ↓gIf_ft, ↓gIf_u, ↓gIfW_u, ↓gIfW_tt, ↓gIfW_ff, ↓gIfW_tf, ↓gIfW_ft, binI, divI, shiftI, add_mk, Nat.zero_add, cond_true, cond_false, decide_true, decide_false, Bool.not_true, Bool.not_false, Bool.and_true, Bool.true_and, Bool.and_false, Bool.false_and, Int.toNat_natCast, Nat.mul_one, ci]
    refine ⟨by omega, by first | trivial | omega, ?_⟩
    simp only [↓eLdW, Int.toNat_natCast, Nat.mul_one, qu, Option.some.injEq, exists_eq_left']
    refine bslice1 rfl fun g6 w6 hg6 h6 c6 => ?_
    have hFK3 := k3.fp
    refine Learn_c (k3.ext h6) (t3.ext h6) (ints1 c6 hin) (fun b hb => ⟨d2 b hb, fun e => by have := hFK3 b hb; omega⟩) fun w7 f7 k7 => ?_
    simp only [↓eBinI, ↓eDiv, ↓eShift, ↓eBinS, ↓ePick, ↓eNot, ↓eNeg, ↓eConv, ↓eConvS, ↓eExt0, ↓eExt1, ↓eExt2, ↓eFA, ↓eIA, ↓eLenSl, ↓eCapSl, ↓eLenS, ↓eMin, ↓eMax, ↓eCondT, ↓eCondF, ↓gIf_tt, ↓gIf_ff, ↓gIf_tf, ↓gIf_ft, ↓gIf_u, ↓gIfW_u, ↓gIfW_tt, ↓gIfW_ff, ↓gIfW_tf, ↓gIfW_ft, binI, divI, shiftI, add_mk, Nat.zero_add, cond_true, cond_false, decide_true, decide_false, Bool.not_true, Bool.not_false, Bool.and_true, Bool.true_and, Bool.and_false, Bool.false_and, Int.toNat_natCast, Nat.mul_one, e9]
    rw [← e11]
    refine oubliettelaw16_KnowDerives.leaf1 ⟨i + 1, by omega, rfl, (f3.trans h6 (fun _ _ h => h.elim)).trans f7 (fun _ _ h => h), ?_⟩ (by simp only [iv]; omega)
    have e : learnN ns [] (ids.take (i + 1)) = learnN ns (learnN ns [] (ids.take i)) [ids[i]] := by
      rw [List.take_succ_eq_append_getElem hi', learnN, List.foldl_append]; rfl
    rw [e]; exact k7
  · have hi' : i = ids.length := by omega
    subst hi'
    rw [List.take_length] at k3
    simp only [↓eBinI, ↓eDiv, ↓eShift, ↓eBinS, ↓ePick, ↓eNot, ↓eNeg, ↓eConv, ↓eConvS, ↓eExt0, ↓eExt1, ↓eExt2, ↓eFA, ↓eIA, ↓eLenSl, ↓eCapSl, ↓eLenS, ↓eMin, ↓eMax, ↓eCondT, ↓eCondF, ↓gIf_tt, ↓gIf_ff, ↓gIf_tf, ↓gIf_ft, ↓gIf_u, ↓gIfW_u, ↓gIfW_tt, ↓gIfW_ff, ↓gIfW_tf, ↓gIfW_ft, binI, divI, shiftI, add_mk, Nat.zero_add, cond_true, cond_false, decide_true, decide_false, Bool.not_true, Bool.not_false, Bool.and_true, Bool.true_and, Bool.and_false, Bool.false_and, Int.toNat_natCast, Nat.mul_one, ci]
    rw [← e11]
    have rd3 := rd2.fr f3 (fun b hb e => by have := hFK b e; omega)
    refine All_c rd3 (hy.ext x3) hg (by omega) fun vd w4 d h4 rdd dl lst => ?_
    have z4 := h4.size
    have rdd := rd_bd rdd
    generalize hml : learnN ns [] ids = ml at k3 lst
    have k4 := k3.ext h4
    have hFK3 := k3.fp
    refine KClone_c k4 fun gC gC' FC w5 h5 hFC c5 => ?_
    have z5 := h5.size
    -- the blocks that those who know may turn
    let R : Nat → Prop := fun b => w1.heap.size ≤ b ∧ (b < w3.heap.size ∨ w4.heap.size ≤ b)
    have hRF : ∀ b, R b → ¬ F b := fun b hb hf => by have := hFl b hf; have := hb.1; omega
    have hRs : ∀ b, w4.heap.size ≤ b → R b := fun b hb => ⟨by omega, .inr hb⟩
    have T5 : Two R w5 gT ns ml gK gL gC gC' FK FC := ⟨k4.ext h5, c5, fun b hb => ⟨hFK b hb, .inl (hFK3 b hb)⟩, fun b hb => hRs b (hFC b hb), fun b hb hb' => by have := hFK3 b hb; have := hFC b hb'; omega⟩
    have t5 := (t3.ext h4).ext h5
    have hRw : ∀ b, R b → w.heap.size ≤ b := fun b hb => by have := hb.1; omega
    have x5 := (x3.tr h4).tr h5
    obtain ⟨av, cv, ev, _, _⟩ := rdv.form
    simp only [↓eBinI, ↓eDiv, ↓eShift, ↓eBinS, ↓ePick, ↓eNot, ↓eNeg, ↓eConv, ↓eConvS, ↓eExt0, ↓eExt1, ↓eExt2, ↓eFA, ↓eIA, ↓eLenSl, ↓eCapSl, ↓eLenS, ↓eMin, ↓eMax, ↓eCondT, ↓eCondF, ↓gIf_tt, ↓gIf_ff, ↓gIf_tf, ↓gIf_ft, ↓gIf_u, ↓gIfW_u, ↓gIfW_tt, ↓gIfW_ff, ↓gIfW_tf, ↓gIfW_ft, binI, divI, shiftI, add_mk, Nat.zero_add, cond_true, cond_false, decide_true, decide_false, Bool.not_true, Bool.not_false, Bool.and_true, Bool.true_and, Bool.and_false, Bool.false_and, Int.toNat_natCast, Nat.mul_one, ↓ePEqS]
    refine T5.derives (id := 0) t5 hRF hRs (by omega) ⟨by omega, by omega⟩ fun w6 FA6 r6 f6 T6 n6 _ => ?_
    have t6 := t5.fr f6 (fun b hb e => hRF b e hb)
    have z6 := f6.size
    rw [n6 (by cases hh : thereN ns 0 with | false => rfl | true => have := thereN_iff.1 hh; omega)]
    have e0 : IntKind.i64.wrap ((ns.length : Int) + 1) = ((ns.length + 1 : Nat) : Int) := by rw [wrap64 (by omega) (by omega)]; omega
    rw [ev]
    simp only [↓eBinI, ↓eDiv, ↓eShift, ↓eBinS, ↓ePick, ↓eNot, ↓eNeg, ↓eConv, ↓eConvS, ↓eExt0, ↓eExt1, ↓eExt2, ↓eFA, ↓eIA, ↓eLenSl, ↓eCapSl, ↓eLenS, ↓eMin, ↓eMax, ↓eCondT, ↓eCondF, ↓gIf_tt, ↓gIf_ff, ↓gIf_tf, ↓gIf_ft, ↓gIf_u, ↓gIfW_u, ↓gIfW_tt, ↓gIfW_ff, ↓gIfW_tf, ↓gIfW_ft, binI, divI, shiftI, add_mk, Nat.zero_add, cond_true, cond_false, decide_true, decide_false, Bool.not_true, Bool.not_false, Bool.and_true, Bool.true_and, Bool.and_false, Bool.false_and, Int.toNat_natCast, Nat.mul_one, e0]
    rw [← ev]
    refine T6.derives (id := ((ns.length + 1 : Nat) : Int)) t6 hRF hRs (by omega) ⟨by omega, by omega⟩ fun w7 FA7 r7 f7 T7 n7 _ => ?_
    have t7 := t6.fr f7 (fun b hb e => hRF b e hb)
    have z7 := f7.size
    rw [n7 (by cases hh : thereN ns ((ns.length + 1 : Nat) : Int) with | false => rfl | true => have := thereN_iff.1 hh; omega)]
    simp only [↓eBinI, ↓eDiv, ↓eShift, ↓eBinS, ↓ePick, ↓eNot, ↓eNeg, ↓eConv, ↓eConvS, ↓eExt0, ↓eExt1, ↓eExt2, ↓eFA, ↓eIA, ↓eLenSl, ↓eCapSl, ↓eLenS, ↓eMin, ↓eMax, ↓eCondT, ↓eCondF, ↓gIf_tt, ↓gIf_ff, ↓gIf_tf, ↓gIf_ft, ↓gIf_u, ↓gIfW_u, ↓gIfW_tt, ↓gIfW_ff, ↓gIfW_tf, ↓gIfW_ft, binI, divI, shiftI, add_mk, Nat.zero_add, cond_true, cond_false, decide_true, decide_false, Bool.not_true, Bool.not_false, Bool.and_true, Bool.true_and, Bool.and_false, Bool.false_and, Int.toNat_natCast, Nat.mul_one]
    refine T7.derives (id := -1) t7 hRF hRs (by omega) ⟨by omega, by omega⟩ fun w8 FA8 r8 f8 T8 n8 _ => ?_
    have t8 := t7.fr f8 (fun b hb e => hRF b e hb)
    have z8 := f8.size
    rw [n8 (by cases hh : thereN ns (-1) with | false => rfl | true => have := thereN_iff.1 hh; omega)]
    simp only [↓eBinI, ↓eDiv, ↓eShift, ↓eBinS, ↓ePick, ↓eNot, ↓eNeg, ↓eConv, ↓eConvS, ↓eExt0, ↓eExt1, ↓eExt2, ↓eFA, ↓eIA, ↓eLenSl, ↓eCapSl, ↓eLenS, ↓eMin, ↓eMax, ↓eCondT, ↓eCondF, ↓gIf_tt, ↓gIf_ff, ↓gIf_tf, ↓gIf_ft, ↓gIf_u, ↓gIfW_u, ↓gIfW_tt, ↓gIfW_ff, ↓gIfW_tf, ↓gIfW_ft, binI, divI, shiftI, add_mk, Nat.zero_add, cond_true, cond_false, decide_true, decide_false, Bool.not_true, Bool.not_false, Bool.and_true, Bool.true_and, Bool.and_false, Bool.false_and, Int.toNat_natCast, Nat.mul_one]
    have f58 : Fr R w5 w8 := (f6.trans f7 (fun _ _ h => h)).trans f8 (fun _ _ h => h)
    have rdd5 := rdd.ext h5
    have nRd : ∀ b, (w3.heap.size ≤ b ∧ b < w4.heap.size) → ¬ R b := fun b hb hr => by have := hr.2; omega
    have rdv5 := (rd3.ext h4).ext h5
    have nRv : ∀ b, (w.heap.size ≤ b ∧ b < w1.heap.size) → ¬ R b := fun b hb hr => by have := hr.1; omega
    have hres : ∀ is, Least ns (inL ml) (bit is) → ∀ q : Nat, 1 ≤ q → q ≤ ns.length → bit is (q : Int) = bit d (q : Int) := fun is hle q q1 q2 => hle.same lst (q : Int) (by omega) (by omega)
    refine oubliettelaw16_KnowDerives.loop2 (fun x11 w' => ∃ (i : Nat) (FA FB : Nat → Prop), i ≤ ns.length ∧ x11 = .int .i64 ((i + 1 : Nat) : Int) ∧ Fr R w5 w' ∧ Two R w' gT ns ml gK gL gC gC' FA FB) (fun x11 _ => ns.length + 1 - (iv x11).toNat)
      ⟨0, FA8, FC, by omega, rfl, f58, T8⟩ ?_
    rintro x11 g2 w9 ⟨i, FA, FB, hi, rfl, f9, T9⟩
    unfold oubliettelaw16_KnowDerives.b2
    have z9 := f9.size
    have t9 := t5.fr f9 (fun b hb e => hRF b e hb)
    have x9 : Ext w w9 := x5.tn f9 hRw
    rw [ev]
    by_cases ci : ((i + 1 : Nat) : Int) ≤ (ns.length : Int)
    · have e9 : IntKind.i64.wrap (((i + 1 : Nat) : Int) + 1) = ((i + 1 + 1 : Nat) : Int) := by rw [wrap64 (by omega) (by omega)]; omega
      have hth : thereN ns ((i + 1 : Nat) : Int) = true := thereN_iff.2 ⟨by omega, by omega⟩
      simp only [↓eBinI, ↓eDiv, ↓eShift, ↓eBinS, ↓ePick, ↓eNot, ↓eNeg, ↓eConv, ↓eConvS, ↓eExt0, ↓eExt1, ↓eExt2, ↓eFA, ↓eIA, ↓eLenSl, ↓eCapSl, ↓eLenS, ↓eMin, ↓eMax, ↓eCondT, ↓eCondF, ↓gIf_tt, ↓gIf_ff, ↓gIf_tf, ↓gIf_ft, ↓gIf_u, ↓gIfW_u, ↓gIfW_tt, ↓gIfW_ff, ↓gIfW_tf, ↓gIfW_ft, binI, divI, shiftI, add_mk, Nat.zero_add, cond_true, cond_false, decide_true, decide_false, Bool.not_true, Bool.not_false, Bool.and_true, Bool.true_and, Bool.and_false, Bool.false_and, Int.toNat_natCast, Nat.mul_one, ci]
      refine drawS R fun w10 h10 => ?_
      have z10 := h10.size
      obtain ⟨ad, c, u, ed, s1, nb, qu, ru⟩ := ((rdd5.fr f9 nRd).ext h10).idx rfl (i := i + 1) (by omega)
      have hu := ru
      have hu : [u] = [Value.bool d[i + 1]] := hu
      simp only [List.cons.injEq, and_true] at hu
      subst hu
      have eb : d[i + 1] = bit d ((i + 1 : Nat) : Int) := (bit_get (by omega)).symm
      rw [eb] at qu
      have nR : ¬ R (ad.add (i + 1)).block := by rw [add_block]; exact nRd _ nb
      rw [ed]
      simp only [↓eBinI, ↓eDiv, ↓eShift, ↓eBinS, ↓ePick, ↓eNot, ↓eNeg, ↓eConv, ↓eConvS, ↓eExt0, ↓eExt1, ↓eExt2, ↓eFA, ↓eIA, ↓eLenSl, ↓eCapSl, ↓eLenS, ↓eMin, ↓eMax, ↓eCondT, ↓eCondF, ↓gIf_tt, ↓gIf_ff, ↓gIf_tf, ↓gIf_ft, ↓gIf_u, ↓gIfW_u, ↓gIfW_tt, ↓gIfW_ff, ↓gIfW_tf, ↓gIfW_ft, binI, divI, shiftI, add_mk, Nat.zero_add, cond_true, cond_false, decide_true, decide_false, Bool.not_true, Bool.not_false, Bool.and_true, Bool.true_and, Bool.and_false, Bool.false_and, Int.toNat_natCast, Nat.mul_one, Int.toNat_natCast, Nat.mul_one, ↓eLdT nR qu]
      refine ⟨by omega, by first | trivial | omega, ?_⟩
      refine (T9.ext h10).derives (t9.ext h10) hRF hRs (by omega) ⟨by omega, by omega⟩ fun w11 FA' r11 f11 T11 _ l11 => ⟨f11, ?_⟩
      have z11 := f11.size
      obtain ⟨is, hle, er⟩ := l11 hth
      rw [hres is hle (i + 1) (by omega) (by omega)] at er
      subst er
      have en : ((bit d ((i + 1 : Nat) : Int) == bit d ((i + 1 : Nat) : Int)) != true) = false := by simp
      simp only [↓eBinI, ↓eDiv, ↓eShift, ↓eBinS, ↓ePick, ↓eNot, ↓eNeg, ↓eConv, ↓eConvS, ↓eExt0, ↓eExt1, ↓eExt2, ↓eFA, ↓eIA, ↓eLenSl, ↓eCapSl, ↓eLenS, ↓eMin, ↓eMax, ↓eCondT, ↓eCondF, ↓gIf_tt, ↓gIf_ff, ↓gIf_tf, ↓gIf_ft, ↓gIf_u, ↓gIfW_u, ↓gIfW_tt, ↓gIfW_ff, ↓gIfW_tf, ↓gIfW_ft, binI, divI, shiftI, add_mk, Nat.zero_add, cond_true, cond_false, decide_true, decide_false, Bool.not_true, Bool.not_false, Bool.and_true, Bool.true_and, Bool.and_false, Bool.false_and, Int.toNat_natCast, Nat.mul_one, ↓ePEqB, en, Int.toNat_natCast, Nat.mul_one, ↓eLdT nR qu]
      refine ⟨by omega, by first | trivial | omega, ?_⟩
      have t11 := (t9.ext h10).fr f11 (fun b hb e => hRF b e hb)
      refine T11.swap.derives t11 hRF hRs (by omega) ⟨by omega, by omega⟩ fun w12 FB' r12 f12 T12 _ l12 => ⟨f11.trans f12 (fun _ _ h => h), ?_⟩
      obtain ⟨is', hle', er'⟩ := l12 hth
      rw [hres is' hle' (i + 1) (by omega) (by omega)] at er'
      subst er'
      simp only [↓eBinI, ↓eDiv, ↓eShift, ↓eBinS, ↓ePick, ↓eNot, ↓eNeg, ↓eConv, ↓eConvS, ↓eExt0, ↓eExt1, ↓eExt2, ↓eFA, ↓eIA, ↓eLenSl, ↓eCapSl, ↓eLenS, ↓eMin, ↓eMax, ↓eCondT, ↓eCondF, ↓gIf_tt, ↓gIf_ff, ↓gIf_tf, ↓gIf_ft, ↓gIf_u, ↓gIfW_u, ↓gIfW_tt, ↓gIfW_ff, ↓gIfW_tf, ↓gIfW_ft, binI, divI, shiftI, add_mk, Nat.zero_add, cond_true, cond_false, decide_true, decide_false, Bool.not_true, Bool.not_false, Bool.and_true, Bool.true_and, Bool.and_false, Bool.false_and, Int.toNat_natCast, Nat.mul_one, ↓ePEqB, en, e9]
      rw [← ev, ← ed]
      refine oubliettelaw16_KnowDerives.leaf2 ⟨i + 1, FA', FB', by omega, rfl, ((f9.trans h10 (fun _ _ h => h.elim)).trans f11 (fun _ _ h => h)).trans f12 (fun _ _ h => h), T12.swap⟩ (by simp only [iv]; omega)
    · simp only [↓eBinI, ↓eDiv, ↓eShift, ↓eBinS, ↓ePick, ↓eNot, ↓eNeg, ↓eConv, ↓eConvS, ↓eExt0, ↓eExt1, ↓eExt2, ↓eFA, ↓eIA, ↓eLenSl, ↓eCapSl, ↓eLenS, ↓eMin, ↓eMax, ↓eCondT, ↓eCondF, ↓gIf_tt, ↓gIf_ff, ↓gIf_tf, ↓gIf_ft, ↓gIf_u, ↓gIfW_u, ↓gIfW_tt, ↓gIfW_ff, ↓gIfW_tf, ↓gIfW_ft, binI, divI, shiftI, add_mk, Nat.zero_add, cond_true, cond_false, decide_true, decide_false, Bool.not_true, Bool.not_false, Bool.and_true, Bool.true_and, Bool.and_false, Bool.false_and, Int.toNat_natCast, Nat.mul_one, ci]
      rw [← ev]
      refine Opened_c T9.a t9 (fun b hb => hRF b (T9.ra b hb)) fun v1 is w10 FA' f10 g10 k10 hle rv1 => ?_
      have z10 := f10.size
      have f10R : Fr R w9 w10 := f10.mono (fun b _ hb => T9.ra b hb)
      have f510 := f9.trans f10R (fun _ _ h => h)
      refine ROpened_c (rdv5.fr f510 nRv) (rdd5.fr f510 nRd) dl hg (by omega) fun v2 w11 h11 rv2 => ?_
      refine Ints_c (rv1.ext h11) rv2 fun w12 h12 => ?_
      have ee : opN ns (bit is) ns.length = opN ns (bit d) ns.length := opN_congr hg (hle.same lst) ns.length
      rw [decide_eq_true ee]
      simp only [↓eBinI, ↓eDiv, ↓eShift, ↓eBinS, ↓ePick, ↓eNot, ↓eNeg, ↓eConv, ↓eConvS, ↓eExt0, ↓eExt1, ↓eExt2, ↓eFA, ↓eIA, ↓eLenSl, ↓eCapSl, ↓eLenS, ↓eMin, ↓eMax, ↓eCondT, ↓eCondF, ↓gIf_tt, ↓gIf_ff, ↓gIf_tf, ↓gIf_ft, ↓gIf_u, ↓gIfW_u, ↓gIfW_tt, ↓gIfW_ff, ↓gIfW_tf, ↓gIfW_ft, binI, divI, shiftI, add_mk, Nat.zero_add, cond_true, cond_false, decide_true, decide_false, Bool.not_true, Bool.not_false, Bool.and_true, Bool.true_and, Bool.and_false, Bool.false_and, Int.toNat_natCast, Nat.mul_one]
      have x12 : Ext w w12 := (((x5.tn f510 hRw)).tr h11).tr h12
      refine alive16_c fun w13 h13 => ?_
      try simp only [↓eBinI, ↓eDiv, ↓eShift, ↓eBinS, ↓ePick, ↓eNot, ↓eNeg, ↓eConv, ↓eConvS, ↓eExt0, ↓eExt1, ↓eExt2, ↓eFA, ↓eIA, ↓eLenSl, ↓eCapSl, ↓eLenS, ↓eMin, ↓eMax, ↓eCondT, ↓eCondF, ↓gIf_tt, ↓gIf_ff, ↓gIf_tf, ↓gIf_ft, ↓gIf_u, ↓gIfW_u, ↓gIfW_tt, ↓gIfW_ff, ↓gIfW_tf, ↓gIfW_ft, binI, divI, shiftI, add_mk, Nat.zero_add, cond_true, cond_false, decide_true, decide_false, Bool.not_true, Bool.not_false, Bool.and_true, Bool.true_and, Bool.and_false, Bool.false_and, Int.toNat_natCast, Nat.mul_one]
      exact h w13 (x12.tr h13)
end Go.Proofs.Ytkpgmaiklfjjgaa
end
section
set_option linter.unusedSimpArgs false
set_option linter.unusedVariables false
namespace Go.G
open Go Go.ChangeShapes Go.WideShapes Go.ChangeAt Go.RowKit
/-- Whatever is read at this type of the program reads as this. -/
def Opens (P : Program) (t : TypeId) (ty : Ty) : Prop :=
  ∀ (H : Type) (enc : TypeId × Value → H) (w : World) (sp : Nat → Bool) (fuel : Nat) (cs : List Value) (x : DataW H × List MemPlace),
    DataW.trod enc P w 0 sp true fuel t cs = some x → ∃ y, Rd ty (fun b => b < w.heap.size) w cs y
variable {P : Program} {t : TypeId}
theorem wf_min_max {k : IntKind} {n : Int} (h : (Lit.int k n).wf = true) : k.min ≤ n ∧ n ≤ k.max := by
  simp only [Lit.wf, Bool.and_eq_true, decide_eq_true_eq] at h; exact h
theorem opens_int {k : IntKind} (ht : P.underlying t = some (.int k)) : Opens P t (.int k) := fun H enc w sp fuel cs x h => by
  obtain ⟨n, rfl, _, hw⟩ := DataW.trod_int ht h
  exact ⟨n, rfl, wf_min_max hw⟩
theorem opens_byte (ht : P.underlying t = some (.int .u8)) : Opens P t .byte := fun H enc w sp fuel cs x h => by
  obtain ⟨n, rfl, _, hw⟩ := DataW.trod_int ht h
  have := wf_min_max hw
  simp [IntKind.min, IntKind.max, IntKind.signed, IntKind.bits] at this
  refine ⟨UInt8.ofNat n.toNat, ?_⟩
  show [Value.int .u8 n] = [Value.int .u8 _]
  congr 2
  rw [UInt8.toNat_ofNat']
  omega
theorem opens_bool (ht : P.underlying t = some .bool) : Opens P t .bool := fun H enc w sp fuel cs x h => by
  obtain ⟨b, rfl, _⟩ := DataW.trod_bool ht h
  exact ⟨b, rfl⟩
theorem opens_str (ht : P.underlying t = some .string) : Opens P t .str := fun H enc w sp fuel cs x h => by
  obtain ⟨s, rfl, _, hl⟩ := DataW.trod_string ht h
  refine ⟨s.data.toList, ?_, ?_⟩
  · simp
  · simp [maxLen] at hl ⊢
    have : s.data.size = s.size := rfl
    omega
theorem list_choice {α : Type} {p : Nat → α → Prop} : ∀ (n : Nat), (∀ i, i < n → ∃ y, p i y) → ∃ l : List α, l.length = n ∧ ∀ i (h : i < l.length), p i l[i]
  | 0, _ => ⟨[], rfl, fun i h => by simp at h⟩
  | n + 1, h => by
    obtain ⟨l, hl, hp⟩ := list_choice n (fun i hi => h i (by omega))
    obtain ⟨y, hy⟩ := h n (by omega)
    refine ⟨l ++ [y], by simp [hl], fun i hi => ?_⟩
    by_cases hin : i < l.length
    · rw [List.getElem_append_left hin]; exact hp i hin
    · have : i = l.length := by simp at hi; omega
      subst this
      rw [List.getElem_append_right (by omega)]
      simpa [hl] using hy
theorem opens_slice {e : TypeId} {ty : Ty} (ht : P.underlying t = some (.slice e)) (hc : P.cellsOf e = ty.n) (he : Opens P e ty) : Opens P t (.slice ty) := fun H enc w sp fuel cs x h => by
  rcases DataW.trod_slice ht h with ⟨rfl, _⟩ | ⟨a, len, cap, elems, rest, n, rfl, rfl, _, _, hlc, hcm, hel, hget, _, _⟩
  · exact ⟨[], none, 0, rfl, Nat.le_refl _, by simp, fun h => absurd rfl h⟩
  · have hp := ty.n_pos
    have hspot : 0 < len → a.spot = none := fun h0 => by
      have hg := hget 0 h0
      rw [List.getElem?_eq_getElem (by omega)] at hg
      obtain ⟨cs, h1, _⟩ := Option.bind_eq_some_iff.1 hg
      obtain ⟨_, hlen, hcell⟩ := World.cells?_some h1
      rw [hc] at hcell hlen
      have h0 := hcell 0 (by omega)
      rw [List.getElem?_eq_getElem (by omega), add_zero, Nat.zero_mul, add_zero] at h0
      exact World.cell?_spot h0
    have key : ∀ i, i < len → ∃ y, a.spot = none ∧ a.block < w.heap.size ∧ ∃ cs : List Value, cs.length = ty.n ∧ (∀ j v, cs[j]? = some v → w.cell? (a.add (i * ty.n + j)) = some v) ∧ Rd ty (fun b => b < w.heap.size) w cs y := by
      intro i hi
      have hg := hget i hi
      rw [List.getElem?_eq_getElem (by omega)] at hg
      obtain ⟨cs, h1, h2⟩ := Option.bind_eq_some_iff.1 hg
      obtain ⟨_, hlen, hcell⟩ := World.cells?_some h1
      obtain ⟨y, hy⟩ := he H enc w sp n cs _ h2
      rw [hc] at hcell hlen
      have h0 := hcell 0 (by omega)
      rw [List.getElem?_eq_getElem (by omega)] at h0
      have hsp : a.spot = none := hspot (by omega)
      refine ⟨y, hsp, ?_, cs, hlen, fun j v hj => ?_, hy⟩
      · have := cell_lt h0
        rwa [add_block, add_block] at this
      · have hjl := (List.getElem?_eq_some_iff.1 hj).1
        have := hcell j (by omega)
        rw [add_add _ _ _ hsp] at this
        rw [this]; exact hj
    obtain ⟨ys, hl, hy⟩ := list_choice len key
    refine ⟨ys, some a, cap, by rw [hl], by omega, by simp [maxLen] at hcm; omega, fun hne => ?_⟩
    have hpos : 0 < ys.length := List.length_pos_iff.2 hne
    obtain ⟨s0, b0, _⟩ := hy 0 hpos
    exact ⟨a, rfl, s0, b0, fun i hi => (hy i hi).2.2⟩
theorem opens_pair {fs : Array Field} {f1 f2 : Field} {a b : Ty} (ht : P.underlying t = some (.struct fs)) (hf : fs = #[f1, f2]) (hn : P.cellsOf t = a.n + b.n) (o1 : f1.offset = 0) (o2 : f2.offset = a.n) (c1 : P.cellsOf f1.type = a.n) (c2 : P.cellsOf f2.type = b.n)
    (h1 : Opens P f1.type a) (h2 : Opens P f2.type b) : Opens P t (.pair a b) := fun H enc w sp fuel cs x h => by
  subst hf
  obtain ⟨xs, n, _, _, hl, hxl, hx⟩ := DataW.trod_struct ht h
  have g1 := hx 0 f1 rfl
  have g2 := hx 1 f2 rfl
  simp at hxl
  rw [List.getElem?_eq_getElem (by omega), o1, c1] at g1
  rw [List.getElem?_eq_getElem (by omega), o2, c2] at g2
  obtain ⟨y1, hy1⟩ := h1 H enc w sp n _ _ g1
  obtain ⟨y2, hy2⟩ := h2 H enc w sp n _ _ g2
  rw [hn] at hl
  refine ⟨(y1, y2), cs.take a.n, cs.drop a.n, (List.take_append_drop _ _).symm, by simp; omega, by simp; omega, by simpa using hy1, ?_⟩
  rw [List.take_of_length_le (by simp; omega)] at hy2
  exact hy2
theorem opens_three {fs : Array Field} {f1 f2 f3 : Field} {a b c : Ty} (ht : P.underlying t = some (.struct fs)) (hf : fs = #[f1, f2, f3]) (hn : P.cellsOf t = a.n + (b.n + c.n)) (o1 : f1.offset = 0) (o2 : f2.offset = a.n) (o3 : f3.offset = a.n + b.n) (c1 : P.cellsOf f1.type = a.n) (c2 : P.cellsOf f2.type = b.n) (c3 : P.cellsOf f3.type = c.n)
    (h1 : Opens P f1.type a) (h2 : Opens P f2.type b) (h3 : Opens P f3.type c) : Opens P t (.pair a (.pair b c)) := fun H enc w sp fuel cs x h => by
  subst hf
  obtain ⟨xs, n, _, _, hl, hxl, hx⟩ := DataW.trod_struct ht h
  have g1 := hx 0 f1 rfl
  have g2 := hx 1 f2 rfl
  have g3 := hx 2 f3 rfl
  simp at hxl
  rw [List.getElem?_eq_getElem (by omega), o1, c1] at g1
  rw [List.getElem?_eq_getElem (by omega), o2, c2] at g2
  rw [List.getElem?_eq_getElem (by omega), o3, c3] at g3
  obtain ⟨y1, hy1⟩ := h1 H enc w sp n _ _ g1
  obtain ⟨y2, hy2⟩ := h2 H enc w sp n _ _ g2
  obtain ⟨y3, hy3⟩ := h3 H enc w sp n _ _ g3
  rw [hn] at hl
  refine ⟨(y1, y2, y3), cs.take a.n, cs.drop a.n, (List.take_append_drop _ _).symm, by simp; omega, by simp [Ty.n]; omega, by simpa using hy1, (cs.drop a.n).take b.n, (cs.drop a.n).drop b.n, (List.take_append_drop _ _).symm, by simp; omega, by simp; omega, hy2, ?_⟩
  rw [List.take_of_length_le (by simp; omega)] at hy3
  rw [List.drop_drop]
  exact hy3
theorem trodAll_stays {H : Type} {enc : TypeId × Value → H} (hl : laidOutB P = true) {W W' : World} (hb : Below W.heap.size W W') : ∀ {ts : List TypeId} {vs : List Value} {ds : List (DataW H)} {ps : List MemPlace}, (∀ t ∈ ts, P.readableRec t = true ∧ t < P.types.size) →
    DataW.TrodAll enc P W 0 (fun _ => true) true ts vs ds ps → DataW.TrodAll enc P W' 0 (fun b => decide (b < W.heap.size)) true ts vs ds ps
  | [], [], [], _, _, h => h
  | t :: ts, v :: vs, d :: ds, ps, hr, h => by
    obtain ⟨p, q, h1, h2, h3⟩ := h
    refine ⟨p, q, ?_, trodAll_stays hl hb (fun t ht => hr t (List.mem_cons_of_mem _ ht)) h2, h3⟩
    obtain ⟨fuel, hf⟩ := h1
    exact Below.trod hl (hr t (by simp)).1 (hr t (by simp)).2 ⟨fuel, hf⟩ hb (fun x hx => DataW.trod_lt _ _ _ _ hf x hx)
  | [], _ :: _, _, _, _, h => by simp [DataW.TrodAll] at h
  | [], [], _ :: _, _, _, h => by simp [DataW.TrodAll] at h
  | _ :: _, [], _, _, _, h => by simp [DataW.TrodAll] at h
  | _ :: _, _ :: _, [], _, _, h => by simp [DataW.TrodAll] at h
theorem trodAll_len {H : Type} {enc : TypeId × Value → H} {W : World} {base : Nat} {sp : Nat → Bool} {hd : Bool} : ∀ {ts : List TypeId} {vs : List Value} {ds : List (DataW H)} {ps : List MemPlace}, DataW.TrodAll enc P W base sp hd ts vs ds ps → ds.length = ts.length ∧ vs.length = ts.length
  | [], [], [], _, _ => ⟨rfl, rfl⟩
  | t :: ts, v :: vs, d :: ds, _, h => by
    obtain ⟨p, q, _, h2, _⟩ := h
    have := trodAll_len h2
    simp [this]
  | [], _ :: _, _, _, h => by simp [DataW.TrodAll] at h
  | [], [], _ :: _, _, h => by simp [DataW.TrodAll] at h
  | _ :: _, [], _, _, h => by simp [DataW.TrodAll] at h
  | _ :: _, _ :: _, [], _, h => by simp [DataW.TrodAll] at h
theorem Ext.below {w w' : World} (h : Ext w w') : Below w.heap.size w w' := ⟨h.os, h.tape, h.output, h.size, fun k hk => h.keep k hk (fun h => h)⟩
/-- A law: it hands back true, and nothing has turned. -/
theorem law_end {fn : Func} {s : ChangeSpec} {H : Type} {enc : TypeId × Value → H} {W : World} {args : Array Value} {ds gs : List (DataW H)} {before : List MemPlace} {f : FuncId} {tb : TypeId}
    (hW : DataW.Whole enc P fn.params.toList s.vars false W args.toList ds gs before) (hv : s.vars = []) (hs : ∀ ds : List (DataW H), ds.length = fn.params.toList.length → s.fn H ds = { results := [.lit (.bool true)], args := ds })
    (hr : fn.resultTypes = #[tb]) (hb : P.underlying tb = some .bool) (hl : laidOutB P = true) (hp : ∀ t ∈ fn.params.toList, P.readableRec t = true ∧ t < P.types.size)
    (walk : GCalls P f args.toList (fun v w' => v = .bool true ∧ Ext W w') (fun _ _ => False) W) (hfb : ((P.funcs[f]?).bind (·.body)).isSome = true := by kernel_rfl) :
    Calls P f args W fun e w' => ∃ v, e = .returned v ∧ s.post enc P fn false true false false W args v w' := by
  have hw := walk.calls hfb
  rw [Array.toArray_toList] at hw
  refine hw.mono fun e w' he => ?_
  cases e with
  | returned v =>
    obtain ⟨rfl, hE⟩ := he
    refine ⟨_, rfl, ds, gs, before, [], before, [], hW, ?_⟩
    obtain ⟨p, q, hA, hV, rfl, _, _⟩ := hW
    rw [hv] at hV
    cases gs with
    | cons _ _ => simp [DataW.TrodVars] at hV
    | nil =>
    have hq : q = [] := hV
    subst hq
    rw [List.append_nil, hs ds (trodAll_len hA).1, hr]
    simp only [List.append_nil]
    refine ⟨?_, trodAll_stays hl hE.below hp hA, ?_, hE.below.frame _, fun h => by cases h⟩
    · refine ⟨[], [], ⟨1, ?_⟩, rfl, rfl⟩
      simp [DataW.trod, hb, Value.cells]
    · rw [hv]; rfl
  | panicked ch => exact he.elim
  | outgrown => exact he.elim
end Go.G
end
section
set_option maxRecDepth 100000
set_option linter.unusedVariables false
namespace Go.Proofs.Ytkpgmaiklfjjgaa
open Go Go.G Go.ChangeShapes Go.WideShapes Go.ChangeAt Go.RowKit
theorem own : ownKnob Try.prog.godebug = none := by kernel_rfl
theorem opens_four {P : Program} {t : TypeId} {fs : Array Field} {f1 f2 f3 f4 : Field} {a b c d : Ty} (ht : P.underlying t = some (.struct fs)) (hf : fs = #[f1, f2, f3, f4]) (hn : P.cellsOf t = a.n + (b.n + (c.n + d.n))) (o1 : f1.offset = 0) (o2 : f2.offset = a.n) (o3 : f3.offset = a.n + b.n) (o4 : f4.offset = a.n + b.n + c.n) (c1 : P.cellsOf f1.type = a.n) (c2 : P.cellsOf f2.type = b.n) (c3 : P.cellsOf f3.type = c.n) (c4 : P.cellsOf f4.type = d.n)
    (h1 : Opens P f1.type a) (h2 : Opens P f2.type b) (h3 : Opens P f3.type c) (h4 : Opens P f4.type d) : Opens P t (.pair a (.pair b (.pair c d))) := fun H enc w sp fuel cs x h => by
  subst hf
  obtain ⟨xs, n, _, _, hl, hxl, hx⟩ := DataW.trod_struct ht h
  have g1 := hx 0 f1 rfl
  have g2 := hx 1 f2 rfl
  have g3 := hx 2 f3 rfl
  have g4 := hx 3 f4 rfl
  simp at hxl
  rw [List.getElem?_eq_getElem (by omega), o1, c1] at g1
  rw [List.getElem?_eq_getElem (by omega), o2, c2] at g2
  rw [List.getElem?_eq_getElem (by omega), o3, c3] at g3
  rw [List.getElem?_eq_getElem (by omega), o4, c4] at g4
  obtain ⟨y1, hy1⟩ := h1 H enc w sp n _ _ g1
  obtain ⟨y2, hy2⟩ := h2 H enc w sp n _ _ g2
  obtain ⟨y3, hy3⟩ := h3 H enc w sp n _ _ g3
  obtain ⟨y4, hy4⟩ := h4 H enc w sp n _ _ g4
  rw [hn] at hl
  refine ⟨(y1, y2, y3, y4), cs.take a.n, cs.drop a.n, (List.take_append_drop _ _).symm, by simp; omega, by simp [Ty.n]; omega, by simpa using hy1, (cs.drop a.n).take b.n, (cs.drop a.n).drop b.n, (List.take_append_drop _ _).symm, by simp; omega, by simp [Ty.n]; omega, hy2,
    ((cs.drop a.n).drop b.n).take c.n, ((cs.drop a.n).drop b.n).drop c.n, (List.take_append_drop _ _).symm, by simp; omega, by simp; omega, ?_, ?_⟩
  · rw [List.drop_drop]; exact hy3
  · rw [List.take_of_length_le (by simp; omega)] at hy4
    rw [List.drop_drop, List.drop_drop, ← Nat.add_assoc]
    exact hy4
theorem opens_acts : Opens Try.prog 22 (.slice tAct) :=
  opens_slice Try.underlying22 (by kernel_rfl) (opens_four Try.underlying50 rfl (by kernel_rfl) rfl rfl rfl rfl (by kernel_rfl) (by kernel_rfl) (by kernel_rfl) (by kernel_rfl) (opens_int Try.underlying3) (opens_int Try.underlying3) (opens_int Try.underlying3) (opens_str Try.underlying9))
theorem opens_ints : Opens Try.prog 23 (.slice (.int .i64)) := opens_slice Try.underlying23 (by kernel_rfl) (opens_int Try.underlying3)
end Go.Proofs.Ytkpgmaiklfjjgaa
end
