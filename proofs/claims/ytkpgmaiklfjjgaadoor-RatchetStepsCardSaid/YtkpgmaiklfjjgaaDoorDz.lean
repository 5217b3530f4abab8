/-
  Two chains that are the same; the steps of a chain.
-/
import Derived.Test.YtkpgmaiklfjjgaaDoorDy
set_option linter.unusedSimpArgs false
set_option linter.unusedVariables false
namespace Go.Proofs.YtkpgmaiklfjjgaaDoor
open Go Go.G Go.RowKit
variable {X : KX} {w : World} {K : KV} {D D' D2 D3 : Nat → Prop}
theorem bne_self (n : Int) : (n != n) = false := by simp
theorem SameT_c {gen : Int} {vc vs uc us : Value} {cur : List UInt8} {sk : List (Int × List UInt8)} (hc : Rd (.slice .byte) D w [vc] cur) (hv : Rd (.slice tSkip) D' w [vs] sk) (gc : Rd (.slice .byte) D2 w [uc] cur) (gv : Rd (.slice tSkip) D3 w [us] sk)
    (h : ∀ w', Ext w w' → K (.bool true) w') : GCalls Tryd.prog 17 [chainV gen vc vs, chainV gen uc us] K X w := by
  obtain ⟨a1, c1, rfl, _, _⟩ := hc.form
  obtain ⟨a2, c2, rfl, _, _⟩ := gc.form
  obtain ⟨a3, c3, rfl, _, _⟩ := hv.form
  obtain ⟨a4, c4, rfl, _, _⟩ := gv.form
  apply oublietteref22_SameChain.calls; unfold oublietteref22_SameChain.b
  refine boxC (cs := [.int .i64 gen, .slice a1 cur.length c1, .slice a3 sk.length c3]) fun g1 w1 hg1 h1 b1 => ?_
  refine boxC (cs := [.int .i64 gen, .slice a2 cur.length c2, .slice a4 sk.length c4]) fun g2 w2 hg2 h2 b2 => ?_
  have h12 := h1.tr h2
  have b1 := b1.ext h2
  simp only [↓eBinI, ↓eDiv, ↓eShift, ↓eBinS, ↓ePick, ↓eNot, ↓eNeg, ↓eConv, ↓eConvS, ↓eExt0, ↓eExt1, ↓eExt2, ↓eFA, ↓eIA, ↓eLenSl, ↓eCapSl, ↓eLenS, ↓eMin, ↓eMax, ↓eCondT, ↓eCondF, ↓gIf_tt, ↓gIf_ff, ↓gIf_tf, ↓gIf_ft, ↓gIf_u, ↓gIfW_u, ↓gIfW_tt, ↓gIfW_ff, ↓gIfW_tf, ↓gIfW_ft, binI, divI, shiftI, add_mk, Nat.zero_add, cond_true, cond_false, decide_true, decide_false, Bool.not_true, Bool.not_false, Bool.and_true, Bool.true_and, Bool.and_false, Bool.false_and, Int.toNat_natCast, Nat.mul_one, ↓b1.c0, ↓b2.c0, bne_self, ↓b1.c1, ↓b2.c1]
  refine Same_c (hc.ext h12) (gc.ext h12) fun w3 h3 => ?_
  have h13 := h12.tr h3
  have b1 := b1.ext h3
  have b2 := b2.ext h3
  simp only [decide_true]
  simp only [↓eBinI, ↓eDiv, ↓eShift, ↓eBinS, ↓ePick, ↓eNot, ↓eNeg, ↓eConv, ↓eConvS, ↓eExt0, ↓eExt1, ↓eExt2, ↓eFA, ↓eIA, ↓eLenSl, ↓eCapSl, ↓eLenS, ↓eMin, ↓eMax, ↓eCondT, ↓eCondF, ↓gIf_tt, ↓gIf_ff, ↓gIf_tf, ↓gIf_ft, ↓gIf_u, ↓gIfW_u, ↓gIfW_tt, ↓gIfW_ff, ↓gIfW_tf, ↓gIfW_ft, binI, divI, shiftI, add_mk, Nat.zero_add, cond_true, cond_false, decide_true, decide_false, Bool.not_true, Bool.not_false, Bool.and_true, Bool.true_and, Bool.and_false, Bool.false_and, Int.toNat_natCast, Nat.mul_one, ↓b1.c2, ↓b2.c2, bne_self]
  refine oublietteref22_SameChain.loop1 (fun x5 w' => ∃ i : Nat, i ≤ sk.length ∧ x5 = .int .i64 (i : Int) ∧ Ext w3 w') (fun x5 _ => sk.length - (iv x5).toNat) ⟨0, by omega, rfl, Fr.refl _ _⟩ ?_
  rintro x5 gg w4 ⟨i, hi, rfl, h4⟩
  unfold oublietteref22_SameChain.b1
  have b1 := b1.ext h4
  have b2 := b2.ext h4
  by_cases ci : (i : Int) < (sk.length : Int)
  · simp only [↓eBinI, ↓eDiv, ↓eShift, ↓eBinS, ↓ePick, ↓eNot, ↓eNeg, ↓eConv, ↓eConvS, ↓eExt0, ↓eExt1, ↓eExt2, ↓eFA, ↓eIA, ↓eLenSl, ↓eCapSl, ↓eLenS, ↓eMin, ↓eMax, ↓eCondT, ↓eCondF, ↓gIf_tt, ↓gIf_ff, ↓gIf_tf, ↓gIf_ft, ↓gIf_u, ↓gIfW_u, ↓gIfW_tt, ↓gIfW_ff, ↓gIfW_tf, ↓gIfW_ft, binI, divI, shiftI, add_mk, Nat.zero_add, cond_true, cond_false, decide_true, decide_false, Bool.not_true, Bool.not_false, Bool.and_true, Bool.true_and, Bool.and_false, Bool.false_and, Int.toNat_natCast, Nat.mul_one, ↓b1.c2, ci]
    refine draw_ fun w5 h5 => ?_
    have b1 := b1.ext h5
    have b2 := b2.ext h5
    have h15 := (h13.tr h4).tr h5
    obtain ⟨ad, cc, vk, e1, s1, _, q0, q1, r1, _, _⟩ := skipAt (hv.ext h15) (i := i) (by omega)
    obtain ⟨ad', cc', vk', e1', s1', _, q0', q1', r1', _, _⟩ := skipAt (gv.ext h15) (i := i) (by omega)
    simp only [Value.slice.injEq] at e1 e1'
    obtain ⟨rfl, -, rfl⟩ := e1
    obtain ⟨rfl, -, rfl⟩ := e1'
    have ad0 : (ad.add (i * 2)).add 0 = ad.add (i * 2) := by rw [add_add _ _ _ s1]; rfl
    have ad0' : (ad'.add (i * 2)).add 0 = ad'.add (i * 2) := by rw [add_add _ _ _ s1']; rfl
    have e0 : IntKind.i64.wrap ((i : Int) + 1) = ((i + 1 : Nat) : Int) := by rw [wrap64 (by omega) (by omega)]; omega
    simp only [↓eBinI, ↓eDiv, ↓eShift, ↓eBinS, ↓ePick, ↓eNot, ↓eNeg, ↓eConv, ↓eConvS, ↓eExt0, ↓eExt1, ↓eExt2, ↓eFA, ↓eIA, ↓eLenSl, ↓eCapSl, ↓eLenS, ↓eMin, ↓eMax, ↓eCondT, ↓eCondF, ↓gIf_tt, ↓gIf_ff, ↓gIf_tf, ↓gIf_ft, ↓gIf_u, ↓gIfW_u, ↓gIfW_tt, ↓gIfW_ff, ↓gIfW_tf, ↓gIfW_ft, binI, divI, shiftI, add_mk, Nat.zero_add, cond_true, cond_false, decide_true, decide_false, Bool.not_true, Bool.not_false, Bool.and_true, Bool.true_and, Bool.and_false, Bool.false_and, Int.toNat_natCast, Nat.mul_one, ↓b1.e2, ↓b2.e2, ad0, ad0', ↓eLdE q0, ↓eLdE q0', ↓eLdE q1, ↓eLdE q1', bne_self]
    repeat ((with_reducible refine And.intro ?_ ?_); · first | omega | exact True.intro)
    refine Same_c r1 r1' fun w6 h6 => ?_
    refine ⟨h6, ?_⟩
    simp only [decide_true]
    simp only [↓eBinI, ↓eDiv, ↓eShift, ↓eBinS, ↓ePick, ↓eNot, ↓eNeg, ↓eConv, ↓eConvS, ↓eExt0, ↓eExt1, ↓eExt2, ↓eFA, ↓eIA, ↓eLenSl, ↓eCapSl, ↓eLenS, ↓eMin, ↓eMax, ↓eCondT, ↓eCondF, ↓gIf_tt, ↓gIf_ff, ↓gIf_tf, ↓gIf_ft, ↓gIf_u, ↓gIfW_u, ↓gIfW_tt, ↓gIfW_ff, ↓gIfW_tf, ↓gIfW_ft, binI, divI, shiftI, add_mk, Nat.zero_add, cond_true, cond_false, decide_true, decide_false, Bool.not_true, Bool.not_false, Bool.and_true, Bool.true_and, Bool.and_false, Bool.false_and, Int.toNat_natCast, Nat.mul_one, e0]
    exact oublietteref22_SameChain.leaf1 ⟨i + 1, by omega, rfl, (h4.tr h5).tr h6⟩ (by simp only [iv]; omega)
  · simp only [↓eBinI, ↓eDiv, ↓eShift, ↓eBinS, ↓ePick, ↓eNot, ↓eNeg, ↓eConv, ↓eConvS, ↓eExt0, ↓eExt1, ↓eExt2, ↓eFA, ↓eIA, ↓eLenSl, ↓eCapSl, ↓eLenS, ↓eMin, ↓eMax, ↓eCondT, ↓eCondF, ↓gIf_tt, ↓gIf_ff, ↓gIf_tf, ↓gIf_ft, ↓gIf_u, ↓gIfW_u, ↓gIfW_tt, ↓gIfW_ff, ↓gIfW_tf, ↓gIfW_ft, binI, divI, shiftI, add_mk, Nat.zero_add, cond_true, cond_false, decide_true, decide_false, Bool.not_true, Bool.not_false, Bool.and_true, Bool.true_and, Bool.and_false, Bool.false_and, Int.toNat_natCast, Nat.mul_one, ↓b1.c2, ci]
    exact h _ (h13.tr h4)
end Go.Proofs.YtkpgmaiklfjjgaaDoor
