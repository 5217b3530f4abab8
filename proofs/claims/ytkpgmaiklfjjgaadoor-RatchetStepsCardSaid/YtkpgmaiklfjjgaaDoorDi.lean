/-
  The reference's sum.
-/
import Derived.Test.YtkpgmaiklfjjgaaDoorDh
set_option linter.unusedSimpArgs false
set_option linter.unusedVariables false
namespace Go.Proofs.YtkpgmaiklfjjgaaDoor
open Go Go.G
variable {X : KX} {w : World} {K : KV} {D D' : Nat → Prop}
theorem allF_mod (b : List UInt8) : (allF b).length % 64 = 0 := by
  rw [allF_len]; unfold zs; omega
set_option maxRecDepth 100000 in
set_option maxHeartbeats 1000000 in
theorem ref_Sum_c {x : Value} {b : List UInt8} (hx : Rd (.slice .byte) D w [x] b) (hb : b.length ≤ 100000) (h : ∀ v w', Ext w w' → Own .byte (fun _ => False) w.heap.size w' v (sumF b) → K v w') : GCalls Tryd.prog 93 [x] K X w := by
  obtain ⟨a, c, rfl, hc, hl⟩ := hx.form
  apply oublietteref07_Sum.calls; unfold oublietteref07_Sum.b
  refine Table_c fun w1 h1 => ?_
  refine boxC (cs := us (List.replicate 64 0)) fun g3 w2 hg3 h2 c2 => ?_
  have l3 := c2.lt
  refine c2.uSetN (l' := kT) rfl rfl fun w3 c3 f3 => ?_
  have k3 : Ext w w3 := (h1.tr h2).tn f3 (fun x hx => by have := h1.size; omega)
  refine ⟨us firstF, rfl, ?_⟩
  refine boxC (cs := us (List.replicate 8 0)) fun g4 w4 hg4 h4 c4 => ?_
  have l4 := c4.lt
  have hz3 := f3.size
  refine c4.uSetN (l' := firstF) rfl rfl fun w5 c5 f5 => ?_
  have k5 : Ext w w5 := (k3.tr h4).tn f5 (fun x hx => by have := k3.size; omega)
  have c35 : Cs w5 g3 (us kT) := (c3.ext h4).fr f5 (by omega)
  simp only [↓eBinI, ↓eDiv, ↓eShift, ↓eBinS, ↓ePick, ↓eNot, ↓eNeg, ↓eConv, ↓eConvS, ↓eExt0, ↓eExt1, ↓eExt2, ↓eFA, ↓eIA, ↓eLenSl, ↓eCapSl, ↓eLenS, ↓eMin, ↓eMax, ↓eCondT, ↓eCondF, ↓gIf_tt, ↓gIf_ff, ↓gIf_tf, ↓gIf_ft, ↓gIf_u, ↓gIfW_u, ↓gIfW_tt, ↓gIfW_ff, ↓gIfW_tf, ↓gIfW_ft, binI, divI, shiftI, add_mk, Nat.zero_add, cond_true, cond_false, decide_true, decide_false, Bool.not_true, Bool.not_false, Bool.and_true, Bool.true_and, Bool.and_false, Bool.false_and, Int.toNat_natCast, Nat.mul_one]
  refine ref_Pad7_c hb fun v6 w6 h6 o6 => ?_
  have hpl := padS_len b.length
  have hzl := zs_lt b.length
  refine ref01_Join_c (hx.ext (k5.tr h6)) (o6.rd2 (D' := fun _ => True) (fun _ _ => trivial) (fun _ _ _ _ => trivial) (show (padS b.length).length < _ by omega)) (by show b.length + (padS b.length).length ≤ _; omega) fun v7 w7 h7 o7 => ?_
  have hal : (allF b).length = b.length + (1 + zs b.length + 8) := allF_len b
  have ham := allF_mod b
  change Own .byte (fun _ => False) w6.heap.size w7 v7 (allF b) at o7
  have k7 := (k5.tr h6).tr h7
  have s5 := f5.size; have s6 := h6.size; have sk := k3.size
  obtain ⟨a7, c7, rfl, hc7⟩ := o7.form
  refine oublietteref07_Sum.loop1 (fun x6 w' => ∃ n : Nat, 64 * n ≤ (allF b).length ∧ x6 = .int .i64 ((64 * n : Nat) : Int) ∧ Ext w w' ∧ Cs w' g3 (us kT) ∧ Cs w' g4 (us (hs (allF b) n)) ∧ Own .byte (fun _ => False) w6.heap.size w' (.slice a7 (allF b).length c7) (allF b)) (fun x6 _ => ((allF b).length - iv x6).toNat)
    ⟨0, by omega, rfl, k7, (c35.ext h6).ext h7, (c5.ext h6).ext h7, o7⟩ ?_
  clear c2 c3 c4 c5 c35 o7 o6 f3 f5 h1 h2 h4 h6 h7 k3 k5 k7
  rintro x6 gg w1 ⟨n, hn, rfl, h1, c3, c4, o1⟩
  unfold oublietteref07_Sum.b1
  have hhl := hs_len (allF b) n
  have e1 : IntKind.i64.wrap (((64 * n : Nat) : Int) + 64) = ((64 * n + 64 : Nat) : Int) := by rw [wrap64 (by omega) (by omega)]; omega
  simp only [↓eBinI, ↓eDiv, ↓eShift, ↓eBinS, ↓ePick, ↓eNot, ↓eNeg, ↓eConv, ↓eConvS, ↓eExt0, ↓eExt1, ↓eExt2, ↓eFA, ↓eIA, ↓eLenSl, ↓eCapSl, ↓eLenS, ↓eMin, ↓eMax, ↓eCondT, ↓eCondF, ↓gIf_tt, ↓gIf_ff, ↓gIf_tf, ↓gIf_ft, ↓gIf_u, ↓gIfW_u, ↓gIfW_tt, ↓gIfW_ff, ↓gIfW_tf, ↓gIfW_ft, binI, divI, shiftI, add_mk, Nat.zero_add, cond_true, cond_false, decide_true, decide_false, Bool.not_true, Bool.not_false, Bool.and_true, Bool.true_and, Bool.and_false, Bool.false_and, Int.toNat_natCast, Nat.mul_one, e1]
  by_cases cn : ((64 * n + 64 : Nat) : Int) ≤ ((allF b).length : Int)
  · have e2 : (((64 * n + 64 : Nat) : Int) ≤ ((allF b).length : Int)) = True := eq_true cn
    simp only [↓eBinI, ↓eDiv, ↓eShift, ↓eBinS, ↓ePick, ↓eNot, ↓eNeg, ↓eConv, ↓eConvS, ↓eExt0, ↓eExt1, ↓eExt2, ↓eFA, ↓eIA, ↓eLenSl, ↓eCapSl, ↓eLenS, ↓eMin, ↓eMax, ↓eCondT, ↓eCondF, ↓gIf_tt, ↓gIf_ff, ↓gIf_tf, ↓gIf_ft, ↓gIf_u, ↓gIfW_u, ↓gIfW_tt, ↓gIfW_ff, ↓gIfW_tf, ↓gIfW_ft, binI, divI, shiftI, add_mk, Nat.zero_add, cond_true, cond_false, decide_true, decide_false, Bool.not_true, Bool.not_false, Bool.and_true, Bool.true_and, Bool.and_false, Bool.false_and, Int.toNat_natCast, Nat.mul_one, e2]
    refine draw_ fun w2 h2 => ?_
    rw [(c3.ext h2).ldE (n := 64) rfl, (c4.ext h2).ldE (n := 8) (by rw [us_len]; exact hhl)]
    refine eSl (l := 64 * n) (h := 64 * n + 64) (m := c7) (bnd_int (by omega)) (bnd_int (by omega)) bnd_none (by omega) (by omega) (by omega) (by simp) ?_
    have hr := (o1.ext h2).rd2 (D' := fun _ => True) (fun _ _ => trivial) (fun _ _ _ _ => trivial) (show (allF b).length < _ by omega)
    have hcut := hr.cut (l := 64 * n) (e := 64 * n + 64) (m := c7) (by omega) (by omega) (by omega) (Nat.le_refl _)
    refine With_c hhl hcut (by rw [List.length_drop, List.length_take]; omega) fun w3 h3 => ?_
    refine anew_ ?_
    refine ((c4.ext h2).ext h3).uSetN (l' := hs (allF b) (n + 1)) (by rw [hs_len, hs_len]) hhl fun w4 c5 f4 => ?_
    refine anew_ ?_
    have e3 : IntKind.i64.wrap (((64 * n : Nat) : Int) + 64) = ((64 * (n + 1) : Nat) : Int) := by rw [e1]; omega
    try simp only [↓eBinI, ↓eDiv, ↓eShift, ↓eBinS, ↓ePick, ↓eNot, ↓eNeg, ↓eConv, ↓eConvS, ↓eExt0, ↓eExt1, ↓eExt2, ↓eFA, ↓eIA, ↓eLenSl, ↓eCapSl, ↓eLenS, ↓eMin, ↓eMax, ↓eCondT, ↓eCondF, ↓gIf_tt, ↓gIf_ff, ↓gIf_tf, ↓gIf_ft, ↓gIf_u, ↓gIfW_u, ↓gIfW_tt, ↓gIfW_ff, ↓gIfW_tf, ↓gIfW_ft, binI, divI, shiftI, add_mk, Nat.zero_add, cond_true, cond_false, decide_true, decide_false, Bool.not_true, Bool.not_false, Bool.and_true, Bool.true_and, Bool.and_false, Bool.false_and, Int.toNat_natCast, Nat.mul_one, e1]
    refine oublietteref07_Sum.leaf1 ⟨n + 1, by omega, by congr 1, (h1.tr (h2.tr h3)).tn f4 (fun x hx => by omega), (c3.ext (h2.tr h3)).fr f4 (by omega), c5, (o1.ext (h2.tr h3)).fr f4 (fun _ h => h.elim) (fun b' hb' hB => by omega)⟩ (by simp only [iv]; omega)
  · have e2 : (((64 * n + 64 : Nat) : Int) ≤ ((allF b).length : Int)) = False := eq_false cn
    simp only [↓eBinI, ↓eDiv, ↓eShift, ↓eBinS, ↓ePick, ↓eNot, ↓eNeg, ↓eConv, ↓eConvS, ↓eExt0, ↓eExt1, ↓eExt2, ↓eFA, ↓eIA, ↓eLenSl, ↓eCapSl, ↓eLenS, ↓eMin, ↓eMax, ↓eCondT, ↓eCondF, ↓gIf_tt, ↓gIf_ff, ↓gIf_tf, ↓gIf_ft, ↓gIf_u, ↓gIfW_u, ↓gIfW_tt, ↓gIfW_ff, ↓gIfW_tf, ↓gIfW_ft, binI, divI, shiftI, add_mk, Nat.zero_add, cond_true, cond_false, decide_true, decide_false, Bool.not_true, Bool.not_false, Bool.and_true, Bool.true_and, Bool.and_false, Bool.false_and, Int.toNat_natCast, Nat.mul_one, e2]
    have hn' : n = (allF b).length / 64 := by omega
    refine oublietteref07_Sum.loop2 (fun x7 x8 w' => ∃ i : Nat, i ≤ 8 ∧ x8 = .int .i64 i ∧ Ext w w' ∧ Cs w' g4 (us (hs (allF b) n)) ∧ Own .byte (fun _ => False) w.heap.size w' x7 (outF ((hs (allF b) n).take i)) ∧ (∀ g, Blk x7 g → g4 < g)) (fun _ x8 _ => 8 - (iv x8).toNat)
      ⟨0, by omega, rfl, h1, c4, Own.nil, by rintro g ⟨_, _, _, h, _⟩; cases h⟩ ?_
    rintro x7 x8 gg2 w2 ⟨i, hi, rfl, h2, c4, o2, hg⟩
    unfold oublietteref07_Sum.b2
    by_cases ci : (i : Int) < 8
    · have e0 : IntKind.i64.wrap ((i : Int) + 1) = ((i + 1 : Nat) : Int) := by rw [wrap64 (by omega) (by omega)]; omega
      have hlt : ((hs (allF b) n)[i]'(by omega)).toNat < 4294967296 := ((hs (allF b) n)[i]'(by omega)).isLt
      have e5 : IntKind.u64.wrap ((((hs (allF b) n)[i]'(by omega)).toNat : Nat) : Int) = ((((hs (allF b) n)[i]'(by omega)).toNat : Nat) : Int) := wrapU64 (by omega) (by omega)
      simp only [↓eBinI, ↓eDiv, ↓eShift, ↓eBinS, ↓ePick, ↓eNot, ↓eNeg, ↓eConv, ↓eConvS, ↓eExt0, ↓eExt1, ↓eExt2, ↓eFA, ↓eIA, ↓eLenSl, ↓eCapSl, ↓eLenS, ↓eMin, ↓eMax, ↓eCondT, ↓eCondF, ↓gIf_tt, ↓gIf_ff, ↓gIf_tf, ↓gIf_ft, ↓gIf_u, ↓gIfW_u, ↓gIfW_tt, ↓gIfW_ff, ↓gIfW_tf, ↓gIfW_ft, binI, divI, shiftI, add_mk, Nat.zero_add, cond_true, cond_false, decide_true, decide_false, Bool.not_true, Bool.not_false, Bool.and_true, Bool.true_and, Bool.and_false, Bool.false_and, Int.toNat_natCast, Nat.mul_one, ci, ↓eIAr, ↓c4.uW (show i < _ by omega), ↓eU64]
      repeat ((with_reducible refine And.intro ?_ ?_); · first | omega | exact True.intro)
      refine ref_Put_c (s := 4) (by omega) (by omega) (by omega) fun v3 w3 h3 o3 => ?_
      have hp := putF_len 4 ((hs (allF b) n)[i]'(by omega)).toNat
      have hol := outF_len ((hs (allF b) n).take i)
      have htl : ((hs (allF b) n).take i).length = i := by rw [List.length_take]; omega
      have l4 := c4.lt
      refine (o2.ext h3).cat (h2.tr h3).size (fun h => h) rfl rfl (o3.rd2 (D' := fun _ => True) (fun _ _ => trivial) (fun _ _ _ _ => trivial) (show (putF _ 4).length < _ by omega)) (fun cs h => h.flat rfl) (by show (2 * ((outF _).length + (putF _ 4).length) + 192) * 1 ≤ _; omega) fun v w4 hv hf hbk => ?_
      try simp only [↓eBinI, ↓eDiv, ↓eShift, ↓eBinS, ↓ePick, ↓eNot, ↓eNeg, ↓eConv, ↓eConvS, ↓eExt0, ↓eExt1, ↓eExt2, ↓eFA, ↓eIA, ↓eLenSl, ↓eCapSl, ↓eLenS, ↓eMin, ↓eMax, ↓eCondT, ↓eCondF, ↓gIf_tt, ↓gIf_ff, ↓gIf_tf, ↓gIf_ft, ↓gIf_u, ↓gIfW_u, ↓gIfW_tt, ↓gIfW_ff, ↓gIfW_tf, ↓gIfW_ft, binI, divI, shiftI, add_mk, Nat.zero_add, cond_true, cond_false, decide_true, decide_false, Bool.not_true, Bool.not_false, Bool.and_true, Bool.true_and, Bool.and_false, Bool.false_and, Int.toNat_natCast, Nat.mul_one, e0]
      refine oublietteref07_Sum.leaf2 ⟨i + 1, by omega, rfl, (h2.tr h3).tn hf (fun x hx => hx.2), (c4.ext h3).fr hf (fun hx => by have := hg _ hx.1; omega), ?_, ?_⟩ (by simp only [iv]; omega)
      · rw [List.take_succ_eq_append_getElem (by omega), outF_snoc]; exact hv
      · intro g hgb
        rcases hbk g hgb with h | h
        · exact hg g h
        · have := h3.size; omega
    · simp only [↓eBinI, ↓eDiv, ↓eShift, ↓eBinS, ↓ePick, ↓eNot, ↓eNeg, ↓eConv, ↓eConvS, ↓eExt0, ↓eExt1, ↓eExt2, ↓eFA, ↓eIA, ↓eLenSl, ↓eCapSl, ↓eLenS, ↓eMin, ↓eMax, ↓eCondT, ↓eCondF, ↓gIf_tt, ↓gIf_ff, ↓gIf_tf, ↓gIf_ft, ↓gIf_u, ↓gIfW_u, ↓gIfW_tt, ↓gIfW_ff, ↓gIfW_tf, ↓gIfW_ft, binI, divI, shiftI, add_mk, Nat.zero_add, cond_true, cond_false, decide_true, decide_false, Bool.not_true, Bool.not_false, Bool.and_true, Bool.true_and, Bool.and_false, Bool.false_and, Int.toNat_natCast, Nat.mul_one, ci]
      have : i = 8 := by omega
      subst this
      rw [List.take_of_length_le (by omega), hn'] at o2
      exact h _ _ h2 o2
end Go.Proofs.YtkpgmaiklfjjgaaDoor
