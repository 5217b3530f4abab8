/-
  The rounds of a block, of the program.
-/
import Derived.Test.YtkpgmaiklfjjgaaDoorDf
set_option linter.unusedSimpArgs false
set_option linter.unusedVariables false
namespace Go.Proofs.YtkpgmaiklfjjgaaDoor
open Go Go.G
variable {X : KX} {w : World} {K : KV} {D D' : Nat → Prop}
theorem kTE {w : World} (h : KT w) {i : Nat} (hi : i < kT.length) {K : KP} : pLd (Ext w) (.pointer (some ⟨2, i, none⟩)) K = K (u kT[i]) := eLdE (h i hi)
theorem eIxU {l : List W32} {i : Nat} {K : KP} (hi : i < 64) (hl : l.length = 64) : pIx 64 (.agg ⟨us l⟩) (.int .i64 (i : Int)) K = K (u (l[i]'(by omega))) := by
  have hg : (⟨us l⟩ : Array Value)[((i : Nat) : Int).toNat]? = some (u (l[i]'(by omega))) := by
    rw [Int.toNat_natCast]
    have := us_get (l := l) (i := i) (by omega)
    simpa using this
  apply propext; constructor
  · rintro ⟨cs, k, j, v, e1, e2, h1, h2, h3, h⟩
    cases e1; cases e2
    rw [hg] at h3; cases h3
    exact h
  · intro h
    exact ⟨_, .i64, i, _, rfl, rfl, by omega, by omega, hg, h⟩
theorem eSlA {n size l h m : Nat} {a : Addr} {lo hi mx : Option Value} {K : KP} (hl : bnd 0 lo = some l) (hh : bnd n hi = some h) (hm : bnd n mx = some m) (h1 : l ≤ h) (h2 : h ≤ m) (h3 : m ≤ n) (h4 : mx.isSome = true → hi.isSome = true)
    (k : K (.slice (some (if m = l then a else a.add (l * size))) (h - l) (m - l))) : pSlA n size (.pointer (some a)) lo hi mx K := ⟨a, l, h, m, rfl, hl, hh, hm, h1, h2, h3, h4, k⟩
set_option maxRecDepth 100000 in
set_option maxHeartbeats 2000000 in
theorem Block_c {x2 : Value} {xs : List UInt8} {v : List W32} (hk : KT w) (hv : v.length = 8) (hx : Rd (.slice .byte) D w [x2] xs) (h64 : xs.length = 64) (h : ∀ w', Ext w w' → K (.agg ⟨us (blockF v xs)⟩) w') : GCalls Tryd.prog 134 [.agg ⟨us v⟩, x2] K X w := by
  obtain ⟨a, c, rfl, hc, hl⟩ := hx.form
  rw [h64] at hx
  apply sha_Block.calls; unfold sha_Block.b
  refine boxC (cs := us v) fun g4 w4 hg4 h4 c4 => ?_
  refine boxC (cs := us (List.replicate 8 0)) fun g6 w6 hg6 h6 c6 => ?_
  have l4 := c4.lt; have l6 := c6.lt
  simp only [↓eBinI, ↓eDiv, ↓eShift, ↓eBinS, ↓ePick, ↓eNot, ↓eNeg, ↓eConv, ↓eConvS, ↓eExt0, ↓eExt1, ↓eExt2, ↓eFA, ↓eIA, ↓eLenSl, ↓eCapSl, ↓eLenS, ↓eMin, ↓eMax, ↓eCondT, ↓eCondF, ↓gIf_tt, ↓gIf_ff, ↓gIf_tf, ↓gIf_ft, ↓gIf_u, ↓gIfW_u, ↓gIfW_tt, ↓gIfW_ff, ↓gIfW_tf, ↓gIfW_ft, binI, divI, shiftI, add_mk, Nat.zero_add, cond_true, cond_false, decide_true, decide_false, Bool.not_true, Bool.not_false, Bool.and_true, Bool.true_and, Bool.and_false, Bool.false_and, Int.toNat_natCast, Nat.mul_one, h64, show (((64 : Nat) : Int) != 64) = false from by decide]
  have hw6 := h4.tr h6
  have c4' := c4.ext h6
  rw [c4'.ld (by rw [us_len]; exact hv)]
  refine boxC (cs := us (List.replicate 8 0)) fun g8 w9 hg8 h9 c9 => ?_
  have l9 := c9.lt
  refine c9.uSetN hv (by simp) fun w10 c10 f10 => ?_
  have k10 : Ext w w10 := (hw6.tr h9).tn f10 (fun x hx => by have := hw6.size; omega)
  refine Words_c (hx.ext k10) h64 fun w5 h5 => ?_
  generalize hws : wordsL xs 64 = ws at *
  have hwl : ws.length = 64 := by rw [← hws]; exact wordsL_len _ _
  have hsz := hw6.size
  refine sha_Block.loop1 (fun x20 w' => ∃ i : Nat, i ≤ 64 ∧ x20 = .int .i64 i ∧ Ext w w' ∧ Cs w' g4 (us (rounds ws v i)) ∧ Cs w' g6 (us (List.replicate 8 0)) ∧ Cs w' g8 (us v)) (fun x20 _ => 64 - (iv x20).toNat)
    ⟨0, by omega, rfl, k10.tr h5, ((c4'.ext h9).fr f10 (by omega)).ext h5, ((c6.ext h9).fr f10 (by omega)).ext h5, c10.ext h5⟩ ?_
  clear c4 c6 c9 c10 c4' f10 h4 h5 h6 h9 k10 hw6
  rintro x20 gg w1 ⟨i, hi, rfl, h1, c4, c6, c8⟩
  have hrl := rounds_len (ws := ws) hv i
  unfold sha_Block.b1
  by_cases ci : (i : Int) < 64
  · have hi64 : i < 64 := by omega
    obtain ⟨a0, a1, a2, a3, a4, a5, a6, a7, hr⟩ := eight hrl
    rw [hr] at c4
    have hs : rounds ws v (i + 1) = rnd kT[i] ws[i] [a0, a1, a2, a3, a4, a5, a6, a7] := by rw [rounds, hr, getD_get (by rw [kT_len]; exact hi64), getD_get (by omega)]; rfl
    have e0 : IntKind.i64.wrap ((i : Int) + 1) = ((i + 1 : Nat) : Int) := by rw [wrap64 (by omega) (by omega)]; omega
    simp only [↓eBinI, ↓eDiv, ↓eShift, ↓eBinS, ↓ePick, ↓eNot, ↓eNeg, ↓eConv, ↓eConvS, ↓eExt0, ↓eExt1, ↓eExt2, ↓eFA, ↓eIA, ↓eLenSl, ↓eCapSl, ↓eLenS, ↓eMin, ↓eMax, ↓eCondT, ↓eCondF, ↓gIf_tt, ↓gIf_ff, ↓gIf_tf, ↓gIf_ft, ↓gIf_u, ↓gIfW_u, ↓gIfW_tt, ↓gIfW_ff, ↓gIfW_tf, ↓gIfW_ft, binI, divI, shiftI, add_mk, Nat.zero_add, cond_true, cond_false, decide_true, decide_false, Bool.not_true, Bool.not_false, Bool.and_true, Bool.true_and, Bool.and_false, Bool.false_and, Int.toNat_natCast, Nat.mul_one, ci, ↓eIxU hi64 hwl]
    refine draw_ fun w2 h2 => ?_
    have c4' := c4.ext h2
    obtain ⟨q0, q1, q2, q3, q4, q5, q6, q7⟩ := cs8E c4'
    simp only [↓eBinI, ↓eDiv, ↓eShift, ↓eBinS, ↓ePick, ↓eNot, ↓eNeg, ↓eConv, ↓eConvS, ↓eExt0, ↓eExt1, ↓eExt2, ↓eFA, ↓eIA, ↓eLenSl, ↓eCapSl, ↓eLenS, ↓eMin, ↓eMax, ↓eCondT, ↓eCondF, ↓gIf_tt, ↓gIf_ff, ↓gIf_tf, ↓gIf_ft, ↓gIf_u, ↓gIfW_u, ↓gIfW_tt, ↓gIfW_ff, ↓gIfW_tf, ↓gIfW_ft, binI, divI, shiftI, add_mk, Nat.zero_add, cond_true, cond_false, decide_true, decide_false, Bool.not_true, Bool.not_false, Bool.and_true, Bool.true_and, Bool.and_false, Bool.false_and, Int.toNat_natCast, Nat.mul_one, tn0, tn1, tn2, tn3, tn4, tn5, tn6, tn7, ↓eIAr, ↓q0, ↓q4]
    repeat ((with_reducible refine And.intro ?_ ?_); · first | omega | exact True.intro)
    refine draw_ fun w3 h3 => ?_
    have c4' := c4'.ext h3
    have hk3 := hk.ext ((h1.tr h2).tr h3)
    obtain ⟨q0, q1, q2, q3, q4, q5, q6, q7⟩ := cs8E c4'
    simp only [↓eBinI, ↓eDiv, ↓eShift, ↓eBinS, ↓ePick, ↓eNot, ↓eNeg, ↓eConv, ↓eConvS, ↓eExt0, ↓eExt1, ↓eExt2, ↓eFA, ↓eIA, ↓eLenSl, ↓eCapSl, ↓eLenS, ↓eMin, ↓eMax, ↓eCondT, ↓eCondF, ↓gIf_tt, ↓gIf_ff, ↓gIf_tf, ↓gIf_ft, ↓gIf_u, ↓gIfW_u, ↓gIfW_tt, ↓gIfW_ff, ↓gIfW_tf, ↓gIfW_ft, binI, divI, shiftI, add_mk, Nat.zero_add, cond_true, cond_false, decide_true, decide_false, Bool.not_true, Bool.not_false, Bool.and_true, Bool.true_and, Bool.and_false, Bool.false_and, Int.toNat_natCast, Nat.mul_one, tn0, tn1, tn2, tn3, tn4, tn5, tn6, tn7, ↓eIAr, ↓q5, ↓q6, ↓q7, ↓eUand, ↓eUxor, ↓kTE hk3 (show i < _ by rw [kT_len]; exact hi64)]
    repeat ((with_reducible refine And.intro ?_ ?_); · first | omega | exact True.intro)
    refine right_c (n := 6) (by omega) (by omega) ?_
    refine ⟨Fr.refl _ _, ?_⟩
    refine right_c (n := 11) (by omega) (by omega) ?_
    refine ⟨Fr.refl _ _, ?_⟩
    simp only [↓eUxor]
    refine right_c (n := 25) (by omega) (by omega) ?_
    refine ⟨Fr.refl _ _, ?_⟩
    simp only [↓eUxor, ↓eUadd]
    refine draw_ fun w7 h7 => ?_
    have c4' := c4'.ext h7
    obtain ⟨q0, q1, q2, q3, q4, q5, q6, q7⟩ := cs8E c4'
    simp only [↓eBinI, ↓eDiv, ↓eShift, ↓eBinS, ↓ePick, ↓eNot, ↓eNeg, ↓eConv, ↓eConvS, ↓eExt0, ↓eExt1, ↓eExt2, ↓eFA, ↓eIA, ↓eLenSl, ↓eCapSl, ↓eLenS, ↓eMin, ↓eMax, ↓eCondT, ↓eCondF, ↓gIf_tt, ↓gIf_ff, ↓gIf_tf, ↓gIf_ft, ↓gIf_u, ↓gIfW_u, ↓gIfW_tt, ↓gIfW_ff, ↓gIfW_tf, ↓gIfW_ft, binI, divI, shiftI, add_mk, Nat.zero_add, cond_true, cond_false, decide_true, decide_false, Bool.not_true, Bool.not_false, Bool.and_true, Bool.true_and, Bool.and_false, Bool.false_and, Int.toNat_natCast, Nat.mul_one, tn0, tn1, tn2, tn3, tn4, tn5, tn6, tn7, ↓eIAr, ↓q1, ↓q2, ↓eUand, ↓eUxor, ↓eUor]
    repeat ((with_reducible refine And.intro ?_ ?_); · first | omega | exact True.intro)
    refine right_c (n := 2) (by omega) (by omega) ?_
    refine ⟨Fr.refl _ _, ?_⟩
    refine right_c (n := 13) (by omega) (by omega) ?_
    refine ⟨Fr.refl _ _, ?_⟩
    simp only [↓eUxor]
    refine right_c (n := 22) (by omega) (by omega) ?_
    refine ⟨Fr.refl _ _, ?_⟩
    simp only [↓eUxor, ↓eUadd]
    refine drawS (· = g4) fun w8 h8 => ?_
    have c4' := c4'.ext h8
    refine eSlA (l := 1) (h := 8) (m := 8) (bnd_int (by omega)) bnd_none bnd_none (by omega) (by omega) (by omega) (by simp) ?_
    refine eSlA (l := 0) (h := 7) (m := 8) bnd_none (bnd_int (by omega)) bnd_none (by omega) (by omega) (by omega) (by simp) ?_
    rw [if_neg (by omega), if_neg (by omega)]
    simp only [add_mk, Nat.zero_add, Nat.mul_one, Nat.zero_mul, add_zero]
    refine c4'.copy (o := 1) (k := 7) (by rfl) (c4'.reads (o := 0) (k := 7) (by simp [us])) (by simp [us]) (by simp [us]) (fun x hx => us_one _ x (List.mem_of_mem_take hx)) fun w9 c9 f9 => ?_
    have c9 : Cs w9 g4 (us [a0, a0, a1, a2, a3, a4, a5, a6]) := c9
    refine ⟨f9, ?_⟩
    try simp only [↓eBinI, ↓eDiv, ↓eShift, ↓eBinS, ↓ePick, ↓eNot, ↓eNeg, ↓eConv, ↓eConvS, ↓eExt0, ↓eExt1, ↓eExt2, ↓eFA, ↓eIA, ↓eLenSl, ↓eCapSl, ↓eLenS, ↓eMin, ↓eMax, ↓eCondT, ↓eCondF, ↓gIf_tt, ↓gIf_ff, ↓gIf_tf, ↓gIf_ft, ↓gIf_u, ↓gIfW_u, ↓gIfW_tt, ↓gIfW_ff, ↓gIfW_tf, ↓gIfW_ft, binI, divI, shiftI, add_mk, Nat.zero_add, cond_true, cond_false, decide_true, decide_false, Bool.not_true, Bool.not_false, Bool.and_true, Bool.true_and, Bool.and_false, Bool.false_and, Int.toNat_natCast, Nat.mul_one, tn0, tn4, ↓eIAr, ↓eUadd]
    repeat ((with_reducible refine And.intro ?_ ?_); · first | omega | exact True.intro)
    refine c9.uSet (i := 0) (by simp) fun w10 c10 f10 => ?_
    simp only [List.set_cons_zero] at c10
    obtain ⟨q0, q1, q2, q3, q4, q5, q6, q7⟩ := cs8W c10
    simp only [↓eBinI, ↓eDiv, ↓eShift, ↓eBinS, ↓ePick, ↓eNot, ↓eNeg, ↓eConv, ↓eConvS, ↓eExt0, ↓eExt1, ↓eExt2, ↓eFA, ↓eIA, ↓eLenSl, ↓eCapSl, ↓eLenS, ↓eMin, ↓eMax, ↓eCondT, ↓eCondF, ↓gIf_tt, ↓gIf_ff, ↓gIf_tf, ↓gIf_ft, ↓gIf_u, ↓gIfW_u, ↓gIfW_tt, ↓gIfW_ff, ↓gIfW_tf, ↓gIfW_ft, binI, divI, shiftI, add_mk, Nat.zero_add, cond_true, cond_false, decide_true, decide_false, Bool.not_true, Bool.not_false, Bool.and_true, Bool.true_and, Bool.and_false, Bool.false_and, Int.toNat_natCast, Nat.mul_one, tn0, tn4, ↓eIAr, ↓q4, ↓eUadd]
    repeat ((with_reducible refine And.intro ?_ ?_); · first | omega | exact True.intro)
    refine c10.uSet (i := 4) (by simp) fun w11 c11 f11 => ?_
    simp only [List.set_cons_succ, List.set_cons_zero] at c11
    simp only [↓eBinI, ↓eDiv, ↓eShift, ↓eBinS, ↓ePick, ↓eNot, ↓eNeg, ↓eConv, ↓eConvS, ↓eExt0, ↓eExt1, ↓eExt2, ↓eFA, ↓eIA, ↓eLenSl, ↓eCapSl, ↓eLenS, ↓eMin, ↓eMax, ↓eCondT, ↓eCondF, ↓gIf_tt, ↓gIf_ff, ↓gIf_tf, ↓gIf_ft, ↓gIf_u, ↓gIfW_u, ↓gIfW_tt, ↓gIfW_ff, ↓gIfW_tf, ↓gIfW_ft, binI, divI, shiftI, add_mk, Nat.zero_add, cond_true, cond_false, decide_true, decide_false, Bool.not_true, Bool.not_false, Bool.and_true, Bool.true_and, Bool.and_false, Bool.false_and, Int.toNat_natCast, Nat.mul_one, e0]
    have h28 := ((h2.tr h3).tr h7).tr h8
    have f811 : Fr (· = g4) w8 w11 := (f9.trans f10 (fun _ _ h => h)).trans f11 (fun _ _ h => h)
    refine sha_Block.leaf1 ⟨i + 1, by omega, rfl, (h1.tr h28).tn f811 (fun x hx => by omega), ?_, (c6.ext h28).fr f811 (by omega), (c8.ext h28).fr f811 (by omega)⟩ (by simp only [iv]; omega)
    rw [hs]
    simp only [ch_eq, maj_eq] at c11
    exact c11
  · simp only [↓eBinI, ↓eDiv, ↓eShift, ↓eBinS, ↓ePick, ↓eNot, ↓eNeg, ↓eConv, ↓eConvS, ↓eExt0, ↓eExt1, ↓eExt2, ↓eFA, ↓eIA, ↓eLenSl, ↓eCapSl, ↓eLenS, ↓eMin, ↓eMax, ↓eCondT, ↓eCondF, ↓gIf_tt, ↓gIf_ff, ↓gIf_tf, ↓gIf_ft, ↓gIf_u, ↓gIfW_u, ↓gIfW_tt, ↓gIfW_ff, ↓gIfW_tf, ↓gIfW_ft, binI, divI, shiftI, add_mk, Nat.zero_add, cond_true, cond_false, decide_true, decide_false, Bool.not_true, Bool.not_false, Bool.and_true, Bool.true_and, Bool.and_false, Bool.false_and, Int.toNat_natCast, Nat.mul_one, ci]
    have : i = 64 := by omega
    subst this
    refine sha_Block.loop2 (fun x14 w' => ∃ i : Nat, i ≤ 8 ∧ x14 = .int .i64 i ∧ Ext w w' ∧ Cs w' g8 (us v) ∧ Cs w' g6 (us (List.replicate 8 0)) ∧ Cs w' g4 (us (adds (rounds ws v 64) v i))) (fun x14 _ => 8 - (iv x14).toNat) ⟨0, by omega, rfl, h1, c8, c6, c4⟩ ?_
    rintro x14 gg2 w2 ⟨i, hi, rfl, h2, c4, c6, c8⟩
    unfold sha_Block.b2
    have hal := adds_len hrl hv hi
    by_cases ci : (i : Int) < 8
    · have e0 : IntKind.i64.wrap ((i : Int) + 1) = ((i + 1 : Nat) : Int) := by rw [wrap64 (by omega) (by omega)]; omega
      simp only [↓eBinI, ↓eDiv, ↓eShift, ↓eBinS, ↓ePick, ↓eNot, ↓eNeg, ↓eConv, ↓eConvS, ↓eExt0, ↓eExt1, ↓eExt2, ↓eFA, ↓eIA, ↓eLenSl, ↓eCapSl, ↓eLenS, ↓eMin, ↓eMax, ↓eCondT, ↓eCondF, ↓gIf_tt, ↓gIf_ff, ↓gIf_tf, ↓gIf_ft, ↓gIf_u, ↓gIfW_u, ↓gIfW_tt, ↓gIfW_ff, ↓gIfW_tf, ↓gIfW_ft, binI, divI, shiftI, add_mk, Nat.zero_add, cond_true, cond_false, decide_true, decide_false, Bool.not_true, Bool.not_false, Bool.and_true, Bool.true_and, Bool.and_false, Bool.false_and, Int.toNat_natCast, Nat.mul_one, ci]
      refine draw_ fun w3 h3 => ?_
      have c8 := c8.ext h3
      have c4' := c4.ext h3
      simp only [↓eBinI, ↓eDiv, ↓eShift, ↓eBinS, ↓ePick, ↓eNot, ↓eNeg, ↓eConv, ↓eConvS, ↓eExt0, ↓eExt1, ↓eExt2, ↓eFA, ↓eIA, ↓eLenSl, ↓eCapSl, ↓eLenS, ↓eMin, ↓eMax, ↓eCondT, ↓eCondF, ↓gIf_tt, ↓gIf_ff, ↓gIf_tf, ↓gIf_ft, ↓gIf_u, ↓gIfW_u, ↓gIfW_tt, ↓gIfW_ff, ↓gIfW_tf, ↓gIfW_ft, binI, divI, shiftI, add_mk, Nat.zero_add, cond_true, cond_false, decide_true, decide_false, Bool.not_true, Bool.not_false, Bool.and_true, Bool.true_and, Bool.and_false, Bool.false_and, Int.toNat_natCast, Nat.mul_one, ↓eIAr, ↓c8.uE (show i < _ by omega), ↓c4'.uE (show i < _ by omega), ↓eUadd]
      repeat ((with_reducible refine And.intro ?_ ?_); · first | omega | exact True.intro)
      refine c8.uSet (by omega) fun w4 c4'' f4 => ?_
      refine anew_ ?_
      simp only [↓eBinI, ↓eDiv, ↓eShift, ↓eBinS, ↓ePick, ↓eNot, ↓eNeg, ↓eConv, ↓eConvS, ↓eExt0, ↓eExt1, ↓eExt2, ↓eFA, ↓eIA, ↓eLenSl, ↓eCapSl, ↓eLenS, ↓eMin, ↓eMax, ↓eCondT, ↓eCondF, ↓gIf_tt, ↓gIf_ff, ↓gIf_tf, ↓gIf_ft, ↓gIf_u, ↓gIfW_u, ↓gIfW_tt, ↓gIfW_ff, ↓gIfW_tf, ↓gIfW_ft, binI, divI, shiftI, add_mk, Nat.zero_add, cond_true, cond_false, decide_true, decide_false, Bool.not_true, Bool.not_false, Bool.and_true, Bool.true_and, Bool.and_false, Bool.false_and, Int.toNat_natCast, Nat.mul_one, e0]
      refine sha_Block.leaf2 ⟨i + 1, by omega, rfl, (h2.tr h3).tn f4 (fun x hx => by omega), c4'.fr f4 (by omega), (c6.ext h3).fr f4 (by omega), ?_⟩ (by simp only [iv]; omega)
      rw [adds_get hrl hv (by omega) (by omega), adds_set hrl hv (by omega)] at c4''
      exact c4''
    · simp only [↓eBinI, ↓eDiv, ↓eShift, ↓eBinS, ↓ePick, ↓eNot, ↓eNeg, ↓eConv, ↓eConvS, ↓eExt0, ↓eExt1, ↓eExt2, ↓eFA, ↓eIA, ↓eLenSl, ↓eCapSl, ↓eLenS, ↓eMin, ↓eMax, ↓eCondT, ↓eCondF, ↓gIf_tt, ↓gIf_ff, ↓gIf_tf, ↓gIf_ft, ↓gIf_u, ↓gIfW_u, ↓gIfW_tt, ↓gIfW_ff, ↓gIfW_tf, ↓gIfW_ft, binI, divI, shiftI, add_mk, Nat.zero_add, cond_true, cond_false, decide_true, decide_false, Bool.not_true, Bool.not_false, Bool.and_true, Bool.true_and, Bool.and_false, Bool.false_and, Int.toNat_natCast, Nat.mul_one, ci]
      have : i = 8 := by omega
      subst this
      have e : adds (rounds ws v 64) v 8 = blockF v xs := by
        rw [adds, blockF, hws, List.drop_of_length_le (by omega), List.take_of_length_le (by simp [addF, hrl, hv]), List.append_nil]
      rw [e] at c8
      have hbl := blockF_len (b := xs) hv
      rw [c8.ld (by rw [us_len]; exact hbl)]
      refine c6.uSetN hbl (by simp) fun w3 c3 f3 => ?_
      rw [c3.ld (by rw [us_len]; exact hbl)]
      exact h _ (h2.tn f3 (fun x hx => by omega))
end Go.Proofs.YtkpgmaiklfjjgaaDoor
