/-
  Where two images are not alike, as the document says it; bytes torn.
-/
import Derived.Test.YtlolomdgchkibaaTa
set_option linter.unusedSimpArgs false
set_option linter.unusedVariables false
namespace Go.Proofs.Ytlolomdgchkibaa
open Go Go.G
variable {X : KX} {w : World} {K : KV} {D D' : Nat → Prop}
theorem ref20_Diff_c {x y : Value} {xs ys : List (List UInt8)} (hx : Rd (.slice (.slice .byte)) D w [x] xs) (hy : Rd (.slice (.slice .byte)) D' w [y] ys) (hl : xs.length ≤ 100000 ∧ ys.length ≤ 100000)
    (h : ∀ v w', Ext w w' → Own (.int .i64) (fun _ => False) w.heap.size w' v (diffF xs ys (max xs.length ys.length)) → K v w') : GCalls Try.prog 14 [x, y] K X w := by
  obtain ⟨a1, c1, rfl, hc1, hl1⟩ := hx.form
  obtain ⟨a2, c2, rfl, hc2, hl2⟩ := hy.form
  apply oublietteref20_Diff.calls; unfold oublietteref20_Diff.b
  have emax : (if (xs.length : Int) < (ys.length : Int) then (ys.length : Int) else (xs.length : Int)) = ((max xs.length ys.length : Nat) : Int) := by split <;> omega
  have hN : max xs.length ys.length ≤ 100000 := by omega
  generalize hNe : max xs.length ys.length = N at *
  refine oublietteref20_Diff.loop1 (fun x5 x6 w' => ∃ i : Nat, i ≤ N ∧ x6 = .int .i64 i ∧ Ext w w' ∧ Own (.int .i64) (fun _ => False) w.heap.size w' x5 (diffF xs ys i)) (fun _ x6 _ => N - (iv x6).toNat) ⟨0, by omega, rfl, Fr.refl _ _, Own.nil⟩ ?_
  rintro x5 x6 gg w1 ⟨i, hi, rfl, h1, ho⟩
  unfold oublietteref20_Diff.b1
  by_cases ci : (i : Int) < (if (xs.length : Int) < (ys.length : Int) then (ys.length : Int) else (xs.length : Int))
  · have ci' := ci
    rw [emax] at ci'
    simp only [↓eBinI, ↓eDiv, ↓eShift, ↓eBinS, ↓ePick, ↓eNot, ↓eNeg, ↓eConv, ↓eConvS, ↓eExt0, ↓eExt1, ↓eExt2, ↓eFA, ↓eIA, ↓eLenSl, ↓eCapSl, ↓eLenS, ↓eMin, ↓eMax, ↓eCondT, ↓eCondF, ↓gIf_tt, ↓gIf_ff, ↓gIf_tf, ↓gIf_ft, ↓gIf_u, ↓gIfW_u, ↓gIfW_tt, ↓gIfW_ff, ↓gIfW_tf, ↓gIfW_ft, binI, divI, shiftI, add_mk, Nat.zero_add, cond_true, cond_false, decide_true, decide_false, Bool.not_true, Bool.not_false, Bool.and_true, Bool.true_and, Bool.and_false, Bool.false_and, Int.toNat_natCast, Nat.mul_one, ci]
    refine draw_ fun w2 h2 => ?_
    have ho2 := ho.ext h2
    have h12 := h1.tr h2
    have push : ∀ (w3 : World) (Kc : Value → KV), Ext w2 w3 → (xs[i]? ≠ ys[i]?) → (∀ r v w', Ext w w' → Own (.int .i64) (fun _ => False) w.heap.size w' v (diffF xs ys (i + 1)) → Kc r v w') →
        pBSlice 3 1 (rowOf [.int .i64 0] 1) [(0, 1, .int .i64 (i : Int))] w3 fun t34 w => pApp 3 1 8 [.int .i64 0] x5 t34 w (Kc t34) := by
      intro w3 Kc h3 hne hk
      refine bslice1 rfl fun r w4 _ h4 br => ?_
      have hdl := @diff_len xs ys i
      refine (ho2.ext (h3.tr h4)).push1 br (x := (i : Int)) (rdI (by omega) (by omega)) (Nat.le_trans h12.size (h3.tr h4).size) (fun h => h) rfl (by omega) fun v' w5 ho' hf' hb' => ?_
      refine hk _ _ _ ((h12.tr (h3.tr h4)).tn hf' (fun x hx => hx.2)) ?_
      rw [diff_succ, if_neg hne]; exact ho'
    by_cases c1' : (i : Int) ≥ (xs.length : Int)
    · simp only [↓eBinI, ↓eDiv, ↓eShift, ↓eBinS, ↓ePick, ↓eNot, ↓eNeg, ↓eConv, ↓eConvS, ↓eExt0, ↓eExt1, ↓eExt2, ↓eFA, ↓eIA, ↓eLenSl, ↓eCapSl, ↓eLenS, ↓eMin, ↓eMax, ↓eCondT, ↓eCondF, ↓gIf_tt, ↓gIf_ff, ↓gIf_tf, ↓gIf_ft, ↓gIf_u, ↓gIfW_u, ↓gIfW_tt, ↓gIfW_ff, ↓gIfW_tf, ↓gIfW_ft, binI, divI, shiftI, add_mk, Nat.zero_add, cond_true, cond_false, decide_true, decide_false, Bool.not_true, Bool.not_false, Bool.and_true, Bool.true_and, Bool.and_false, Bool.false_and, Int.toNat_natCast, Nat.mul_one, c1']
      refine anew_ ?_
      refine push w2 _ (Fr.refl _ _) ?_ fun r v w4 h4 ho4 => ?_
      · rw [List.getElem?_eq_none (by omega), List.getElem?_eq_getElem (by omega)]; simp
      · unfold oublietteref20_Diff.j1
        simp only [↓eBinI, ↓eDiv, ↓eShift, ↓eBinS, ↓ePick, ↓eNot, ↓eNeg, ↓eConv, ↓eConvS, ↓eExt0, ↓eExt1, ↓eExt2, ↓eFA, ↓eIA, ↓eLenSl, ↓eCapSl, ↓eLenS, ↓eMin, ↓eMax, ↓eCondT, ↓eCondF, ↓gIf_tt, ↓gIf_ff, ↓gIf_tf, ↓gIf_ft, ↓gIf_u, ↓gIfW_u, ↓gIfW_tt, ↓gIfW_ff, ↓gIfW_tf, ↓gIfW_ft, binI, divI, shiftI, add_mk, Nat.zero_add, cond_true, cond_false, decide_true, decide_false, Bool.not_true, Bool.not_false, Bool.and_true, Bool.true_and, Bool.and_false, Bool.false_and, Int.toNat_natCast, Nat.mul_one]
        rw [wrap64 (by omega) (by omega)]
        exact oublietteref20_Diff.leaf1 ⟨i + 1, by omega, by simp, h4, ho4⟩ (by simp only [iv]; omega)
    by_cases c2' : (i : Int) ≥ (ys.length : Int)
    · simp only [↓eBinI, ↓eDiv, ↓eShift, ↓eBinS, ↓ePick, ↓eNot, ↓eNeg, ↓eConv, ↓eConvS, ↓eExt0, ↓eExt1, ↓eExt2, ↓eFA, ↓eIA, ↓eLenSl, ↓eCapSl, ↓eLenS, ↓eMin, ↓eMax, ↓eCondT, ↓eCondF, ↓gIf_tt, ↓gIf_ff, ↓gIf_tf, ↓gIf_ft, ↓gIf_u, ↓gIfW_u, ↓gIfW_tt, ↓gIfW_ff, ↓gIfW_tf, ↓gIfW_ft, binI, divI, shiftI, add_mk, Nat.zero_add, cond_true, cond_false, decide_true, decide_false, Bool.not_true, Bool.not_false, Bool.and_true, Bool.true_and, Bool.and_false, Bool.false_and, Int.toNat_natCast, Nat.mul_one, c1', c2']
      refine anew_ ?_
      refine push w2 _ (Fr.refl _ _) ?_ fun r v w4 h4 ho4 => ?_
      · rw [List.getElem?_eq_none (l := ys) (by omega), List.getElem?_eq_getElem (by omega)]; simp
      · unfold oublietteref20_Diff.j1
        simp only [↓eBinI, ↓eDiv, ↓eShift, ↓eBinS, ↓ePick, ↓eNot, ↓eNeg, ↓eConv, ↓eConvS, ↓eExt0, ↓eExt1, ↓eExt2, ↓eFA, ↓eIA, ↓eLenSl, ↓eCapSl, ↓eLenS, ↓eMin, ↓eMax, ↓eCondT, ↓eCondF, ↓gIf_tt, ↓gIf_ff, ↓gIf_tf, ↓gIf_ft, ↓gIf_u, ↓gIfW_u, ↓gIfW_tt, ↓gIfW_ff, ↓gIfW_tf, ↓gIfW_ft, binI, divI, shiftI, add_mk, Nat.zero_add, cond_true, cond_false, decide_true, decide_false, Bool.not_true, Bool.not_false, Bool.and_true, Bool.true_and, Bool.and_false, Bool.false_and, Int.toNat_natCast, Nat.mul_one]
        rw [wrap64 (by omega) (by omega)]
        exact oublietteref20_Diff.leaf1 ⟨i + 1, by omega, by simp, h4, ho4⟩ (by simp only [iv]; omega)
    obtain ⟨b1, k1, u1, e1, _, _, q1, r1⟩ := ((hx.ext h1).ext h2).idx rfl (i := i) (by omega)
    obtain ⟨b2, k2, u2, e2, _, _, q2, r2⟩ := ((hy.ext h1).ext h2).idx rfl (i := i) (by omega)
    simp only [Value.slice.injEq] at e1 e2
    obtain ⟨rfl, -, rfl⟩ := e1
    obtain ⟨rfl, -, rfl⟩ := e2
    simp only [↓eBinI, ↓eDiv, ↓eShift, ↓eBinS, ↓ePick, ↓eNot, ↓eNeg, ↓eConv, ↓eConvS, ↓eExt0, ↓eExt1, ↓eExt2, ↓eFA, ↓eIA, ↓eLenSl, ↓eCapSl, ↓eLenS, ↓eMin, ↓eMax, ↓eCondT, ↓eCondF, ↓gIf_tt, ↓gIf_ff, ↓gIf_tf, ↓gIf_ft, ↓gIf_u, ↓gIfW_u, ↓gIfW_tt, ↓gIfW_ff, ↓gIfW_tf, ↓gIfW_ft, binI, divI, shiftI, add_mk, Nat.zero_add, cond_true, cond_false, decide_true, decide_false, Bool.not_true, Bool.not_false, Bool.and_true, Bool.true_and, Bool.and_false, Bool.false_and, Int.toNat_natCast, Nat.mul_one, c1', c2', ↓eLdE q1, ↓eLdE q2]
    refine ⟨by omega, by omega, by omega, by omega, ?_⟩
    refine Same_c r1 r2 fun w3 h3 => anew_ ?_
    have hg : ∀ (l : List (List UInt8)) (hl : i < l.length), l[i]? = some l[i] := fun l hl => List.getElem?_eq_getElem hl
    by_cases cs : xs[i] = ys[i]
    · simp only [↓eBinI, ↓eDiv, ↓eShift, ↓eBinS, ↓ePick, ↓eNot, ↓eNeg, ↓eConv, ↓eConvS, ↓eExt0, ↓eExt1, ↓eExt2, ↓eFA, ↓eIA, ↓eLenSl, ↓eCapSl, ↓eLenS, ↓eMin, ↓eMax, ↓eCondT, ↓eCondF, ↓gIf_tt, ↓gIf_ff, ↓gIf_tf, ↓gIf_ft, ↓gIf_u, ↓gIfW_u, ↓gIfW_tt, ↓gIfW_ff, ↓gIfW_tf, ↓gIfW_ft, binI, divI, shiftI, add_mk, Nat.zero_add, cond_true, cond_false, decide_true, decide_false, Bool.not_true, Bool.not_false, Bool.and_true, Bool.true_and, Bool.and_false, Bool.false_and, Int.toNat_natCast, Nat.mul_one, cs]
      unfold oublietteref20_Diff.j1
      simp only [↓eBinI, ↓eDiv, ↓eShift, ↓eBinS, ↓ePick, ↓eNot, ↓eNeg, ↓eConv, ↓eConvS, ↓eExt0, ↓eExt1, ↓eExt2, ↓eFA, ↓eIA, ↓eLenSl, ↓eCapSl, ↓eLenS, ↓eMin, ↓eMax, ↓eCondT, ↓eCondF, ↓gIf_tt, ↓gIf_ff, ↓gIf_tf, ↓gIf_ft, ↓gIf_u, ↓gIfW_u, ↓gIfW_tt, ↓gIfW_ff, ↓gIfW_tf, ↓gIfW_ft, binI, divI, shiftI, add_mk, Nat.zero_add, cond_true, cond_false, decide_true, decide_false, Bool.not_true, Bool.not_false, Bool.and_true, Bool.true_and, Bool.and_false, Bool.false_and, Int.toNat_natCast, Nat.mul_one]
      rw [wrap64 (by omega) (by omega)]
      exact oublietteref20_Diff.leaf1 ⟨i + 1, by omega, by simp, h12.tr h3, by rw [diff_succ, if_pos (by rw [hg _ (by omega), hg _ (by omega), cs])]; exact ho2.ext h3⟩ (by simp only [iv]; omega)
    · simp only [↓eBinI, ↓eDiv, ↓eShift, ↓eBinS, ↓ePick, ↓eNot, ↓eNeg, ↓eConv, ↓eConvS, ↓eExt0, ↓eExt1, ↓eExt2, ↓eFA, ↓eIA, ↓eLenSl, ↓eCapSl, ↓eLenS, ↓eMin, ↓eMax, ↓eCondT, ↓eCondF, ↓gIf_tt, ↓gIf_ff, ↓gIf_tf, ↓gIf_ft, ↓gIf_u, ↓gIfW_u, ↓gIfW_tt, ↓gIfW_ff, ↓gIfW_tf, ↓gIfW_ft, binI, divI, shiftI, add_mk, Nat.zero_add, cond_true, cond_false, decide_true, decide_false, Bool.not_true, Bool.not_false, Bool.and_true, Bool.true_and, Bool.and_false, Bool.false_and, Int.toNat_natCast, Nat.mul_one, cs]
      refine push w3 _ h3 (by rw [hg _ (by omega), hg _ (by omega)]; simpa using cs) fun r v w4 h4 ho4 => ?_
      unfold oublietteref20_Diff.j1
      simp only [↓eBinI, ↓eDiv, ↓eShift, ↓eBinS, ↓ePick, ↓eNot, ↓eNeg, ↓eConv, ↓eConvS, ↓eExt0, ↓eExt1, ↓eExt2, ↓eFA, ↓eIA, ↓eLenSl, ↓eCapSl, ↓eLenS, ↓eMin, ↓eMax, ↓eCondT, ↓eCondF, ↓gIf_tt, ↓gIf_ff, ↓gIf_tf, ↓gIf_ft, ↓gIf_u, ↓gIfW_u, ↓gIfW_tt, ↓gIfW_ff, ↓gIfW_tf, ↓gIfW_ft, binI, divI, shiftI, add_mk, Nat.zero_add, cond_true, cond_false, decide_true, decide_false, Bool.not_true, Bool.not_false, Bool.and_true, Bool.true_and, Bool.and_false, Bool.false_and, Int.toNat_natCast, Nat.mul_one]
      rw [wrap64 (by omega) (by omega)]
      exact oublietteref20_Diff.leaf1 ⟨i + 1, by omega, by simp, h4, ho4⟩ (by simp only [iv]; omega)
  · have ci' := ci
    rw [emax] at ci'
    simp only [↓eBinI, ↓eDiv, ↓eShift, ↓eBinS, ↓ePick, ↓eNot, ↓eNeg, ↓eConv, ↓eConvS, ↓eExt0, ↓eExt1, ↓eExt2, ↓eFA, ↓eIA, ↓eLenSl, ↓eCapSl, ↓eLenS, ↓eMin, ↓eMax, ↓eCondT, ↓eCondF, ↓gIf_tt, ↓gIf_ff, ↓gIf_tf, ↓gIf_ft, ↓gIf_u, ↓gIfW_u, ↓gIfW_tt, ↓gIfW_ff, ↓gIfW_tf, ↓gIfW_ft, binI, divI, shiftI, add_mk, Nat.zero_add, cond_true, cond_false, decide_true, decide_false, Bool.not_true, Bool.not_false, Bool.and_true, Bool.true_and, Bool.and_false, Bool.false_and, Int.toNat_natCast, Nat.mul_one, ci]
    have : i = N := by omega
    subst this
    exact h _ w1 h1 ho
/-- append([]byte(nil), a...), then b. -/
theorem ref01_Join_c {x y : Value} {xs ys : List UInt8} (hx : Rd (.slice .byte) D w [x] xs) (hy : Rd (.slice .byte) D' w [y] ys) (hl : xs.length + ys.length ≤ 1000000)
    (h : ∀ v w', Ext w w' → Own .byte (fun _ => False) w.heap.size w' v (xs ++ ys) → K v w') : GCalls Try.prog 55 [x, y] K X w := by
  apply oublietteref01_Join.calls; unfold oublietteref01_Join.b
  refine Own.cat (t := .byte) (D := fun _ => False) (B := w.heap.size) (xs := []) Own.nil (Nat.le_refl _) (fun h => h) rfl rfl hx (fun cs h => h.flat rfl) (by simp; omega) fun v1 w1 ho1 hf1 hb1 => ?_
  have h1 : Ext w w1 := Ext.tn (Fr.refl _ _) hf1 (fun x hx => hx.2)
  rw [List.nil_append] at ho1
  refine ho1.cat h1.size (fun h => h) rfl rfl (hy.ext h1) (fun cs h => h.flat rfl) (by omega) fun v2 w2 ho2 hf2 hb2 => ?_
  exact h _ _ (h1.tn hf2 (fun x hx => hx.2)) ho2
theorem Grow_nil_c {n : Nat} (hn : n ≤ 1000000) (h : ∀ v w', Ext w w' → Own .byte (fun _ => False) w.heap.size w' v [] → K v w') : GCalls Try.prog 77 [.slice none 0 0, .int .i64 n] K X w := by
  apply slices_Grow_byte_byte.calls; unfold slices_Grow_byte_byte.b
  have c0 : ¬ ((n : Int) < 0) := by omega
  have e0 : IntKind.i64.wrap (((0 : Nat) : Int) - ((0 : Nat) : Int)) = 0 := by decide
  have e1 : IntKind.i64.wrap ((n : Int) - 0) = n := by rw [wrap64 (by omega) (by omega)]; omega
  simp only [↓eBinI, ↓eDiv, ↓eShift, ↓eBinS, ↓ePick, ↓eNot, ↓eNeg, ↓eConv, ↓eConvS, ↓eExt0, ↓eExt1, ↓eExt2, ↓eFA, ↓eIA, ↓eLenSl, ↓eCapSl, ↓eLenS, ↓eMin, ↓eMax, ↓eCondT, ↓eCondF, ↓gIf_tt, ↓gIf_ff, ↓gIf_tf, ↓gIf_ft, ↓gIf_u, ↓gIfW_u, ↓gIfW_tt, ↓gIfW_ff, ↓gIfW_tf, ↓gIfW_ft, binI, divI, shiftI, add_mk, Nat.zero_add, cond_true, cond_false, decide_true, decide_false, Bool.not_true, Bool.not_false, Bool.and_true, Bool.true_and, Bool.and_false, Bool.false_and, Int.toNat_natCast, Nat.mul_one, c0, e0, e1]
  by_cases c1 : (n : Int) > 0
  · simp only [↓eBinI, ↓eDiv, ↓eShift, ↓eBinS, ↓ePick, ↓eNot, ↓eNeg, ↓eConv, ↓eConvS, ↓eExt0, ↓eExt1, ↓eExt2, ↓eFA, ↓eIA, ↓eLenSl, ↓eCapSl, ↓eLenS, ↓eMin, ↓eMax, ↓eCondT, ↓eCondF, ↓gIf_tt, ↓gIf_ff, ↓gIf_tf, ↓gIf_ft, ↓gIf_u, ↓gIfW_u, ↓gIfW_tt, ↓gIfW_ff, ↓gIfW_tf, ↓gIfW_ft, binI, divI, shiftI, add_mk, Nat.zero_add, cond_true, cond_false, decide_true, decide_false, Bool.not_true, Bool.not_false, Bool.and_true, Bool.true_and, Bool.and_false, Bool.false_and, Int.toNat_natCast, Nat.mul_one, c1]
    refine eSl (c := 0) bnd_none (bnd_int (by omega)) bnd_none (by omega) (by simp) (by simp) (by simp) ?_
    refine ⟨none, 0, 0, .i64, n, n, by simp, rfl, by omega, by omega, by omega, by omega, fun h => by omega, fun hlt => ⟨?_, [], ⟨by simp, fun i u hi => by simp at hi⟩, fun cap hc hc' => ?_⟩⟩
    · have := nextslicecap_le hlt; omega
    · have hE : Ext w (w.drew.alloc (.cells ([] ++ rowOf [.int .u8 0] n ++ rowOf [.int .u8 0] (cap - (0 + n))).toArray 5)) := (Ext.drew w).tr (Ext.alloc _ _)
      refine eSl (h := 0) (m := cap) bnd_none (bnd_int (by simp)) bnd_none (by omega) (by omega) (by omega) (by simp) ?_
      rw [if_neg (by omega)]
      refine h _ _ hE (.inr ⟨w.heap.size, cap, _, 5, (0, 0), [], _, ?_, Nat.le_refl _, fun h => h, alloc_new w.drew _, fun o _ _ h => by simp at h, rfl, ?_, rfl⟩)
      · simp [add_zero]
      · simp [rowOf, Ty.n]; omega
  · simp only [↓eBinI, ↓eDiv, ↓eShift, ↓eBinS, ↓ePick, ↓eNot, ↓eNeg, ↓eConv, ↓eConvS, ↓eExt0, ↓eExt1, ↓eExt2, ↓eFA, ↓eIA, ↓eLenSl, ↓eCapSl, ↓eLenS, ↓eMin, ↓eMax, ↓eCondT, ↓eCondF, ↓gIf_tt, ↓gIf_ff, ↓gIf_tf, ↓gIf_ft, ↓gIf_u, ↓gIfW_u, ↓gIfW_tt, ↓gIfW_ff, ↓gIfW_tf, ↓gIfW_ft, binI, divI, shiftI, add_mk, Nat.zero_add, cond_true, cond_false, decide_true, decide_false, Bool.not_true, Bool.not_false, Bool.and_true, Bool.true_and, Bool.and_false, Bool.false_and, Int.toNat_natCast, Nat.mul_one, c1]
    exact h _ w (Fr.refl _ _) Own.nil
def modF (a b : Int) : Int := if b < 1 then 0 else a % b
theorem ref01_Mod_c {a b : Int} (hb : 1 ≤ b) (hb' : b ≤ 1000000) (h : K (.int .i64 (a % b)) w) : GCalls Try.prog 54 [.int .i64 a, .int .i64 b] K X w := by
  apply oublietteref01_Mod.calls; unfold oublietteref01_Mod.b
  have c : ¬ b < 1 := by omega
  simp only [↓eBinI, ↓eDiv, ↓eShift, ↓eBinS, ↓ePick, ↓eNot, ↓eNeg, ↓eConv, ↓eConvS, ↓eExt0, ↓eExt1, ↓eExt2, ↓eFA, ↓eIA, ↓eLenSl, ↓eCapSl, ↓eLenS, ↓eMin, ↓eMax, ↓eCondT, ↓eCondF, ↓gIf_tt, ↓gIf_ff, ↓gIf_tf, ↓gIf_ft, ↓gIf_u, ↓gIfW_u, ↓gIfW_tt, ↓gIfW_ff, ↓gIfW_tf, ↓gIfW_ft, binI, divI, shiftI, add_mk, Nat.zero_add, cond_true, cond_false, decide_true, decide_false, Bool.not_true, Bool.not_false, Bool.and_true, Bool.true_and, Bool.and_false, Bool.false_and, Int.toNat_natCast, Nat.mul_one, c]
  refine ⟨by omega, ?_⟩
  have h1 := Int.emod_nonneg a (show b ≠ 0 by omega)
  have h2 := Int.emod_lt_of_pos a (show 0 < b by omega)
  have h3 : a.tmod b = a % b ∨ (a.tmod b = a % b - b ∧ a.tmod b < 0) := by
    rw [Int.tmod_eq_emod]
    split
    · exact .inl (by omega)
    · rename_i hc
      refine .inr ⟨by omega, by omega⟩
  by_cases cn : a.tmod b < 0
  · simp only [↓eBinI, ↓eDiv, ↓eShift, ↓eBinS, ↓ePick, ↓eNot, ↓eNeg, ↓eConv, ↓eConvS, ↓eExt0, ↓eExt1, ↓eExt2, ↓eFA, ↓eIA, ↓eLenSl, ↓eCapSl, ↓eLenS, ↓eMin, ↓eMax, ↓eCondT, ↓eCondF, ↓gIf_tt, ↓gIf_ff, ↓gIf_tf, ↓gIf_ft, ↓gIf_u, ↓gIfW_u, ↓gIfW_tt, ↓gIfW_ff, ↓gIfW_tf, ↓gIfW_ft, binI, divI, shiftI, add_mk, Nat.zero_add, cond_true, cond_false, decide_true, decide_false, Bool.not_true, Bool.not_false, Bool.and_true, Bool.true_and, Bool.and_false, Bool.false_and, Int.toNat_natCast, Nat.mul_one, cn]
    rw [wrap64 (by omega) (by omega)]
    rcases h3 with h3 | h3
    · omega
    · rw [show a.tmod b + b = a % b by omega]; exact h
  · simp only [↓eBinI, ↓eDiv, ↓eShift, ↓eBinS, ↓ePick, ↓eNot, ↓eNeg, ↓eConv, ↓eConvS, ↓eExt0, ↓eExt1, ↓eExt2, ↓eFA, ↓eIA, ↓eLenSl, ↓eCapSl, ↓eLenS, ↓eMin, ↓eMax, ↓eCondT, ↓eCondF, ↓gIf_tt, ↓gIf_ff, ↓gIf_tf, ↓gIf_ft, ↓gIf_u, ↓gIfW_u, ↓gIfW_tt, ↓gIfW_ff, ↓gIfW_tf, ↓gIfW_ft, binI, divI, shiftI, add_mk, Nat.zero_add, cond_true, cond_false, decide_true, decide_false, Bool.not_true, Bool.not_false, Bool.and_true, Bool.true_and, Bool.and_false, Bool.false_and, Int.toNat_natCast, Nat.mul_one, cn]
    rcases h3 with h3 | h3
    · rw [h3]; exact h
    · omega
/-- slices.Concat of bytes. -/
theorem Concat_c {x : Value} {xss : List (List UInt8)} (hx : Rd (.slice (.slice .byte)) D w [x] xss) (hl : xss.length ≤ 1000) (hs : ∀ i (h : i < xss.length), xss[i].length ≤ 1000)
    (h : ∀ v w', Ext w w' → Own .byte (fun _ => False) w.heap.size w' v xss.flatten → K v w') : GCalls Try.prog 53 [x] K X w := by
  obtain ⟨a1, c1, rfl, hc1, hl1⟩ := hx.form
  have hsum : ∀ i, i ≤ xss.length → (xss.take i).flatten.length ≤ 1000 * i := fun i => by
    induction i with
    | zero => simp
    | succ i ih =>
      intro hi
      rw [List.take_succ_eq_append_getElem (by omega), List.flatten_append, List.length_append]
      have := ih (by omega); have := hs i (by omega)
      rw [List.flatten_cons, List.flatten_nil, List.append_nil]; omega
  apply slices_Concat_byte_byte.calls; unfold slices_Concat_byte_byte.b
  simp only [↓eBinI, ↓eDiv, ↓eShift, ↓eBinS, ↓ePick, ↓eNot, ↓eNeg, ↓eConv, ↓eConvS, ↓eExt0, ↓eExt1, ↓eExt2, ↓eFA, ↓eIA, ↓eLenSl, ↓eCapSl, ↓eLenS, ↓eMin, ↓eMax, ↓eCondT, ↓eCondF, ↓gIf_tt, ↓gIf_ff, ↓gIf_tf, ↓gIf_ft, ↓gIf_u, ↓gIfW_u, ↓gIfW_tt, ↓gIfW_ff, ↓gIfW_tf, ↓gIfW_ft, binI, divI, shiftI, add_mk, Nat.zero_add, cond_true, cond_false, decide_true, decide_false, Bool.not_true, Bool.not_false, Bool.and_true, Bool.true_and, Bool.and_false, Bool.false_and, Int.toNat_natCast, Nat.mul_one]
  refine slices_Concat_byte_byte.loop1 (fun x3 x11 w' => ∃ i : Nat, i ≤ xss.length ∧ x11 = .int .i64 i ∧ x3 = .int .i64 ((xss.take i).flatten.length : Nat) ∧ w' = w) (fun _ x11 _ => xss.length - (iv x11).toNat) ⟨0, by omega, rfl, rfl, rfl⟩ ?_
  rintro x3 x11 gg w1 ⟨i, hi, rfl, rfl, rfl⟩
  have hsi := hsum i hi
  unfold slices_Concat_byte_byte.b1
  by_cases ci : (i : Int) < (xss.length : Int)
  · obtain ⟨b1, k1, u, e1, _, _, q1, r1⟩ := hx.idx rfl (i := i) (by omega)
    simp only [Value.slice.injEq] at e1
    obtain ⟨rfl, -, rfl⟩ := e1
    obtain ⟨a2, c2, rfl, hc2, hl2⟩ := r1.form
    have hlen := hs i (by omega)
    have c0 : ¬ (IntKind.i64.wrap ((((xss.take i).flatten.length : Nat) : Int) + (xss[i].length : Int)) < 0) := by
      rw [wrap64 (by omega) (by omega)]; omega
    simp only [↓eBinI, ↓eDiv, ↓eShift, ↓eBinS, ↓ePick, ↓eNot, ↓eNeg, ↓eConv, ↓eConvS, ↓eExt0, ↓eExt1, ↓eExt2, ↓eFA, ↓eIA, ↓eLenSl, ↓eCapSl, ↓eLenS, ↓eMin, ↓eMax, ↓eCondT, ↓eCondF, ↓gIf_tt, ↓gIf_ff, ↓gIf_tf, ↓gIf_ft, ↓gIf_u, ↓gIfW_u, ↓gIfW_tt, ↓gIfW_ff, ↓gIfW_tf, ↓gIfW_ft, binI, divI, shiftI, add_mk, Nat.zero_add, cond_true, cond_false, decide_true, decide_false, Bool.not_true, Bool.not_false, Bool.and_true, Bool.true_and, Bool.and_false, Bool.false_and, Int.toNat_natCast, Nat.mul_one, ci, ↓eLdW, q1, Option.some.injEq, exists_eq_left', c0]
    refine ⟨by omega, trivial, ?_⟩
    rw [wrap64 (by omega) (by omega), wrap64 (by omega) (by omega)]
    refine slices_Concat_byte_byte.leaf1 ⟨i + 1, by omega, by simp, ?_, rfl⟩ (by simp only [iv]; omega)
    rw [List.take_succ_eq_append_getElem (by omega), List.flatten_append, List.length_append]; simp
  · simp only [↓eBinI, ↓eDiv, ↓eShift, ↓eBinS, ↓ePick, ↓eNot, ↓eNeg, ↓eConv, ↓eConvS, ↓eExt0, ↓eExt1, ↓eExt2, ↓eFA, ↓eIA, ↓eLenSl, ↓eCapSl, ↓eLenS, ↓eMin, ↓eMax, ↓eCondT, ↓eCondF, ↓gIf_tt, ↓gIf_ff, ↓gIf_tf, ↓gIf_ft, ↓gIf_u, ↓gIfW_u, ↓gIfW_tt, ↓gIfW_ff, ↓gIfW_tf, ↓gIfW_ft, binI, divI, shiftI, add_mk, Nat.zero_add, cond_true, cond_false, decide_true, decide_false, Bool.not_true, Bool.not_false, Bool.and_true, Bool.true_and, Bool.and_false, Bool.false_and, Int.toNat_natCast, Nat.mul_one, ci]
    have : i = xss.length := by omega
    subst this
    refine Grow_nil_c (by omega) fun v w2 h2 hv => ?_
    refine slices_Concat_byte_byte.loop2 (fun x6 x27 w' => ∃ i : Nat, i ≤ xss.length ∧ x27 = .int .i64 i ∧ Ext w1 w' ∧ Own .byte (fun _ => False) w1.heap.size w' x6 (xss.take i).flatten) (fun _ x27 _ => xss.length - (iv x27).toNat) ⟨0, by omega, rfl, h2, hv⟩ ?_
    rintro x6 x27 gg2 w3 ⟨j, hj, rfl, h3, ho⟩
    unfold slices_Concat_byte_byte.b2
    by_cases cj : (j : Int) < (xss.length : Int)
    · obtain ⟨b1, k1, u, e1, _, _, q1, r1⟩ := (hx.ext h3).idx rfl (i := j) (by omega)
      simp only [Value.slice.injEq] at e1
      obtain ⟨rfl, -, rfl⟩ := e1
      simp only [↓eBinI, ↓eDiv, ↓eShift, ↓eBinS, ↓ePick, ↓eNot, ↓eNeg, ↓eConv, ↓eConvS, ↓eExt0, ↓eExt1, ↓eExt2, ↓eFA, ↓eIA, ↓eLenSl, ↓eCapSl, ↓eLenS, ↓eMin, ↓eMax, ↓eCondT, ↓eCondF, ↓gIf_tt, ↓gIf_ff, ↓gIf_tf, ↓gIf_ft, ↓gIf_u, ↓gIfW_u, ↓gIfW_tt, ↓gIfW_ff, ↓gIfW_tf, ↓gIfW_ft, binI, divI, shiftI, add_mk, Nat.zero_add, cond_true, cond_false, decide_true, decide_false, Bool.not_true, Bool.not_false, Bool.and_true, Bool.true_and, Bool.and_false, Bool.false_and, Int.toNat_natCast, Nat.mul_one, cj, ↓eLdW, q1, Option.some.injEq, exists_eq_left']
      refine ⟨by omega, trivial, ?_⟩
      have hsj := hsum j hj
      have hlen := hs j (by omega)
      refine ho.cat h3.size (fun h => h) rfl rfl r1 (fun cs h => h.flat rfl) (by omega) fun v' w4 ho' hf' _ => ?_
      rw [wrap64 (by omega) (by omega)]
      refine slices_Concat_byte_byte.leaf2 ⟨j + 1, by omega, by simp, h3.tn hf' (fun x hx => hx.2), ?_⟩ (by simp only [iv]; omega)
      rw [List.take_succ_eq_append_getElem (by omega), List.flatten_append]; simpa using ho'
    · simp only [↓eBinI, ↓eDiv, ↓eShift, ↓eBinS, ↓ePick, ↓eNot, ↓eNeg, ↓eConv, ↓eConvS, ↓eExt0, ↓eExt1, ↓eExt2, ↓eFA, ↓eIA, ↓eLenSl, ↓eCapSl, ↓eLenS, ↓eMin, ↓eMax, ↓eCondT, ↓eCondF, ↓gIf_tt, ↓gIf_ff, ↓gIf_tf, ↓gIf_ft, ↓gIf_u, ↓gIfW_u, ↓gIfW_tt, ↓gIfW_ff, ↓gIfW_tf, ↓gIfW_ft, binI, divI, shiftI, add_mk, Nat.zero_add, cond_true, cond_false, decide_true, decide_false, Bool.not_true, Bool.not_false, Bool.and_true, Bool.true_and, Bool.and_false, Bool.false_and, Int.toNat_natCast, Nat.mul_one, cj]
      have : j = xss.length := by omega
      subst this
      rw [List.take_length] at ho
      exact h _ w3 h3 ho
def tornF (old now : List UInt8) (at_ : Int) : List UInt8 :=
  if old.length = now.length then now.take (at_ % ((old.length : Int) + 1)).toNat ++ old.drop (at_ % ((old.length : Int) + 1)).toNat else []
theorem cutTo {x : Option Addr} {n c k : Nat} {xs : List UInt8} (hx : Rd (.slice .byte) D w [.slice x n c] xs) (hk : k ≤ n) (hc : n ≤ c) :
    Rd (.slice .byte) D w [.slice (if c = 0 then x else x.map (·.add (0 * 1))) (k - 0) (c - 0)] (xs.take k) := by
  have := hx.cut (l := 0) (e := k) (m := c) (by omega) hk (by omega) (Nat.le_refl _)
  simpa using this
theorem cutFrom {x : Option Addr} {n c k : Nat} {xs : List UInt8} (hx : Rd (.slice .byte) D w [.slice x n c] xs) (hk : k ≤ n) (hn : xs.length = n) (hc : n ≤ c) :
    Rd (.slice .byte) D w [.slice (if c = k then x else x.map (·.add (k * 1))) (n - k) (c - k)] (xs.drop k) := by
  have := hx.cut (l := k) (e := n) (m := c) hk (Nat.le_refl _) hc (Nat.le_refl _)
  rw [List.take_of_length_le (by omega)] at this
  exact this
theorem ref20_Torn_c {x y : Value} {xs ys : List UInt8} {z : Int} (hx : Rd (.slice .byte) D w [x] xs) (hy : Rd (.slice .byte) D w [y] ys) (hl : xs.length ≤ 600 ∧ ys.length ≤ 600)
    (h : ∀ v w', Ext w w' → Own .byte (fun _ => False) w.heap.size w' v (tornF xs ys z) → K v w') : GCalls Try.prog 17 [x, y, .int .i64 z] K X w := by
  obtain ⟨a1, c1, rfl, hc1, hl1⟩ := hx.form
  obtain ⟨a2, c2, rfl, hc2, hl2⟩ := hy.form
  apply oublietteref20_Torn.calls; unfold oublietteref20_Torn.b
  unfold tornF at h
  by_cases c : xs.length = ys.length
  · have e : (((xs.length : Nat) : Int) != ((ys.length : Nat) : Int)) = false := by rw [bne_eq_false_iff_eq]; omega
    rw [if_pos c] at h
    simp only [↓eBinI, ↓eDiv, ↓eShift, ↓eBinS, ↓ePick, ↓eNot, ↓eNeg, ↓eConv, ↓eConvS, ↓eExt0, ↓eExt1, ↓eExt2, ↓eFA, ↓eIA, ↓eLenSl, ↓eCapSl, ↓eLenS, ↓eMin, ↓eMax, ↓eCondT, ↓eCondF, ↓gIf_tt, ↓gIf_ff, ↓gIf_tf, ↓gIf_ft, ↓gIf_u, ↓gIfW_u, ↓gIfW_tt, ↓gIfW_ff, ↓gIfW_tf, ↓gIfW_ft, binI, divI, shiftI, add_mk, Nat.zero_add, cond_true, cond_false, decide_true, decide_false, Bool.not_true, Bool.not_false, Bool.and_true, Bool.true_and, Bool.and_false, Bool.false_and, Int.toNat_natCast, Nat.mul_one, e]
    rw [wrap64 (by omega) (by omega)]
    refine ref01_Mod_c (by omega) (by omega) ?_
    have m0 := Int.emod_nonneg z (show (xs.length : Int) + 1 ≠ 0 by omega)
    have m1 := Int.emod_lt_of_pos z (show 0 < (xs.length : Int) + 1 by omega)
    refine draw_ fun w1 h1 => ?_
    refine eSl bnd_none (bnd_int m0) bnd_none (by omega) (by omega) (Nat.le_refl _) (by simp) ?_
    refine eSl (bnd_int m0) bnd_none bnd_none (by omega) (by omega) (Nat.le_refl _) (by simp) ?_
    have q1 := cutTo (k := (z % ((xs.length : Int) + 1)).toNat) (hy.ext h1) (by omega) hc2
    have q2 := cutFrom (k := (z % ((xs.length : Int) + 1)).toNat) (hx.ext h1) (by omega) rfl hc1
    refine ref01_Join_c q1 q2 (by simp; omega) fun v w2 h2 hv => ⟨h2, ?_⟩
    exact h _ _ (h1.tr h2) (hv.low h1.size)
  · have e : (((xs.length : Nat) : Int) != ((ys.length : Nat) : Int)) = true := by rw [bne_iff_ne]; omega
    rw [if_neg c] at h
    simp only [↓eBinI, ↓eDiv, ↓eShift, ↓eBinS, ↓ePick, ↓eNot, ↓eNeg, ↓eConv, ↓eConvS, ↓eExt0, ↓eExt1, ↓eExt2, ↓eFA, ↓eIA, ↓eLenSl, ↓eCapSl, ↓eLenS, ↓eMin, ↓eMax, ↓eCondT, ↓eCondF, ↓gIf_tt, ↓gIf_ff, ↓gIf_tf, ↓gIf_ft, ↓gIf_u, ↓gIfW_u, ↓gIfW_tt, ↓gIfW_ff, ↓gIfW_tf, ↓gIfW_ft, binI, divI, shiftI, add_mk, Nat.zero_add, cond_true, cond_false, decide_true, decide_false, Bool.not_true, Bool.not_false, Bool.and_true, Bool.true_and, Bool.and_false, Bool.false_and, Int.toNat_natCast, Nat.mul_one, e]
    exact h _ w (Fr.refl _ _) Own.nil
theorem mods {z n : Int} (hn : 1 ≤ n) : (z.tmod n + n).tmod n = z % n := by
  have h1 := Int.emod_nonneg z (show n ≠ 0 by omega)
  have h2 := Int.emod_lt_of_pos z (show 0 < n by omega)
  have h3 : z.tmod n = z % n ∨ z.tmod n = z % n - n := by
    rw [Int.tmod_eq_emod]
    split
    · exact .inl (by omega)
    · exact .inr (by omega)
  rcases h3 with h3 | h3
  · rw [h3, Int.tmod_eq_emod_of_nonneg (by omega), Int.add_emod_right, Int.emod_eq_of_lt h1 h2]
  · rw [h3, show z % n - n + n = z % n by omega, Int.tmod_eq_emod_of_nonneg h1, Int.emod_eq_of_lt h1 h2]
theorem trail_Torn_c {x y : Value} {xs ys : List UInt8} {z : Int} (hx : Rd (.slice .byte) D w [x] xs) (hy : Rd (.slice .byte) D w [y] ys) (hD : ∀ b, D b → b < w.heap.size) (hl : xs.length ≤ 600 ∧ ys.length ≤ 600)
    (h : ∀ v w', Ext w w' → Own .byte (fun _ => False) w.heap.size w' v (tornF xs ys z) → K v w') : GCalls Try.prog 16 [x, y, .int .i64 z] K X w := by
  obtain ⟨a1, c1, rfl, hc1, hl1⟩ := hx.form
  obtain ⟨a2, c2, rfl, hc2, hl2⟩ := hy.form
  apply trail_Torn.calls; unfold trail_Torn.b
  unfold tornF at h
  by_cases c : xs.length = ys.length
  · have e : (((xs.length : Nat) : Int) != ((ys.length : Nat) : Int)) = false := by rw [bne_eq_false_iff_eq]; omega
    rw [if_pos c] at h
    have ew : IntKind.i64.wrap (((xs.length : Nat) : Int) + 1) = (xs.length : Int) + 1 := wrap64 (by omega) (by omega)
    have t1 := Int.tmod_lt_of_pos z (show 0 < (xs.length : Int) + 1 by omega)
    have t2 : -((xs.length : Int) + 1) < z.tmod ((xs.length : Int) + 1) := by
      rw [Int.tmod_eq_emod]
      have := Int.emod_nonneg z (show (xs.length : Int) + 1 ≠ 0 by omega)
      split <;> omega
    have ew2 : IntKind.i64.wrap (z.tmod ((xs.length : Int) + 1) + ((xs.length : Int) + 1)) = z.tmod ((xs.length : Int) + 1) + ((xs.length : Int) + 1) := wrap64 (by omega) (by omega)
    simp only [↓eBinI, ↓eDiv, ↓eShift, ↓eBinS, ↓ePick, ↓eNot, ↓eNeg, ↓eConv, ↓eConvS, ↓eExt0, ↓eExt1, ↓eExt2, ↓eFA, ↓eIA, ↓eLenSl, ↓eCapSl, ↓eLenS, ↓eMin, ↓eMax, ↓eCondT, ↓eCondF, ↓gIf_tt, ↓gIf_ff, ↓gIf_tf, ↓gIf_ft, ↓gIf_u, ↓gIfW_u, ↓gIfW_tt, ↓gIfW_ff, ↓gIfW_tf, ↓gIfW_ft, binI, divI, shiftI, add_mk, Nat.zero_add, cond_true, cond_false, decide_true, decide_false, Bool.not_true, Bool.not_false, Bool.and_true, Bool.true_and, Bool.and_false, Bool.false_and, Int.toNat_natCast, Nat.mul_one, e, ew, ew2, mods (z := z) (n := (xs.length : Int) + 1) (by omega)]
    refine ⟨by omega, by omega, ?_⟩
    have m0 := Int.emod_nonneg z (show (xs.length : Int) + 1 ≠ 0 by omega)
    have m1 := Int.emod_lt_of_pos z (show 0 < (xs.length : Int) + 1 by omega)
    refine draw_ fun w1 h1 => ?_
    refine eSl bnd_none (bnd_int m0) bnd_none (by omega) (by omega) (Nat.le_refl _) (by simp) ?_
    refine eSl (bnd_int m0) bnd_none bnd_none (by omega) (by omega) (Nat.le_refl _) (by simp) ?_
    have q1 := cutTo (k := (z % ((xs.length : Int) + 1)).toNat) (hy.ext h1) (by omega) hc2
    have q2 := cutFrom (k := (z % ((xs.length : Int) + 1)).toNat) (hx.ext h1) (by omega) rfl hc1
    generalize (Value.slice (if c2 = 0 then a2 else a2.map (·.add (0 * 1))) ((z % ((xs.length : Int) + 1)).toNat - 0) (c2 - 0)) = u1 at *
    generalize (Value.slice (if c1 = (z % ((xs.length : Int) + 1)).toNat then a1 else a1.map (·.add ((z % ((xs.length : Int) + 1)).toNat * 1))) (xs.length - (z % ((xs.length : Int) + 1)).toNat) (c1 - (z % ((xs.length : Int) + 1)).toNat)) = u2 at *
    have o1 := q1.isOne (by intro a b h; cases h)
    have o2 := q2.isOne (by intro a b h; cases h)
    refine Cs.bslice (cs := [u1, u2]) (by simp [fillL, rowOf, cutIn, one_cells o1, one_cells o2]) fun r w2 hr h2 b2 => ⟨h2, ?_⟩
    have hrows : Rd (.slice (.slice .byte)) (fun _ => True) w2 [.slice (some ⟨r, 0, none⟩) 2 2] [ys.take (z % ((xs.length : Int) + 1)).toNat, xs.drop (z % ((xs.length : Int) + 1)).toNat] := by
      refine Rd.of_rows (t := .slice .byte) (D := D) (cs := [u1, u2]) (xs := [_, _]) ⟨[u1], [u2], rfl, q1.ext h2, [u2], [], rfl, q2.ext h2, rfl⟩ (fun _ _ => trivial) (by simp) (by simp) fun i u hu => ⟨_, rfl, rfl, trivial, ?_⟩
      rw [add_mk, Nat.zero_add, b2.c]; exact hu
    refine Concat_c hrows (by simp) (fun i hi => ?_) fun v w3 h3 hv => ⟨h2.tr h3, ?_⟩
    · match i, hi with
      | 0, _ => simp; omega
      | 1, _ => simp; omega
    · refine h _ _ ((h1.tr h2).tr h3) ?_
      have := hv.low (h1.tr h2).size
      simpa using this
  · have e : (((xs.length : Nat) : Int) != ((ys.length : Nat) : Int)) = true := by rw [bne_iff_ne]; omega
    rw [if_neg c] at h
    simp only [↓eBinI, ↓eDiv, ↓eShift, ↓eBinS, ↓ePick, ↓eNot, ↓eNeg, ↓eConv, ↓eConvS, ↓eExt0, ↓eExt1, ↓eExt2, ↓eFA, ↓eIA, ↓eLenSl, ↓eCapSl, ↓eLenS, ↓eMin, ↓eMax, ↓eCondT, ↓eCondF, ↓gIf_tt, ↓gIf_ff, ↓gIf_tf, ↓gIf_ft, ↓gIf_u, ↓gIfW_u, ↓gIfW_tt, ↓gIfW_ff, ↓gIfW_tf, ↓gIfW_ft, binI, divI, shiftI, add_mk, Nat.zero_add, cond_true, cond_false, decide_true, decide_false, Bool.not_true, Bool.not_false, Bool.and_true, Bool.true_and, Bool.and_false, Bool.false_and, Int.toNat_natCast, Nat.mul_one, e]
    exact h _ w (Fr.refl _ _) Own.nil
end Go.Proofs.Ytlolomdgchkibaa
