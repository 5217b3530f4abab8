/-
  A leaf's path, a page's level, whether whole numbers are the same.
-/
import Derived.Test.YtlolomdgchkibaaKd
set_option linter.unusedSimpArgs false
set_option linter.unusedVariables false
namespace Go.Proofs.Ytlolomdgchkibaa
open Go Go.G
variable {X : KX} {w : World} {K : KV} {a d l : Int}
theorem up_len : ∀ (f i : Nat) (q : Int), 2 ≤ a → i < f → nodF a i ≤ q → q < nodF a (i + 1) → (upL a f q).length = i + 1
  | 0, i, q, _, hi, _, _ => by omega
  | f + 1, 0, q, ha, _, h1, h2 => by
    simp [nodF, powF] at h1 h2
    have : q = 0 := by omega
    subst this; simp [upL]
  | f + 1, i + 1, q, ha, hi, h1, h2 => by
    rw [nod_succ] at h1
    have h0 : 0 ≤ a * nodF a i := by
      refine Int.mul_nonneg (by omega) ?_
      clear h1 h2 hi
      have hp : ∀ j, 0 ≤ powF a j := fun j => by
        induction j with
        | zero => simp [powF]
        | succ j ih => exact Int.mul_nonneg ih (by omega)
      induction i with
      | zero => simp [nodF]
      | succ j ih => have := hp j; simp only [nodF]; omega
    have hq : q ≠ 0 := by omega
    rw [nod_succ] at h2
    have ih := up_len f i ((q - 1).tdiv a) ha (by omega) (by rw [Int.tdiv_eq_ediv_of_nonneg (by omega)]; exact Int.le_ediv_of_mul_le (by omega) (by rw [Int.mul_comm]; omega))
      (by rw [Int.tdiv_eq_ediv_of_nonneg (by omega)]; exact Int.ediv_lt_of_lt_mul (by omega) (by rw [Int.mul_comm]; omega))
    simp [upL, hq, ih]
theorem up_lv {p : Int} (h : thereF a d l p = true) : (upF a d l p).length = lvF a p + 1 := by
  have hb := there_bd h
  have hs := lv_spec h
  have hpg := pages_eq hb.2.2.2.1
  unfold upF; rw [h]
  refine up_len (d.toNat + 1) (lvF a p) p (by omega) ?_ hs.1 hs.2.1
  rcases Nat.lt_or_ge (lvF a p) (d.toNat + 1) with h | h
  · exact h
  · have := nod_mono (a := a) (by omega) (by omega) h (by omega); omega
theorem up_le {p : Int} : (upF a d l p).length ≤ 4 := by
  cases h : thereF a d l p with
  | false => unfold upF; simp [h]
  | true => have := lv_spec h; rw [up_lv h]; omega
theorem shape_Level_c {p : Int} (h : ∀ w', Ext w w' → K (.int .i64 (if thereF a d l p then (lvF a p : Int) else -1)) w') : GCalls Try.prog 24 [geo a d l, .int .i64 p] K X w := by
  apply shape_Level.calls; unfold shape_Level.b
  refine boxC fun g w1 _ h1 b => ?_
  simp only [↓eBinI, ↓eDiv, ↓eShift, ↓eBinS, ↓ePick, ↓eNot, ↓eNeg, ↓eConv, ↓eConvS, ↓eExt0, ↓eExt1, ↓eExt2, ↓eFA, ↓eIA, ↓eLenSl, ↓eCapSl, ↓eLenS, ↓eMin, ↓eMax, ↓eCondT, ↓eCondF, ↓gIf_tt, ↓gIf_ff, ↓gIf_tf, ↓gIf_ft, ↓gIf_u, ↓gIfW_u, ↓gIfW_tt, ↓gIfW_ff, ↓gIfW_tf, ↓gIfW_ft, binI, divI, shiftI, add_mk, Nat.zero_add, cond_true, cond_false, decide_true, decide_false, Bool.not_true, Bool.not_false, Bool.and_true, Bool.true_and, Bool.and_false, Bool.false_and, Int.toNat_natCast, Nat.mul_one, ↓b.ld3]
  refine shape_up_c fun v w2 h2 hv _ => ?_
  obtain ⟨a0, c0, rfl, hc⟩ := hv.form
  simp only [↓eBinI, ↓eDiv, ↓eShift, ↓eBinS, ↓ePick, ↓eNot, ↓eNeg, ↓eConv, ↓eConvS, ↓eExt0, ↓eExt1, ↓eExt2, ↓eFA, ↓eIA, ↓eLenSl, ↓eCapSl, ↓eLenS, ↓eMin, ↓eMax, ↓eCondT, ↓eCondF, ↓gIf_tt, ↓gIf_ff, ↓gIf_tf, ↓gIf_ft, ↓gIf_u, ↓gIfW_u, ↓gIfW_tt, ↓gIfW_ff, ↓gIfW_tf, ↓gIfW_ft, binI, divI, shiftI, add_mk, Nat.zero_add, cond_true, cond_false, decide_true, decide_false, Bool.not_true, Bool.not_false, Bool.and_true, Bool.true_and, Bool.and_false, Bool.false_and, Int.toNat_natCast, Nat.mul_one]
  have hk := h w2 (h1.tr h2)
  have hl := @up_le a d l p
  rw [wrap64 (by omega) (by omega)]
  cases ht : thereF a d l p with
  | false => rw [ht] at hk; unfold upF; simpa [ht] using hk
  | true => rw [ht, if_pos rfl] at hk; rw [up_lv ht, show ((lvF a p + 1 : Nat) : Int) - 1 = (lvF a p : Int) by omega]; exact hk
def pathF (a d l s : Int) : List Int := if leafF a d l s = -1 then [] else (upF a d l (parentF a d l (leafF a d l s))).reverse
theorem shape_Path_c {s : Int} (h : ∀ v w', Ext w w' → Ints w.heap.size w' v (pathF a d l s) → K v w') : GCalls Try.prog 47 [geo a d l, .int .i64 s] K X w := by
  apply shape_Path.calls; unfold shape_Path.b
  refine boxC fun g w1 _ h1 b => ?_
  simp only [↓eBinI, ↓eDiv, ↓eShift, ↓eBinS, ↓ePick, ↓eNot, ↓eNeg, ↓eConv, ↓eConvS, ↓eExt0, ↓eExt1, ↓eExt2, ↓eFA, ↓eIA, ↓eLenSl, ↓eCapSl, ↓eLenS, ↓eMin, ↓eMax, ↓eCondT, ↓eCondF, ↓gIf_tt, ↓gIf_ff, ↓gIf_tf, ↓gIf_ft, ↓gIf_u, ↓gIfW_u, ↓gIfW_tt, ↓gIfW_ff, ↓gIfW_tf, ↓gIfW_ft, binI, divI, shiftI, add_mk, Nat.zero_add, cond_true, cond_false, decide_true, decide_false, Bool.not_true, Bool.not_false, Bool.and_true, Bool.true_and, Bool.and_false, Bool.false_and, Int.toNat_natCast, Nat.mul_one, ↓b.ld3]
  refine shape_Leaf_c fun w2 h2 => ?_
  replace b := b.ext h2
  unfold pathF at h
  by_cases c : leafF a d l s = -1
  · simp only [↓eBinI, ↓eDiv, ↓eShift, ↓eBinS, ↓ePick, ↓eNot, ↓eNeg, ↓eConv, ↓eConvS, ↓eExt0, ↓eExt1, ↓eExt2, ↓eFA, ↓eIA, ↓eLenSl, ↓eCapSl, ↓eLenS, ↓eMin, ↓eMax, ↓eCondT, ↓eCondF, ↓gIf_tt, ↓gIf_ff, ↓gIf_tf, ↓gIf_ft, ↓gIf_u, ↓gIfW_u, ↓gIfW_tt, ↓gIfW_ff, ↓gIfW_tf, ↓gIfW_ft, binI, divI, shiftI, add_mk, Nat.zero_add, cond_true, cond_false, decide_true, decide_false, Bool.not_true, Bool.not_false, Bool.and_true, Bool.true_and, Bool.and_false, Bool.false_and, Int.toNat_natCast, Nat.mul_one, c, beq_self_eq_true, if_true] at h ⊢
    exact h _ w2 (h1.tr h2) Own.nil
  · have e : (leafF a d l s == -1) = false := by simpa using c
    simp only [↓eBinI, ↓eDiv, ↓eShift, ↓eBinS, ↓ePick, ↓eNot, ↓eNeg, ↓eConv, ↓eConvS, ↓eExt0, ↓eExt1, ↓eExt2, ↓eFA, ↓eIA, ↓eLenSl, ↓eCapSl, ↓eLenS, ↓eMin, ↓eMax, ↓eCondT, ↓eCondF, ↓gIf_tt, ↓gIf_ff, ↓gIf_tf, ↓gIf_ft, ↓gIf_u, ↓gIfW_u, ↓gIfW_tt, ↓gIfW_ff, ↓gIfW_tf, ↓gIfW_ft, binI, divI, shiftI, add_mk, Nat.zero_add, cond_true, cond_false, decide_true, decide_false, Bool.not_true, Bool.not_false, Bool.and_true, Bool.true_and, Bool.and_false, Bool.false_and, Int.toNat_natCast, Nat.mul_one, e, c, if_false] at h ⊢
    refine draw_ fun w3 h3 => ?_
    replace b := b.ext h3
    simp only [↓b.le3]
    refine shape_Parent_c fun w4 h4 => ⟨h4, ?_⟩
    refine shape_up_c fun v w5 h5 hv hbl => ⟨h4.tr h5, ?_⟩
    have hl := @up_le a d l (parentF a d l (leafF a d l s))
    refine slices_Reverse_c hv (by omega) fun w6 hv6 hf6 => ?_
    have h14 := ((h1.tr h2).tr h3).tr h4
    have h5' : Ext w4 w6 := h5.tn hf6 (fun x hx => hx.2)
    exact h _ w6 (h14.tr h5') (hv6.low h14.size)
theorem Ints_c {D D' : Nat → Prop} {x y : Value} {xs ys : List Int} (hx : Rd (.slice (.int .i64)) D w [x] xs) (hy : Rd (.slice (.int .i64)) D' w [y] ys) (h : ∀ w', Ext w w' → K (.bool (decide (xs = ys))) w') : GCalls Try.prog 12 [x, y] K X w := by
  obtain ⟨a1, c1, rfl, hc1, hl1⟩ := hx.form
  obtain ⟨a2, c2, rfl, hc2, hl2⟩ := hy.form
  apply oublietteref01_Ints.calls; unfold oublietteref01_Ints.b
  simp only [↓eBinI, ↓eDiv, ↓eShift, ↓eBinS, ↓ePick, ↓eNot, ↓eNeg, ↓eConv, ↓eConvS, ↓eExt0, ↓eExt1, ↓eExt2, ↓eFA, ↓eIA, ↓eLenSl, ↓eCapSl, ↓eLenS, ↓eMin, ↓eMax, ↓eCondT, ↓eCondF, ↓gIf_tt, ↓gIf_ff, ↓gIf_tf, ↓gIf_ft, ↓gIf_u, ↓gIfW_u, ↓gIfW_tt, ↓gIfW_ff, ↓gIfW_tf, ↓gIfW_ft, binI, divI, shiftI, add_mk, Nat.zero_add, cond_true, cond_false, decide_true, decide_false, Bool.not_true, Bool.not_false, Bool.and_true, Bool.true_and, Bool.and_false, Bool.false_and, Int.toNat_natCast, Nat.mul_one]
  by_cases c : xs.length = ys.length
  · have e : (((xs.length : Nat) : Int) != ((ys.length : Nat) : Int)) = false := by rw [bne_eq_false_iff_eq]; omega
    simp only [↓eBinI, ↓eDiv, ↓eShift, ↓eBinS, ↓ePick, ↓eNot, ↓eNeg, ↓eConv, ↓eConvS, ↓eExt0, ↓eExt1, ↓eExt2, ↓eFA, ↓eIA, ↓eLenSl, ↓eCapSl, ↓eLenS, ↓eMin, ↓eMax, ↓eCondT, ↓eCondF, ↓gIf_tt, ↓gIf_ff, ↓gIf_tf, ↓gIf_ft, ↓gIf_u, ↓gIfW_u, ↓gIfW_tt, ↓gIfW_ff, ↓gIfW_tf, ↓gIfW_ft, binI, divI, shiftI, add_mk, Nat.zero_add, cond_true, cond_false, decide_true, decide_false, Bool.not_true, Bool.not_false, Bool.and_true, Bool.true_and, Bool.and_false, Bool.false_and, Int.toNat_natCast, Nat.mul_one, e]
    refine oublietteref01_Ints.loop1 (fun x5 w' => ∃ i : Nat, i ≤ xs.length ∧ x5 = .int .i64 i ∧ xs.take i = ys.take i ∧ Ext w w') (fun x5 _ => xs.length - (iv x5).toNat) ⟨0, by omega, rfl, rfl, Fr.refl _ _⟩ ?_
    rintro x5 gg w1 ⟨i, hi, rfl, ht, h1⟩
    unfold oublietteref01_Ints.b1
    simp only [↓eBinI, ↓eDiv, ↓eShift, ↓eBinS, ↓ePick, ↓eNot, ↓eNeg, ↓eConv, ↓eConvS, ↓eExt0, ↓eExt1, ↓eExt2, ↓eFA, ↓eIA, ↓eLenSl, ↓eCapSl, ↓eLenS, ↓eMin, ↓eMax, ↓eCondT, ↓eCondF, ↓gIf_tt, ↓gIf_ff, ↓gIf_tf, ↓gIf_ft, ↓gIf_u, ↓gIfW_u, ↓gIfW_tt, ↓gIfW_ff, ↓gIfW_tf, ↓gIfW_ft, binI, divI, shiftI, add_mk, Nat.zero_add, cond_true, cond_false, decide_true, decide_false, Bool.not_true, Bool.not_false, Bool.and_true, Bool.true_and, Bool.and_false, Bool.false_and, Int.toNat_natCast, Nat.mul_one]
    by_cases ci : (i : Int) < (xs.length : Int)
    · simp only [↓eBinI, ↓eDiv, ↓eShift, ↓eBinS, ↓ePick, ↓eNot, ↓eNeg, ↓eConv, ↓eConvS, ↓eExt0, ↓eExt1, ↓eExt2, ↓eFA, ↓eIA, ↓eLenSl, ↓eCapSl, ↓eLenS, ↓eMin, ↓eMax, ↓eCondT, ↓eCondF, ↓gIf_tt, ↓gIf_ff, ↓gIf_tf, ↓gIf_ft, ↓gIf_u, ↓gIfW_u, ↓gIfW_tt, ↓gIfW_ff, ↓gIfW_tf, ↓gIfW_ft, binI, divI, shiftI, add_mk, Nat.zero_add, cond_true, cond_false, decide_true, decide_false, Bool.not_true, Bool.not_false, Bool.and_true, Bool.true_and, Bool.and_false, Bool.false_and, Int.toNat_natCast, Nat.mul_one, ci]
      refine draw_ fun w2 h2 => ?_
      have hx2 := (hx.ext h1).ext h2
      have hy2 := (hy.ext h1).ext h2
      obtain ⟨b1, k1, u1, e1, s1, -, q1, r1⟩ := hx2.idx rfl (i := i) (by omega)
      obtain ⟨b2, k2, u2, e2, s2, -, q2, r2⟩ := hy2.idx rfl (i := i) (by omega)
      simp only [Value.slice.injEq] at e1 e2
      obtain ⟨rfl, -, rfl⟩ := e1
      obtain ⟨rfl, -, rfl⟩ := e2
      have v1 := r1.1; have v2 := r2.1
      simp only [List.cons.injEq, and_true] at v1 v2
      subst v1; subst v2
      simp only [↓eBinI, ↓eDiv, ↓eShift, ↓eBinS, ↓ePick, ↓eNot, ↓eNeg, ↓eConv, ↓eConvS, ↓eExt0, ↓eExt1, ↓eExt2, ↓eFA, ↓eIA, ↓eLenSl, ↓eCapSl, ↓eLenS, ↓eMin, ↓eMax, ↓eCondT, ↓eCondF, ↓gIf_tt, ↓gIf_ff, ↓gIf_tf, ↓gIf_ft, ↓gIf_u, ↓gIfW_u, ↓gIfW_tt, ↓gIfW_ff, ↓gIfW_tf, ↓gIfW_ft, binI, divI, shiftI, add_mk, Nat.zero_add, cond_true, cond_false, decide_true, decide_false, Bool.not_true, Bool.not_false, Bool.and_true, Bool.true_and, Bool.and_false, Bool.false_and, Int.toNat_natCast, Nat.mul_one, ↓eLdE q1, ↓eLdE q2]
      refine ⟨by omega, by omega, by omega, by omega, ?_⟩
      by_cases cx : xs[i] = ys[i]
      · have e : (xs[i] != ys[i]) = false := by simpa using cx
        simp only [↓eBinI, ↓eDiv, ↓eShift, ↓eBinS, ↓ePick, ↓eNot, ↓eNeg, ↓eConv, ↓eConvS, ↓eExt0, ↓eExt1, ↓eExt2, ↓eFA, ↓eIA, ↓eLenSl, ↓eCapSl, ↓eLenS, ↓eMin, ↓eMax, ↓eCondT, ↓eCondF, ↓gIf_tt, ↓gIf_ff, ↓gIf_tf, ↓gIf_ft, ↓gIf_u, ↓gIfW_u, ↓gIfW_tt, ↓gIfW_ff, ↓gIfW_tf, ↓gIfW_ft, binI, divI, shiftI, add_mk, Nat.zero_add, cond_true, cond_false, decide_true, decide_false, Bool.not_true, Bool.not_false, Bool.and_true, Bool.true_and, Bool.and_false, Bool.false_and, Int.toNat_natCast, Nat.mul_one, e]
        rw [wrap64 (by omega) (by omega)]
        refine oublietteref01_Ints.leaf1 ⟨i + 1, by omega, by simp, ?_, h1.tr h2⟩ (by simp only [iv]; omega)
        rw [List.take_succ_eq_append_getElem (by omega), List.take_succ_eq_append_getElem (by omega), ht, cx]
      · have e : (xs[i] != ys[i]) = true := by simpa using cx
        simp only [↓eBinI, ↓eDiv, ↓eShift, ↓eBinS, ↓ePick, ↓eNot, ↓eNeg, ↓eConv, ↓eConvS, ↓eExt0, ↓eExt1, ↓eExt2, ↓eFA, ↓eIA, ↓eLenSl, ↓eCapSl, ↓eLenS, ↓eMin, ↓eMax, ↓eCondT, ↓eCondF, ↓gIf_tt, ↓gIf_ff, ↓gIf_tf, ↓gIf_ft, ↓gIf_u, ↓gIfW_u, ↓gIfW_tt, ↓gIfW_ff, ↓gIfW_tf, ↓gIfW_ft, binI, divI, shiftI, add_mk, Nat.zero_add, cond_true, cond_false, decide_true, decide_false, Bool.not_true, Bool.not_false, Bool.and_true, Bool.true_and, Bool.and_false, Bool.false_and, Int.toNat_natCast, Nat.mul_one, e]
        have hk := h w2 (h1.tr h2)
        rw [decide_eq_false (fun e => cx (by subst e; rfl))] at hk
        exact hk
    · simp only [↓eBinI, ↓eDiv, ↓eShift, ↓eBinS, ↓ePick, ↓eNot, ↓eNeg, ↓eConv, ↓eConvS, ↓eExt0, ↓eExt1, ↓eExt2, ↓eFA, ↓eIA, ↓eLenSl, ↓eCapSl, ↓eLenS, ↓eMin, ↓eMax, ↓eCondT, ↓eCondF, ↓gIf_tt, ↓gIf_ff, ↓gIf_tf, ↓gIf_ft, ↓gIf_u, ↓gIfW_u, ↓gIfW_tt, ↓gIfW_ff, ↓gIfW_tf, ↓gIfW_ft, binI, divI, shiftI, add_mk, Nat.zero_add, cond_true, cond_false, decide_true, decide_false, Bool.not_true, Bool.not_false, Bool.and_true, Bool.true_and, Bool.and_false, Bool.false_and, Int.toNat_natCast, Nat.mul_one, ci]
      have hk := h w1 h1
      have : i = xs.length := by omega
      subst this
      rw [decide_eq_true (by rw [List.take_length] at ht; rw [ht, c, List.take_length])] at hk
      exact hk
  · have e : (((xs.length : Nat) : Int) != ((ys.length : Nat) : Int)) = true := by rw [bne_iff_ne]; omega
    simp only [↓eBinI, ↓eDiv, ↓eShift, ↓eBinS, ↓ePick, ↓eNot, ↓eNeg, ↓eConv, ↓eConvS, ↓eExt0, ↓eExt1, ↓eExt2, ↓eFA, ↓eIA, ↓eLenSl, ↓eCapSl, ↓eLenS, ↓eMin, ↓eMax, ↓eCondT, ↓eCondF, ↓gIf_tt, ↓gIf_ff, ↓gIf_tf, ↓gIf_ft, ↓gIf_u, ↓gIfW_u, ↓gIfW_tt, ↓gIfW_ff, ↓gIfW_tf, ↓gIfW_ft, binI, divI, shiftI, add_mk, Nat.zero_add, cond_true, cond_false, decide_true, decide_false, Bool.not_true, Bool.not_false, Bool.and_true, Bool.true_and, Bool.and_false, Bool.false_and, Int.toNat_natCast, Nat.mul_one, e]
    have hk := h w (Fr.refl _ _)
    rw [decide_eq_false (fun e => c (by rw [e]))] at hk
    exact hk
end Go.Proofs.Ytlolomdgchkibaa
