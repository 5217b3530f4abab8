/-
  Rows alike, writes few and short, writes copied.
-/
import Derived.Test.YtlolomdgchkibaaTd
set_option linter.unusedSimpArgs false
set_option linter.unusedVariables false
namespace Go.Proofs.Ytlolomdgchkibaa
open Go Go.G
variable {X : KX} {w : World} {K : KV} {D D' : Nat → Prop}
theorem diff_nil {a b : List (List UInt8)} (hl : a.length = b.length) : (diffF a b (max a.length b.length) = []) ↔ a = b := by
  unfold diffF
  rw [List.map_eq_nil_iff, List.filter_eq_nil_iff]
  constructor
  · intro h
    apply List.ext_getElem?
    intro i
    by_cases hi : i < a.length
    · have := h i (by simp; omega)
      simpa using this
    · rw [List.getElem?_eq_none (by omega), List.getElem?_eq_none (by omega)]
  · rintro rfl i _
    simp
theorem ref20_Rows_c {x y : Value} {xs ys : List (List UInt8)} (hx : Rd (.slice (.slice .byte)) D w [x] xs) (hy : Rd (.slice (.slice .byte)) D' w [y] ys) (hl : xs.length ≤ 100000 ∧ ys.length ≤ 100000)
    (h : ∀ w', Ext w w' → K (.bool (decide (xs = ys))) w') : GCalls Try.prog 35 [x, y] K X w := by
  obtain ⟨a1, c1, rfl, hc1, hl1⟩ := hx.form
  obtain ⟨a2, c2, rfl, hc2, hl2⟩ := hy.form
  apply oublietteref20_Rows.calls; unfold oublietteref20_Rows.b
  by_cases c : xs.length = ys.length
  · have e : (((xs.length : Nat) : Int) != ((ys.length : Nat) : Int)) = false := by rw [bne_eq_false_iff_eq]; omega
    simp only [↓eBinI, ↓eDiv, ↓eShift, ↓eBinS, ↓ePick, ↓eNot, ↓eNeg, ↓eConv, ↓eConvS, ↓eExt0, ↓eExt1, ↓eExt2, ↓eFA, ↓eIA, ↓eLenSl, ↓eCapSl, ↓eLenS, ↓eMin, ↓eMax, ↓eCondT, ↓eCondF, ↓gIf_tt, ↓gIf_ff, ↓gIf_tf, ↓gIf_ft, ↓gIf_u, ↓gIfW_u, ↓gIfW_tt, ↓gIfW_ff, ↓gIfW_tf, ↓gIfW_ft, binI, divI, shiftI, add_mk, Nat.zero_add, cond_true, cond_false, decide_true, decide_false, Bool.not_true, Bool.not_false, Bool.and_true, Bool.true_and, Bool.and_false, Bool.false_and, Int.toNat_natCast, Nat.mul_one, e]
    refine ref20_Diff_c hx hy hl fun v w1 h1 hv => ?_
    obtain ⟨a3, c3, rfl, hc3⟩ := hv.form
    simp only [↓eBinI, ↓eDiv, ↓eShift, ↓eBinS, ↓ePick, ↓eNot, ↓eNeg, ↓eConv, ↓eConvS, ↓eExt0, ↓eExt1, ↓eExt2, ↓eFA, ↓eIA, ↓eLenSl, ↓eCapSl, ↓eLenS, ↓eMin, ↓eMax, ↓eCondT, ↓eCondF, ↓gIf_tt, ↓gIf_ff, ↓gIf_tf, ↓gIf_ft, ↓gIf_u, ↓gIfW_u, ↓gIfW_tt, ↓gIfW_ff, ↓gIfW_tf, ↓gIfW_ft, binI, divI, shiftI, add_mk, Nat.zero_add, cond_true, cond_false, decide_true, decide_false, Bool.not_true, Bool.not_false, Bool.and_true, Bool.true_and, Bool.and_false, Bool.false_and, Int.toNat_natCast, Nat.mul_one]
    have := h w1 h1
    have hn := diff_nil c
    by_cases e : xs = ys
    · rw [decide_eq_true e] at this
      rw [hn.2 e]; exact this
    · rw [decide_eq_false e] at this
      have hne : (diffF xs ys (max xs.length ys.length)).length ≠ 0 := fun h0 => e (hn.1 (List.length_eq_zero_iff.1 h0))
      have : (((diffF xs ys (max xs.length ys.length)).length : Nat) : Int) ≠ 0 := by omega
      rw [show ((((diffF xs ys (max xs.length ys.length)).length : Nat) : Int) == 0) = false from by simpa using this]
      assumption
  · have e : (((xs.length : Nat) : Int) != ((ys.length : Nat) : Int)) = true := by rw [bne_iff_ne]; omega
    simp only [↓eBinI, ↓eDiv, ↓eShift, ↓eBinS, ↓ePick, ↓eNot, ↓eNeg, ↓eConv, ↓eConvS, ↓eExt0, ↓eExt1, ↓eExt2, ↓eFA, ↓eIA, ↓eLenSl, ↓eCapSl, ↓eLenS, ↓eMin, ↓eMax, ↓eCondT, ↓eCondF, ↓gIf_tt, ↓gIf_ff, ↓gIf_tf, ↓gIf_ft, ↓gIf_u, ↓gIfW_u, ↓gIfW_tt, ↓gIfW_ff, ↓gIfW_tf, ↓gIfW_ft, binI, divI, shiftI, add_mk, Nat.zero_add, cond_true, cond_false, decide_true, decide_false, Bool.not_true, Bool.not_false, Bool.and_true, Bool.true_and, Bool.and_false, Bool.false_and, Int.toNat_natCast, Nat.mul_one, e]
    have hk := h w (Fr.refl _ _)
    rw [decide_eq_false (fun e => c (by rw [e]))] at hk
    exact hk
def lightF (l : List (Int × List UInt8)) : Bool := decide (l.length ≤ 60) && l.all fun r => decide (r.2.length ≤ 600)
theorem law20_light_c {x : Value} {l : List (Int × List UInt8)} (hx : Rd (.slice tWrite) D w [x] l) (h : ∀ w', Ext w w' → K (.bool (lightF l)) w') : GCalls Try.prog 34 [x] K X w := by
  obtain ⟨a1, c1, rfl, hc1, hl1⟩ := hx.form
  apply oubliettelaw20_light.calls; unfold oubliettelaw20_light.b
  unfold lightF at h
  by_cases c : (l.length : Int) > 60
  · simp only [↓eBinI, ↓eDiv, ↓eShift, ↓eBinS, ↓ePick, ↓eNot, ↓eNeg, ↓eConv, ↓eConvS, ↓eExt0, ↓eExt1, ↓eExt2, ↓eFA, ↓eIA, ↓eLenSl, ↓eCapSl, ↓eLenS, ↓eMin, ↓eMax, ↓eCondT, ↓eCondF, ↓gIf_tt, ↓gIf_ff, ↓gIf_tf, ↓gIf_ft, ↓gIf_u, ↓gIfW_u, ↓gIfW_tt, ↓gIfW_ff, ↓gIfW_tf, ↓gIfW_ft, binI, divI, shiftI, add_mk, Nat.zero_add, cond_true, cond_false, decide_true, decide_false, Bool.not_true, Bool.not_false, Bool.and_true, Bool.true_and, Bool.and_false, Bool.false_and, Int.toNat_natCast, Nat.mul_one, c]
    have := h w (Fr.refl _ _)
    rw [decide_eq_false (by omega)] at this
    exact this
  · simp only [↓eBinI, ↓eDiv, ↓eShift, ↓eBinS, ↓ePick, ↓eNot, ↓eNeg, ↓eConv, ↓eConvS, ↓eExt0, ↓eExt1, ↓eExt2, ↓eFA, ↓eIA, ↓eLenSl, ↓eCapSl, ↓eLenS, ↓eMin, ↓eMax, ↓eCondT, ↓eCondF, ↓gIf_tt, ↓gIf_ff, ↓gIf_tf, ↓gIf_ft, ↓gIf_u, ↓gIfW_u, ↓gIfW_tt, ↓gIfW_ff, ↓gIfW_tf, ↓gIfW_ft, binI, divI, shiftI, add_mk, Nat.zero_add, cond_true, cond_false, decide_true, decide_false, Bool.not_true, Bool.not_false, Bool.and_true, Bool.true_and, Bool.and_false, Bool.false_and, Int.toNat_natCast, Nat.mul_one, c]
    rw [decide_eq_true (by omega)] at h
    simp only [Bool.true_and] at h
    refine oubliettelaw20_light.loop1 (fun x3 w' => ∃ i : Nat, i ≤ l.length ∧ x3 = .int .i64 i ∧ (∀ j (hj : j < l.length), j < i → l[j].2.length ≤ 600) ∧ Ext w w') (fun x3 _ => l.length - (iv x3).toNat) ⟨0, by omega, rfl, fun j hj h => by omega, Fr.refl _ _⟩ ?_
    rintro x3 gg w1 ⟨i, hi, rfl, ht, h1⟩
    unfold oubliettelaw20_light.b1
    by_cases ci : (i : Int) < (l.length : Int)
    · obtain ⟨ad, c', us, e1, s1, _, hus, q1, r1⟩ := (hx.ext h1).idxN (i := i) (by omega)
      simp only [Value.slice.injEq] at e1
      obtain ⟨rfl, -, rfl⟩ := e1
      obtain ⟨va, vb, rfl, hva, hvb, r2, r3⟩ := r1
      obtain ⟨rfl, hp0, hp1⟩ := r2
      obtain ⟨a2, c2', rfl, hc2, hl2, hr3⟩ := r3
      have q := q1 1 _ rfl
      have qe : w1.cell? ((ad.add (i * 2)).add 1) = some (.slice a2 l[i].2.length c2') := by rw [add_add _ _ _ s1]; exact q
      simp only [↓eBinI, ↓eDiv, ↓eShift, ↓eBinS, ↓ePick, ↓eNot, ↓eNeg, ↓eConv, ↓eConvS, ↓eExt0, ↓eExt1, ↓eExt2, ↓eFA, ↓eIA, ↓eLenSl, ↓eCapSl, ↓eLenS, ↓eMin, ↓eMax, ↓eCondT, ↓eCondF, ↓gIf_tt, ↓gIf_ff, ↓gIf_tf, ↓gIf_ft, ↓gIf_u, ↓gIfW_u, ↓gIfW_tt, ↓gIfW_ff, ↓gIfW_tf, ↓gIfW_ft, binI, divI, shiftI, add_mk, Nat.zero_add, cond_true, cond_false, decide_true, decide_false, Bool.not_true, Bool.not_false, Bool.and_true, Bool.true_and, Bool.and_false, Bool.false_and, Int.toNat_natCast, Nat.mul_one, ci, ↓eLdW, qe, Option.some.injEq, exists_eq_left']
      refine ⟨by omega, by first | trivial | omega, ?_⟩
      by_cases cr : (l[i].2.length : Int) > 600
      · simp only [↓eBinI, ↓eDiv, ↓eShift, ↓eBinS, ↓ePick, ↓eNot, ↓eNeg, ↓eConv, ↓eConvS, ↓eExt0, ↓eExt1, ↓eExt2, ↓eFA, ↓eIA, ↓eLenSl, ↓eCapSl, ↓eLenS, ↓eMin, ↓eMax, ↓eCondT, ↓eCondF, ↓gIf_tt, ↓gIf_ff, ↓gIf_tf, ↓gIf_ft, ↓gIf_u, ↓gIfW_u, ↓gIfW_tt, ↓gIfW_ff, ↓gIfW_tf, ↓gIfW_ft, binI, divI, shiftI, add_mk, Nat.zero_add, cond_true, cond_false, decide_true, decide_false, Bool.not_true, Bool.not_false, Bool.and_true, Bool.true_and, Bool.and_false, Bool.false_and, Int.toNat_natCast, Nat.mul_one, cr]
        have := h w1 h1
        rw [show (l.all fun r => decide (r.2.length ≤ 600)) = false from ?_] at this
        · exact this
        · rw [List.all_eq_false]
          refine ⟨l[i]'(by omega), List.getElem_mem _, ?_⟩
          rw [decide_eq_true_eq]
          omega
      · simp only [↓eBinI, ↓eDiv, ↓eShift, ↓eBinS, ↓ePick, ↓eNot, ↓eNeg, ↓eConv, ↓eConvS, ↓eExt0, ↓eExt1, ↓eExt2, ↓eFA, ↓eIA, ↓eLenSl, ↓eCapSl, ↓eLenS, ↓eMin, ↓eMax, ↓eCondT, ↓eCondF, ↓gIf_tt, ↓gIf_ff, ↓gIf_tf, ↓gIf_ft, ↓gIf_u, ↓gIfW_u, ↓gIfW_tt, ↓gIfW_ff, ↓gIfW_tf, ↓gIfW_ft, binI, divI, shiftI, add_mk, Nat.zero_add, cond_true, cond_false, decide_true, decide_false, Bool.not_true, Bool.not_false, Bool.and_true, Bool.true_and, Bool.and_false, Bool.false_and, Int.toNat_natCast, Nat.mul_one, cr]
        rw [wrap64 (by omega) (by omega)]
        refine oubliettelaw20_light.leaf1 ⟨i + 1, by omega, by simp, fun j hj hj' => ?_, h1⟩ (by simp only [iv]; omega)
        by_cases e : j = i
        · subst e; omega
        · exact ht j hj (by omega)
    · simp only [↓eBinI, ↓eDiv, ↓eShift, ↓eBinS, ↓ePick, ↓eNot, ↓eNeg, ↓eConv, ↓eConvS, ↓eExt0, ↓eExt1, ↓eExt2, ↓eFA, ↓eIA, ↓eLenSl, ↓eCapSl, ↓eLenS, ↓eMin, ↓eMax, ↓eCondT, ↓eCondF, ↓gIf_tt, ↓gIf_ff, ↓gIf_tf, ↓gIf_ft, ↓gIf_u, ↓gIfW_u, ↓gIfW_tt, ↓gIfW_ff, ↓gIfW_tf, ↓gIfW_ft, binI, divI, shiftI, add_mk, Nat.zero_add, cond_true, cond_false, decide_true, decide_false, Bool.not_true, Bool.not_false, Bool.and_true, Bool.true_and, Bool.and_false, Bool.false_and, Int.toNat_natCast, Nat.mul_one, ci]
      have := h w1 h1
      rw [show (l.all fun r => decide (r.2.length ≤ 600)) = true from ?_] at this
      · exact this
      · rw [List.all_eq_true]
        intro r hr
        obtain ⟨j, hj, rfl⟩ := List.getElem_of_mem hr
        simpa using ht j hj (by omega)
end Go.Proofs.Ytlolomdgchkibaa
