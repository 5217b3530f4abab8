/-
  Whether a number is among numbers, as the library says it; writes cloned, and those struck whose place is hidden.
-/
import Derived.Test.YtlolomdgchkibaaTp
import Derived.Test.YtlolomdgchkibaaGr
set_option linter.unusedSimpArgs false
set_option linter.unusedVariables false
namespace Go.Proofs.Ytlolomdgchkibaa
open Go Go.G
variable {X : KX} {w : World} {K : KV} {D D' : Nat → Prop}
theorem Contains_c {x : Value} {xs : List Int} {n : Int} (hx : Rd (.slice (.int .i64)) D w [x] xs) (h : ∀ w', Ext w w' → K (.bool (decide (n ∈ xs))) w') : GCalls Try.prog 71 [x, .int .i64 n] K X w := by
  obtain ⟨a1, c1, rfl, hc1, hl1⟩ := hx.form
  apply slices_Contains_int_int.calls; unfold slices_Contains_int_int.b
  refine (?_ : GCalls Try.prog 84 [.slice a1 xs.length c1, .int .i64 n] _ X w)
  apply slices_Index_int_int.calls; unfold slices_Index_int_int.b
  simp only [↓eBinI, ↓eDiv, ↓eShift, ↓eBinS, ↓ePick, ↓eNot, ↓eNeg, ↓eConv, ↓eConvS, ↓eExt0, ↓eExt1, ↓eExt2, ↓eFA, ↓eIA, ↓eLenSl, ↓eCapSl, ↓eLenS, ↓eMin, ↓eMax, ↓eCondT, ↓eCondF, ↓gIf_tt, ↓gIf_ff, ↓gIf_tf, ↓gIf_ft, ↓gIf_u, ↓gIfW_u, ↓gIfW_tt, ↓gIfW_ff, ↓gIfW_tf, ↓gIfW_ft, binI, divI, shiftI, add_mk, Nat.zero_add, cond_true, cond_false, decide_true, decide_false, Bool.not_true, Bool.not_false, Bool.and_true, Bool.true_and, Bool.and_false, Bool.false_and, Int.toNat_natCast, Nat.mul_one]
  refine slices_Index_int_int.loop1 (fun x8 w' => ∃ i : Nat, i ≤ xs.length ∧ x8 = .int .i64 i ∧ n ∉ xs.take i ∧ Ext w w') (fun x8 _ => xs.length - (iv x8).toNat) ⟨0, by omega, rfl, by simp, Fr.refl _ _⟩ ?_
  rintro x8 gg w1 ⟨i, hi, rfl, ht, h1⟩
  unfold slices_Index_int_int.b1
  simp only [↓eBinI, ↓eDiv, ↓eShift, ↓eBinS, ↓ePick, ↓eNot, ↓eNeg, ↓eConv, ↓eConvS, ↓eExt0, ↓eExt1, ↓eExt2, ↓eFA, ↓eIA, ↓eLenSl, ↓eCapSl, ↓eLenS, ↓eMin, ↓eMax, ↓eCondT, ↓eCondF, ↓gIf_tt, ↓gIf_ff, ↓gIf_tf, ↓gIf_ft, ↓gIf_u, ↓gIfW_u, ↓gIfW_tt, ↓gIfW_ff, ↓gIfW_tf, ↓gIfW_ft, binI, divI, shiftI, add_mk, Nat.zero_add, cond_true, cond_false, decide_true, decide_false, Bool.not_true, Bool.not_false, Bool.and_true, Bool.true_and, Bool.and_false, Bool.false_and, Int.toNat_natCast, Nat.mul_one]
  by_cases ci : (i : Int) < (xs.length : Int)
  · obtain ⟨b1, k1, u1, e1, s1, -, q1, r1⟩ := (hx.ext h1).idx rfl (i := i) (by omega)
    simp only [Value.slice.injEq] at e1
    obtain ⟨rfl, -, rfl⟩ := e1
    have v1 := r1.1
    simp only [List.cons.injEq, and_true] at v1
    subst v1
    simp only [↓eBinI, ↓eDiv, ↓eShift, ↓eBinS, ↓ePick, ↓eNot, ↓eNeg, ↓eConv, ↓eConvS, ↓eExt0, ↓eExt1, ↓eExt2, ↓eFA, ↓eIA, ↓eLenSl, ↓eCapSl, ↓eLenS, ↓eMin, ↓eMax, ↓eCondT, ↓eCondF, ↓gIf_tt, ↓gIf_ff, ↓gIf_tf, ↓gIf_ft, ↓gIf_u, ↓gIfW_u, ↓gIfW_tt, ↓gIfW_ff, ↓gIfW_tf, ↓gIfW_ft, binI, divI, shiftI, add_mk, Nat.zero_add, cond_true, cond_false, decide_true, decide_false, Bool.not_true, Bool.not_false, Bool.and_true, Bool.true_and, Bool.and_false, Bool.false_and, Int.toNat_natCast, Nat.mul_one, ci, ↓eLdW, q1, Option.some.injEq, exists_eq_left']
    refine ⟨by omega, by first | trivial | omega, ?_⟩
    by_cases cx : n = xs[i]
    · have e : (n == xs[i]) = true := by simpa using cx
      simp only [↓eBinI, ↓eDiv, ↓eShift, ↓eBinS, ↓ePick, ↓eNot, ↓eNeg, ↓eConv, ↓eConvS, ↓eExt0, ↓eExt1, ↓eExt2, ↓eFA, ↓eIA, ↓eLenSl, ↓eCapSl, ↓eLenS, ↓eMin, ↓eMax, ↓eCondT, ↓eCondF, ↓gIf_tt, ↓gIf_ff, ↓gIf_tf, ↓gIf_ft, ↓gIf_u, ↓gIfW_u, ↓gIfW_tt, ↓gIfW_ff, ↓gIfW_tf, ↓gIfW_ft, binI, divI, shiftI, add_mk, Nat.zero_add, cond_true, cond_false, decide_true, decide_false, Bool.not_true, Bool.not_false, Bool.and_true, Bool.true_and, Bool.and_false, Bool.false_and, Int.toNat_natCast, Nat.mul_one, e]
      have hk := h w1 h1
      rw [decide_eq_true (by rw [cx]; exact List.getElem_mem _)] at hk
      have : decide ((i : Int) ≥ 0) = true := decide_eq_true (by omega)
      rw [this]; exact hk
    · have e : (n == xs[i]) = false := by simpa using cx
      simp only [↓eBinI, ↓eDiv, ↓eShift, ↓eBinS, ↓ePick, ↓eNot, ↓eNeg, ↓eConv, ↓eConvS, ↓eExt0, ↓eExt1, ↓eExt2, ↓eFA, ↓eIA, ↓eLenSl, ↓eCapSl, ↓eLenS, ↓eMin, ↓eMax, ↓eCondT, ↓eCondF, ↓gIf_tt, ↓gIf_ff, ↓gIf_tf, ↓gIf_ft, ↓gIf_u, ↓gIfW_u, ↓gIfW_tt, ↓gIfW_ff, ↓gIfW_tf, ↓gIfW_ft, binI, divI, shiftI, add_mk, Nat.zero_add, cond_true, cond_false, decide_true, decide_false, Bool.not_true, Bool.not_false, Bool.and_true, Bool.true_and, Bool.and_false, Bool.false_and, Int.toNat_natCast, Nat.mul_one, e]
      rw [wrap64 (by omega) (by omega)]
      refine slices_Index_int_int.leaf1 ⟨i + 1, by omega, by simp, ?_, h1⟩ (by simp only [iv]; omega)
      rw [List.take_succ_eq_append_getElem (by omega)]
      intro hm
      rcases List.mem_append.1 hm with hm | hm
      · exact ht hm
      · exact cx (List.mem_singleton.1 hm)
  · simp only [↓eBinI, ↓eDiv, ↓eShift, ↓eBinS, ↓ePick, ↓eNot, ↓eNeg, ↓eConv, ↓eConvS, ↓eExt0, ↓eExt1, ↓eExt2, ↓eFA, ↓eIA, ↓eLenSl, ↓eCapSl, ↓eLenS, ↓eMin, ↓eMax, ↓eCondT, ↓eCondF, ↓gIf_tt, ↓gIf_ff, ↓gIf_tf, ↓gIf_ft, ↓gIf_u, ↓gIfW_u, ↓gIfW_tt, ↓gIfW_ff, ↓gIfW_tf, ↓gIfW_ft, binI, divI, shiftI, add_mk, Nat.zero_add, cond_true, cond_false, decide_true, decide_false, Bool.not_true, Bool.not_false, Bool.and_true, Bool.true_and, Bool.and_false, Bool.false_and, Int.toNat_natCast, Nat.mul_one, ci]
    have hk := h w1 h1
    have : i = xs.length := by omega
    subst this
    rw [List.take_length] at ht
    rw [decide_eq_false ht] at hk
    have : decide ((-1 : Int) ≥ 0) = false := by decide
    rw [this]; exact hk
/-- The closure: is a write's place hidden? -/
theorem covert_c {g : Nat} {hid : List Int} {vh : Value} {us : List Value} {r : Int × List UInt8} (hg : Cs w g [vh]) (hh : Rd (.slice (.int .i64)) D w [vh] hid) (hr : Rd tWrite D' w us r)
    (h : ∀ w', Ext w w' → K (.bool (decide (r.1 ∈ hid))) w') : GCalls Try.prog 70 [.agg ⟨us⟩, .pointer (some ⟨g, 0, none⟩)] K X w := by
  obtain ⟨va, vb, rfl, hva, hvb, r2, r3⟩ := hr
  obtain ⟨rfl, hp0, hp1⟩ := r2
  apply trail_Seen_c1.calls; unfold trail_Seen_c1.b
  refine boxC fun g2 w1 hg2 h1 b1 => ?_
  simp only [↓eBinI, ↓eDiv, ↓eShift, ↓eBinS, ↓ePick, ↓eNot, ↓eNeg, ↓eConv, ↓eConvS, ↓eExt0, ↓eExt1, ↓eExt2, ↓eFA, ↓eIA, ↓eLenSl, ↓eCapSl, ↓eLenS, ↓eMin, ↓eMax, ↓eCondT, ↓eCondF, ↓gIf_tt, ↓gIf_ff, ↓gIf_tf, ↓gIf_ft, ↓gIf_u, ↓gIfW_u, ↓gIfW_tt, ↓gIfW_ff, ↓gIfW_tf, ↓gIfW_ft, binI, divI, shiftI, add_mk, Nat.zero_add, cond_true, cond_false, decide_true, decide_false, Bool.not_true, Bool.not_false, Bool.and_true, Bool.true_and, Bool.and_false, Bool.false_and, Int.toNat_natCast, Nat.mul_one, ↓(hg.ext h1).c0, ↓Cs.c0 (show Cs w1 g2 (.int .i64 r.1 :: vb) from b1)]
  exact Contains_c (hh.ext h1) fun w2 h2 => h w2 (h1.tr h2)
theorem CloneW_c {x : Value} {l : List (Int × List UInt8)} (hx : Rd (.slice tWrite) D w [x] l) (hD : ∀ b, D b → b < w.heap.size) (hl : l.length ≤ 1000)
    (h : ∀ v w', Ext w w' → Own tWrite D w.heap.size w' v l → K v w') : GCalls Try.prog 73 [x] K X w := by
  obtain ⟨a1, c1, rfl, hc1, hl1⟩ := hx.form
  apply slices_Clone_api_Write_api_Write.calls; unfold slices_Clone_api_Write_api_Write.b
  cases a1 with
  | none =>
    refine ⟨true, rfl, ?_⟩
    rw [show (true != false) = true from rfl]
    simp only [↓eCondT]
    have : l = [] := by
      obtain ⟨a, c, e, _, _, hne⟩ := hx
      by_cases hx0 : l = []
      · exact hx0
      · obtain ⟨ad, e2, _⟩ := hne hx0
        simp at e; rw [← e.1] at e2; cases e2
    subst this
    exact h _ w (Fr.refl _ _) Own.nil
  | some ad =>
    refine ⟨false, rfl, ?_⟩
    rw [show (false != false) = false from rfl]
    simp only [↓eCondF]
    refine bslice0 fun g w1 hg h1 _ => ?_
    have ho : Own tWrite D w.heap.size w1 (.slice (some ⟨g, 0, none⟩) 0 0) [] := .inl ⟨rfl, _, rfl⟩
    refine ho.cat h1.size (fun hd => by have := hD _ hd; have := h1.size; omega) rfl rfl (hx.ext h1) (fun cs h => h) (by simp; omega) fun v w2 hv hf _ => ?_
    rw [List.nil_append] at hv
    exact h v w2 (h1.tn hf (fun x hx => hx.2)) hv
end Go.Proofs.Ytlolomdgchkibaa
