/-
  Bytes alike, cloned, joined.
  Bytes in a block's cells; what is copied into a block.
-/
import Derived.Test.YtkpgmaiklfjjgaaDoorMoak
section
set_option linter.unusedSimpArgs false
set_option linter.unusedVariables false
namespace Go.Proofs.YtkpgmaiklfjjgaaDoor
open Go Go.G
variable {X : KX} {w : World} {K : KV} {D D' : Nat → Prop}
theorem idxByte {v : Value} {xs : List UInt8} (h : Rd (.slice .byte) D w [v] xs) {i : Nat} (hi : i < xs.length) : ∃ a c, v = .slice (some a) xs.length c ∧ w.cell? (a.add i) = some (.int .u8 (xs[i].toNat : Int)) := by
  obtain ⟨a, c, u, e, _, _, h1, h2⟩ := h.idx rfl hi
  have : [u] = [Value.int .u8 (xs[i].toNat : Int)] := h2
  simp only [List.cons.injEq, and_true] at this
  exact ⟨a, c, e, by rw [h1, this]⟩
theorem rdI {n : Int} (h0 : -9223372036854775808 ≤ n) (h1 : n ≤ 9223372036854775807) : Rd (.int .i64) D w [.int .i64 n] n := ⟨rfl, h0, h1⟩
theorem u8_ne {a b : UInt8} : ((a.toNat : Int) != (b.toNat : Int)) = decide (a ≠ b) := by
  by_cases h : a = b
  · subst h; simp
  · rw [bne_iff_ne.2 (fun e => h (UInt8.toNat.inj (by omega)))]; simp [h]
theorem Same_c {x y : Value} {xs ys : List UInt8} (hx : Rd (.slice .byte) D w [x] xs) (hy : Rd (.slice .byte) D' w [y] ys) (h : ∀ w', Ext w w' → K (.bool (decide (xs = ys))) w') : GCalls Tryd.prog 16 [x, y] K X w := by
  obtain ⟨a1, c1, rfl, hc1, hl1⟩ := hx.form
  obtain ⟨a2, c2, rfl, hc2, hl2⟩ := hy.form
  apply oublietteref01_Same.calls; unfold oublietteref01_Same.b
  simp only [↓eBinI, ↓eDiv, ↓eShift, ↓eBinS, ↓ePick, ↓eNot, ↓eNeg, ↓eConv, ↓eConvS, ↓eExt0, ↓eExt1, ↓eExt2, ↓eFA, ↓eIA, ↓eLenSl, ↓eCapSl, ↓eLenS, ↓eMin, ↓eMax, ↓eCondT, ↓eCondF, ↓gIf_tt, ↓gIf_ff, ↓gIf_tf, ↓gIf_ft, ↓gIf_u, ↓gIfW_u, ↓gIfW_tt, ↓gIfW_ff, ↓gIfW_tf, ↓gIfW_ft, binI, divI, shiftI, add_mk, Nat.zero_add, cond_true, cond_false, decide_true, decide_false, Bool.not_true, Bool.not_false, Bool.and_true, Bool.true_and, Bool.and_false, Bool.false_and, Int.toNat_natCast, Nat.mul_one]
  by_cases c : xs.length = ys.length
  · have e : (((xs.length : Nat) : Int) != ((ys.length : Nat) : Int)) = false := by rw [bne_eq_false_iff_eq]; omega
    simp only [↓eBinI, ↓eDiv, ↓eShift, ↓eBinS, ↓ePick, ↓eNot, ↓eNeg, ↓eConv, ↓eConvS, ↓eExt0, ↓eExt1, ↓eExt2, ↓eFA, ↓eIA, ↓eLenSl, ↓eCapSl, ↓eLenS, ↓eMin, ↓eMax, ↓eCondT, ↓eCondF, ↓gIf_tt, ↓gIf_ff, ↓gIf_tf, ↓gIf_ft, ↓gIf_u, ↓gIfW_u, ↓gIfW_tt, ↓gIfW_ff, ↓gIfW_tf, ↓gIfW_ft, binI, divI, shiftI, add_mk, Nat.zero_add, cond_true, cond_false, decide_true, decide_false, Bool.not_true, Bool.not_false, Bool.and_true, Bool.true_and, Bool.and_false, Bool.false_and, Int.toNat_natCast, Nat.mul_one, e]
    refine oublietteref01_Same.loop1 (fun x5 w' => ∃ i : Nat, i ≤ xs.length ∧ x5 = .int .i64 i ∧ xs.take i = ys.take i ∧ Ext w w') (fun x5 _ => xs.length - (iv x5).toNat) ⟨0, by omega, rfl, rfl, Fr.refl _ _⟩ ?_
    rintro x5 gg w1 ⟨i, hi, rfl, ht, h1⟩
    unfold oublietteref01_Same.b1
    simp only [↓eBinI, ↓eDiv, ↓eShift, ↓eBinS, ↓ePick, ↓eNot, ↓eNeg, ↓eConv, ↓eConvS, ↓eExt0, ↓eExt1, ↓eExt2, ↓eFA, ↓eIA, ↓eLenSl, ↓eCapSl, ↓eLenS, ↓eMin, ↓eMax, ↓eCondT, ↓eCondF, ↓gIf_tt, ↓gIf_ff, ↓gIf_tf, ↓gIf_ft, ↓gIf_u, ↓gIfW_u, ↓gIfW_tt, ↓gIfW_ff, ↓gIfW_tf, ↓gIfW_ft, binI, divI, shiftI, add_mk, Nat.zero_add, cond_true, cond_false, decide_true, decide_false, Bool.not_true, Bool.not_false, Bool.and_true, Bool.true_and, Bool.and_false, Bool.false_and, Int.toNat_natCast, Nat.mul_one]
    by_cases ci : (i : Int) < (xs.length : Int)
    · simp only [↓eBinI, ↓eDiv, ↓eShift, ↓eBinS, ↓ePick, ↓eNot, ↓eNeg, ↓eConv, ↓eConvS, ↓eExt0, ↓eExt1, ↓eExt2, ↓eFA, ↓eIA, ↓eLenSl, ↓eCapSl, ↓eLenS, ↓eMin, ↓eMax, ↓eCondT, ↓eCondF, ↓gIf_tt, ↓gIf_ff, ↓gIf_tf, ↓gIf_ft, ↓gIf_u, ↓gIfW_u, ↓gIfW_tt, ↓gIfW_ff, ↓gIfW_tf, ↓gIfW_ft, binI, divI, shiftI, add_mk, Nat.zero_add, cond_true, cond_false, decide_true, decide_false, Bool.not_true, Bool.not_false, Bool.and_true, Bool.true_and, Bool.and_false, Bool.false_and, Int.toNat_natCast, Nat.mul_one, ci]
      refine draw_ fun w2 h2 => ?_
      obtain ⟨b1, k1, e1, q1⟩ := idxByte ((hx.ext h1).ext h2) (i := i) (by omega)
      obtain ⟨b2, k2, e2, q2⟩ := idxByte ((hy.ext h1).ext h2) (i := i) (by omega)
      simp only [Value.slice.injEq] at e1 e2
      obtain ⟨rfl, -, rfl⟩ := e1
      obtain ⟨rfl, -, rfl⟩ := e2
      simp only [↓eBinI, ↓eDiv, ↓eShift, ↓eBinS, ↓ePick, ↓eNot, ↓eNeg, ↓eConv, ↓eConvS, ↓eExt0, ↓eExt1, ↓eExt2, ↓eFA, ↓eIA, ↓eLenSl, ↓eCapSl, ↓eLenS, ↓eMin, ↓eMax, ↓eCondT, ↓eCondF, ↓gIf_tt, ↓gIf_ff, ↓gIf_tf, ↓gIf_ft, ↓gIf_u, ↓gIfW_u, ↓gIfW_tt, ↓gIfW_ff, ↓gIfW_tf, ↓gIfW_ft, binI, divI, shiftI, add_mk, Nat.zero_add, cond_true, cond_false, decide_true, decide_false, Bool.not_true, Bool.not_false, Bool.and_true, Bool.true_and, Bool.and_false, Bool.false_and, Int.toNat_natCast, Nat.mul_one, ↓eLdE q1, ↓eLdE q2, u8_ne]
      refine ⟨by omega, by omega, by omega, by omega, ?_⟩
      by_cases cx : xs[i] = ys[i]
      · simp only [↓eBinI, ↓eDiv, ↓eShift, ↓eBinS, ↓ePick, ↓eNot, ↓eNeg, ↓eConv, ↓eConvS, ↓eExt0, ↓eExt1, ↓eExt2, ↓eFA, ↓eIA, ↓eLenSl, ↓eCapSl, ↓eLenS, ↓eMin, ↓eMax, ↓eCondT, ↓eCondF, ↓gIf_tt, ↓gIf_ff, ↓gIf_tf, ↓gIf_ft, ↓gIf_u, ↓gIfW_u, ↓gIfW_tt, ↓gIfW_ff, ↓gIfW_tf, ↓gIfW_ft, binI, divI, shiftI, add_mk, Nat.zero_add, cond_true, cond_false, decide_true, decide_false, Bool.not_true, Bool.not_false, Bool.and_true, Bool.true_and, Bool.and_false, Bool.false_and, Int.toNat_natCast, Nat.mul_one, cx, ne_eq, not_true_eq_false]
        rw [wrap64 (by omega) (by omega)]
        refine oublietteref01_Same.leaf1 ⟨i + 1, by omega, by simp, ?_, h1.tr h2⟩ (by simp only [iv]; omega)
        rw [List.take_succ_eq_append_getElem (by omega), List.take_succ_eq_append_getElem (by omega), ht, cx]
      · simp only [↓eBinI, ↓eDiv, ↓eShift, ↓eBinS, ↓ePick, ↓eNot, ↓eNeg, ↓eConv, ↓eConvS, ↓eExt0, ↓eExt1, ↓eExt2, ↓eFA, ↓eIA, ↓eLenSl, ↓eCapSl, ↓eLenS, ↓eMin, ↓eMax, ↓eCondT, ↓eCondF, ↓gIf_tt, ↓gIf_ff, ↓gIf_tf, ↓gIf_ft, ↓gIf_u, ↓gIfW_u, ↓gIfW_tt, ↓gIfW_ff, ↓gIfW_tf, ↓gIfW_ft, binI, divI, shiftI, add_mk, Nat.zero_add, cond_true, cond_false, decide_true, decide_false, Bool.not_true, Bool.not_false, Bool.and_true, Bool.true_and, Bool.and_false, Bool.false_and, Int.toNat_natCast, Nat.mul_one, cx, ne_eq, not_false_eq_true]
        have hk := h w2 (h1.tr h2)
        rw [decide_eq_false (fun e => cx (by subst e; rfl))] at hk
        exact hk
    · simp only [↓eBinI, ↓eDiv, ↓eShift, ↓eBinS, ↓ePick, ↓eNot, ↓eNeg, ↓eConv, ↓eConvS, ↓eExt0, ↓eExt1, ↓eExt2, ↓eFA, ↓eIA, ↓eLenSl, ↓eCapSl, ↓eLenS, ↓eMin, ↓eMax, ↓eCondT, ↓eCondF, ↓gIf_tt, ↓gIf_ff, ↓gIf_tf, ↓gIf_ft, ↓gIf_u, ↓gIfW_u, ↓gIfW_tt, ↓gIfW_ff, ↓gIfW_tf, ↓gIfW_ft, binI, divI, shiftI, add_mk, Nat.zero_add, cond_true, cond_false, decide_true, decide_false, Bool.not_true, Bool.not_false, Bool.and_true, Bool.true_and, Bool.and_false, Bool.false_and, Int.toNat_natCast, Nat.mul_one, ci]
      have hk := h w1 h1
      have : i = xs.length := by omega
      subst this
      rw [decide_eq_true (by rw [List.take_length] at ht; rw [ht, c, List.take_length])] at hk
      exact hk
  · have e : (((xs.length : Nat) : Int) != ((ys.length : Nat) : Int)) = true := by rw [bne_iff_ne]; omega
    simp only [↓eBinI, ↓eDiv, ↓eShift, ↓eBinS, ↓ePick, ↓eNot, ↓eNeg, ↓eConv, ↓eConvS, ↓eExt0, ↓eExt1, ↓eExt2, ↓eFA, ↓eIA, ↓eLenSl, ↓eCapSl, ↓eLenS, ↓eMin, ↓eMax, ↓eCondT, ↓eCondF, ↓gIf_tt, ↓gIf_ff, ↓gIf_tf, ↓gIf_ft, ↓gIf_u, ↓gIfW_u, ↓gIfW_tt, ↓gIfW_ff, ↓gIfW_tf, ↓gIfW_ft, binI, divI, shiftI, add_mk, Nat.zero_add, cond_true, cond_false, decide_true, decide_false, Bool.not_true, Bool.not_false, Bool.and_true, Bool.true_and, Bool.and_false, Bool.false_and, Int.toNat_natCast, Nat.mul_one, e]
    have hk := h w (Fr.refl _ _)
    rw [decide_eq_false (fun e => c (by rw [e]))] at hk
    exact hk
theorem num_Same_c {x y : Value} {xs ys : List UInt8} (hx : Rd (.slice .byte) D w [x] xs) (hy : Rd (.slice .byte) D' w [y] ys) (hl : xs.length + ys.length ≤ 9223372036854775807) (h : ∀ w', Ext w w' → K (.bool (decide (xs = ys))) w') : GCalls Tryd.prog 71 [x, y] K X w := by
  apply num_Same.calls; unfold num_Same.b
  refine (?_ : GCalls Tryd.prog 89 [x, y] _ X w)
  apply bytes_Equal.calls; unfold bytes_Equal.b
  refine strOf (S := (· = w)) (w := w) (fun w' e => e ▸ hx) rfl ?_
  refine strOf (S := (· = w)) (w := w) (fun w' e => e ▸ hy) rfl ?_
  simp only [↓eBinS, binS, bytes_toList]
  refine ⟨?_, ?_⟩
  · have e1 : (⟨xs.toArray⟩ : ByteArray).size = xs.length := rfl
    have e2 : (⟨ys.toArray⟩ : ByteArray).size = ys.length := rfl
    have hm : IntKind.i64.max = 9223372036854775807 := by decide
    rw [e1, e2, hm]; omega
  · have := h w (Fr.refl _ _)
    by_cases e : xs = ys
    · subst e; simpa using this
    · have e' : (xs == ys) = false := by simpa using e
      rw [e']; rwa [decide_eq_false e] at this

theorem Clone_c {x : Value} {xs : List UInt8} (hx : Rd (.slice .byte) D w [x] xs) (hl : xs.length ≤ 1000000) (h : ∀ v w', Ext w w' → G.Own .byte (fun _ => False) w.heap.size w' v xs → one v = true → K v w') : GCalls Tryd.prog 48 [x] K X w := by
  obtain ⟨a1, c1, rfl, hc1, hl1⟩ := hx.form
  apply slices_Clone_byte_byte.calls; unfold slices_Clone_byte_byte.b
  cases a1 with
  | none =>
    refine ⟨true, rfl, ?_⟩
    rw [show (true != false) = true from rfl]
    simp only [↓eCondT]
    have : xs = [] := by
      obtain ⟨a, c, e, _, _, hne⟩ := hx
      by_cases hx0 : xs = []
      · exact hx0
      · obtain ⟨ad, e2, _⟩ := hne hx0
        simp at e; rw [← e.1] at e2; cases e2
    subst this
    exact h _ w (Fr.refl _ _) G.Own.nil rfl
  | some ad =>
    refine ⟨false, rfl, ?_⟩
    rw [show (false != false) = false from rfl]
    simp only [↓eCondF]
    refine Cs.bslice (cs := []) (by simp [fillL, rowOf]) fun g w1 hg h1 b1 => ?_
    obtain ⟨T, b1⟩ := b1
    have ho : G.Own .byte (fun _ => False) w.heap.size w1 (.slice (some ⟨g, 0, none⟩) 0 0) [] := .inl ⟨rfl, _, rfl⟩
    refine ho.cat h1.size (fun h => h) rfl rfl (hx.ext h1) (fun cs h => h.flat rfl) (by simp; omega) fun v w2 hv hf _ => ?_
    rw [List.nil_append] at hv
    refine h v w2 (h1.tn hf (fun x hx => hx.2)) hv ?_
    obtain ⟨a, c, rfl, _⟩ := hv.form
    rfl

/-- append([]byte(nil), a...), then b. -/
theorem ref01_Join_c {x y : Value} {xs ys : List UInt8} (hx : Rd (.slice .byte) D w [x] xs) (hy : Rd (.slice .byte) D' w [y] ys) (hl : xs.length + ys.length ≤ 1000000)
    (h : ∀ v w', Ext w w' → G.Own .byte (fun _ => False) w.heap.size w' v (xs ++ ys) → K v w') : GCalls Tryd.prog 46 [x, y] K X w := by
  apply oublietteref01_Join.calls; unfold oublietteref01_Join.b
  refine G.Own.cat (t := .byte) (D := fun _ => False) (B := w.heap.size) (xs := []) G.Own.nil (Nat.le_refl _) (fun h => h) rfl rfl hx (fun cs h => h.flat rfl) (by simp; omega) fun v1 w1 ho1 hf1 hb1 => ?_
  have h1 : Ext w w1 := Ext.tn (Fr.refl _ _) hf1 (fun x hx => hx.2)
  rw [List.nil_append] at ho1
  refine ho1.cat h1.size (fun h => h) rfl rfl (hy.ext h1) (fun cs h => h.flat rfl) (by omega) fun v2 w2 ho2 hf2 hb2 => ?_
  exact h _ _ (h1.tn hf2 (fun x hx => hx.2)) ho2
theorem Grow_nil_c {n : Nat} (hn : n ≤ 1000000) (h : ∀ v w', Ext w w' → G.Own .byte (fun _ => False) w.heap.size w' v [] → K v w') : GCalls Tryd.prog 111 [.slice none 0 0, .int .i64 n] K X w := by
  apply slices_Grow_byte_byte.calls; unfold slices_Grow_byte_byte.b
  have c0 : ¬ ((n : Int) < 0) := by omega
  have e0 : IntKind.i64.wrap (((0 : Nat) : Int) - ((0 : Nat) : Int)) = 0 := by decide
  have e1 : IntKind.i64.wrap ((n : Int) - 0) = n := by rw [wrap64 (by omega) (by omega)]; omega
  simp only [↓eBinI, ↓eDiv, ↓eShift, ↓eBinS, ↓ePick, ↓eNot, ↓eNeg, ↓eConv, ↓eConvS, ↓eExt0, ↓eExt1, ↓eExt2, ↓eFA, ↓eIA, ↓eLenSl, ↓eCapSl, ↓eLenS, ↓eMin, ↓eMax, ↓eCondT, ↓eCondF, ↓gIf_tt, ↓gIf_ff, ↓gIf_tf, ↓gIf_ft, ↓gIf_u, ↓gIfW_u, ↓gIfW_tt, ↓gIfW_ff, ↓gIfW_tf, ↓gIfW_ft, binI, divI, shiftI, add_mk, Nat.zero_add, cond_true, cond_false, decide_true, decide_false, Bool.not_true, Bool.not_false, Bool.and_true, Bool.true_and, Bool.and_false, Bool.false_and, Int.toNat_natCast, Nat.mul_one, c0, e0, e1]
  by_cases c1 : (n : Int) > 0
  · simp only [↓eBinI, ↓eDiv, ↓eShift, ↓eBinS, ↓ePick, ↓eNot, ↓eNeg, ↓eConv, ↓eConvS, ↓eExt0, ↓eExt1, ↓eExt2, ↓eFA, ↓eIA, ↓eLenSl, ↓eCapSl, ↓eLenS, ↓eMin, ↓eMax, ↓eCondT, ↓eCondF, ↓gIf_tt, ↓gIf_ff, ↓gIf_tf, ↓gIf_ft, ↓gIf_u, ↓gIfW_u, ↓gIfW_tt, ↓gIfW_ff, ↓gIfW_tf, ↓gIfW_ft, binI, divI, shiftI, add_mk, Nat.zero_add, cond_true, cond_false, decide_true, decide_false, Bool.not_true, Bool.not_false, Bool.and_true, Bool.true_and, Bool.and_false, Bool.false_and, Int.toNat_natCast, Nat.mul_one, c1]
    refine eSl (c := 0) bnd_none (bnd_int (by omega)) bnd_none (by omega) (by simp) (by simp) (by simp) ?_
    refine ⟨none, 0, 0, .i64, n, n, by simp, rfl, by omega, by omega, by omega, by omega, fun h => by omega, fun hlt => ⟨?_, [], ⟨by simp, fun i u hi => by simp at hi⟩, fun cap hc hc' => ?_⟩⟩
    · have := nextslicecap_le hlt; omega
    · have hE : Ext w (w.drew.alloc (.cells ([] ++ rowOf [.int .u8 0] n ++ rowOf [.int .u8 0] (cap - (0 + n))).toArray 5)) := (Ext.drew w).tr (Ext.alloc _ _)
      refine eSl (h := 0) (m := cap) bnd_none (bnd_int (by simp)) bnd_none (by omega) (by omega) (by omega) (by simp) ?_
      rw [if_neg (by omega)]
      refine h _ _ hE (.inr ⟨w.heap.size, cap, _, 5, (0, 0), [], _, ?_, Nat.le_refl _, fun h => h, alloc_new w.drew _, fun o _ _ h => by simp at h, rfl, ?_, rfl⟩)
      · simp [add_zero]
      · simp [rowOf, Ty.n]; omega
  · simp only [↓eBinI, ↓eDiv, ↓eShift, ↓eBinS, ↓ePick, ↓eNot, ↓eNeg, ↓eConv, ↓eConvS, ↓eExt0, ↓eExt1, ↓eExt2, ↓eFA, ↓eIA, ↓eLenSl, ↓eCapSl, ↓eLenS, ↓eMin, ↓eMax, ↓eCondT, ↓eCondF, ↓gIf_tt, ↓gIf_ff, ↓gIf_tf, ↓gIf_ft, ↓gIf_u, ↓gIfW_u, ↓gIfW_tt, ↓gIfW_ff, ↓gIfW_tf, ↓gIfW_ft, binI, divI, shiftI, add_mk, Nat.zero_add, cond_true, cond_false, decide_true, decide_false, Bool.not_true, Bool.not_false, Bool.and_true, Bool.true_and, Bool.and_false, Bool.false_and, Int.toNat_natCast, Nat.mul_one, c1]
    exact h _ w (Fr.refl _ _) G.Own.nil
/-- slices.Concat of bytes. -/
theorem Concat_c {x : Value} {xss : List (List UInt8)} (hx : Rd (.slice (.slice .byte)) D w [x] xss) (hl : xss.length ≤ 1000) (hs : ∀ i (h : i < xss.length), xss[i].length ≤ 1000)
    (h : ∀ v w', Ext w w' → G.Own .byte (fun _ => False) w.heap.size w' v xss.flatten → K v w') : GCalls Tryd.prog 97 [x] K X w := by
  obtain ⟨a1, c1, rfl, hc1, hl1⟩ := hx.form
  have hsum : ∀ i, i ≤ xss.length → (xss.take i).flatten.length ≤ 1000 * i := fun i => by
    induction i with
    | zero => simp
    | succ i ih =>
      intro hi
      rw [List.take_succ_eq_append_getElem (by omega), List.flatten_append, List.length_append]
      have := ih (by omega); have := hs i (by omega)
      rw [List.flatten_cons, List.flatten_nil, List.append_nil]; omega
  apply slices_Concat_byte_byte.calls; unfold slices_Concat_byte_byte.b
  simp only [↓eBinI, ↓eDiv, ↓eShift, ↓eBinS, ↓ePick, ↓eNot, ↓eNeg, ↓eConv, ↓eConvS, ↓eExt0, ↓eExt1, ↓eExt2, ↓eFA, ↓eIA, ↓eLenSl, ↓eCapSl, ↓eLenS, ↓eMin, ↓eMax, ↓eCondT, ↓eCondF, ↓gIf_tt, ↓gIf_ff, ↓gIf_tf, ↓gIf_ft, ↓gIf_u, ↓gIfW_u, ↓gIfW_tt, ↓gIfW_ff, ↓gIfW_tf, ↓gIfW_ft, binI, divI, shiftI, add_mk, Nat.zero_add, cond_true, cond_false, decide_true, decide_false, Bool.not_true, Bool.not_false, Bool.and_true, Bool.true_and, Bool.and_false, Bool.false_and, Int.toNat_natCast, Nat.mul_one]
  refine slices_Concat_byte_byte.loop1 (fun x3 x11 w' => ∃ i : Nat, i ≤ xss.length ∧ x11 = .int .i64 i ∧ x3 = .int .i64 ((xss.take i).flatten.length : Nat) ∧ w' = w) (fun _ x11 _ => xss.length - (iv x11).toNat) ⟨0, by omega, rfl, rfl, rfl⟩ ?_
  rintro x3 x11 gg w1 ⟨i, hi, rfl, rfl, rfl⟩
  have hsi := hsum i hi
  unfold slices_Concat_byte_byte.b1
  by_cases ci : (i : Int) < (xss.length : Int)
  · obtain ⟨b1, k1, u, e1, _, _, q1, r1⟩ := hx.idx rfl (i := i) (by omega)
    simp only [Value.slice.injEq] at e1
    obtain ⟨rfl, -, rfl⟩ := e1
    obtain ⟨a2, c2, rfl, hc2, hl2⟩ := r1.form
    have hlen := hs i (by omega)
    have c0 : ¬ (IntKind.i64.wrap ((((xss.take i).flatten.length : Nat) : Int) + (xss[i].length : Int)) < 0) := by
      rw [wrap64 (by omega) (by omega)]; omega
    simp only [↓eBinI, ↓eDiv, ↓eShift, ↓eBinS, ↓ePick, ↓eNot, ↓eNeg, ↓eConv, ↓eConvS, ↓eExt0, ↓eExt1, ↓eExt2, ↓eFA, ↓eIA, ↓eLenSl, ↓eCapSl, ↓eLenS, ↓eMin, ↓eMax, ↓eCondT, ↓eCondF, ↓gIf_tt, ↓gIf_ff, ↓gIf_tf, ↓gIf_ft, ↓gIf_u, ↓gIfW_u, ↓gIfW_tt, ↓gIfW_ff, ↓gIfW_tf, ↓gIfW_ft, binI, divI, shiftI, add_mk, Nat.zero_add, cond_true, cond_false, decide_true, decide_false, Bool.not_true, Bool.not_false, Bool.and_true, Bool.true_and, Bool.and_false, Bool.false_and, Int.toNat_natCast, Nat.mul_one, ci, ↓eLdW, q1, Option.some.injEq, exists_eq_left', c0]
    refine ⟨by omega, trivial, ?_⟩
    rw [wrap64 (by omega) (by omega), wrap64 (by omega) (by omega)]
    refine slices_Concat_byte_byte.leaf1 ⟨i + 1, by omega, by simp, ?_, rfl⟩ (by simp only [iv]; omega)
    rw [List.take_succ_eq_append_getElem (by omega), List.flatten_append, List.length_append]; simp
  · simp only [↓eBinI, ↓eDiv, ↓eShift, ↓eBinS, ↓ePick, ↓eNot, ↓eNeg, ↓eConv, ↓eConvS, ↓eExt0, ↓eExt1, ↓eExt2, ↓eFA, ↓eIA, ↓eLenSl, ↓eCapSl, ↓eLenS, ↓eMin, ↓eMax, ↓eCondT, ↓eCondF, ↓gIf_tt, ↓gIf_ff, ↓gIf_tf, ↓gIf_ft, ↓gIf_u, ↓gIfW_u, ↓gIfW_tt, ↓gIfW_ff, ↓gIfW_tf, ↓gIfW_ft, binI, divI, shiftI, add_mk, Nat.zero_add, cond_true, cond_false, decide_true, decide_false, Bool.not_true, Bool.not_false, Bool.and_true, Bool.true_and, Bool.and_false, Bool.false_and, Int.toNat_natCast, Nat.mul_one, ci]
    have : i = xss.length := by omega
    subst this
    refine Grow_nil_c (by omega) fun v w2 h2 hv => ?_
    refine slices_Concat_byte_byte.loop2 (fun x6 x27 w' => ∃ i : Nat, i ≤ xss.length ∧ x27 = .int .i64 i ∧ Ext w1 w' ∧ G.Own .byte (fun _ => False) w1.heap.size w' x6 (xss.take i).flatten) (fun _ x27 _ => xss.length - (iv x27).toNat) ⟨0, by omega, rfl, h2, hv⟩ ?_
    rintro x6 x27 gg2 w3 ⟨j, hj, rfl, h3, ho⟩
    unfold slices_Concat_byte_byte.b2
    by_cases cj : (j : Int) < (xss.length : Int)
    · obtain ⟨b1, k1, u, e1, _, _, q1, r1⟩ := (hx.ext h3).idx rfl (i := j) (by omega)
      simp only [Value.slice.injEq] at e1
      obtain ⟨rfl, -, rfl⟩ := e1
      simp only [↓eBinI, ↓eDiv, ↓eShift, ↓eBinS, ↓ePick, ↓eNot, ↓eNeg, ↓eConv, ↓eConvS, ↓eExt0, ↓eExt1, ↓eExt2, ↓eFA, ↓eIA, ↓eLenSl, ↓eCapSl, ↓eLenS, ↓eMin, ↓eMax, ↓eCondT, ↓eCondF, ↓gIf_tt, ↓gIf_ff, ↓gIf_tf, ↓gIf_ft, ↓gIf_u, ↓gIfW_u, ↓gIfW_tt, ↓gIfW_ff, ↓gIfW_tf, ↓gIfW_ft, binI, divI, shiftI, add_mk, Nat.zero_add, cond_true, cond_false, decide_true, decide_false, Bool.not_true, Bool.not_false, Bool.and_true, Bool.true_and, Bool.and_false, Bool.false_and, Int.toNat_natCast, Nat.mul_one, cj, ↓eLdW, q1, Option.some.injEq, exists_eq_left']
      refine ⟨by omega, trivial, ?_⟩
      have hsj := hsum j hj
      have hlen := hs j (by omega)
      refine ho.cat h3.size (fun h => h) rfl rfl r1 (fun cs h => h.flat rfl) (by omega) fun v' w4 ho' hf' _ => ?_
      rw [wrap64 (by omega) (by omega)]
      refine slices_Concat_byte_byte.leaf2 ⟨j + 1, by omega, by simp, h3.tn hf' (fun x hx => hx.2), ?_⟩ (by simp only [iv]; omega)
      rw [List.take_succ_eq_append_getElem (by omega), List.flatten_append]; simpa using ho'
    · simp only [↓eBinI, ↓eDiv, ↓eShift, ↓eBinS, ↓ePick, ↓eNot, ↓eNeg, ↓eConv, ↓eConvS, ↓eExt0, ↓eExt1, ↓eExt2, ↓eFA, ↓eIA, ↓eLenSl, ↓eCapSl, ↓eLenS, ↓eMin, ↓eMax, ↓eCondT, ↓eCondF, ↓gIf_tt, ↓gIf_ff, ↓gIf_tf, ↓gIf_ft, ↓gIf_u, ↓gIfW_u, ↓gIfW_tt, ↓gIfW_ff, ↓gIfW_tf, ↓gIfW_ft, binI, divI, shiftI, add_mk, Nat.zero_add, cond_true, cond_false, decide_true, decide_false, Bool.not_true, Bool.not_false, Bool.and_true, Bool.true_and, Bool.and_false, Bool.false_and, Int.toNat_natCast, Nat.mul_one, cj]
      have : j = xss.length := by omega
      subst this
      rw [List.take_length] at ho
      exact h _ w3 h3 ho
theorem cutTo {x : Option Addr} {n c k : Nat} {xs : List UInt8} (hx : Rd (.slice .byte) D w [.slice x n c] xs) (hk : k ≤ n) (hc : n ≤ c) :
    Rd (.slice .byte) D w [.slice (if c = 0 then x else x.map (·.add (0 * 1))) (k - 0) (c - 0)] (xs.take k) := by
  have := hx.cut (l := 0) (e := k) (m := c) (by omega) hk (by omega) (Nat.le_refl _)
  simpa using this
theorem cutFrom {x : Option Addr} {n c k : Nat} {xs : List UInt8} (hx : Rd (.slice .byte) D w [.slice x n c] xs) (hk : k ≤ n) (hn : xs.length = n) (hc : n ≤ c) :
    Rd (.slice .byte) D w [.slice (if c = k then x else x.map (·.add (k * 1))) (n - k) (c - k)] (xs.drop k) := by
  have := hx.cut (l := k) (e := n) (m := c) hk (Nat.le_refl _) hc (Nat.le_refl _)
  rw [List.take_of_length_le (by omega)] at this
  exact this

theorem bslice0 {E : Nat} {z : List Value} {w : World} {K : KV} (h : ∀ g w', w.heap.size = g → Ext w w' → g < w'.heap.size → K (.slice (some ⟨g, 0, none⟩) 0 0) w') : pBSlice E 0 (rowOf z 0) [] w K :=
  ⟨[], by simp [rowOf, fillL], h _ _ rfl (Ext.alloc w _) (by rw [size_alloc]; exact Nat.lt_succ_self _)⟩

end Go.Proofs.YtkpgmaiklfjjgaaDoor
end
section
set_option linter.unusedSimpArgs false
set_option linter.unusedVariables false
namespace Go.G
open Go
variable {w : World} {g : Nat} {l : List Value} {D : Nat → Prop}
def bv (l : List UInt8) : List Value := l.map fun b => .int .u8 (b.toNat : Int)
theorem bv_len (l : List UInt8) : (bv l).length = l.length := by simp [bv]
theorem bv_get {l : List UInt8} {i : Nat} (h : i < l.length) : (bv l)[i]? = some (.int .u8 (l[i].toNat : Int)) := by simp [bv, h]
theorem bv_one (l : List UInt8) : ∀ v ∈ bv l, one v = true := fun v hv => by
  obtain ⟨x, _, rfl⟩ := List.mem_map.1 hv; rfl
theorem bv_rows (D : Nat → Prop) (w : World) : ∀ l : List UInt8, RdL .byte D w (bv l) l
  | [] => rfl
  | x :: r => ⟨[.int .u8 (x.toNat : Int)], bv r, rfl, rfl, bv_rows D w r⟩
theorem rows_bv {D : Nat → Prop} {w : World} : ∀ {l : List UInt8} {cs : List Value}, RdL .byte D w cs l → cs = bv l
  | [], _, h => h
  | x :: r, _, ⟨a, b, h1, h2, h3⟩ => by
    have e1 : a = [.int .u8 (x.toNat : Int)] := h2
    rw [h1, e1, rows_bv h3]; rfl
theorem bv_zero (n : Nat) : rowOf [Value.int .u8 0] n = bv (List.replicate n 0) := by
  induction n with
  | zero => rfl
  | succ n ih =>
    have : rowOf [Value.int .u8 0] (n + 1) = Value.int .u8 0 :: rowOf [Value.int .u8 0] n := by simp [rowOf, List.replicate_succ]
    rw [this, ih]; rfl
/-- What is read of bytes. -/
theorem reads_bv {v : Value} {ys : List UInt8} {k : Nat} (h : Rd (.slice .byte) D w [v] ys) (hk : k ≤ ys.length) : reads w 1 k v (bv (ys.take k)) := by
  obtain ⟨a, c, e, hc, hl⟩ := h.form
  subst e
  refine ⟨by rw [bv_len, List.length_take, Nat.min_eq_left hk, Nat.mul_one], fun i u hi => ?_⟩
  have hlt : i < k := by
    have := (List.getElem?_eq_some_iff.1 hi).1
    rw [bv_len, List.length_take] at this; omega
  obtain ⟨ad, c', u', e', _, _, h5, h6⟩ := h.idx rfl (i := i) (by omega)
  simp only [Value.slice.injEq] at e'
  have hu : [u'] = [Value.int .u8 (ys[i].toNat : Int)] := h6
  simp only [List.cons.injEq, and_true] at hu
  rw [bv_get (by rw [List.length_take]; omega)] at hi
  refine ⟨ad, e'.1, ?_⟩
  rw [h5, hu, ← hi]; simp
/-- What is read of a block's cells. -/
theorem Cs.reads {n c k o : Nat} (h : Cs w g l) (hk : o + k ≤ l.length) : reads w 1 k (.slice (some ⟨g, o, none⟩) n c) ((l.drop o).take k) := by
  refine ⟨by rw [List.length_take, List.length_drop]; omega, fun i u hi => ⟨_, rfl, ?_⟩⟩
  rw [add_mk, h.c, ← hi]
  have hlt : i < k := by
    have := (List.getElem?_eq_some_iff.1 hi).1
    rw [List.length_take] at this; omega
  rw [List.getElem?_take, if_pos hlt, List.getElem?_drop]
/-- copy(b[o:], x) -/
theorem Cs.copy {o n c k : Nat} {xs : List Value} {x : Value} {K : KV} (h : Cs w g l) (hk : min (lenV x) n = k) (hr : Go.G.reads w 1 k x xs) (hx : xs.length = k) (hl : o + k ≤ l.length) (ho : ∀ v ∈ xs, one v = true)
    (K_ : ∀ w', Cs w' g (l.take o ++ xs ++ l.drop (o + k)) → Fr (· = g) w w' → K (.int .i64 k) w') : pCopy 1 (.slice (some ⟨g, o, none⟩) n c) x w K := by
  have hc := h.c
  obtain ⟨T, h⟩ := h
  subst hk
  refine ⟨_, n, c, xs, rfl, hr, fun j v hj => ?_, K_ _ ?_ (Fr.setCells ⟨g, o, none⟩ xs 0 w)⟩
  · have hjl := (List.getElem?_eq_some_iff.1 hj).1
    rw [add_mk]
    exact ⟨⟨_, by rw [hc]; exact List.getElem?_eq_getElem (by omega)⟩, by simp [World.frozen?, h], ho v (List.mem_of_getElem? hj)⟩
  · obtain ⟨cs', g1, g2⟩ := setCells_heap (g := g) (o := o) xs 0 w ⟨l⟩ (l.take o) (l.drop o) h (by simp) (by rw [List.length_take]; omega) (by rw [List.length_drop]; omega)
    refine ⟨T, ?_⟩
    rw [g1]
    have : cs' = ⟨l.take o ++ xs ++ l.drop (o + min (lenV x) n)⟩ := by
      apply Array.ext'
      rw [g2, List.drop_drop, hx]
    rw [this]
/-- A block of bytes that the call owns. -/
theorem Cs.own {B n c : Nat} {xs : List UInt8} {rest : List Value} (h : Cs w g (bv xs ++ rest)) (hB : B ≤ g) (hD : ¬ D g) (hn : xs.length = n) (hc : n + rest.length = c) : Own .byte D B w (.slice (some ⟨g, 0, none⟩) n c) xs := by
  obtain ⟨T, h⟩ := h
  subst hn
  refine .inr ⟨g, c, _, T, (0, 0), bv xs, rest, rfl, hB, hD, h, fun o _ _ h => by simp at h, rfl, ?_, bv_rows D w xs⟩
  show (bv xs ++ rest).length = c * 1
  rw [List.length_append, bv_len]; omega
/-- make([]byte, n), as a block. -/
theorem makeB {E n : Nat} {K : KV} (hn : n ≤ 1000000) (k : ∀ g w', w.heap.size = g → Ext w w' → Cs w' g (bv (List.replicate n 0)) → K (.slice (some ⟨g, 0, none⟩) n n) w') : pMake E 1 [.int .u8 0] (.int .i64 n) (.int .i64 n) w K := by
  refine ⟨.i64, .i64, n, n, rfl, rfl, by omega, Int.le_refl _, by omega, by omega, ?_⟩
  refine k _ _ rfl (Ext.alloc w _) ⟨E, ?_⟩
  rw [alloc_new, Int.toNat_natCast, bv_zero]
theorem u8_of (m : Nat) : (m : Int) % 256 = ((UInt8.ofNat m).toNat : Int) := by
  rw [UInt8.toNat_ofNat']; omega
theorem set_mid {l1 l2 : List UInt8} {x y : UInt8} {i : Nat} (h : l1.length = i) : (l1 ++ x :: l2).set i y = l1 ++ y :: l2 := by
  subst h; simp
end Go.G
end
