/-
  What was written at a place; the document's image.
-/
import Derived.Test.YtlolomdgchkibaaTj
set_option linter.unusedSimpArgs false
set_option linter.unusedVariables false
namespace Go.Proofs.Ytlolomdgchkibaa
open Go Go.G
variable {X : KX} {w : World} {K : KV} {D D' : Nat → Prop}
def ofF (l : List (Int × List UInt8)) (p : Int) : List (List UInt8) := (l.filter fun r => decide (r.1 = p)).map (·.2)
theorem ofF_len (l : List (Int × List UInt8)) (p : Int) : (ofF l p).length ≤ l.length := by unfold ofF; rw [List.length_map]; exact List.length_filter_le _ _
theorem ofF_snoc {l : List (Int × List UInt8)} {p : Int} {r : Int × List UInt8} : ofF (l ++ [r]) p = if r.1 = p then ofF l p ++ [r.2] else ofF l p := by
  unfold ofF
  rw [List.filter_append, List.map_append]
  by_cases h : r.1 = p
  · rw [if_pos h, List.filter_cons_of_pos (by simpa using h)]; rfl
  · rw [if_neg h, List.filter_cons_of_neg (by simpa using h)]; simp
theorem ref20_Of_c {x : Value} {l : List (Int × List UInt8)} {p : Int} (hx : Rd (.slice tWrite) D w [x] l) (hD : ∀ b, D b → b < w.heap.size) (hl : l.length ≤ 1000)
    (h : ∀ v w', Ext w w' → Own (.slice .byte) D w.heap.size w' v (ofF l p) → K v w') : GCalls Try.prog 43 [x, .int .i64 p] K X w := by
  obtain ⟨a1, c1, rfl, hc1, hl1⟩ := hx.form
  apply oublietteref20_Of.calls; unfold oublietteref20_Of.b
  refine oublietteref20_Of.loop1 (fun x5 x6 w' => ∃ (i : Nat), i ≤ l.length ∧ x6 = .int .i64 i ∧ Ext w w' ∧ Own (.slice .byte) D w.heap.size w' x5 (ofF (l.take i) p)) (fun _ x6 _ => l.length - (iv x6).toNat)
    ⟨0, by omega, rfl, Fr.refl _ _, Own.nil⟩ ?_
  rintro x5 x6 gg w1 ⟨i, hi, rfl, h1, ho⟩
  unfold oublietteref20_Of.b1
  simp only [↓eBinI, ↓eDiv, ↓eShift, ↓eBinS, ↓ePick, ↓eNot, ↓eNeg, ↓eConv, ↓eConvS, ↓eExt0, ↓eExt1, ↓eExt2, ↓eFA, ↓eIA, ↓eLenSl, ↓eCapSl, ↓eLenS, ↓eMin, ↓eMax, ↓eCondT, ↓eCondF, ↓gIf_tt, ↓gIf_ff, ↓gIf_tf, ↓gIf_ft, ↓gIf_u, ↓gIfW_u, ↓gIfW_tt, ↓gIfW_ff, ↓gIfW_tf, ↓gIfW_ft, binI, divI, shiftI, add_mk, Nat.zero_add, cond_true, cond_false, decide_true, decide_false, Bool.not_true, Bool.not_false, Bool.and_true, Bool.true_and, Bool.and_false, Bool.false_and, Int.toNat_natCast, Nat.mul_one]
  by_cases ci : (i : Int) < (l.length : Int)
  · obtain ⟨b2, k2, p2, k2', e2, q2, q2', r2, hp0, hp1⟩ := idxWrite (hx.ext h1) (i := i) (by omega)
    simp only [Value.slice.injEq] at e2
    obtain ⟨rfl, -, rfl⟩ := e2
    simp only [↓eBinI, ↓eDiv, ↓eShift, ↓eBinS, ↓ePick, ↓eNot, ↓eNeg, ↓eConv, ↓eConvS, ↓eExt0, ↓eExt1, ↓eExt2, ↓eFA, ↓eIA, ↓eLenSl, ↓eCapSl, ↓eLenS, ↓eMin, ↓eMax, ↓eCondT, ↓eCondF, ↓gIf_tt, ↓gIf_ff, ↓gIf_tf, ↓gIf_ft, ↓gIf_u, ↓gIfW_u, ↓gIfW_tt, ↓gIfW_ff, ↓gIfW_tf, ↓gIfW_ft, binI, divI, shiftI, add_mk, Nat.zero_add, cond_true, cond_false, decide_true, decide_false, Bool.not_true, Bool.not_false, Bool.and_true, Bool.true_and, Bool.and_false, Bool.false_and, Int.toNat_natCast, Nat.mul_one, ci, add_zero, ↓eLdW, q2, q2', Option.some.injEq, exists_eq_left']
    refine ⟨by omega, by first | trivial | omega, ?_⟩
    have hlen := ofF_len (l.take i) p
    simp only [List.length_take] at hlen
    have hsn : ofF (l.take (i + 1)) p = if l[i].1 = p then ofF (l.take i) p ++ [l[i].2] else ofF (l.take i) p := by
      rw [List.take_succ_eq_append_getElem (by omega), ofF_snoc]
    have s1 := h1.size
    by_cases ce : l[i].1 = p
    · have e : (l[i].1 == p) = true := by simpa using ce
      simp only [↓eBinI, ↓eDiv, ↓eShift, ↓eBinS, ↓ePick, ↓eNot, ↓eNeg, ↓eConv, ↓eConvS, ↓eExt0, ↓eExt1, ↓eExt2, ↓eFA, ↓eIA, ↓eLenSl, ↓eCapSl, ↓eLenS, ↓eMin, ↓eMax, ↓eCondT, ↓eCondF, ↓gIf_tt, ↓gIf_ff, ↓gIf_tf, ↓gIf_ft, ↓gIf_u, ↓gIfW_u, ↓gIfW_tt, ↓gIfW_ff, ↓gIfW_tf, ↓gIfW_ft, binI, divI, shiftI, add_mk, Nat.zero_add, cond_true, cond_false, decide_true, decide_false, Bool.not_true, Bool.not_false, Bool.and_true, Bool.true_and, Bool.and_false, Bool.false_and, Int.toNat_natCast, Nat.mul_one, e, add_zero, ↓eLdW, q2', Option.some.injEq, exists_eq_left']
      refine ⟨by omega, by first | trivial | omega, ?_⟩
      refine bslice1 rfl fun r w3 hr h3 b3 => ?_
      refine (ho.ext h3).push1 b3 (r2.ext h3) (by have := h3.size; omega) (fun hd => by have := hD _ hd; have := h3.size; omega) rfl (by simp; omega) fun v4 w4 ho4 hf4 hb4 => ?_
      unfold oublietteref20_Of.j1
      simp only [↓eBinI, ↓eDiv, ↓eShift, ↓eBinS, ↓ePick, ↓eNot, ↓eNeg, ↓eConv, ↓eConvS, ↓eExt0, ↓eExt1, ↓eExt2, ↓eFA, ↓eIA, ↓eLenSl, ↓eCapSl, ↓eLenS, ↓eMin, ↓eMax, ↓eCondT, ↓eCondF, ↓gIf_tt, ↓gIf_ff, ↓gIf_tf, ↓gIf_ft, ↓gIf_u, ↓gIfW_u, ↓gIfW_tt, ↓gIfW_ff, ↓gIfW_tf, ↓gIfW_ft, binI, divI, shiftI, add_mk, Nat.zero_add, cond_true, cond_false, decide_true, decide_false, Bool.not_true, Bool.not_false, Bool.and_true, Bool.true_and, Bool.and_false, Bool.false_and, Int.toNat_natCast, Nat.mul_one]
      rw [wrap64 (by omega) (by omega)]
      refine oublietteref20_Of.leaf1 ⟨i + 1, by omega, by simp, (h1.tr h3).tn hf4 (fun x hx => hx.2), ?_⟩ (by simp only [iv]; omega)
      rw [hsn, if_pos ce]; exact ho4
    · have e : (l[i].1 == p) = false := by simpa using ce
      simp only [↓eBinI, ↓eDiv, ↓eShift, ↓eBinS, ↓ePick, ↓eNot, ↓eNeg, ↓eConv, ↓eConvS, ↓eExt0, ↓eExt1, ↓eExt2, ↓eFA, ↓eIA, ↓eLenSl, ↓eCapSl, ↓eLenS, ↓eMin, ↓eMax, ↓eCondT, ↓eCondF, ↓gIf_tt, ↓gIf_ff, ↓gIf_tf, ↓gIf_ft, ↓gIf_u, ↓gIfW_u, ↓gIfW_tt, ↓gIfW_ff, ↓gIfW_tf, ↓gIfW_ft, binI, divI, shiftI, add_mk, Nat.zero_add, cond_true, cond_false, decide_true, decide_false, Bool.not_true, Bool.not_false, Bool.and_true, Bool.true_and, Bool.and_false, Bool.false_and, Int.toNat_natCast, Nat.mul_one, e]
      unfold oublietteref20_Of.j1
      simp only [↓eBinI, ↓eDiv, ↓eShift, ↓eBinS, ↓ePick, ↓eNot, ↓eNeg, ↓eConv, ↓eConvS, ↓eExt0, ↓eExt1, ↓eExt2, ↓eFA, ↓eIA, ↓eLenSl, ↓eCapSl, ↓eLenS, ↓eMin, ↓eMax, ↓eCondT, ↓eCondF, ↓gIf_tt, ↓gIf_ff, ↓gIf_tf, ↓gIf_ft, ↓gIf_u, ↓gIfW_u, ↓gIfW_tt, ↓gIfW_ff, ↓gIfW_tf, ↓gIfW_ft, binI, divI, shiftI, add_mk, Nat.zero_add, cond_true, cond_false, decide_true, decide_false, Bool.not_true, Bool.not_false, Bool.and_true, Bool.true_and, Bool.and_false, Bool.false_and, Int.toNat_natCast, Nat.mul_one]
      rw [wrap64 (by omega) (by omega)]
      refine oublietteref20_Of.leaf1 ⟨i + 1, by omega, by simp, h1, ?_⟩ (by simp only [iv]; omega)
      rw [hsn, if_neg ce]; exact ho
  · simp only [↓eBinI, ↓eDiv, ↓eShift, ↓eBinS, ↓ePick, ↓eNot, ↓eNeg, ↓eConv, ↓eConvS, ↓eExt0, ↓eExt1, ↓eExt2, ↓eFA, ↓eIA, ↓eLenSl, ↓eCapSl, ↓eLenS, ↓eMin, ↓eMax, ↓eCondT, ↓eCondF, ↓gIf_tt, ↓gIf_ff, ↓gIf_tf, ↓gIf_ft, ↓gIf_u, ↓gIfW_u, ↓gIfW_tt, ↓gIfW_ff, ↓gIfW_tf, ↓gIfW_ft, binI, divI, shiftI, add_mk, Nat.zero_add, cond_true, cond_false, decide_true, decide_false, Bool.not_true, Bool.not_false, Bool.and_true, Bool.true_and, Bool.and_false, Bool.false_and, Int.toNat_natCast, Nat.mul_one, ci]
    have : i = l.length := by omega
    subst this
    rw [List.take_length] at ho
    exact h _ w1 h1 ho
theorem trail_Of_c {x : Value} {l : List (Int × List UInt8)} {p : Int} (hx : Rd (.slice tWrite) D w [x] l) (hl : l.length ≤ 1000) (hs : ∀ i (h : i < l.length), l[i].2.length ≤ 1000)
    (h : ∀ v w' D', Ext w w' → Own (.slice .byte) D' w.heap.size w' v (ofF l p) → K v w') : GCalls Try.prog 42 [x, .int .i64 p] K X w := by
  obtain ⟨a1, c1, rfl, hc1, hl1⟩ := hx.form
  apply trail_Of.calls; unfold trail_Of.b
  simp only [↓eBinI, ↓eDiv, ↓eShift, ↓eBinS, ↓ePick, ↓eNot, ↓eNeg, ↓eConv, ↓eConvS, ↓eExt0, ↓eExt1, ↓eExt2, ↓eFA, ↓eIA, ↓eLenSl, ↓eCapSl, ↓eLenS, ↓eMin, ↓eMax, ↓eCondT, ↓eCondF, ↓gIf_tt, ↓gIf_ff, ↓gIf_tf, ↓gIf_ft, ↓gIf_u, ↓gIfW_u, ↓gIfW_tt, ↓gIfW_ff, ↓gIfW_tf, ↓gIfW_ft, binI, divI, shiftI, add_mk, Nat.zero_add, cond_true, cond_false, decide_true, decide_false, Bool.not_true, Bool.not_false, Bool.and_true, Bool.true_and, Bool.and_false, Bool.false_and, Int.toNat_natCast, Nat.mul_one]
  refine trail_Of.loop1 (fun x4 x9 w' => ∃ (i : Nat) (D' : Nat → Prop), i ≤ l.length ∧ x9 = .int .i64 i ∧ Ext w w' ∧ Own (.slice .byte) D' w.heap.size w' x4 (ofF (l.take i) p) ∧ (∀ b, D' b → b < w'.heap.size) ∧ (∀ b, Blk x4 b → b < w'.heap.size)) (fun _ x9 _ => l.length - (iv x9).toNat)
    ⟨0, fun _ => False, by omega, rfl, Fr.refl _ _, Own.nil, fun _ h => h.elim, by rintro b ⟨a', n', c', e, _⟩; cases e⟩ ?_
  rintro x4 x9 gg w1 ⟨i, D1, hi, rfl, h1, ho, hD1, hb1⟩
  unfold trail_Of.b1
  by_cases ci : (i : Int) < (l.length : Int)
  · obtain ⟨ad, c', us, e1, s1, _, hus, q1, r1⟩ := (hx.ext h1).idxN (i := i) (by omega)
    simp only [Value.slice.injEq] at e1
    obtain ⟨rfl, -, rfl⟩ := e1
    obtain ⟨va, vb, rfl, hva, hvb, r2, r3⟩ := r1
    obtain ⟨rfl, hp0, hp1⟩ := r2
    obtain ⟨a2, c2', rfl, hc2, hl2, hr3⟩ := r3
    have r3 : Rd (.slice .byte) D w1 [.slice a2 l[i].2.length c2'] l[i].2 := ⟨a2, c2', rfl, hc2, hl2, hr3⟩
    have hli := hs i (by omega)
    simp only [↓eBinI, ↓eDiv, ↓eShift, ↓eBinS, ↓ePick, ↓eNot, ↓eNeg, ↓eConv, ↓eConvS, ↓eExt0, ↓eExt1, ↓eExt2, ↓eFA, ↓eIA, ↓eLenSl, ↓eCapSl, ↓eLenS, ↓eMin, ↓eMax, ↓eCondT, ↓eCondF, ↓gIf_tt, ↓gIf_ff, ↓gIf_tf, ↓gIf_ft, ↓gIf_u, ↓gIfW_u, ↓gIfW_tt, ↓gIfW_ff, ↓gIfW_tf, ↓gIfW_ft, binI, divI, shiftI, add_mk, Nat.zero_add, cond_true, cond_false, decide_true, decide_false, Bool.not_true, Bool.not_false, Bool.and_true, Bool.true_and, Bool.and_false, Bool.false_and, Int.toNat_natCast, Nat.mul_one, ci]
    refine ⟨by omega, by first | trivial | omega, ?_⟩
    refine ⟨ad.add (i * 2), [.int .i64 l[i].1, .slice a2 l[i].2.length c2'], rfl, rfl, fun w' e j hj => ?_, ?_⟩
    · subst e
      rw [add_add _ _ _ s1]
      match j, hj with
      | 0, _ => exact q1 0 _ rfl
      | 1, _ => exact q1 1 _ rfl
    refine boxC fun g9 w2 hg9 h2 b2 => ?_
    refine b2.setN rfl rfl (by simp [one]) fun w3 b3 hf3 => ?_
    have h13 : Ext w1 w3 := h2.tn hf3 (fun x e => by omega)
    simp only [↓eBinI, ↓eDiv, ↓eShift, ↓eBinS, ↓ePick, ↓eNot, ↓eNeg, ↓eConv, ↓eConvS, ↓eExt0, ↓eExt1, ↓eExt2, ↓eFA, ↓eIA, ↓eLenSl, ↓eCapSl, ↓eLenS, ↓eMin, ↓eMax, ↓eCondT, ↓eCondF, ↓gIf_tt, ↓gIf_ff, ↓gIf_tf, ↓gIf_ft, ↓gIf_u, ↓gIfW_u, ↓gIfW_tt, ↓gIfW_ff, ↓gIfW_tf, ↓gIfW_ft, binI, divI, shiftI, add_mk, Nat.zero_add, cond_true, cond_false, decide_true, decide_false, Bool.not_true, Bool.not_false, Bool.and_true, Bool.true_and, Bool.and_false, Bool.false_and, Int.toNat_natCast, Nat.mul_one, ↓b3.c0]
    have hlen := ofF_len (l.take i) p
    simp only [List.length_take] at hlen
    have hsn : ofF (l.take (i + 1)) p = if l[i].1 = p then ofF (l.take i) p ++ [l[i].2] else ofF (l.take i) p := by
      rw [List.take_succ_eq_append_getElem (by omega), ofF_snoc]
    have s1 := h1.size; have s13 := h13.size
    by_cases ce : l[i].1 = p
    · have e : (l[i].1 == p) = true := by simpa using ce
      simp only [↓eBinI, ↓eDiv, ↓eShift, ↓eBinS, ↓ePick, ↓eNot, ↓eNeg, ↓eConv, ↓eConvS, ↓eExt0, ↓eExt1, ↓eExt2, ↓eFA, ↓eIA, ↓eLenSl, ↓eCapSl, ↓eLenS, ↓eMin, ↓eMax, ↓eCondT, ↓eCondF, ↓gIf_tt, ↓gIf_ff, ↓gIf_tf, ↓gIf_ft, ↓gIf_u, ↓gIfW_u, ↓gIfW_tt, ↓gIfW_ff, ↓gIfW_tf, ↓gIfW_ft, binI, divI, shiftI, add_mk, Nat.zero_add, cond_true, cond_false, decide_true, decide_false, Bool.not_true, Bool.not_false, Bool.and_true, Bool.true_and, Bool.and_false, Bool.false_and, Int.toNat_natCast, Nat.mul_one, e, ↓b3.c1]
      refine Clone_c (r3.ext h13) (by omega) fun v w5 h5 hv hone => ?_
      refine bslice1 hone fun r w6 hr h6 b6 => ?_
      have h16 := (h13.tr h5).tr h6
      have s5 := h5.size; have s6 := h6.size
      have hD2 : Own (.slice .byte) (fun b => D1 b ∨ (w3.heap.size ≤ b ∧ b < w6.heap.size)) w.heap.size w6 x4 (ofF (l.take i) p) := (ho.ext h16).wide2 (fun b hb => .inl hb) (fun b hb hB hn => by
        rintro (hd | hd)
        · exact hn hd
        · have := hb1 b hb; omega)
      have hvw : Rd (.slice .byte) (fun b => D1 b ∨ (w3.heap.size ≤ b ∧ b < w6.heap.size)) w6 [v] l[i].2 :=
        (hv.ext h6).rd2 (fun _ h => h.elim) (fun b _ h1 h2 => .inr ⟨h1, h2⟩) (by omega)
      refine hD2.push1 b6 hvw (by omega) (fun hd => by rcases hd with hd | hd; · have := hD1 _ hd; omega
                                                       · omega) rfl (by simp; omega) fun v' w7 ho' hf' hb' => ?_
      have s7 := hf'.size
      unfold trail_Of.j1
      simp only [↓eBinI, ↓eDiv, ↓eShift, ↓eBinS, ↓ePick, ↓eNot, ↓eNeg, ↓eConv, ↓eConvS, ↓eExt0, ↓eExt1, ↓eExt2, ↓eFA, ↓eIA, ↓eLenSl, ↓eCapSl, ↓eLenS, ↓eMin, ↓eMax, ↓eCondT, ↓eCondF, ↓gIf_tt, ↓gIf_ff, ↓gIf_tf, ↓gIf_ft, ↓gIf_u, ↓gIfW_u, ↓gIfW_tt, ↓gIfW_ff, ↓gIfW_tf, ↓gIfW_ft, binI, divI, shiftI, add_mk, Nat.zero_add, cond_true, cond_false, decide_true, decide_false, Bool.not_true, Bool.not_false, Bool.and_true, Bool.true_and, Bool.and_false, Bool.false_and, Int.toNat_natCast, Nat.mul_one]
      rw [wrap64 (by omega) (by omega)]
      refine trail_Of.leaf1 ⟨i + 1, (fun b => D1 b ∨ (w3.heap.size ≤ b ∧ b < w6.heap.size)), by omega, by simp, (h1.tr h16).tn hf' (fun x hx => hx.2), ?_, fun b hb => ?_, fun b hb => ?_⟩ (by simp only [iv]; omega)
      · rw [hsn, if_pos ce]; exact ho'
      · rcases hb with hb | hb
        · have := hD1 b hb; omega
        · omega
      · rcases hb' b hb with hb | hb
        · have := hb1 b hb; omega
        · omega
    · have e : (l[i].1 == p) = false := by simpa using ce
      simp only [↓eBinI, ↓eDiv, ↓eShift, ↓eBinS, ↓ePick, ↓eNot, ↓eNeg, ↓eConv, ↓eConvS, ↓eExt0, ↓eExt1, ↓eExt2, ↓eFA, ↓eIA, ↓eLenSl, ↓eCapSl, ↓eLenS, ↓eMin, ↓eMax, ↓eCondT, ↓eCondF, ↓gIf_tt, ↓gIf_ff, ↓gIf_tf, ↓gIf_ft, ↓gIf_u, ↓gIfW_u, ↓gIfW_tt, ↓gIfW_ff, ↓gIfW_tf, ↓gIfW_ft, binI, divI, shiftI, add_mk, Nat.zero_add, cond_true, cond_false, decide_true, decide_false, Bool.not_true, Bool.not_false, Bool.and_true, Bool.true_and, Bool.and_false, Bool.false_and, Int.toNat_natCast, Nat.mul_one, e]
      unfold trail_Of.j1
      simp only [↓eBinI, ↓eDiv, ↓eShift, ↓eBinS, ↓ePick, ↓eNot, ↓eNeg, ↓eConv, ↓eConvS, ↓eExt0, ↓eExt1, ↓eExt2, ↓eFA, ↓eIA, ↓eLenSl, ↓eCapSl, ↓eLenS, ↓eMin, ↓eMax, ↓eCondT, ↓eCondF, ↓gIf_tt, ↓gIf_ff, ↓gIf_tf, ↓gIf_ft, ↓gIf_u, ↓gIfW_u, ↓gIfW_tt, ↓gIfW_ff, ↓gIfW_tf, ↓gIfW_ft, binI, divI, shiftI, add_mk, Nat.zero_add, cond_true, cond_false, decide_true, decide_false, Bool.not_true, Bool.not_false, Bool.and_true, Bool.true_and, Bool.and_false, Bool.false_and, Int.toNat_natCast, Nat.mul_one]
      rw [wrap64 (by omega) (by omega)]
      refine trail_Of.leaf1 ⟨i + 1, D1, by omega, by simp, h1.tr h13, ?_, fun b hb => ?_, fun b hb => ?_⟩ (by simp only [iv]; omega)
      · rw [hsn, if_neg ce]; exact ho.ext h13
      · have := hD1 b hb; omega
      · have := hb1 b hb; omega
  · simp only [↓eBinI, ↓eDiv, ↓eShift, ↓eBinS, ↓ePick, ↓eNot, ↓eNeg, ↓eConv, ↓eConvS, ↓eExt0, ↓eExt1, ↓eExt2, ↓eFA, ↓eIA, ↓eLenSl, ↓eCapSl, ↓eLenS, ↓eMin, ↓eMax, ↓eCondT, ↓eCondF, ↓gIf_tt, ↓gIf_ff, ↓gIf_tf, ↓gIf_ft, ↓gIf_u, ↓gIfW_u, ↓gIfW_tt, ↓gIfW_ff, ↓gIfW_tf, ↓gIfW_ft, binI, divI, shiftI, add_mk, Nat.zero_add, cond_true, cond_false, decide_true, decide_false, Bool.not_true, Bool.not_false, Bool.and_true, Bool.true_and, Bool.and_false, Bool.false_and, Int.toNat_natCast, Nat.mul_one, ci]
    have : i = l.length := by omega
    subst this
    rw [List.take_length] at ho
    exact h _ w1 _ h1 ho
theorem ref20_Image_c {x : Value} {l : List (Int × List UInt8)} {size : Int} (hx : Rd (.slice tWrite) D w [x] l) (hD : ∀ b, D b → b < w.heap.size) (hl : l.length ≤ 1000)
    (h : ∀ v w' D', Ext w w' → Own (.slice .byte) D' w.heap.size w' v (imageF l size) → K v w') : GCalls Try.prog 37 [x, .int .i64 size] K X w := by
  obtain ⟨a1, c1, rfl, hc1, hl1⟩ := hx.form
  apply oublietteref20_Image.calls; unfold oublietteref20_Image.b
  unfold imageF at h
  have none : size < 1 ∨ size > 1024 → K (.slice none 0 0) w := fun hh => by
    have := h (.slice none 0 0) w (fun _ => False) (Fr.refl _ _)
    rw [if_pos hh] at this
    exact this Own.nil
  by_cases c1 : size < 1
  · simp only [↓eBinI, ↓eDiv, ↓eShift, ↓eBinS, ↓ePick, ↓eNot, ↓eNeg, ↓eConv, ↓eConvS, ↓eExt0, ↓eExt1, ↓eExt2, ↓eFA, ↓eIA, ↓eLenSl, ↓eCapSl, ↓eLenS, ↓eMin, ↓eMax, ↓eCondT, ↓eCondF, ↓gIf_tt, ↓gIf_ff, ↓gIf_tf, ↓gIf_ft, ↓gIf_u, ↓gIfW_u, ↓gIfW_tt, ↓gIfW_ff, ↓gIfW_tf, ↓gIfW_ft, binI, divI, shiftI, add_mk, Nat.zero_add, cond_true, cond_false, decide_true, decide_false, Bool.not_true, Bool.not_false, Bool.and_true, Bool.true_and, Bool.and_false, Bool.false_and, Int.toNat_natCast, Nat.mul_one, c1]
    exact none (.inl c1)
  by_cases c2 : size > 1024
  · simp only [↓eBinI, ↓eDiv, ↓eShift, ↓eBinS, ↓ePick, ↓eNot, ↓eNeg, ↓eConv, ↓eConvS, ↓eExt0, ↓eExt1, ↓eExt2, ↓eFA, ↓eIA, ↓eLenSl, ↓eCapSl, ↓eLenS, ↓eMin, ↓eMax, ↓eCondT, ↓eCondF, ↓gIf_tt, ↓gIf_ff, ↓gIf_tf, ↓gIf_ft, ↓gIf_u, ↓gIfW_u, ↓gIfW_tt, ↓gIfW_ff, ↓gIfW_tf, ↓gIfW_ft, binI, divI, shiftI, add_mk, Nat.zero_add, cond_true, cond_false, decide_true, decide_false, Bool.not_true, Bool.not_false, Bool.and_true, Bool.true_and, Bool.and_false, Bool.false_and, Int.toNat_natCast, Nat.mul_one, c1, c2]
    exact none (.inr c2)
  rw [if_neg (by omega)] at h
  simp only [↓eBinI, ↓eDiv, ↓eShift, ↓eBinS, ↓ePick, ↓eNot, ↓eNeg, ↓eConv, ↓eConvS, ↓eExt0, ↓eExt1, ↓eExt2, ↓eFA, ↓eIA, ↓eLenSl, ↓eCapSl, ↓eLenS, ↓eMin, ↓eMax, ↓eCondT, ↓eCondF, ↓gIf_tt, ↓gIf_ff, ↓gIf_tf, ↓gIf_ft, ↓gIf_u, ↓gIfW_u, ↓gIfW_tt, ↓gIfW_ff, ↓gIfW_tf, ↓gIfW_ft, binI, divI, shiftI, add_mk, Nat.zero_add, cond_true, cond_false, decide_true, decide_false, Bool.not_true, Bool.not_false, Bool.and_true, Bool.true_and, Bool.and_false, Bool.false_and, Int.toNat_natCast, Nat.mul_one, c1, c2]
  obtain ⟨n, rfl⟩ : ∃ n : Nat, size = n := ⟨size.toNat, by omega⟩
  rw [Int.toNat_natCast] at h
  refine oublietteref20_Image.loop1 (fun x5 x6 w' => ∃ (p : Nat) (D' : Nat → Prop), p ≤ n ∧ x6 = .int .i64 p ∧ Ext w w' ∧ Own (.slice .byte) D' w.heap.size w' x5 ((imgF l n).take p) ∧ (∀ b, D b → D' b) ∧ (∀ b, D' b → b < w'.heap.size) ∧ (∀ b, Blk x5 b → b < w'.heap.size)) (fun _ x6 _ => n - (iv x6).toNat)
    ⟨0, D, by omega, rfl, Fr.refl _ _, Own.nil, fun _ h => h, hD, by rintro b ⟨a', n', c', e, _⟩; cases e⟩ ?_
  rintro x5 x6 gg w1 ⟨p, D1, hp, rfl, h1, ho, hDD, hD1, hb1⟩
  unfold oublietteref20_Image.b1
  have s1 := h1.size
  by_cases cp : (p : Int) < (n : Int)
  · simp only [↓eBinI, ↓eDiv, ↓eShift, ↓eBinS, ↓ePick, ↓eNot, ↓eNeg, ↓eConv, ↓eConvS, ↓eExt0, ↓eExt1, ↓eExt2, ↓eFA, ↓eIA, ↓eLenSl, ↓eCapSl, ↓eLenS, ↓eMin, ↓eMax, ↓eCondT, ↓eCondF, ↓gIf_tt, ↓gIf_ff, ↓gIf_tf, ↓gIf_ft, ↓gIf_u, ↓gIfW_u, ↓gIfW_tt, ↓gIfW_ff, ↓gIfW_tf, ↓gIfW_ft, binI, divI, shiftI, add_mk, Nat.zero_add, cond_true, cond_false, decide_true, decide_false, Bool.not_true, Bool.not_false, Bool.and_true, Bool.true_and, Bool.and_false, Bool.false_and, Int.toNat_natCast, Nat.mul_one, cp]
    refine make_ (t := .byte) (D := fun _ => False) (B := w1.heap.size) (z := 0) (n := 512) (by omega) (by omega) (fun w => rfl) (Nat.le_refl _) (fun h => h) fun g w2 hg h2 hs2 hm => ?_
    have s2 := h2.size
    refine oublietteref20_Image.loop2 (fun x7 x8 w' => ∃ i : Nat, i ≤ l.length ∧ x8 = .int .i64 i ∧ Ext w2 w' ∧ Rd (.slice .byte) (fun b => D1 b ∨ b = g) w' [x7] ((l.take i).foldl (fun (b : List UInt8) w => if w.1 = (p : Int) then w.2 else b) sector0)) (fun _ x8 _ => l.length - (iv x8).toNat)
      ⟨0, by omega, rfl, Fr.refl _ _, ?_⟩ ?_
    · have : List.replicate 512 (0 : UInt8) = sector0 := rfl
      rw [this] at hm
      exact hm.rd2 (fun _ h => h.elim) (fun b hb _ _ => by obtain ⟨a', n', c', e, rfl⟩ := hb; simp at e; exact .inr (by rw [← e.1])) (by rw [sector0_len]; omega)
    rintro x7 x8 gg2 w3 ⟨i, hi, rfl, h3, hr⟩
    unfold oublietteref20_Image.b2
    simp only [↓eBinI, ↓eDiv, ↓eShift, ↓eBinS, ↓ePick, ↓eNot, ↓eNeg, ↓eConv, ↓eConvS, ↓eExt0, ↓eExt1, ↓eExt2, ↓eFA, ↓eIA, ↓eLenSl, ↓eCapSl, ↓eLenS, ↓eMin, ↓eMax, ↓eCondT, ↓eCondF, ↓gIf_tt, ↓gIf_ff, ↓gIf_tf, ↓gIf_ft, ↓gIf_u, ↓gIfW_u, ↓gIfW_tt, ↓gIfW_ff, ↓gIfW_tf, ↓gIfW_ft, binI, divI, shiftI, add_mk, Nat.zero_add, cond_true, cond_false, decide_true, decide_false, Bool.not_true, Bool.not_false, Bool.and_true, Bool.true_and, Bool.and_false, Bool.false_and, Int.toNat_natCast, Nat.mul_one]
    have h13 := h2.tr h3
    have s3 := h3.size
    by_cases ci : (i : Int) < (l.length : Int)
    · obtain ⟨b2, k2, p2, k2', e2, q2, q2', r2, hp0, hp1⟩ := idxWrite ((hx.ext h1).ext h13) (i := i) (by omega)
      simp only [Value.slice.injEq] at e2
      obtain ⟨rfl, -, rfl⟩ := e2
      simp only [↓eBinI, ↓eDiv, ↓eShift, ↓eBinS, ↓ePick, ↓eNot, ↓eNeg, ↓eConv, ↓eConvS, ↓eExt0, ↓eExt1, ↓eExt2, ↓eFA, ↓eIA, ↓eLenSl, ↓eCapSl, ↓eLenS, ↓eMin, ↓eMax, ↓eCondT, ↓eCondF, ↓gIf_tt, ↓gIf_ff, ↓gIf_tf, ↓gIf_ft, ↓gIf_u, ↓gIfW_u, ↓gIfW_tt, ↓gIfW_ff, ↓gIfW_tf, ↓gIfW_ft, binI, divI, shiftI, add_mk, Nat.zero_add, cond_true, cond_false, decide_true, decide_false, Bool.not_true, Bool.not_false, Bool.and_true, Bool.true_and, Bool.and_false, Bool.false_and, Int.toNat_natCast, Nat.mul_one, ci, add_zero, ↓eLdW, q2, q2', Option.some.injEq, exists_eq_left']
      refine ⟨by omega, by first | trivial | omega, ?_⟩
      have hsn : (l.take (i + 1)).foldl (fun (b : List UInt8) w => if w.1 = (p : Int) then w.2 else b) sector0 = if l[i].1 = (p : Int) then l[i].2 else (l.take i).foldl (fun (b : List UInt8) w => if w.1 = (p : Int) then w.2 else b) sector0 := by
        rw [List.take_succ_eq_append_getElem (by omega), List.foldl_append]; rfl
      by_cases ce : l[i].1 = (p : Int)
      · have e : (l[i].1 == (p : Int)) = true := by simpa using ce
        simp only [↓eBinI, ↓eDiv, ↓eShift, ↓eBinS, ↓ePick, ↓eNot, ↓eNeg, ↓eConv, ↓eConvS, ↓eExt0, ↓eExt1, ↓eExt2, ↓eFA, ↓eIA, ↓eLenSl, ↓eCapSl, ↓eLenS, ↓eMin, ↓eMax, ↓eCondT, ↓eCondF, ↓gIf_tt, ↓gIf_ff, ↓gIf_tf, ↓gIf_ft, ↓gIf_u, ↓gIfW_u, ↓gIfW_tt, ↓gIfW_ff, ↓gIfW_tf, ↓gIfW_ft, binI, divI, shiftI, add_mk, Nat.zero_add, cond_true, cond_false, decide_true, decide_false, Bool.not_true, Bool.not_false, Bool.and_true, Bool.true_and, Bool.and_false, Bool.false_and, Int.toNat_natCast, Nat.mul_one, e, add_zero, ↓eLdW, q2', Option.some.injEq, exists_eq_left']
        refine ⟨by omega, by first | trivial | omega, ?_⟩
        unfold oublietteref20_Image.j1
        simp only [↓eBinI, ↓eDiv, ↓eShift, ↓eBinS, ↓ePick, ↓eNot, ↓eNeg, ↓eConv, ↓eConvS, ↓eExt0, ↓eExt1, ↓eExt2, ↓eFA, ↓eIA, ↓eLenSl, ↓eCapSl, ↓eLenS, ↓eMin, ↓eMax, ↓eCondT, ↓eCondF, ↓gIf_tt, ↓gIf_ff, ↓gIf_tf, ↓gIf_ft, ↓gIf_u, ↓gIfW_u, ↓gIfW_tt, ↓gIfW_ff, ↓gIfW_tf, ↓gIfW_ft, binI, divI, shiftI, add_mk, Nat.zero_add, cond_true, cond_false, decide_true, decide_false, Bool.not_true, Bool.not_false, Bool.and_true, Bool.true_and, Bool.and_false, Bool.false_and, Int.toNat_natCast, Nat.mul_one]
        rw [wrap64 (by omega) (by omega)]
        refine oublietteref20_Image.leaf2 ⟨i + 1, by omega, by simp, h3, ?_⟩ (by simp only [iv]; omega)
        rw [hsn, if_pos ce]
        exact r2.wide (fun b hb => .inl (hDD b hb))
      · have e : (l[i].1 == (p : Int)) = false := by simpa using ce
        simp only [↓eBinI, ↓eDiv, ↓eShift, ↓eBinS, ↓ePick, ↓eNot, ↓eNeg, ↓eConv, ↓eConvS, ↓eExt0, ↓eExt1, ↓eExt2, ↓eFA, ↓eIA, ↓eLenSl, ↓eCapSl, ↓eLenS, ↓eMin, ↓eMax, ↓eCondT, ↓eCondF, ↓gIf_tt, ↓gIf_ff, ↓gIf_tf, ↓gIf_ft, ↓gIf_u, ↓gIfW_u, ↓gIfW_tt, ↓gIfW_ff, ↓gIfW_tf, ↓gIfW_ft, binI, divI, shiftI, add_mk, Nat.zero_add, cond_true, cond_false, decide_true, decide_false, Bool.not_true, Bool.not_false, Bool.and_true, Bool.true_and, Bool.and_false, Bool.false_and, Int.toNat_natCast, Nat.mul_one, e]
        unfold oublietteref20_Image.j1
        simp only [↓eBinI, ↓eDiv, ↓eShift, ↓eBinS, ↓ePick, ↓eNot, ↓eNeg, ↓eConv, ↓eConvS, ↓eExt0, ↓eExt1, ↓eExt2, ↓eFA, ↓eIA, ↓eLenSl, ↓eCapSl, ↓eLenS, ↓eMin, ↓eMax, ↓eCondT, ↓eCondF, ↓gIf_tt, ↓gIf_ff, ↓gIf_tf, ↓gIf_ft, ↓gIf_u, ↓gIfW_u, ↓gIfW_tt, ↓gIfW_ff, ↓gIfW_tf, ↓gIfW_ft, binI, divI, shiftI, add_mk, Nat.zero_add, cond_true, cond_false, decide_true, decide_false, Bool.not_true, Bool.not_false, Bool.and_true, Bool.true_and, Bool.and_false, Bool.false_and, Int.toNat_natCast, Nat.mul_one]
        rw [wrap64 (by omega) (by omega)]
        refine oublietteref20_Image.leaf2 ⟨i + 1, by omega, by simp, h3, ?_⟩ (by simp only [iv]; omega)
        rw [hsn, if_neg ce]
        exact hr
    · simp only [↓eBinI, ↓eDiv, ↓eShift, ↓eBinS, ↓ePick, ↓eNot, ↓eNeg, ↓eConv, ↓eConvS, ↓eExt0, ↓eExt1, ↓eExt2, ↓eFA, ↓eIA, ↓eLenSl, ↓eCapSl, ↓eLenS, ↓eMin, ↓eMax, ↓eCondT, ↓eCondF, ↓gIf_tt, ↓gIf_ff, ↓gIf_tf, ↓gIf_ft, ↓gIf_u, ↓gIfW_u, ↓gIfW_tt, ↓gIfW_ff, ↓gIfW_tf, ↓gIfW_ft, binI, divI, shiftI, add_mk, Nat.zero_add, cond_true, cond_false, decide_true, decide_false, Bool.not_true, Bool.not_false, Bool.and_true, Bool.true_and, Bool.and_false, Bool.false_and, Int.toNat_natCast, Nat.mul_one, ci]
      have : i = l.length := by omega
      subst this
      rw [List.take_length] at hr
      refine bslice1 (hr.isOne (by simp)) fun r w4 hr4 h4 b4 => ?_
      have h14 := h13.tr h4
      have s4 := h4.size
      have hD2 : Own (.slice .byte) (fun b => D1 b ∨ b = g) w.heap.size w4 x5 ((imgF l n).take p) := (ho.ext h14).wide2 (fun b hb => .inl hb) (fun b hb hB hn => by
        rintro (hd | hd)
        · exact hn hd
        · have := hb1 b hb; omega)
      refine hD2.push1 b4 (hr.ext h4) (by omega) (fun hd => by rcases hd with hd | hd; · have := hD1 _ hd; omega
                                                               · omega) rfl (by rw [List.length_take]; omega) fun v5 w5 ho5 hf5 hb5 => ?_
      have s5 := hf5.size
      rw [wrap64 (by omega) (by omega)]
      refine oublietteref20_Image.leaf1 ⟨p + 1, (fun b => D1 b ∨ b = g), by omega, by simp, (h1.tr h14).tn hf5 (fun x hx => hx.2), ?_, fun b hb => .inl (hDD b hb), fun b hb => ?_, fun b hb => ?_⟩ (by simp only [iv]; omega)
      · rw [List.take_succ_eq_append_getElem (by rw [img_len]; omega)]
        have : (imgF l n)[p]'(by rw [img_len]; omega) = l.foldl (fun (b : List UInt8) w => if w.1 = (p : Int) then w.2 else b) sector0 := by simp [imgF]
        rw [this]; exact ho5
      · rcases hb with hb | hb
        · have := hD1 b hb; omega
        · omega
      · rcases hb5 b hb with hb | hb
        · have := hb1 b hb; omega
        · omega
  · simp only [↓eBinI, ↓eDiv, ↓eShift, ↓eBinS, ↓ePick, ↓eNot, ↓eNeg, ↓eConv, ↓eConvS, ↓eExt0, ↓eExt1, ↓eExt2, ↓eFA, ↓eIA, ↓eLenSl, ↓eCapSl, ↓eLenS, ↓eMin, ↓eMax, ↓eCondT, ↓eCondF, ↓gIf_tt, ↓gIf_ff, ↓gIf_tf, ↓gIf_ft, ↓gIf_u, ↓gIfW_u, ↓gIfW_tt, ↓gIfW_ff, ↓gIfW_tf, ↓gIfW_ft, binI, divI, shiftI, add_mk, Nat.zero_add, cond_true, cond_false, decide_true, decide_false, Bool.not_true, Bool.not_false, Bool.and_true, Bool.true_and, Bool.and_false, Bool.false_and, Int.toNat_natCast, Nat.mul_one, cp]
    have : p = n := by omega
    subst this
    rw [List.take_of_length_le (by rw [img_len]; omega)] at ho
    exact h _ w1 _ h1 ho
end Go.Proofs.Ytlolomdgchkibaa
