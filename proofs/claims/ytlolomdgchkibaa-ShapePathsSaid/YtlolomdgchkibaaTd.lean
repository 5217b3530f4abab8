/-
  The chapter's example of the trail; what the law on unlike images hands back.
-/
import Derived.Test.YtlolomdgchkibaaTc
import Derived.Test.YtlolomdgchkibaaKe
set_option linter.unusedSimpArgs false
set_option linter.unusedVariables false
namespace Go.Proofs.Ytlolomdgchkibaa
open Go Go.G
variable {X : KX} {w : World} {K : KV} {D D' : Nat → Prop}
theorem law20_alive_c (h : ∀ w', Ext w w' → K (.bool true) w') : GCalls Try.prog 11 [] K X w := by
  apply oubliettelaw20_alive.calls; unfold oubliettelaw20_alive.b
  refine Cs.bslice (cs := [.int .u8 7]) (by simp [fillL, Value.cells, cutIn, rowOf]) fun g w1 hg h1 b1 => ?_
  refine ⟨[.int .i64 1, .slice (some ⟨g, 0, none⟩) 1 1], by simp [fillL, Value.cells, cutIn], ?_⟩
  refine Cs.bslice (cs := [.int .i64 1, .slice (some ⟨g, 0, none⟩) 1 1]) (by simp [fillL, Value.cells, cutIn, rowOf]) fun g2 w2 hg2 h2 b2 => ?_
  have b12 := b1.ext h2
  have r7 : Rd (.slice .byte) (fun b => b < w2.heap.size) w2 [.slice (some ⟨g, 0, none⟩) 1 1] [7] := by
    refine Rd.of_rows (t := .byte) (D := fun b => b < w2.heap.size) (cs := [.int .u8 7]) (xs := [7]) ⟨[.int .u8 7], [], rfl, rfl, rfl⟩ (fun _ h => h) (by simp) (by simp) fun i u hu => ⟨_, rfl, rfl, b12.lt, ?_⟩
    rw [add_mk, Nat.zero_add, b12.c]; exact hu
  have rw1 : Rd (.slice tWrite) (fun b => b < w2.heap.size) w2 [.slice (some ⟨g2, 0, none⟩) 1 1] [((1 : Int), ([7] : List UInt8))] := by
    refine Rd.of_rows (t := tWrite) (D := fun b => b < w2.heap.size) (cs := [.int .i64 1, .slice (some ⟨g, 0, none⟩) 1 1]) (xs := [((1 : Int), ([7] : List UInt8))]) ⟨_, [], rfl, ⟨[.int .i64 1], [.slice (some ⟨g, 0, none⟩) 1 1], rfl, rfl, rfl, rdI (by omega) (by omega), r7⟩, rfl⟩ (fun _ h => h) (by simp) (by simp) fun i u hu => ⟨_, rfl, rfl, b2.lt, ?_⟩
    rw [add_mk, Nat.zero_add, b2.c]; exact hu
  refine trail_Image_c rw1 (fun _ h => h) (by simp) (fun i hi => ?_) fun v w3 D3 h3 hv => ?_
  · match i, hi with
    | 0, _ => simp
  have e : imageF [((1 : Int), ([7] : List UInt8))] 2 = [sector0, [7]] := by
    simp [imageF, imgF, List.range_succ]
  rw [e] at hv
  obtain ⟨g5, c5, rfl, _, _⟩ := hv.some_of (by simp)
  obtain ⟨u0, hu0, hr0⟩ := hv.cell1 rfl (i := 0) (by simp)
  obtain ⟨u1, hu1, hr1⟩ := hv.cell1 rfl (i := 1) (by simp)
  simp only [List.getElem_cons_zero] at hr0
  simp only [List.getElem_cons_succ, List.getElem_cons_zero] at hr1
  obtain ⟨a0, c0, rfl, _, _⟩ := hr0.form
  obtain ⟨a1, c1, e1, q1⟩ := idxByte hr1 (i := 0) (by simp)
  subst e1
  rw [add_zero, List.getElem_cons_zero, show ((((7 : UInt8).toNat : Nat)) : Int) = 7 from by decide] at q1
  have el : (sector0.length : Int) = 512 := by have := sector0_len; omega
  have e0 : (0 : Int).toNat = 0 := rfl
  have e1' : (1 : Int).toNat = 1 := rfl
  have el1 : (([7] : List UInt8).length : Int) = 1 := rfl
  have el2 : (([sector0, [7]] : List (List UInt8)).length : Int) = 2 := by simp only [List.length_cons, List.length_nil]; rfl
  simp only [↓eBinI, ↓eDiv, ↓eShift, ↓eBinS, ↓ePick, ↓eNot, ↓eNeg, ↓eConv, ↓eConvS, ↓eExt0, ↓eExt1, ↓eExt2, ↓eFA, ↓eIA, ↓eLenSl, ↓eCapSl, ↓eLenS, ↓eMin, ↓eMax, ↓eCondT, ↓eCondF, ↓gIf_tt, ↓gIf_ff, ↓gIf_tf, ↓gIf_ft, ↓gIf_u, ↓gIfW_u, ↓gIfW_tt, ↓gIfW_ff, ↓gIfW_tf, ↓gIfW_ft, binI, divI, shiftI, add_mk, Nat.zero_add, cond_true, cond_false, decide_true, decide_false, Bool.not_true, Bool.not_false, Bool.and_true, Bool.true_and, Bool.and_false, Bool.false_and, Int.toNat_natCast, Nat.mul_one, el, el1, el2, e0, e1', beq_self_eq_true, ↓eLdW, hu0, hu1, q1, Option.some.injEq, exists_eq_left', add_zero, Nat.zero_mul, Nat.one_mul, Nat.add_zero]
  have key : K (.bool true) w3 := h w3 ((h1.tr h2).tr h3)
  simp
  exact key
theorem rows_len {xss : List (List UInt8)} (h : rowsF xss = true) : xss.length ≤ 20 ∧ ∀ i (hi : i < xss.length), xss[i].length ≤ 100 := by
  unfold rowsF at h
  simp only [Bool.and_eq_true, decide_eq_true_eq, List.all_eq_true] at h
  exact ⟨h.1, fun i hi => h.2 _ (List.getElem_mem hi)⟩
theorem law20_Diffs_c {v0 v1 v2 v3 : Value} {a b : List (List UInt8)} {x y : List UInt8} {z : Int} (ha : Rd (.slice (.slice .byte)) D w [v0] a) (hb : Rd (.slice (.slice .byte)) D w [v1] b) (hx : Rd (.slice .byte) D w [v2] x) (hy : Rd (.slice .byte) D w [v3] y)
    (hD : ∀ b, D b → b < w.heap.size) (h : ∀ w', Ext w w' → K (.bool true) w') : GCalls Try.prog 3 [v0, v1, v2, v3, .int .i64 z] K X w := by
  obtain ⟨a2, c2, rfl, hc2, hl2⟩ := hx.form
  obtain ⟨a3, c3, rfl, hc3, hl3⟩ := hy.form
  apply oubliettelaw20_TrailDiffs.calls; unfold oubliettelaw20_TrailDiffs.b
  refine law20_rows_c ha fun w1 h1 => ?_
  have fin : ∀ w' , Ext w w' → GCalls Try.prog 11 [] K X w' := fun w' h' => law20_alive_c fun w'' h'' => h w'' (h'.tr h'')
  cases ca : rowsF a with
  | false =>
    simp only [↓eBinI, ↓eDiv, ↓eShift, ↓eBinS, ↓ePick, ↓eNot, ↓eNeg, ↓eConv, ↓eConvS, ↓eExt0, ↓eExt1, ↓eExt2, ↓eFA, ↓eIA, ↓eLenSl, ↓eCapSl, ↓eLenS, ↓eMin, ↓eMax, ↓eCondT, ↓eCondF, ↓gIf_tt, ↓gIf_ff, ↓gIf_tf, ↓gIf_ft, ↓gIf_u, ↓gIfW_u, ↓gIfW_tt, ↓gIfW_ff, ↓gIfW_tf, ↓gIfW_ft, binI, divI, shiftI, add_mk, Nat.zero_add, cond_true, cond_false, decide_true, decide_false, Bool.not_true, Bool.not_false, Bool.and_true, Bool.true_and, Bool.and_false, Bool.false_and, Int.toNat_natCast, Nat.mul_one]
    exact fin w1 h1
  | true =>
  simp only [↓eBinI, ↓eDiv, ↓eShift, ↓eBinS, ↓ePick, ↓eNot, ↓eNeg, ↓eConv, ↓eConvS, ↓eExt0, ↓eExt1, ↓eExt2, ↓eFA, ↓eIA, ↓eLenSl, ↓eCapSl, ↓eLenS, ↓eMin, ↓eMax, ↓eCondT, ↓eCondF, ↓gIf_tt, ↓gIf_ff, ↓gIf_tf, ↓gIf_ft, ↓gIf_u, ↓gIfW_u, ↓gIfW_tt, ↓gIfW_ff, ↓gIfW_tf, ↓gIfW_ft, binI, divI, shiftI, add_mk, Nat.zero_add, cond_true, cond_false, decide_true, decide_false, Bool.not_true, Bool.not_false, Bool.and_true, Bool.true_and, Bool.and_false, Bool.false_and, Int.toNat_natCast, Nat.mul_one]
  refine law20_rows_c (hb.ext h1) fun w2 h2 => ?_
  have h12 := h1.tr h2
  cases cb : rowsF b with
  | false =>
    simp only [↓eBinI, ↓eDiv, ↓eShift, ↓eBinS, ↓ePick, ↓eNot, ↓eNeg, ↓eConv, ↓eConvS, ↓eExt0, ↓eExt1, ↓eExt2, ↓eFA, ↓eIA, ↓eLenSl, ↓eCapSl, ↓eLenS, ↓eMin, ↓eMax, ↓eCondT, ↓eCondF, ↓gIf_tt, ↓gIf_ff, ↓gIf_tf, ↓gIf_ft, ↓gIf_u, ↓gIfW_u, ↓gIfW_tt, ↓gIfW_ff, ↓gIfW_tf, ↓gIfW_ft, binI, divI, shiftI, add_mk, Nat.zero_add, cond_true, cond_false, decide_true, decide_false, Bool.not_true, Bool.not_false, Bool.and_true, Bool.true_and, Bool.and_false, Bool.false_and, Int.toNat_natCast, Nat.mul_one]
    exact fin w2 h12
  | true =>
  by_cases cx : (x.length : Int) > 600
  · simp only [↓eBinI, ↓eDiv, ↓eShift, ↓eBinS, ↓ePick, ↓eNot, ↓eNeg, ↓eConv, ↓eConvS, ↓eExt0, ↓eExt1, ↓eExt2, ↓eFA, ↓eIA, ↓eLenSl, ↓eCapSl, ↓eLenS, ↓eMin, ↓eMax, ↓eCondT, ↓eCondF, ↓gIf_tt, ↓gIf_ff, ↓gIf_tf, ↓gIf_ft, ↓gIf_u, ↓gIfW_u, ↓gIfW_tt, ↓gIfW_ff, ↓gIfW_tf, ↓gIfW_ft, binI, divI, shiftI, add_mk, Nat.zero_add, cond_true, cond_false, decide_true, decide_false, Bool.not_true, Bool.not_false, Bool.and_true, Bool.true_and, Bool.and_false, Bool.false_and, Int.toNat_natCast, Nat.mul_one, cx]
    exact fin w2 h12
  by_cases cy : (y.length : Int) > 600
  · simp only [↓eBinI, ↓eDiv, ↓eShift, ↓eBinS, ↓ePick, ↓eNot, ↓eNeg, ↓eConv, ↓eConvS, ↓eExt0, ↓eExt1, ↓eExt2, ↓eFA, ↓eIA, ↓eLenSl, ↓eCapSl, ↓eLenS, ↓eMin, ↓eMax, ↓eCondT, ↓eCondF, ↓gIf_tt, ↓gIf_ff, ↓gIf_tf, ↓gIf_ft, ↓gIf_u, ↓gIfW_u, ↓gIfW_tt, ↓gIfW_ff, ↓gIfW_tf, ↓gIfW_ft, binI, divI, shiftI, add_mk, Nat.zero_add, cond_true, cond_false, decide_true, decide_false, Bool.not_true, Bool.not_false, Bool.and_true, Bool.true_and, Bool.and_false, Bool.false_and, Int.toNat_natCast, Nat.mul_one, cx, cy]
    exact fin w2 h12
  simp only [↓eBinI, ↓eDiv, ↓eShift, ↓eBinS, ↓ePick, ↓eNot, ↓eNeg, ↓eConv, ↓eConvS, ↓eExt0, ↓eExt1, ↓eExt2, ↓eFA, ↓eIA, ↓eLenSl, ↓eCapSl, ↓eLenS, ↓eMin, ↓eMax, ↓eCondT, ↓eCondF, ↓gIf_tt, ↓gIf_ff, ↓gIf_tf, ↓gIf_ft, ↓gIf_u, ↓gIfW_u, ↓gIfW_tt, ↓gIfW_ff, ↓gIfW_tf, ↓gIfW_ft, binI, divI, shiftI, add_mk, Nat.zero_add, cond_true, cond_false, decide_true, decide_false, Bool.not_true, Bool.not_false, Bool.and_true, Bool.true_and, Bool.and_false, Bool.false_and, Int.toNat_natCast, Nat.mul_one, cx, cy]
  obtain ⟨la, la'⟩ := rows_len ca
  obtain ⟨lb, lb'⟩ := rows_len cb
  refine trail_Diff_c (ha.ext h12) (hb.ext h12) (by omega) (fun i hi hi' => by have := la' i hi; have := lb' i hi'; omega) fun u3 w3 h3 o3 => ?_
  refine ref20_Diff_c ((ha.ext h12).ext h3) ((hb.ext h12).ext h3) (by omega) fun u4 w4 h4 o4 => ?_
  have hdl := @diff_len a b (max a.length b.length)
  refine Ints_c (D := fun _ => True) (D' := fun _ => True) ((o3.ext h4).rd (fun _ _ => trivial) (fun _ _ => trivial) (by omega)) (o4.rd (fun _ _ => trivial) (fun _ _ => trivial) (by omega)) fun w5 h5 => ?_
  have h15 := (h12.tr h3).tr (h4.tr h5)
  rw [decide_eq_true rfl]
  simp only [↓eBinI, ↓eDiv, ↓eShift, ↓eBinS, ↓ePick, ↓eNot, ↓eNeg, ↓eConv, ↓eConvS, ↓eExt0, ↓eExt1, ↓eExt2, ↓eFA, ↓eIA, ↓eLenSl, ↓eCapSl, ↓eLenS, ↓eMin, ↓eMax, ↓eCondT, ↓eCondF, ↓gIf_tt, ↓gIf_ff, ↓gIf_tf, ↓gIf_ft, ↓gIf_u, ↓gIfW_u, ↓gIfW_tt, ↓gIfW_ff, ↓gIfW_tf, ↓gIfW_ft, binI, divI, shiftI, add_mk, Nat.zero_add, cond_true, cond_false, decide_true, decide_false, Bool.not_true, Bool.not_false, Bool.and_true, Bool.true_and, Bool.and_false, Bool.false_and, Int.toNat_natCast, Nat.mul_one]
  refine trail_Torn_c (z := z) (hx.ext h15) (hy.ext h15) (fun b hb => Nat.lt_of_lt_of_le (hD b hb) h15.size) (by omega) fun u6 w6 h6 o6 => ?_
  refine ref20_Torn_c (z := z) (hx.ext (h15.tr h6)) (hy.ext (h15.tr h6)) (by omega) fun u7 w7 h7 o7 => ?_
  have htl : (tornF x y z).length ≤ 1200 := by
    unfold tornF; split
    · simp; omega
    · simp
  refine Same_c (D := fun _ => True) (D' := fun _ => True) ((o6.ext h7).rd (fun _ _ => trivial) (fun _ _ => trivial) (by omega)) (o7.rd (fun _ _ => trivial) (fun _ _ => trivial) (by omega)) fun w8 h8 => ?_
  rw [decide_eq_true rfl]
  simp only [↓eBinI, ↓eDiv, ↓eShift, ↓eBinS, ↓ePick, ↓eNot, ↓eNeg, ↓eConv, ↓eConvS, ↓eExt0, ↓eExt1, ↓eExt2, ↓eFA, ↓eIA, ↓eLenSl, ↓eCapSl, ↓eLenS, ↓eMin, ↓eMax, ↓eCondT, ↓eCondF, ↓gIf_tt, ↓gIf_ff, ↓gIf_tf, ↓gIf_ft, ↓gIf_u, ↓gIfW_u, ↓gIfW_tt, ↓gIfW_ff, ↓gIfW_tf, ↓gIfW_ft, binI, divI, shiftI, add_mk, Nat.zero_add, cond_true, cond_false, decide_true, decide_false, Bool.not_true, Bool.not_false, Bool.and_true, Bool.true_and, Bool.and_false, Bool.false_and, Int.toNat_natCast, Nat.mul_one]
  exact fin w8 ((h15.tr h6).tr (h7.tr h8))
end Go.Proofs.Ytlolomdgchkibaa
