/-
  A round of the reference.
  The reference's rounds close; All of the reference.
-/
import Derived.Test.YtkpgmaiklfjjgaaMaao
section
set_option linter.unusedSimpArgs false
set_option linter.unusedVariables false
set_option maxRecDepth 100000
namespace Go.Proofs.Ytkpgmaiklfjjgaa
open Go Go.G
variable {X : KX} {w : World} {K : KV} {D D' : Nat → Prop} {ns : List Node} {x0 x1 : Value}
theorem openB_at {e : Int → Bool} {i : Nat} (hi : i < ns.length) (j : Int) : openB ns e i j = (ns[i].1 == 5 && e ((i : Int) + 1) && e ns[i].2.1 && ns[i].2.2.1 == j) := by
  unfold openB; rw [List.getElem?_eq_getElem hi]
theorem wholeB_at {e : Int → Bool} {i : Nat} (hi : i < ns.length) : wholeB ns e i = (!(ns[i].1 == 1) && (partsOf ns[i]).all e) := by
  unfold wholeB; rw [List.getElem?_eq_getElem hi]
set_option maxHeartbeats 4000000 in
theorem Round_c {d : List Bool} (hx : Rd (.slice tNode) D w [x0] ns) (hd : Rd (.slice .bool) D' w [x1] d) (hl : d.length = ns.length + 1) (hg : GoodN ns) (hlen : ns.length ≤ 10000)
    (h : ∀ v w' out, Ext w w' → Rd (.slice .bool) (w.heap.size ≤ ·) w' [v] out → RoundTo ns d out ns.length → K v w') : GCalls Try.prog 27 [x0, x1] K X w := by
  have hx := rd_bd hx
  have hd := rd_bd hd
  apply oublietteref16_round.calls; unfold oublietteref16_round.b
  refine Cs.bslice (cs := []) (by simp [rowOf, fillL]) fun g0 w1 hg0 h1 c1 => ?_
  have ho : G.Own .bool NoB w.heap.size w1 (.slice (some ⟨g0, 0, none⟩) 0 0) [] := .inl ⟨rfl, _, rfl⟩
  have z1 := h1.size
  refine ho.cat z1 (fun h => h) rfl rfl (hd.ext h1) (fun cs h => h.flat rfl) (by simp; omega) fun v w2 hv hf hbv => ?_
  rw [List.nil_append] at hv
  have z2 := hf.size
  have h2 : Ext w w2 := h1.tn hf (fun x hx => hx.2)
  obtain ⟨go, co, ev, hgo, hgo2⟩ := hv.some_of (by omega)
  rw [hl] at ev
  subst ev
  obtain ⟨a0, cx0, e00, _, hnl⟩ := hx.form
  refine oublietteref16_round.loop1 (fun x6 w' => ∃ (i : Nat) (out : List Bool), i ≤ ns.length ∧ x6 = .int .i64 ((i + 1 : Nat) : Int) ∧ Ext w w' ∧ G.Own .bool NoB w.heap.size w' (.slice (some ⟨go, 0, none⟩) (ns.length + 1) co) out ∧ RoundTo ns d out i)
    (fun x6 _ => ns.length + 1 - (iv x6).toNat) ⟨0, d, by omega, rfl, h2, hv, RoundTo.start hl⟩ ?_
  rintro x6 gg w3 ⟨i, out, hi, rfl, h3, o3, r3⟩
  unfold oublietteref16_round.b1
  have ol := r3.1
  have hgo3 : go < w3.heap.size := by
    obtain ⟨u, hu, _⟩ := o3.cell1 (i := 0) rfl (by omega)
    exact cell_lt hu
  rw [e00]
  by_cases ci : ((i + 1 : Nat) : Int) ≤ (ns.length : Int)
  · have hi' : i < ns.length := by omega
    have hin : InI ((i + 1 : Nat) : Int) := ⟨by omega, by omega⟩
    have e0 : IntKind.i64.wrap (((i + 1 : Nat) : Int) + 1) = ((i + 1 + 1 : Nat) : Int) := by rw [wrap64 (by omega) (by omega)]; omega
    have hth : thereN ns ((i + 1 : Nat) : Int) = true := thereN_iff.2 ⟨by omega, by omega⟩
    obtain ⟨i', hi2, ei, ek, ep⟩ := thereAt hth
    have : i' = i := by omega
    subst this
    have hpl := part_lt hg hi2
    simp only [↓eBinI, ↓eDiv, ↓eShift, ↓eBinS, ↓ePick, ↓eNot, ↓eNeg, ↓eConv, ↓eConvS, ↓eExt0, ↓eExt1, ↓eExt2, ↓eFA, ↓eIA, ↓eLenSl, ↓eCapSl, ↓eLenS, ↓eMin, ↓eMax, ↓eCondT, ↓eCondF, ↓gIf_tt, ↓gIf_ff, ↓gIf_tf, ↓gIf_ft, ↓gIf_u, ↓gIfW_u, ↓gIfW_tt, ↓gIfW_ff, ↓gIfW_tf, ↓gIfW_ft, binI, divI, shiftI, add_mk, Nat.zero_add, cond_true, cond_false, decide_true, decide_false, Bool.not_true, Bool.not_false, Bool.and_true, Bool.true_and, Bool.and_false, Bool.false_and, Int.toNat_natCast, Nat.mul_one, ci]
    rw [← e00]
    refine RParts_c (hx.ext h3) hg hin fun vp w4 h4 rp => ?_
    rw [ep] at rp
    have h34 := h3.tr h4
    refine RKind_c (hx.ext h34) hin ?_
    rw [ek]
    simp only [↓eBinI, ↓eDiv, ↓eShift, ↓eBinS, ↓ePick, ↓eNot, ↓eNeg, ↓eConv, ↓eConvS, ↓eExt0, ↓eExt1, ↓eExt2, ↓eFA, ↓eIA, ↓eLenSl, ↓eCapSl, ↓eLenS, ↓eMin, ↓eMax, ↓eCondT, ↓eCondF, ↓gIf_tt, ↓gIf_ff, ↓gIf_tf, ↓gIf_ft, ↓gIf_u, ↓gIfW_u, ↓gIfW_tt, ↓gIfW_ff, ↓gIfW_tf, ↓gIfW_ft, binI, divI, shiftI, add_mk, Nat.zero_add, cond_true, cond_false, decide_true, decide_false, Bool.not_true, Bool.not_false, Bool.and_true, Bool.true_and, Bool.and_false, Bool.false_and, Int.toNat_natCast, Nat.mul_one]
    have o4 := o3.ext h4
    obtain ⟨apx, cpx, epx, _, _⟩ := rp.form
    refine oublietteref16_round.loop2 (fun x8 x9 w' => ∃ q : Nat, q ≤ (partsOf ns[i']).length ∧ x9 = .int .i64 (q : Int) ∧ x8 = .bool ((ns[i'].1 != 1) && ((partsOf ns[i']).take q).all (bit d)) ∧ w' = w4) (fun _ x9 _ => (partsOf ns[i']).length - (iv x9).toNat) ⟨0, by omega, rfl, by simp, rfl⟩ ?_
    rintro x8 x9 g2 w5 ⟨q, hq, rfl, rfl, rfl⟩
    unfold oublietteref16_round.b2
    rw [epx]
    have hplen : (partsOf ns[i']).length ≤ 2 := by unfold partsOf; split; simp; split <;> simp
    by_cases cq : (q : Int) < ((partsOf ns[i']).length : Int)
    · have hq' : q < (partsOf ns[i']).length := by omega
      obtain ⟨ad, c, u, e, s1, _, qu, ru⟩ := rp.idx rfl hq'
      rw [epx] at e
      simp only [Value.slice.injEq, true_and] at e
      obtain ⟨rfl, rfl⟩ := e
      have hu := ru.1
      simp only [List.cons.injEq, and_true] at hu
      subst hu
      have hpq := hpl _ (List.getElem_mem hq')
      obtain ⟨pq, hpq'⟩ : ∃ pq : Nat, (partsOf ns[i'])[q] = (pq : Int) := ⟨(partsOf ns[i'])[q].toNat, by omega⟩
      have e9 : IntKind.i64.wrap ((q : Int) + 1) = ((q + 1 : Nat) : Int) := by rw [wrap64 (by omega) (by omega)]; omega
      obtain ⟨add, cd, ed, qd⟩ := boolRd (hd.ext h34) (i := pq) (by omega)
      have htk : ((partsOf ns[i']).take (q + 1)).all (bit d) = (((partsOf ns[i']).take q).all (bit d) && bit d (pq : Int)) := by
        rw [List.take_succ_eq_append_getElem hq', List.all_append, hpq']; simp
      simp only [↓eBinI, ↓eDiv, ↓eShift, ↓eBinS, ↓ePick, ↓eNot, ↓eNeg, ↓eConv, ↓eConvS, ↓eExt0, ↓eExt1, ↓eExt2, ↓eFA, ↓eIA, ↓eLenSl, ↓eCapSl, ↓eLenS, ↓eMin, ↓eMax, ↓eCondT, ↓eCondF, ↓gIf_tt, ↓gIf_ff, ↓gIf_tf, ↓gIf_ft, ↓gIf_u, ↓gIfW_u, ↓gIfW_tt, ↓gIfW_ff, ↓gIfW_tf, ↓gIfW_ft, binI, divI, shiftI, add_mk, Nat.zero_add, cond_true, cond_false, decide_true, decide_false, Bool.not_true, Bool.not_false, Bool.and_true, Bool.true_and, Bool.and_false, Bool.false_and, Int.toNat_natCast, Nat.mul_one, cq]
      rw [← epx]
      cases hw : ((ns[i'].1 != 1) && ((partsOf ns[i']).take q).all (bit d)) with
      | false =>
        simp only [↓eBinI, ↓eDiv, ↓eShift, ↓eBinS, ↓ePick, ↓eNot, ↓eNeg, ↓eConv, ↓eConvS, ↓eExt0, ↓eExt1, ↓eExt2, ↓eFA, ↓eIA, ↓eLenSl, ↓eCapSl, ↓eLenS, ↓eMin, ↓eMax, ↓eCondT, ↓eCondF, ↓gIf_tt, ↓gIf_ff, ↓gIf_tf, ↓gIf_ft, ↓gIf_u, ↓gIfW_u, ↓gIfW_tt, ↓gIfW_ff, ↓gIfW_tf, ↓gIfW_ft, binI, divI, shiftI, add_mk, Nat.zero_add, cond_true, cond_false, decide_true, decide_false, Bool.not_true, Bool.not_false, Bool.and_true, Bool.true_and, Bool.and_false, Bool.false_and, Int.toNat_natCast, Nat.mul_one, e9]
        refine oublietteref16_round.leaf2 ⟨q + 1, by omega, rfl, ?_, rfl⟩ (by simp only [iv]; omega)
        rw [htk, ← Bool.and_assoc, hw]; rfl
      | true =>
        rw [epx, ed]
        simp only [↓eBinI, ↓eDiv, ↓eShift, ↓eBinS, ↓ePick, ↓eNot, ↓eNeg, ↓eConv, ↓eConvS, ↓eExt0, ↓eExt1, ↓eExt2, ↓eFA, ↓eIA, ↓eLenSl, ↓eCapSl, ↓eLenS, ↓eMin, ↓eMax, ↓eCondT, ↓eCondF, ↓gIf_tt, ↓gIf_ff, ↓gIf_tf, ↓gIf_ft, ↓gIf_u, ↓gIfW_u, ↓gIfW_tt, ↓gIfW_ff, ↓gIfW_tf, ↓gIfW_ft, binI, divI, shiftI, add_mk, Nat.zero_add, cond_true, cond_false, decide_true, decide_false, Bool.not_true, Bool.not_false, Bool.and_true, Bool.true_and, Bool.and_false, Bool.false_and, Int.toNat_natCast, Nat.mul_one]
        refine ⟨by omega, by omega, ?_⟩
        simp only [↓eLdW, Int.toNat_natCast, Nat.mul_one, qu, Option.some.injEq, exists_eq_left']
        rw [hpq']
        simp only [↓eBinI, ↓eDiv, ↓eShift, ↓eBinS, ↓ePick, ↓eNot, ↓eNeg, ↓eConv, ↓eConvS, ↓eExt0, ↓eExt1, ↓eExt2, ↓eFA, ↓eIA, ↓eLenSl, ↓eCapSl, ↓eLenS, ↓eMin, ↓eMax, ↓eCondT, ↓eCondF, ↓gIf_tt, ↓gIf_ff, ↓gIf_tf, ↓gIf_ft, ↓gIf_u, ↓gIfW_u, ↓gIfW_tt, ↓gIfW_ff, ↓gIfW_tf, ↓gIfW_ft, binI, divI, shiftI, add_mk, Nat.zero_add, cond_true, cond_false, decide_true, decide_false, Bool.not_true, Bool.not_false, Bool.and_true, Bool.true_and, Bool.and_false, Bool.false_and, Int.toNat_natCast, Nat.mul_one]
        refine ⟨by omega, by omega, ?_⟩
        simp only [↓eLdW, Int.toNat_natCast, Nat.mul_one, qd, Option.some.injEq, exists_eq_left']
        simp only [↓eBinI, ↓eDiv, ↓eShift, ↓eBinS, ↓ePick, ↓eNot, ↓eNeg, ↓eConv, ↓eConvS, ↓eExt0, ↓eExt1, ↓eExt2, ↓eFA, ↓eIA, ↓eLenSl, ↓eCapSl, ↓eLenS, ↓eMin, ↓eMax, ↓eCondT, ↓eCondF, ↓gIf_tt, ↓gIf_ff, ↓gIf_tf, ↓gIf_ft, ↓gIf_u, ↓gIfW_u, ↓gIfW_tt, ↓gIfW_ff, ↓gIfW_tf, ↓gIfW_ft, binI, divI, shiftI, add_mk, Nat.zero_add, cond_true, cond_false, decide_true, decide_false, Bool.not_true, Bool.not_false, Bool.and_true, Bool.true_and, Bool.and_false, Bool.false_and, Int.toNat_natCast, Nat.mul_one, e9]
        rw [← ed, ← epx]
        refine oublietteref16_round.leaf2 ⟨q + 1, by omega, rfl, ?_, rfl⟩ (by simp only [iv]; omega)
        rw [htk, ← Bool.and_assoc, hw]; simp
    · have hq' : q = (partsOf ns[i']).length := by omega
      subst hq'
      simp only [↓eBinI, ↓eDiv, ↓eShift, ↓eBinS, ↓ePick, ↓eNot, ↓eNeg, ↓eConv, ↓eConvS, ↓eExt0, ↓eExt1, ↓eExt2, ↓eFA, ↓eIA, ↓eLenSl, ↓eCapSl, ↓eLenS, ↓eMin, ↓eMax, ↓eCondT, ↓eCondF, ↓gIf_tt, ↓gIf_ff, ↓gIf_tf, ↓gIf_ft, ↓gIf_u, ↓gIfW_u, ↓gIfW_tt, ↓gIfW_ff, ↓gIfW_tf, ↓gIfW_ft, binI, divI, shiftI, add_mk, Nat.zero_add, cond_true, cond_false, decide_true, decide_false, Bool.not_true, Bool.not_false, Bool.and_true, Bool.true_and, Bool.and_false, Bool.false_and, Int.toNat_natCast, Nat.mul_one, cq, List.take_length]
      rw [← epx]
      refine ⟨by omega, by omega, ?_⟩
      have qo := boolAt o4 (i := i' + 1) (by omega)
      have hwe : (ns[i'].1 != 1 && (partsOf ns[i']).all (bit d)) = wholeB ns (bit d) i' := by rw [wholeB_at hi2]; rfl
      rw [hwe]
      simp only [add_mk, Nat.zero_add, ↓eLdW, qo, Option.some.injEq, exists_eq_left']
      cases hbo : bit out ((i' + 1 : Nat) : Int) with
      | true =>
        simp only [↓eBinI, ↓eDiv, ↓eShift, ↓eBinS, ↓ePick, ↓eNot, ↓eNeg, ↓eConv, ↓eConvS, ↓eExt0, ↓eExt1, ↓eExt2, ↓eFA, ↓eIA, ↓eLenSl, ↓eCapSl, ↓eLenS, ↓eMin, ↓eMax, ↓eCondT, ↓eCondF, ↓gIf_tt, ↓gIf_ff, ↓gIf_tf, ↓gIf_ft, ↓gIf_u, ↓gIfW_u, ↓gIfW_tt, ↓gIfW_ff, ↓gIfW_tf, ↓gIfW_ft, binI, divI, shiftI, add_mk, Nat.zero_add, cond_true, cond_false, decide_true, decide_false, Bool.not_true, Bool.not_false, Bool.and_true, Bool.true_and, Bool.and_false, Bool.false_and, Int.toNat_natCast, Nat.mul_one]
        refine ⟨by omega, by omega, ?_⟩
        refine o4.set1 (y := true) rfl (by omega) rfl fun w6 o6 f6 => ?_
        have z3 := h3.size; have z4 := h4.size; have z6 := f6.size
        have h36 : Ext w w6 := h34.tn f6 (fun x hx => by omega)
        have o6' : G.Own .bool NoB w.heap.size w6 (.slice (some ⟨go, 0, none⟩) (ns.length + 1) co) (out.set (i' + 1) (bit out ((i' + 1 : Nat) : Int) || wholeB ns (bit d) i')) := by
          have e : (bit out ((i' + 1 : Nat) : Int) || wholeB ns (bit d) i') = true := by rw [hbo]; rfl
          rw [e]; exact o6
        have rp6 := rp.fr f6 (fun b hb (e : b = go) => by have : w3.heap.size ≤ b := hb; omega)
        have none : (∀ j, openB ns (bit d) i' j = false) → ∃ (i : Nat) (out : List Bool), i ≤ ns.length ∧ Value.int .i64 ((i' + 1 + 1 : Nat) : Int) = .int .i64 ((i + 1 : Nat) : Int) ∧ Ext w w6 ∧ G.Own .bool NoB w.heap.size w6 (.slice (some ⟨go, 0, none⟩) (ns.length + 1) co) out ∧ RoundTo ns d out i := fun hh =>
          ⟨i' + 1, _, by omega, rfl, h36, o6', r3.no hi2 hh⟩
        refine RKind_c (hx.ext h36) hin ?_
        rw [ek]
        by_cases k5 : ns[i'].1 = 5
        · have en : (ns[i'].1 == 5) = true := by simp [k5]
          obtain ⟨hp5, q1, q2, q3, q4⟩ := parts5 hg hi2 k5
          obtain ⟨pa, hpa⟩ : ∃ pa : Nat, ns[i'].2.1 = (pa : Int) := ⟨ns[i'].2.1.toNat, by omega⟩
          obtain ⟨pb, hpb⟩ : ∃ pb : Nat, ns[i'].2.2.1 = (pb : Int) := ⟨ns[i'].2.2.1.toNat, by omega⟩
          obtain ⟨ad1, cd1, ed1, qd1⟩ := boolRd (hd.ext h36) (i := i' + 1) (by omega)
          obtain ⟨ad2, cd2, ed2, qd2⟩ := boolRd (hd.ext h36) (i := pa) (by omega)
          rw [ed1] at ed2
          simp only [Value.slice.injEq, Option.some.injEq, true_and] at ed2
          obtain ⟨rfl, rfl⟩ := ed2
          rw [hp5] at rp6
          obtain ⟨adx, cx, u0, eup, sx, _, r0, t0⟩ := rp6.idx rfl (i := 0) (by simp)
          obtain ⟨ady, cy, u1, eup', sy, _, r1', t1⟩ := rp6.idx rfl (i := 1) (by simp)
          rw [eup] at eup'
          simp only [Value.slice.injEq, Option.some.injEq, true_and] at eup'
          obtain ⟨rfl, rfl⟩ := eup'
          have v0 := t0.1
          have v1 := t1.1
          simp only [List.getElem_cons_zero, List.getElem_cons_succ, List.cons.injEq, and_true] at v0 v1
          subst v0 v1
          have eup : vp = .slice (some adx) 2 cx := eup
          rw [ed1, eup]
          simp only [↓eBinI, ↓eDiv, ↓eShift, ↓eBinS, ↓ePick, ↓eNot, ↓eNeg, ↓eConv, ↓eConvS, ↓eExt0, ↓eExt1, ↓eExt2, ↓eFA, ↓eIA, ↓eLenSl, ↓eCapSl, ↓eLenS, ↓eMin, ↓eMax, ↓eCondT, ↓eCondF, ↓gIf_tt, ↓gIf_ff, ↓gIf_tf, ↓gIf_ft, ↓gIf_u, ↓gIfW_u, ↓gIfW_tt, ↓gIfW_ff, ↓gIfW_tf, ↓gIfW_ft, binI, divI, shiftI, add_mk, Nat.zero_add, cond_true, cond_false, decide_true, decide_false, Bool.not_true, Bool.not_false, Bool.and_true, Bool.true_and, Bool.and_false, Bool.false_and, Int.toNat_natCast, Nat.mul_one, en]
          refine ⟨by omega, by first | trivial | omega, ?_⟩
          simp only [↓eLdW, Int.toNat_natCast, Nat.mul_one, qd1, Option.some.injEq, exists_eq_left']
          cases hd1 : bit d ((i' + 1 : Nat) : Int) with
          | false =>
            simp only [↓eBinI, ↓eDiv, ↓eShift, ↓eBinS, ↓ePick, ↓eNot, ↓eNeg, ↓eConv, ↓eConvS, ↓eExt0, ↓eExt1, ↓eExt2, ↓eFA, ↓eIA, ↓eLenSl, ↓eCapSl, ↓eLenS, ↓eMin, ↓eMax, ↓eCondT, ↓eCondF, ↓gIf_tt, ↓gIf_ff, ↓gIf_tf, ↓gIf_ft, ↓gIf_u, ↓gIfW_u, ↓gIfW_tt, ↓gIfW_ff, ↓gIfW_tf, ↓gIfW_ft, binI, divI, shiftI, add_mk, Nat.zero_add, cond_true, cond_false, decide_true, decide_false, Bool.not_true, Bool.not_false, Bool.and_true, Bool.true_and, Bool.and_false, Bool.false_and, Int.toNat_natCast, Nat.mul_one]
            unfold oublietteref16_round.j1
            simp only [↓eBinI, ↓eDiv, ↓eShift, ↓eBinS, ↓ePick, ↓eNot, ↓eNeg, ↓eConv, ↓eConvS, ↓eExt0, ↓eExt1, ↓eExt2, ↓eFA, ↓eIA, ↓eLenSl, ↓eCapSl, ↓eLenS, ↓eMin, ↓eMax, ↓eCondT, ↓eCondF, ↓gIf_tt, ↓gIf_ff, ↓gIf_tf, ↓gIf_ft, ↓gIf_u, ↓gIfW_u, ↓gIfW_tt, ↓gIfW_ff, ↓gIfW_tf, ↓gIfW_ft, binI, divI, shiftI, add_mk, Nat.zero_add, cond_true, cond_false, decide_true, decide_false, Bool.not_true, Bool.not_false, Bool.and_true, Bool.true_and, Bool.and_false, Bool.false_and, Int.toNat_natCast, Nat.mul_one, e0]
            rw [← ed1]
            exact oublietteref16_round.leaf1 (none (fun j => by rw [openB_at hi2, show (i' : Int) + 1 = ((i' + 1 : Nat) : Int) by omega, hd1]; simp)) (by simp only [iv]; omega)
          | true =>
            simp only [↓eBinI, ↓eDiv, ↓eShift, ↓eBinS, ↓ePick, ↓eNot, ↓eNeg, ↓eConv, ↓eConvS, ↓eExt0, ↓eExt1, ↓eExt2, ↓eFA, ↓eIA, ↓eLenSl, ↓eCapSl, ↓eLenS, ↓eMin, ↓eMax, ↓eCondT, ↓eCondF, ↓gIf_tt, ↓gIf_ff, ↓gIf_tf, ↓gIf_ft, ↓gIf_u, ↓gIfW_u, ↓gIfW_tt, ↓gIfW_ff, ↓gIfW_tf, ↓gIfW_ft, binI, divI, shiftI, add_mk, Nat.zero_add, cond_true, cond_false, decide_true, decide_false, Bool.not_true, Bool.not_false, Bool.and_true, Bool.true_and, Bool.and_false, Bool.false_and, Int.toNat_natCast, Nat.mul_one]
            refine ⟨by omega, by first | trivial | omega, ?_⟩
            simp only [↓eLdW, Int.toNat_zero, Nat.mul_one, Nat.zero_mul, r0, Option.some.injEq, exists_eq_left']
            rw [hpa]
            simp only [↓eBinI, ↓eDiv, ↓eShift, ↓eBinS, ↓ePick, ↓eNot, ↓eNeg, ↓eConv, ↓eConvS, ↓eExt0, ↓eExt1, ↓eExt2, ↓eFA, ↓eIA, ↓eLenSl, ↓eCapSl, ↓eLenS, ↓eMin, ↓eMax, ↓eCondT, ↓eCondF, ↓gIf_tt, ↓gIf_ff, ↓gIf_tf, ↓gIf_ft, ↓gIf_u, ↓gIfW_u, ↓gIfW_tt, ↓gIfW_ff, ↓gIfW_tf, ↓gIfW_ft, binI, divI, shiftI, add_mk, Nat.zero_add, cond_true, cond_false, decide_true, decide_false, Bool.not_true, Bool.not_false, Bool.and_true, Bool.true_and, Bool.and_false, Bool.false_and, Int.toNat_natCast, Nat.mul_one]
            refine ⟨by omega, by first | trivial | omega, ?_⟩
            simp only [↓eLdW, Int.toNat_natCast, Nat.mul_one, qd2, Option.some.injEq, exists_eq_left']
            cases hd2 : bit d (pa : Int) with
            | false =>
              simp only [↓eBinI, ↓eDiv, ↓eShift, ↓eBinS, ↓ePick, ↓eNot, ↓eNeg, ↓eConv, ↓eConvS, ↓eExt0, ↓eExt1, ↓eExt2, ↓eFA, ↓eIA, ↓eLenSl, ↓eCapSl, ↓eLenS, ↓eMin, ↓eMax, ↓eCondT, ↓eCondF, ↓gIf_tt, ↓gIf_ff, ↓gIf_tf, ↓gIf_ft, ↓gIf_u, ↓gIfW_u, ↓gIfW_tt, ↓gIfW_ff, ↓gIfW_tf, ↓gIfW_ft, binI, divI, shiftI, add_mk, Nat.zero_add, cond_true, cond_false, decide_true, decide_false, Bool.not_true, Bool.not_false, Bool.and_true, Bool.true_and, Bool.and_false, Bool.false_and, Int.toNat_natCast, Nat.mul_one]
              unfold oublietteref16_round.j1
              simp only [↓eBinI, ↓eDiv, ↓eShift, ↓eBinS, ↓ePick, ↓eNot, ↓eNeg, ↓eConv, ↓eConvS, ↓eExt0, ↓eExt1, ↓eExt2, ↓eFA, ↓eIA, ↓eLenSl, ↓eCapSl, ↓eLenS, ↓eMin, ↓eMax, ↓eCondT, ↓eCondF, ↓gIf_tt, ↓gIf_ff, ↓gIf_tf, ↓gIf_ft, ↓gIf_u, ↓gIfW_u, ↓gIfW_tt, ↓gIfW_ff, ↓gIfW_tf, ↓gIfW_ft, binI, divI, shiftI, add_mk, Nat.zero_add, cond_true, cond_false, decide_true, decide_false, Bool.not_true, Bool.not_false, Bool.and_true, Bool.true_and, Bool.and_false, Bool.false_and, Int.toNat_natCast, Nat.mul_one, e0]
              rw [← ed1]
              exact oublietteref16_round.leaf1 (none (fun j => by rw [openB_at hi2, hpa, hd2]; simp)) (by simp only [iv]; omega)
            | true =>
              simp only [↓eBinI, ↓eDiv, ↓eShift, ↓eBinS, ↓ePick, ↓eNot, ↓eNeg, ↓eConv, ↓eConvS, ↓eExt0, ↓eExt1, ↓eExt2, ↓eFA, ↓eIA, ↓eLenSl, ↓eCapSl, ↓eLenS, ↓eMin, ↓eMax, ↓eCondT, ↓eCondF, ↓gIf_tt, ↓gIf_ff, ↓gIf_tf, ↓gIf_ft, ↓gIf_u, ↓gIfW_u, ↓gIfW_tt, ↓gIfW_ff, ↓gIfW_tf, ↓gIfW_ft, binI, divI, shiftI, add_mk, Nat.zero_add, cond_true, cond_false, decide_true, decide_false, Bool.not_true, Bool.not_false, Bool.and_true, Bool.true_and, Bool.and_false, Bool.false_and, Int.toNat_natCast, Nat.mul_one]
              refine ⟨by omega, by first | trivial | omega, ?_⟩
              try simp only [↓eLdW, Int.toNat_one, Nat.mul_one, Nat.one_mul, r1', Option.some.injEq, exists_eq_left']
              rw [hpb]
              simp only [↓eBinI, ↓eDiv, ↓eShift, ↓eBinS, ↓ePick, ↓eNot, ↓eNeg, ↓eConv, ↓eConvS, ↓eExt0, ↓eExt1, ↓eExt2, ↓eFA, ↓eIA, ↓eLenSl, ↓eCapSl, ↓eLenS, ↓eMin, ↓eMax, ↓eCondT, ↓eCondF, ↓gIf_tt, ↓gIf_ff, ↓gIf_tf, ↓gIf_ft, ↓gIf_u, ↓gIfW_u, ↓gIfW_tt, ↓gIfW_ff, ↓gIfW_tf, ↓gIfW_ft, binI, divI, shiftI, add_mk, Nat.zero_add, cond_true, cond_false, decide_true, decide_false, Bool.not_true, Bool.not_false, Bool.and_true, Bool.true_and, Bool.and_false, Bool.false_and, Int.toNat_natCast, Nat.mul_one]
              refine ⟨by omega, by first | trivial | omega, ?_⟩
              try simp only [add_mk, Nat.zero_add, Int.toNat_natCast, Nat.mul_one]
              refine o6'.set1 (y := true) rfl (by simp; omega) rfl fun w8 o8 f8 => ?_
              unfold oublietteref16_round.j1
              simp only [↓eBinI, ↓eDiv, ↓eShift, ↓eBinS, ↓ePick, ↓eNot, ↓eNeg, ↓eConv, ↓eConvS, ↓eExt0, ↓eExt1, ↓eExt2, ↓eFA, ↓eIA, ↓eLenSl, ↓eCapSl, ↓eLenS, ↓eMin, ↓eMax, ↓eCondT, ↓eCondF, ↓gIf_tt, ↓gIf_ff, ↓gIf_tf, ↓gIf_ft, ↓gIf_u, ↓gIfW_u, ↓gIfW_tt, ↓gIfW_ff, ↓gIfW_tf, ↓gIfW_ft, binI, divI, shiftI, add_mk, Nat.zero_add, cond_true, cond_false, decide_true, decide_false, Bool.not_true, Bool.not_false, Bool.and_true, Bool.true_and, Bool.and_false, Bool.false_and, Int.toNat_natCast, Nat.mul_one, e0]
              rw [← ed1]
              refine oublietteref16_round.leaf1 ⟨i' + 1, _, by omega, rfl, h36.tn f8 (fun x hx => by omega), o8, r3.yes hi2 (by omega) fun j => ?_⟩ (by simp only [iv]; omega)
              rw [openB_at hi2, show (i' : Int) + 1 = ((i' + 1 : Nat) : Int) by omega, hd1, hpa, hd2, hpb, k5]
              simp
              omega
        · have en : (ns[i'].1 == 5) = false := by simpa using k5
          simp only [↓eBinI, ↓eDiv, ↓eShift, ↓eBinS, ↓ePick, ↓eNot, ↓eNeg, ↓eConv, ↓eConvS, ↓eExt0, ↓eExt1, ↓eExt2, ↓eFA, ↓eIA, ↓eLenSl, ↓eCapSl, ↓eLenS, ↓eMin, ↓eMax, ↓eCondT, ↓eCondF, ↓gIf_tt, ↓gIf_ff, ↓gIf_tf, ↓gIf_ft, ↓gIf_u, ↓gIfW_u, ↓gIfW_tt, ↓gIfW_ff, ↓gIfW_tf, ↓gIfW_ft, binI, divI, shiftI, add_mk, Nat.zero_add, cond_true, cond_false, decide_true, decide_false, Bool.not_true, Bool.not_false, Bool.and_true, Bool.true_and, Bool.and_false, Bool.false_and, Int.toNat_natCast, Nat.mul_one, en]
          unfold oublietteref16_round.j1
          simp only [↓eBinI, ↓eDiv, ↓eShift, ↓eBinS, ↓ePick, ↓eNot, ↓eNeg, ↓eConv, ↓eConvS, ↓eExt0, ↓eExt1, ↓eExt2, ↓eFA, ↓eIA, ↓eLenSl, ↓eCapSl, ↓eLenS, ↓eMin, ↓eMax, ↓eCondT, ↓eCondF, ↓gIf_tt, ↓gIf_ff, ↓gIf_tf, ↓gIf_ft, ↓gIf_u, ↓gIfW_u, ↓gIfW_tt, ↓gIfW_ff, ↓gIfW_tf, ↓gIfW_ft, binI, divI, shiftI, add_mk, Nat.zero_add, cond_true, cond_false, decide_true, decide_false, Bool.not_true, Bool.not_false, Bool.and_true, Bool.true_and, Bool.and_false, Bool.false_and, Int.toNat_natCast, Nat.mul_one, e0]
          exact oublietteref16_round.leaf1 (none (fun j => by rw [openB_at hi2, en]; rfl)) (by simp only [iv]; omega)
      | false =>
        simp only [↓eBinI, ↓eDiv, ↓eShift, ↓eBinS, ↓ePick, ↓eNot, ↓eNeg, ↓eConv, ↓eConvS, ↓eExt0, ↓eExt1, ↓eExt2, ↓eFA, ↓eIA, ↓eLenSl, ↓eCapSl, ↓eLenS, ↓eMin, ↓eMax, ↓eCondT, ↓eCondF, ↓gIf_tt, ↓gIf_ff, ↓gIf_tf, ↓gIf_ft, ↓gIf_u, ↓gIfW_u, ↓gIfW_tt, ↓gIfW_ff, ↓gIfW_tf, ↓gIfW_ft, binI, divI, shiftI, add_mk, Nat.zero_add, cond_true, cond_false, decide_true, decide_false, Bool.not_true, Bool.not_false, Bool.and_true, Bool.true_and, Bool.and_false, Bool.false_and, Int.toNat_natCast, Nat.mul_one]
        refine ⟨by omega, by omega, ?_⟩
        refine o4.set1 (y := (wholeB ns (bit d) i')) rfl (by omega) rfl fun w6 o6 f6 => ?_
        have z3 := h3.size; have z4 := h4.size; have z6 := f6.size
        have h36 : Ext w w6 := h34.tn f6 (fun x hx => by omega)
        have o6' : G.Own .bool NoB w.heap.size w6 (.slice (some ⟨go, 0, none⟩) (ns.length + 1) co) (out.set (i' + 1) (bit out ((i' + 1 : Nat) : Int) || wholeB ns (bit d) i')) := by
          have e : (bit out ((i' + 1 : Nat) : Int) || wholeB ns (bit d) i') = (wholeB ns (bit d) i') := by rw [hbo]; rfl
          rw [e]; exact o6
        have rp6 := rp.fr f6 (fun b hb (e : b = go) => by have : w3.heap.size ≤ b := hb; omega)
        have none : (∀ j, openB ns (bit d) i' j = false) → ∃ (i : Nat) (out : List Bool), i ≤ ns.length ∧ Value.int .i64 ((i' + 1 + 1 : Nat) : Int) = .int .i64 ((i + 1 : Nat) : Int) ∧ Ext w w6 ∧ G.Own .bool NoB w.heap.size w6 (.slice (some ⟨go, 0, none⟩) (ns.length + 1) co) out ∧ RoundTo ns d out i := fun hh =>
          ⟨i' + 1, _, by omega, rfl, h36, o6', r3.no hi2 hh⟩
        refine RKind_c (hx.ext h36) hin ?_
        rw [ek]
        by_cases k5 : ns[i'].1 = 5
        · have en : (ns[i'].1 == 5) = true := by simp [k5]
          obtain ⟨hp5, q1, q2, q3, q4⟩ := parts5 hg hi2 k5
          obtain ⟨pa, hpa⟩ : ∃ pa : Nat, ns[i'].2.1 = (pa : Int) := ⟨ns[i'].2.1.toNat, by omega⟩
          obtain ⟨pb, hpb⟩ : ∃ pb : Nat, ns[i'].2.2.1 = (pb : Int) := ⟨ns[i'].2.2.1.toNat, by omega⟩
          obtain ⟨ad1, cd1, ed1, qd1⟩ := boolRd (hd.ext h36) (i := i' + 1) (by omega)
          obtain ⟨ad2, cd2, ed2, qd2⟩ := boolRd (hd.ext h36) (i := pa) (by omega)
          rw [ed1] at ed2
          simp only [Value.slice.injEq, Option.some.injEq, true_and] at ed2
          obtain ⟨rfl, rfl⟩ := ed2
          rw [hp5] at rp6
          obtain ⟨adx, cx, u0, eup, sx, _, r0, t0⟩ := rp6.idx rfl (i := 0) (by simp)
          obtain ⟨ady, cy, u1, eup', sy, _, r1', t1⟩ := rp6.idx rfl (i := 1) (by simp)
          rw [eup] at eup'
          simp only [Value.slice.injEq, Option.some.injEq, true_and] at eup'
          obtain ⟨rfl, rfl⟩ := eup'
          have v0 := t0.1
          have v1 := t1.1
          simp only [List.getElem_cons_zero, List.getElem_cons_succ, List.cons.injEq, and_true] at v0 v1
          subst v0 v1
          have eup : vp = .slice (some adx) 2 cx := eup
          rw [ed1, eup]
          simp only [↓eBinI, ↓eDiv, ↓eShift, ↓eBinS, ↓ePick, ↓eNot, ↓eNeg, ↓eConv, ↓eConvS, ↓eExt0, ↓eExt1, ↓eExt2, ↓eFA, ↓eIA, ↓eLenSl, ↓eCapSl, ↓eLenS, ↓eMin, ↓eMax, ↓eCondT, ↓eCondF, ↓gIf_tt, ↓gIf_ff, ↓gIf_tf, ↓gIf_ft, ↓gIf_u, ↓gIfW_u, ↓gIfW_tt, ↓gIfW_ff, ↓gIfW_tf, ↓gIfW_ft, binI, divI, shiftI, add_mk, Nat.zero_add, cond_true, cond_false, decide_true, decide_false, Bool.not_true, Bool.not_false, Bool.and_true, Bool.true_and, Bool.and_false, Bool.false_and, Int.toNat_natCast, Nat.mul_one, en]
          refine ⟨by omega, by first | trivial | omega, ?_⟩
          simp only [↓eLdW, Int.toNat_natCast, Nat.mul_one, qd1, Option.some.injEq, exists_eq_left']
          cases hd1 : bit d ((i' + 1 : Nat) : Int) with
          | false =>
            simp only [↓eBinI, ↓eDiv, ↓eShift, ↓eBinS, ↓ePick, ↓eNot, ↓eNeg, ↓eConv, ↓eConvS, ↓eExt0, ↓eExt1, ↓eExt2, ↓eFA, ↓eIA, ↓eLenSl, ↓eCapSl, ↓eLenS, ↓eMin, ↓eMax, ↓eCondT, ↓eCondF, ↓gIf_tt, ↓gIf_ff, ↓gIf_tf, ↓gIf_ft, ↓gIf_u, ↓gIfW_u, ↓gIfW_tt, ↓gIfW_ff, ↓gIfW_tf, ↓gIfW_ft, binI, divI, shiftI, add_mk, Nat.zero_add, cond_true, cond_false, decide_true, decide_false, Bool.not_true, Bool.not_false, Bool.and_true, Bool.true_and, Bool.and_false, Bool.false_and, Int.toNat_natCast, Nat.mul_one]
            unfold oublietteref16_round.j1
            simp only [↓eBinI, ↓eDiv, ↓eShift, ↓eBinS, ↓ePick, ↓eNot, ↓eNeg, ↓eConv, ↓eConvS, ↓eExt0, ↓eExt1, ↓eExt2, ↓eFA, ↓eIA, ↓eLenSl, ↓eCapSl, ↓eLenS, ↓eMin, ↓eMax, ↓eCondT, ↓eCondF, ↓gIf_tt, ↓gIf_ff, ↓gIf_tf, ↓gIf_ft, ↓gIf_u, ↓gIfW_u, ↓gIfW_tt, ↓gIfW_ff, ↓gIfW_tf, ↓gIfW_ft, binI, divI, shiftI, add_mk, Nat.zero_add, cond_true, cond_false, decide_true, decide_false, Bool.not_true, Bool.not_false, Bool.and_true, Bool.true_and, Bool.and_false, Bool.false_and, Int.toNat_natCast, Nat.mul_one, e0]
            rw [← ed1]
            exact oublietteref16_round.leaf1 (none (fun j => by rw [openB_at hi2, show (i' : Int) + 1 = ((i' + 1 : Nat) : Int) by omega, hd1]; simp)) (by simp only [iv]; omega)
          | true =>
            simp only [↓eBinI, ↓eDiv, ↓eShift, ↓eBinS, ↓ePick, ↓eNot, ↓eNeg, ↓eConv, ↓eConvS, ↓eExt0, ↓eExt1, ↓eExt2, ↓eFA, ↓eIA, ↓eLenSl, ↓eCapSl, ↓eLenS, ↓eMin, ↓eMax, ↓eCondT, ↓eCondF, ↓gIf_tt, ↓gIf_ff, ↓gIf_tf, ↓gIf_ft, ↓gIf_u, ↓gIfW_u, ↓gIfW_tt, ↓gIfW_ff, ↓gIfW_tf, ↓gIfW_ft, binI, divI, shiftI, add_mk, Nat.zero_add, cond_true, cond_false, decide_true, decide_false, Bool.not_true, Bool.not_false, Bool.and_true, Bool.true_and, Bool.and_false, Bool.false_and, Int.toNat_natCast, Nat.mul_one]
            refine ⟨by omega, by first | trivial | omega, ?_⟩
            simp only [↓eLdW, Int.toNat_zero, Nat.mul_one, Nat.zero_mul, r0, Option.some.injEq, exists_eq_left']
            rw [hpa]
            simp only [↓eBinI, ↓eDiv, ↓eShift, ↓eBinS, ↓ePick, ↓eNot, ↓eNeg, ↓eConv, ↓eConvS, ↓eExt0, ↓eExt1, ↓eExt2, ↓eFA, ↓eIA, ↓eLenSl, ↓eCapSl, ↓eLenS, ↓eMin, ↓eMax, ↓eCondT, ↓eCondF, ↓gIf_tt, ↓gIf_ff, ↓gIf_tf, ↓gIf_ft, ↓gIf_u, ↓gIfW_u, ↓gIfW_tt, ↓gIfW_ff, ↓gIfW_tf, ↓gIfW_ft, binI, divI, shiftI, add_mk, Nat.zero_add, cond_true, cond_false, decide_true, decide_false, Bool.not_true, Bool.not_false, Bool.and_true, Bool.true_and, Bool.and_false, Bool.false_and, Int.toNat_natCast, Nat.mul_one]
            refine ⟨by omega, by first | trivial | omega, ?_⟩
            simp only [↓eLdW, Int.toNat_natCast, Nat.mul_one, qd2, Option.some.injEq, exists_eq_left']
            cases hd2 : bit d (pa : Int) with
            | false =>
              simp only [↓eBinI, ↓eDiv, ↓eShift, ↓eBinS, ↓ePick, ↓eNot, ↓eNeg, ↓eConv, ↓eConvS, ↓eExt0, ↓eExt1, ↓eExt2, ↓eFA, ↓eIA, ↓eLenSl, ↓eCapSl, ↓eLenS, ↓eMin, ↓eMax, ↓eCondT, ↓eCondF, ↓gIf_tt, ↓gIf_ff, ↓gIf_tf, ↓gIf_ft, ↓gIf_u, ↓gIfW_u, ↓gIfW_tt, ↓gIfW_ff, ↓gIfW_tf, ↓gIfW_ft, binI, divI, shiftI, add_mk, Nat.zero_add, cond_true, cond_false, decide_true, decide_false, Bool.not_true, Bool.not_false, Bool.and_true, Bool.true_and, Bool.and_false, Bool.false_and, Int.toNat_natCast, Nat.mul_one]
              unfold oublietteref16_round.j1
              simp only [↓eBinI, ↓eDiv, ↓eShift, ↓eBinS, ↓ePick, ↓eNot, ↓eNeg, ↓eConv, ↓eConvS, ↓eExt0, ↓eExt1, ↓eExt2, ↓eFA, ↓eIA, ↓eLenSl, ↓eCapSl, ↓eLenS, ↓eMin, ↓eMax, ↓eCondT, ↓eCondF, ↓gIf_tt, ↓gIf_ff, ↓gIf_tf, ↓gIf_ft, ↓gIf_u, ↓gIfW_u, ↓gIfW_tt, ↓gIfW_ff, ↓gIfW_tf, ↓gIfW_ft, binI, divI, shiftI, add_mk, Nat.zero_add, cond_true, cond_false, decide_true, decide_false, Bool.not_true, Bool.not_false, Bool.and_true, Bool.true_and, Bool.and_false, Bool.false_and, Int.toNat_natCast, Nat.mul_one, e0]
              rw [← ed1]
              exact oublietteref16_round.leaf1 (none (fun j => by rw [openB_at hi2, hpa, hd2]; simp)) (by simp only [iv]; omega)
            | true =>
              simp only [↓eBinI, ↓eDiv, ↓eShift, ↓eBinS, ↓ePick, ↓eNot, ↓eNeg, ↓eConv, ↓eConvS, ↓eExt0, ↓eExt1, ↓eExt2, ↓eFA, ↓eIA, ↓eLenSl, ↓eCapSl, ↓eLenS, ↓eMin, ↓eMax, ↓eCondT, ↓eCondF, ↓gIf_tt, ↓gIf_ff, ↓gIf_tf, ↓gIf_ft, ↓gIf_u, ↓gIfW_u, ↓gIfW_tt, ↓gIfW_ff, ↓gIfW_tf, ↓gIfW_ft, binI, divI, shiftI, add_mk, Nat.zero_add, cond_true, cond_false, decide_true, decide_false, Bool.not_true, Bool.not_false, Bool.and_true, Bool.true_and, Bool.and_false, Bool.false_and, Int.toNat_natCast, Nat.mul_one]
              refine ⟨by omega, by first | trivial | omega, ?_⟩
              try simp only [↓eLdW, Int.toNat_one, Nat.mul_one, Nat.one_mul, r1', Option.some.injEq, exists_eq_left']
              rw [hpb]
              simp only [↓eBinI, ↓eDiv, ↓eShift, ↓eBinS, ↓ePick, ↓eNot, ↓eNeg, ↓eConv, ↓eConvS, ↓eExt0, ↓eExt1, ↓eExt2, ↓eFA, ↓eIA, ↓eLenSl, ↓eCapSl, ↓eLenS, ↓eMin, ↓eMax, ↓eCondT, ↓eCondF, ↓gIf_tt, ↓gIf_ff, ↓gIf_tf, ↓gIf_ft, ↓gIf_u, ↓gIfW_u, ↓gIfW_tt, ↓gIfW_ff, ↓gIfW_tf, ↓gIfW_ft, binI, divI, shiftI, add_mk, Nat.zero_add, cond_true, cond_false, decide_true, decide_false, Bool.not_true, Bool.not_false, Bool.and_true, Bool.true_and, Bool.and_false, Bool.false_and, Int.toNat_natCast, Nat.mul_one]
              refine ⟨by omega, by first | trivial | omega, ?_⟩
              try simp only [add_mk, Nat.zero_add, Int.toNat_natCast, Nat.mul_one]
              refine o6'.set1 (y := true) rfl (by simp; omega) rfl fun w8 o8 f8 => ?_
              unfold oublietteref16_round.j1
              simp only [↓eBinI, ↓eDiv, ↓eShift, ↓eBinS, ↓ePick, ↓eNot, ↓eNeg, ↓eConv, ↓eConvS, ↓eExt0, ↓eExt1, ↓eExt2, ↓eFA, ↓eIA, ↓eLenSl, ↓eCapSl, ↓eLenS, ↓eMin, ↓eMax, ↓eCondT, ↓eCondF, ↓gIf_tt, ↓gIf_ff, ↓gIf_tf, ↓gIf_ft, ↓gIf_u, ↓gIfW_u, ↓gIfW_tt, ↓gIfW_ff, ↓gIfW_tf, ↓gIfW_ft, binI, divI, shiftI, add_mk, Nat.zero_add, cond_true, cond_false, decide_true, decide_false, Bool.not_true, Bool.not_false, Bool.and_true, Bool.true_and, Bool.and_false, Bool.false_and, Int.toNat_natCast, Nat.mul_one, e0]
              rw [← ed1]
              refine oublietteref16_round.leaf1 ⟨i' + 1, _, by omega, rfl, h36.tn f8 (fun x hx => by omega), o8, r3.yes hi2 (by omega) fun j => ?_⟩ (by simp only [iv]; omega)
              rw [openB_at hi2, show (i' : Int) + 1 = ((i' + 1 : Nat) : Int) by omega, hd1, hpa, hd2, hpb, k5]
              simp
              omega
        · have en : (ns[i'].1 == 5) = false := by simpa using k5
          simp only [↓eBinI, ↓eDiv, ↓eShift, ↓eBinS, ↓ePick, ↓eNot, ↓eNeg, ↓eConv, ↓eConvS, ↓eExt0, ↓eExt1, ↓eExt2, ↓eFA, ↓eIA, ↓eLenSl, ↓eCapSl, ↓eLenS, ↓eMin, ↓eMax, ↓eCondT, ↓eCondF, ↓gIf_tt, ↓gIf_ff, ↓gIf_tf, ↓gIf_ft, ↓gIf_u, ↓gIfW_u, ↓gIfW_tt, ↓gIfW_ff, ↓gIfW_tf, ↓gIfW_ft, binI, divI, shiftI, add_mk, Nat.zero_add, cond_true, cond_false, decide_true, decide_false, Bool.not_true, Bool.not_false, Bool.and_true, Bool.true_and, Bool.and_false, Bool.false_and, Int.toNat_natCast, Nat.mul_one, en]
          unfold oublietteref16_round.j1
          simp only [↓eBinI, ↓eDiv, ↓eShift, ↓eBinS, ↓ePick, ↓eNot, ↓eNeg, ↓eConv, ↓eConvS, ↓eExt0, ↓eExt1, ↓eExt2, ↓eFA, ↓eIA, ↓eLenSl, ↓eCapSl, ↓eLenS, ↓eMin, ↓eMax, ↓eCondT, ↓eCondF, ↓gIf_tt, ↓gIf_ff, ↓gIf_tf, ↓gIf_ft, ↓gIf_u, ↓gIfW_u, ↓gIfW_tt, ↓gIfW_ff, ↓gIfW_tf, ↓gIfW_ft, binI, divI, shiftI, add_mk, Nat.zero_add, cond_true, cond_false, decide_true, decide_false, Bool.not_true, Bool.not_false, Bool.and_true, Bool.true_and, Bool.and_false, Bool.false_and, Int.toNat_natCast, Nat.mul_one, e0]
          exact oublietteref16_round.leaf1 (none (fun j => by rw [openB_at hi2, en]; rfl)) (by simp only [iv]; omega)
  · have hi' : i = ns.length := by omega
    subst hi'
    simp only [↓eBinI, ↓eDiv, ↓eShift, ↓eBinS, ↓ePick, ↓eNot, ↓eNeg, ↓eConv, ↓eConvS, ↓eExt0, ↓eExt1, ↓eExt2, ↓eFA, ↓eIA, ↓eLenSl, ↓eCapSl, ↓eLenS, ↓eMin, ↓eMax, ↓eCondT, ↓eCondF, ↓gIf_tt, ↓gIf_ff, ↓gIf_tf, ↓gIf_ft, ↓gIf_u, ↓gIfW_u, ↓gIfW_tt, ↓gIfW_ff, ↓gIfW_tf, ↓gIfW_ft, binI, divI, shiftI, add_mk, Nat.zero_add, cond_true, cond_false, decide_true, decide_false, Bool.not_true, Bool.not_false, Bool.and_true, Bool.true_and, Bool.and_false, Bool.false_and, Int.toNat_natCast, Nat.mul_one, ci]
    exact h _ w3 out h3 (o3.rd (fun _ h => h.elim) (fun _ h => h) (by show out.length < _; omega)) r3
end Go.Proofs.Ytkpgmaiklfjjgaa
end
section
set_option linter.unusedSimpArgs false
set_option linter.unusedVariables false
set_option maxRecDepth 100000
namespace Go.Proofs.Ytkpgmaiklfjjgaa
open Go Go.G
variable {X : KX} {w : World} {K : KV} {D D' : Nat → Prop} {ns : List Node} {x0 x1 : Value}
/-- How many are had. -/
def trues (n : Nat) (d : List Bool) : Nat := (List.range (n + 1)).countP fun (i : Nat) => bit d (i : Int)
theorem trues_le (n : Nat) (d : List Bool) : trues n d ≤ n + 1 := by
  have := List.countP_le_length (p := fun (i : Nat) => bit d (i : Int)) (l := List.range (n + 1))
  rw [List.length_range] at this; exact this
theorem bit_ext {d out : List Bool} {n : Nat} (h1 : d.length = n + 1) (h2 : out.length = n + 1) (h : ∀ j : Nat, j ≤ n → bit out (j : Int) = bit d (j : Int)) : out = d := by
  refine List.ext_getElem (by omega) fun j a b => ?_
  have := h j (by omega)
  rwa [bit_get a, bit_get b] at this
theorem RoundTo.sup {d out : List Bool} (h : RoundTo ns d out ns.length) : ∀ j : Nat, j ≤ ns.length → bit d (j : Int) = true → bit out (j : Int) = true := fun j hj hb => (h.2 j hj).2 (.inl hb)
theorem RoundTo.same {d out : List Bool} (h : RoundTo ns d out ns.length) (hl : d.length = ns.length + 1) (hc : ClosedE ns (bit d)) : out = d := by
  refine bit_ext hl h.1 fun j hj => ?_
  cases hb : bit d (j : Int) with
  | true => exact h.sup j hj hb
  | false =>
    cases ho : bit out (j : Int) with
    | false => rfl
    | true =>
      rcases (h.2 j hj).1 ho with h | ⟨k, hk, rfl, hw⟩ | ⟨k, hk, hw⟩
      · rw [hb] at h; cases h
      · have := (hc k hk).1 hw
        rw [show (k : Int) + 1 = ((k + 1 : Nat) : Int) by omega, hb] at this; cases this
      · have := (hc k hk).2 _ hw
        rw [hb] at this; cases this
theorem openB_part (hg : GoodN ns) {e : Int → Bool} {k : Nat} {j : Int} (hk : k < ns.length) (h : openB ns e k j = true) : 1 ≤ j ∧ j ≤ (ns.length : Int) := by
  rw [openB_at hk] at h
  simp only [Bool.and_eq_true, beq_iff_eq] at h
  obtain ⟨⟨⟨h5, h1⟩, h2⟩, rfl⟩ := h
  obtain ⟨_, q1, q2, q3, q4⟩ := parts5 hg hk h5
  omega
theorem openB_mono (hg : GoodN ns) {e f : Int → Bool} {k : Nat} {j : Int} (hk : k < ns.length) (hs : ∀ p, 1 ≤ p → p ≤ (ns.length : Int) → e p = true → f p = true) (h : openB ns e k j = true) : openB ns f k j = true := by
  rw [openB_at hk] at h ⊢
  simp only [Bool.and_eq_true, beq_iff_eq] at h ⊢
  obtain ⟨⟨⟨h5, h1⟩, h2⟩, h3⟩ := h
  obtain ⟨_, q1, q2, q3, q4⟩ := parts5 hg hk h5
  exact ⟨⟨⟨h5, hs _ (by omega) (by omega) h1⟩, hs _ (by omega) (by omega) h2⟩, h3⟩
theorem RoundTo.more {d out : List Bool} (hg : GoodN ns) (h : RoundTo ns d out ns.length) (hc : ¬ ClosedE ns (bit d)) : trues ns.length d < trues ns.length out := by
  have : ∃ j : Nat, j ≤ ns.length ∧ bit d (j : Int) = false ∧ bit out (j : Int) = true := Classical.byContradiction fun hn => hc fun i hi => by
    have hno : ∀ j : Nat, j ≤ ns.length → bit out (j : Int) = true → bit d (j : Int) = true := fun j hj ho => by
      cases hb : bit d (j : Int) with
      | true => rfl
      | false => exact absurd ⟨j, hj, hb, ho⟩ hn
    refine ⟨fun hw => ?_, fun j hj => ?_⟩
    · rw [show (i : Int) + 1 = ((i + 1 : Nat) : Int) by omega]
      exact hno _ (by omega) ((h.2 _ (by omega)).2 (.inr (.inl ⟨i, hi, rfl, hw⟩)))
    · have hp := openB_part hg hi hj
      obtain ⟨q, rfl⟩ : ∃ q : Nat, j = (q : Int) := ⟨j.toNat, by omega⟩
      exact hno _ (by omega) ((h.2 _ (by omega)).2 (.inr (.inr ⟨i, hi, hj⟩)))
  obtain ⟨j, hj, h1, h2⟩ := this
  exact countP_less (p := fun (i : Nat) => bit out (i : Int)) (q := fun (i : Nat) => bit d (i : Int)) (fun x hx hq => h.sup x (by have := List.mem_range.1 hx; omega) hq) (List.mem_range.2 (by omega)) h2 h1
theorem RoundTo.amid {S : Int → Bool} {d out : List Bool} (hg : GoodN ns) (h : RoundTo ns d out ns.length) (ha : Amid ns S (bit d)) : Amid ns S (bit out) := by
  refine ⟨fun i i1 i2 hs => ?_, fun c hc hsc i i1 i2 hb => ?_⟩
  · obtain ⟨q, rfl⟩ : ∃ q : Nat, i = (q : Int) := ⟨i.toNat, by omega⟩
    exact h.sup q (by omega) (ha.1 _ i1 i2 hs)
  · have hdc := ha.2 c hc hsc
    obtain ⟨q, rfl⟩ : ∃ q : Nat, i = (q : Int) := ⟨i.toNat, by omega⟩
    rcases (h.2 q (by omega)).1 hb with hb | ⟨k, hk, rfl, hw⟩ | ⟨k, hk, hw⟩
    · exact hdc _ i1 i2 hb
    · have := (hc k hk).1 (wholeB_mono (fun x hx p hp hbp => by
        rw [List.getElem?_eq_getElem hk] at hx
        cases hx
        have := part_lt hg hk p hp
        exact hdc p this.1 (by omega) hbp) hw)
      rw [show ((k + 1 : Nat) : Int) = (k : Int) + 1 by omega]; exact this
    · exact (hc k hk).2 _ (openB_mono hg hk hdc hw)
theorem inL_mput {ml : List (Int × Value)} {id i : Int} {v : Value} : inL (mput ml id v) i = (inL ml i || decide (i = id)) := by
  unfold inL
  rw [Bool.eq_iff_iff, Bool.or_eq_true]
  simp only [decide_eq_true_eq]
  rw [mput_keys]
  split
  · rename_i h
    exact ⟨.inl, fun hh => hh.elim (fun h => h) (fun e => e ▸ h)⟩
  · rw [List.mem_append, List.mem_singleton]
theorem inL_learn (ids : List Int) : ∀ (ml : List (Int × Value)) (i : Int), inL (learnN ns ml ids) i = (inL ml i || (thereN ns i && decide (i ∈ ids))) := by
  induction ids with
  | nil => intro ml i; simp [learnN]
  | cons a ids ih =>
    intro ml i
    rw [show learnN ns ml (a :: ids) = learnN ns (if thereN ns a then mput ml a markV else ml) ids from rfl, ih]
    by_cases ha : thereN ns a = true
    · rw [if_pos ha, inL_mput]
      by_cases e : i = a
      · subst e; simp [ha]
      · simp [e]
    · rw [if_neg ha]
      by_cases e : i = a
      · subst e; simp [ha]
      · simp [e]
set_option maxHeartbeats 4000000 in
theorem All_c {ids : List Int} (hx : Rd (.slice tNode) D w [x0] ns) (hd : Rd (.slice (.int .i64)) D' w [x1] ids) (hg : GoodN ns) (hlen : ns.length ≤ 10000)
    (h : ∀ v w' out, Ext w w' → Rd (.slice .bool) (w.heap.size ≤ ·) w' [v] out → out.length = ns.length + 1 → Least ns (inL (learnN ns [] ids)) (bit out) → K v w') : GCalls Try.prog 11 [x0, x1] K X w := by
  have hx := rd_bd hx
  have hd := rd_bd hd
  apply oublietteref16_All.calls; unfold oublietteref16_All.b
  obtain ⟨a0, cx0, e00, _, hnl⟩ := hx.form
  obtain ⟨a1, cx1, e11, _, hil⟩ := hd.form
  have e1 : IntKind.i64.wrap ((ns.length : Int) + 1) = ((ns.length + 1 : Nat) : Int) := by rw [wrap64 (by omega) (by omega)]; omega
  rw [e00]
  simp only [↓eBinI, ↓eDiv, ↓eShift, ↓eBinS, ↓ePick, ↓eNot, ↓eNeg, ↓eConv, ↓eConvS, ↓eExt0, ↓eExt1, ↓eExt2, ↓eFA, ↓eIA, ↓eLenSl, ↓eCapSl, ↓eLenS, ↓eMin, ↓eMax, ↓eCondT, ↓eCondF, ↓gIf_tt, ↓gIf_ff, ↓gIf_tf, ↓gIf_ft, ↓gIf_u, ↓gIfW_u, ↓gIfW_tt, ↓gIfW_ff, ↓gIfW_tf, ↓gIfW_ft, binI, divI, shiftI, add_mk, Nat.zero_add, cond_true, cond_false, decide_true, decide_false, Bool.not_true, Bool.not_false, Bool.and_true, Bool.true_and, Bool.and_false, Bool.false_and, Int.toNat_natCast, Nat.mul_one, e1]
  rw [← e00]
  refine make_ (t := .bool) (z := false) (D := NoB) (B := w.heap.size) (n := ns.length + 1) (by omega) (by omega) (fun _ => rfl) (by omega) (fun h => h) fun go w2 hgo h2 z2 o2 => ?_
  have hgo2 : go < w2.heap.size := by omega
  refine oublietteref16_All.loop1 (fun x6 w' => ∃ (i : Nat) (out : List Bool), i ≤ ids.length ∧ x6 = .int .i64 (i : Int) ∧ Ext w w' ∧ G.Own .bool NoB w.heap.size w' (.slice (some ⟨go, 0, none⟩) (ns.length + 1) (ns.length + 1)) out ∧ out.length = ns.length + 1 ∧ ∀ j : Nat, j ≤ ns.length → bit out (j : Int) = (decide (1 ≤ j) && decide ((j : Int) ∈ ids.take i)))
    (fun x6 _ => ids.length - (iv x6).toNat) ⟨0, _, by omega, rfl, h2, o2, by simp, fun j hj => by rw [bit_rep]; simp⟩ ?_
  rintro x6 gg w3 ⟨i, out, hi, rfl, h3, o3, ol, ob⟩
  unfold oublietteref16_All.b1
  rw [e11]
  by_cases ci : (i : Int) < (ids.length : Int)
  · have hi' : i < ids.length := by omega
    obtain ⟨ad, c, u, e, s1, _, qu, ru⟩ := (hd.ext h3).idx rfl hi'
    rw [e11] at e
    simp only [Value.slice.injEq, true_and] at e
    obtain ⟨rfl, rfl⟩ := e
    have hu := ru.1
    simp only [List.cons.injEq, and_true] at hu
    subst hu
    have hin : InI ids[i] := ⟨ru.2.1, ru.2.2⟩
    have e9 : IntKind.i64.wrap ((i : Int) + 1) = ((i + 1 : Nat) : Int) := by rw [wrap64 (by omega) (by omega)]; omega
    have htk : ids.take (i + 1) = ids.take i ++ [ids[i]] := List.take_succ_eq_append_getElem hi'
    have keep : ¬ (1 ≤ ids[i] ∧ ids[i] ≤ (ns.length : Int)) → ∃ (i' : Nat) (out : List Bool), i' ≤ ids.length ∧ Value.int .i64 ((i + 1 : Nat) : Int) = .int .i64 (i' : Int) ∧ Ext w w3 ∧ G.Own .bool NoB w.heap.size w3 (.slice (some ⟨go, 0, none⟩) (ns.length + 1) (ns.length + 1)) out ∧ out.length = ns.length + 1 ∧ ∀ j : Nat, j ≤ ns.length → bit out (j : Int) = (decide (1 ≤ j) && decide ((j : Int) ∈ ids.take i')) := fun hn =>
      ⟨i + 1, out, by omega, rfl, h3, o3, ol, fun j hj => by
        rw [ob j hj, htk]
        by_cases e : 1 ≤ j
        · have : ¬ (j : Int) = ids[i] := fun e2 => hn (by omega)
          simp only [List.mem_append, List.mem_singleton, this, or_false]
        · simp [e]⟩
    simp only [↓eBinI, ↓eDiv, ↓eShift, ↓eBinS, ↓ePick, ↓eNot, ↓eNeg, ↓eConv, ↓eConvS, ↓eExt0, ↓eExt1, ↓eExt2, ↓eFA, ↓eIA, ↓eLenSl, ↓eCapSl, ↓eLenS, ↓eMin, ↓eMax, ↓eCondT, ↓eCondF, ↓gIf_tt, ↓gIf_ff, ↓gIf_tf, ↓gIf_ft, ↓gIf_u, ↓gIfW_u, ↓gIfW_tt, ↓gIfW_ff, ↓gIfW_tf, ↓gIfW_ft, binI, divI, shiftI, add_mk, Nat.zero_add, cond_true, cond_false, decide_true, decide_false, Bool.not_true, Bool.not_false, Bool.and_true, Bool.true_and, Bool.and_false, Bool.false_and, Int.toNat_natCast, Nat.mul_one, ci]
    refine ⟨by omega, by first | trivial | omega, ?_⟩
    simp only [↓eLdW, Int.toNat_natCast, Nat.mul_one, qu, Option.some.injEq, exists_eq_left']
    by_cases c1 : ids[i] ≥ 1
    · rw [e00]
      simp only [↓eBinI, ↓eDiv, ↓eShift, ↓eBinS, ↓ePick, ↓eNot, ↓eNeg, ↓eConv, ↓eConvS, ↓eExt0, ↓eExt1, ↓eExt2, ↓eFA, ↓eIA, ↓eLenSl, ↓eCapSl, ↓eLenS, ↓eMin, ↓eMax, ↓eCondT, ↓eCondF, ↓gIf_tt, ↓gIf_ff, ↓gIf_tf, ↓gIf_ft, ↓gIf_u, ↓gIfW_u, ↓gIfW_tt, ↓gIfW_ff, ↓gIfW_tf, ↓gIfW_ft, binI, divI, shiftI, add_mk, Nat.zero_add, cond_true, cond_false, decide_true, decide_false, Bool.not_true, Bool.not_false, Bool.and_true, Bool.true_and, Bool.and_false, Bool.false_and, Int.toNat_natCast, Nat.mul_one, c1]
      refine ⟨by omega, by first | trivial | omega, ?_⟩
      simp only [↓eLdW, Int.toNat_natCast, Nat.mul_one, qu, Option.some.injEq, exists_eq_left']
      by_cases c2 : ids[i] ≤ (ns.length : Int)
      · simp only [↓eBinI, ↓eDiv, ↓eShift, ↓eBinS, ↓ePick, ↓eNot, ↓eNeg, ↓eConv, ↓eConvS, ↓eExt0, ↓eExt1, ↓eExt2, ↓eFA, ↓eIA, ↓eLenSl, ↓eCapSl, ↓eLenS, ↓eMin, ↓eMax, ↓eCondT, ↓eCondF, ↓gIf_tt, ↓gIf_ff, ↓gIf_tf, ↓gIf_ft, ↓gIf_u, ↓gIfW_u, ↓gIfW_tt, ↓gIfW_ff, ↓gIfW_tf, ↓gIfW_ft, binI, divI, shiftI, add_mk, Nat.zero_add, cond_true, cond_false, decide_true, decide_false, Bool.not_true, Bool.not_false, Bool.and_true, Bool.true_and, Bool.and_false, Bool.false_and, Int.toNat_natCast, Nat.mul_one, c2]
        refine ⟨by omega, by first | trivial | omega, ?_⟩
        try simp only [↓eLdW, Int.toNat_natCast, Nat.mul_one, qu, Option.some.injEq, exists_eq_left']
        obtain ⟨p, hp⟩ : ∃ p : Nat, ids[i] = (p : Int) := ⟨ids[i].toNat, by omega⟩
        rw [hp]
        refine ⟨by omega, by first | trivial | omega, ?_⟩
        try simp only [↓eLdW, add_mk, Nat.zero_add, Int.toNat_natCast, Nat.mul_one]
        refine o3.set1 (y := true) rfl (i := p) (by omega) rfl fun w6 o6 f6 => ?_
        have z3 := h3.size
        unfold oublietteref16_All.j1
        simp only [↓eBinI, ↓eDiv, ↓eShift, ↓eBinS, ↓ePick, ↓eNot, ↓eNeg, ↓eConv, ↓eConvS, ↓eExt0, ↓eExt1, ↓eExt2, ↓eFA, ↓eIA, ↓eLenSl, ↓eCapSl, ↓eLenS, ↓eMin, ↓eMax, ↓eCondT, ↓eCondF, ↓gIf_tt, ↓gIf_ff, ↓gIf_tf, ↓gIf_ft, ↓gIf_u, ↓gIfW_u, ↓gIfW_tt, ↓gIfW_ff, ↓gIfW_tf, ↓gIfW_ft, binI, divI, shiftI, add_mk, Nat.zero_add, cond_true, cond_false, decide_true, decide_false, Bool.not_true, Bool.not_false, Bool.and_true, Bool.true_and, Bool.and_false, Bool.false_and, Int.toNat_natCast, Nat.mul_one, e9]
        rw [← e00, ← e11]
        refine oublietteref16_All.leaf1 ⟨i + 1, _, by omega, rfl, h3.tn f6 (fun x hx => by omega), o6, by simp [ol], fun j hj => ?_⟩ (by simp only [iv]; omega)
        rw [bit_set (by omega), htk, hp]
        by_cases e : p = j
        · subst e
          simp; omega
        · have e2 : ¬ (j : Int) = (p : Int) := by omega
          rw [if_neg e, ob j hj]
          simp only [List.mem_append, List.mem_singleton, e2, or_false]
      · simp only [↓eBinI, ↓eDiv, ↓eShift, ↓eBinS, ↓ePick, ↓eNot, ↓eNeg, ↓eConv, ↓eConvS, ↓eExt0, ↓eExt1, ↓eExt2, ↓eFA, ↓eIA, ↓eLenSl, ↓eCapSl, ↓eLenS, ↓eMin, ↓eMax, ↓eCondT, ↓eCondF, ↓gIf_tt, ↓gIf_ff, ↓gIf_tf, ↓gIf_ft, ↓gIf_u, ↓gIfW_u, ↓gIfW_tt, ↓gIfW_ff, ↓gIfW_tf, ↓gIfW_ft, binI, divI, shiftI, add_mk, Nat.zero_add, cond_true, cond_false, decide_true, decide_false, Bool.not_true, Bool.not_false, Bool.and_true, Bool.true_and, Bool.and_false, Bool.false_and, Int.toNat_natCast, Nat.mul_one, c2]
        unfold oublietteref16_All.j1
        simp only [↓eBinI, ↓eDiv, ↓eShift, ↓eBinS, ↓ePick, ↓eNot, ↓eNeg, ↓eConv, ↓eConvS, ↓eExt0, ↓eExt1, ↓eExt2, ↓eFA, ↓eIA, ↓eLenSl, ↓eCapSl, ↓eLenS, ↓eMin, ↓eMax, ↓eCondT, ↓eCondF, ↓gIf_tt, ↓gIf_ff, ↓gIf_tf, ↓gIf_ft, ↓gIf_u, ↓gIfW_u, ↓gIfW_tt, ↓gIfW_ff, ↓gIfW_tf, ↓gIfW_ft, binI, divI, shiftI, add_mk, Nat.zero_add, cond_true, cond_false, decide_true, decide_false, Bool.not_true, Bool.not_false, Bool.and_true, Bool.true_and, Bool.and_false, Bool.false_and, Int.toNat_natCast, Nat.mul_one, e9]
        rw [← e00, ← e11]
        exact oublietteref16_All.leaf1 (keep (fun hh => c2 hh.2)) (by simp only [iv]; omega)
    · simp only [↓eBinI, ↓eDiv, ↓eShift, ↓eBinS, ↓ePick, ↓eNot, ↓eNeg, ↓eConv, ↓eConvS, ↓eExt0, ↓eExt1, ↓eExt2, ↓eFA, ↓eIA, ↓eLenSl, ↓eCapSl, ↓eLenS, ↓eMin, ↓eMax, ↓eCondT, ↓eCondF, ↓gIf_tt, ↓gIf_ff, ↓gIf_tf, ↓gIf_ft, ↓gIf_u, ↓gIfW_u, ↓gIfW_tt, ↓gIfW_ff, ↓gIfW_tf, ↓gIfW_ft, binI, divI, shiftI, add_mk, Nat.zero_add, cond_true, cond_false, decide_true, decide_false, Bool.not_true, Bool.not_false, Bool.and_true, Bool.true_and, Bool.and_false, Bool.false_and, Int.toNat_natCast, Nat.mul_one, c1]
      unfold oublietteref16_All.j1
      simp only [↓eBinI, ↓eDiv, ↓eShift, ↓eBinS, ↓ePick, ↓eNot, ↓eNeg, ↓eConv, ↓eConvS, ↓eExt0, ↓eExt1, ↓eExt2, ↓eFA, ↓eIA, ↓eLenSl, ↓eCapSl, ↓eLenS, ↓eMin, ↓eMax, ↓eCondT, ↓eCondF, ↓gIf_tt, ↓gIf_ff, ↓gIf_tf, ↓gIf_ft, ↓gIf_u, ↓gIfW_u, ↓gIfW_tt, ↓gIfW_ff, ↓gIfW_tf, ↓gIfW_ft, binI, divI, shiftI, add_mk, Nat.zero_add, cond_true, cond_false, decide_true, decide_false, Bool.not_true, Bool.not_false, Bool.and_true, Bool.true_and, Bool.and_false, Bool.false_and, Int.toNat_natCast, Nat.mul_one, e9]
      rw [← e11]
      exact oublietteref16_All.leaf1 (keep (fun hh => c1 hh.1)) (by simp only [iv]; omega)
  · have hi' : i = ids.length := by omega
    subst hi'
    simp only [↓eBinI, ↓eDiv, ↓eShift, ↓eBinS, ↓ePick, ↓eNot, ↓eNeg, ↓eConv, ↓eConvS, ↓eExt0, ↓eExt1, ↓eExt2, ↓eFA, ↓eIA, ↓eLenSl, ↓eCapSl, ↓eLenS, ↓eMin, ↓eMax, ↓eCondT, ↓eCondF, ↓gIf_tt, ↓gIf_ff, ↓gIf_tf, ↓gIf_ft, ↓gIf_u, ↓gIfW_u, ↓gIfW_tt, ↓gIfW_ff, ↓gIfW_tf, ↓gIfW_ft, binI, divI, shiftI, add_mk, Nat.zero_add, cond_true, cond_false, decide_true, decide_false, Bool.not_true, Bool.not_false, Bool.and_true, Bool.true_and, Bool.and_false, Bool.false_and, Int.toNat_natCast, Nat.mul_one, ci]
    rw [← e11]
    rw [List.take_length] at ob
    have hS : ∀ q : Nat, q ≤ ns.length → bit out (q : Int) = inL (learnN ns [] ids) (q : Int) := fun q hq => by
      rw [ob q hq, inL_learn]
      have : inL [] (q : Int) = false := rfl
      rw [this, Bool.false_or]
      congr 1
      by_cases e : 1 ≤ q
      · rw [thereN_iff.2 ⟨by omega, by omega⟩]; simp [e]
      · cases ht : thereN ns (q : Int) with
        | false => simp [e]
        | true => have := thereN_iff.1 ht; omega
    have hA : Amid ns (inL (learnN ns [] ids)) (bit out) := by
      refine ⟨fun i i1 i2 hs => ?_, fun c hc hsc i i1 i2 hb => ?_⟩
      · obtain ⟨q, rfl⟩ : ∃ q : Nat, i = (q : Int) := ⟨i.toNat, by omega⟩
        rw [hS q (by omega)]; exact hs
      · obtain ⟨q, rfl⟩ : ∃ q : Nat, i = (q : Int) := ⟨i.toNat, by omega⟩
        rw [hS q (by omega)] at hb
        exact hsc _ i1 i2 hb
    have hz3 := h3.size
    have hrd : Rd (.slice .bool) (w.heap.size ≤ ·) w3 [.slice (some ⟨go, 0, none⟩) (ns.length + 1) (ns.length + 1)] out := o3.rd (fun _ h => h.elim) (fun _ h => h) (by show out.length < _; omega)
    refine oublietteref16_All.loop2 (fun x5 x7 w' => ∃ (k : Nat) (out : List Bool), k ≤ 2 * ns.length + 2 ∧ x7 = .int .i64 (k : Int) ∧ Ext w w' ∧ Rd (.slice .bool) (w.heap.size ≤ ·) w' [x5] out ∧ out.length = ns.length + 1 ∧ Amid ns (inL (learnN ns [] ids)) (bit out) ∧ (ClosedE ns (bit out) ∨ k ≤ trues ns.length out))
      (fun _ x7 _ => 2 * ns.length + 2 - (iv x7).toNat) ⟨0, out, by omega, rfl, h3, hrd, ol, hA, .inr (by omega)⟩ ?_
    clear hrd hA hS ob ol o3 hz3 h3 out
    rintro x5 x7 gg w4 ⟨k, out, hk, rfl, h4, rd, ol, hA, hcl⟩
    unfold oublietteref16_All.b2
    have e2 : IntKind.i64.wrap (2 * (ns.length : Int)) = ((2 * ns.length : Nat) : Int) := by rw [wrap64 (by omega) (by omega)]; omega
    have e3 : IntKind.i64.wrap (((2 * ns.length : Nat) : Int) + 1) = ((2 * ns.length + 1 : Nat) : Int) := by rw [wrap64 (by omega) (by omega)]; omega
    have e4 : IntKind.i64.wrap ((k : Int) + 1) = ((k + 1 : Nat) : Int) := by rw [wrap64 (by omega) (by omega)]; omega
    rw [e00]
    by_cases ck : (k : Int) ≤ ((2 * ns.length + 1 : Nat) : Int)
    · simp only [↓eBinI, ↓eDiv, ↓eShift, ↓eBinS, ↓ePick, ↓eNot, ↓eNeg, ↓eConv, ↓eConvS, ↓eExt0, ↓eExt1, ↓eExt2, ↓eFA, ↓eIA, ↓eLenSl, ↓eCapSl, ↓eLenS, ↓eMin, ↓eMax, ↓eCondT, ↓eCondF, ↓gIf_tt, ↓gIf_ff, ↓gIf_tf, ↓gIf_ft, ↓gIf_u, ↓gIfW_u, ↓gIfW_tt, ↓gIfW_ff, ↓gIfW_tf, ↓gIfW_ft, binI, divI, shiftI, add_mk, Nat.zero_add, cond_true, cond_false, decide_true, decide_false, Bool.not_true, Bool.not_false, Bool.and_true, Bool.true_and, Bool.and_false, Bool.false_and, Int.toNat_natCast, Nat.mul_one, e2, e3, ck]
      rw [← e00]
      refine Round_c (hx.ext h4) rd ol hg hlen fun v w5 out' h5 rd' rt => ?_
      have z4 := h4.size
      simp only [↓eBinI, ↓eDiv, ↓eShift, ↓eBinS, ↓ePick, ↓eNot, ↓eNeg, ↓eConv, ↓eConvS, ↓eExt0, ↓eExt1, ↓eExt2, ↓eFA, ↓eIA, ↓eLenSl, ↓eCapSl, ↓eLenS, ↓eMin, ↓eMax, ↓eCondT, ↓eCondF, ↓gIf_tt, ↓gIf_ff, ↓gIf_tf, ↓gIf_ft, ↓gIf_u, ↓gIfW_u, ↓gIfW_tt, ↓gIfW_ff, ↓gIfW_tf, ↓gIfW_ft, binI, divI, shiftI, add_mk, Nat.zero_add, cond_true, cond_false, decide_true, decide_false, Bool.not_true, Bool.not_false, Bool.and_true, Bool.true_and, Bool.and_false, Bool.false_and, Int.toNat_natCast, Nat.mul_one, e4]
      refine oublietteref16_All.leaf2 ⟨k + 1, out', by omega, rfl, h4.tr h5, rd'.wide (fun b hb => by omega), rt.1, rt.amid hg hA, ?_⟩ (by simp only [iv]; omega)
      rcases Classical.em (ClosedE ns (bit out)) with hc | hc
      · rw [rt.same ol hc]; exact .inl hc
      · rcases hcl with h | h
        · exact absurd h hc
        · have := rt.more hg hc
          exact .inr (by omega)
    · simp only [↓eBinI, ↓eDiv, ↓eShift, ↓eBinS, ↓ePick, ↓eNot, ↓eNeg, ↓eConv, ↓eConvS, ↓eExt0, ↓eExt1, ↓eExt2, ↓eFA, ↓eIA, ↓eLenSl, ↓eCapSl, ↓eLenS, ↓eMin, ↓eMax, ↓eCondT, ↓eCondF, ↓gIf_tt, ↓gIf_ff, ↓gIf_tf, ↓gIf_ft, ↓gIf_u, ↓gIfW_u, ↓gIfW_tt, ↓gIfW_ff, ↓gIfW_tf, ↓gIfW_ft, binI, divI, shiftI, add_mk, Nat.zero_add, cond_true, cond_false, decide_true, decide_false, Bool.not_true, Bool.not_false, Bool.and_true, Bool.true_and, Bool.and_false, Bool.false_and, Int.toNat_natCast, Nat.mul_one, e2, e3, ck]
      refine h x5 w4 out h4 rd ol ⟨?_, hA⟩
      rcases hcl with h | h
      · exact h
      · have := trues_le ns.length out
        omega
end Go.Proofs.Ytkpgmaiklfjjgaa
end
