/-
  The law on the steps of a chain.
-/
import Derived.Test.YtkpgmaiklfjjgaaDoorEa
set_option linter.unusedSimpArgs false
set_option linter.unusedVariables false
namespace Go.Proofs.YtkpgmaiklfjjgaaDoor
open Go Go.G Go.RowKit
variable {X : KX} {w : World} {K : KV} {D D' D1 D2 D3 D4 D5 D6 : Nat → Prop}
set_option maxHeartbeats 2000000 in
set_option maxRecDepth 100000 in
theorem RatchetSteps_c {gen : Int} {vc vs x1 : Value} {cur key : List UInt8} {sk : List (Int × List UInt8)} (hk : KT w) (hc : Rd (.slice .byte) D1 w [vc] cur) (hv : Rd (.slice tSkip) D2 w [vs] sk) (hx : Rd (.slice .byte) D3 w [x1] key)
    (hg0 : -9223372036854775808 ≤ gen) (hg1 : gen ≤ 9223372036854775807) (h : ∀ w', Ext w w' → K (.bool true) w') : GCalls Tryd.prog 3 [chainV gen vc vs, x1] K X w := by
  have hk2 := hk.two
  obtain ⟨ax, cx, rfl, _, _⟩ := hx.form
  apply oubliettelaw33_RatchetSteps.calls; unfold oubliettelaw33_RatchetSteps.b
  refine boxC (cs := [.int .i64 gen, vc, vs]) fun g2 w0 hg2 h0 c2 => ?_
  have z0 := h0.size; have l2 := c2.lt
  rw [c2.ld3]
  refine (?_ : GCalls Tryd.prog 10 [chainV gen vc vs] _ X w0)
  refine Light_c (hc.ext h0) (hv.ext h0) fun w1 h1 => ?_
  have h01 := h0.tr h1
  have z01 := h1.size
  have c2 := c2.ext h1
  cases hl : lightF cur sk with
  | false =>
    simp only [↓eBinI, ↓eDiv, ↓eShift, ↓eBinS, ↓ePick, ↓eNot, ↓eNeg, ↓eConv, ↓eConvS, ↓eExt0, ↓eExt1, ↓eExt2, ↓eFA, ↓eIA, ↓eLenSl, ↓eCapSl, ↓eLenS, ↓eMin, ↓eMax, ↓eCondT, ↓eCondF, ↓gIf_tt, ↓gIf_ff, ↓gIf_tf, ↓gIf_ft, ↓gIf_u, ↓gIfW_u, ↓gIfW_tt, ↓gIfW_ff, ↓gIfW_tf, ↓gIfW_ft, binI, divI, shiftI, add_mk, Nat.zero_add, cond_true, cond_false, decide_true, decide_false, Bool.not_true, Bool.not_false, Bool.and_true, Bool.true_and, Bool.and_false, Bool.false_and, Int.toNat_natCast, Nat.mul_one]
    exact alive33_c (hk.ext h01) fun w' e => h _ (h01.tr e)
  | true =>
    have hlt : cur.length ≤ 100 ∧ sk.length ≤ 20 ∧ ∀ i (hi : i < sk.length), sk[i].2.length ≤ 1000 := by
      simp only [lightF, Bool.and_eq_true, decide_eq_true_eq, List.all_eq_true] at hl
      exact ⟨hl.1.1, hl.1.2, fun i hi => by have := hl.2 _ (List.getElem_mem hi); omega⟩
    obtain ⟨hcl, hsl, hse⟩ := hlt
    by_cases d1 : (key.length : Int) > 100
    · simp only [↓eBinI, ↓eDiv, ↓eShift, ↓eBinS, ↓ePick, ↓eNot, ↓eNeg, ↓eConv, ↓eConvS, ↓eExt0, ↓eExt1, ↓eExt2, ↓eFA, ↓eIA, ↓eLenSl, ↓eCapSl, ↓eLenS, ↓eMin, ↓eMax, ↓eCondT, ↓eCondF, ↓gIf_tt, ↓gIf_ff, ↓gIf_tf, ↓gIf_ft, ↓gIf_u, ↓gIfW_u, ↓gIfW_tt, ↓gIfW_ff, ↓gIfW_tf, ↓gIfW_ft, binI, divI, shiftI, add_mk, Nat.zero_add, cond_true, cond_false, decide_true, decide_false, Bool.not_true, Bool.not_false, Bool.and_true, Bool.true_and, Bool.and_false, Bool.false_and, Int.toNat_natCast, Nat.mul_one, d1]
      exact alive33_c (hk.ext h01) fun w' e => h _ (h01.tr e)
    by_cases d2 : gen > 1099511627776
    · simp only [↓eBinI, ↓eDiv, ↓eShift, ↓eBinS, ↓ePick, ↓eNot, ↓eNeg, ↓eConv, ↓eConvS, ↓eExt0, ↓eExt1, ↓eExt2, ↓eFA, ↓eIA, ↓eLenSl, ↓eCapSl, ↓eLenS, ↓eMin, ↓eMax, ↓eCondT, ↓eCondF, ↓gIf_tt, ↓gIf_ff, ↓gIf_tf, ↓gIf_ft, ↓gIf_u, ↓gIfW_u, ↓gIfW_tt, ↓gIfW_ff, ↓gIfW_tf, ↓gIfW_ft, binI, divI, shiftI, add_mk, Nat.zero_add, cond_true, cond_false, decide_true, decide_false, Bool.not_true, Bool.not_false, Bool.and_true, Bool.true_and, Bool.and_false, Bool.false_and, Int.toNat_natCast, Nat.mul_one, d1, ↓c2.c0, d2]
      exact alive33_c (hk.ext h01) fun w' e => h _ (h01.tr e)
    simp only [↓eBinI, ↓eDiv, ↓eShift, ↓eBinS, ↓ePick, ↓eNot, ↓eNeg, ↓eConv, ↓eConvS, ↓eExt0, ↓eExt1, ↓eExt2, ↓eFA, ↓eIA, ↓eLenSl, ↓eCapSl, ↓eLenS, ↓eMin, ↓eMax, ↓eCondT, ↓eCondF, ↓gIf_tt, ↓gIf_ff, ↓gIf_tf, ↓gIf_ft, ↓gIf_u, ↓gIfW_u, ↓gIfW_tt, ↓gIfW_ff, ↓gIfW_tf, ↓gIfW_ft, binI, divI, shiftI, add_mk, Nat.zero_add, cond_true, cond_false, decide_true, decide_false, Bool.not_true, Bool.not_false, Bool.and_true, Bool.true_and, Bool.and_false, Bool.false_and, Int.toNat_natCast, Nat.mul_one, d1, ↓c2.c0, d2]
    refine draw_ fun w1b h1b => ?_
    have z1b := h1b.size
    have c2 := c2.ext h1b
    rw [c2.le3]
    have kk : Ext w w1b := h01.tr h1b
    have hk := hk.ext kk
    have hc := hc.ext kk
    have hv := hv.ext kk
    have hx := hx.ext kk
    have k1 : Ext w1b w1b := Fr.refl _ _
    refine ⟨?_, ?_⟩
    · skip
      refine Real_c (by omega) fun gs w2 h2 qs hs => ?_
      have z2 := h2.size
      refine ⟨h2, ?_⟩
      refine ⟨?_, ?_⟩
      · skip
        refine (?_ : GCalls Tryd.prog 14 [chainV gen vc vs] _ X _)
        refine LOf_c (hc.ext h2) (hv.ext h2) (by omega) fun vo w3 h3 ro so => ?_
        have z3 := h3.size
        refine anew_ ?_
        refine ⟨?_, ?_⟩
        · skip
          refine Step_c (hs.ext h3) ((hk.ext h2).ext h3) ro so (by omega) (by omega) (by omega) (by omega) hse fun vk vn vs2 w4 DD BB h4 hB1 hB2 rk rn o5 hD2 hb5 => ?_
          have z4 := h4.size
          refine ⟨h4, ?_⟩
          have rs : Rd (.slice tSkip) (BB ≤ ·) w4 [vs2] sk := o5.rd2 (fun b hb => (hD2 b hb).1) (fun b _ hB _ => hB) (by show sk.length < _; omega)
          have rs := rd_bd rs; have rk := rd_bd rk; have rn := rd_bd rn
          have ov := one_of_rd rn; have os := one_of_rd rs
          simp only [↓eExt0, ↓eExt1, chainV]
          refine boxC (cs := [.int .i64 0, .slice none 0 0, .slice none 0 0]) fun g6 w5 hg6 h5 c6 => ?_
          have z5 := h5.size; have l6 := c6.lt
          refine ⟨(Ext.tr h4 h5), ?_⟩
          refine c6.setN (l' := [.int .i64 (gen + 1), vn, vs2]) rfl rfl (allOne3 rfl ov os) fun we ce fe => ?_
          refine anew_ ?_
          have ke : Ext w1b we := Ext.tn (Ext.tr (Ext.tr (Ext.tr h2 h3) h4) h5) fe (fun x hx => by omega)
          have e := steps_end (X := X) (K := K) (((((c2.ext h2).ext h3).ext h4).ext h5).fr fe (by omega)) ce (hk.ext ke) (hc.ext ke) (hv.ext ke) ((rk.ext h5).fr fe (fun b hb => by omega)) ((rn.ext h5).fr fe (fun b hb => by omega)) ((rs.ext h5).fr fe (fun b hb => by omega)) (hx.ext ke) (by omega) (by omega) (by omega) (by omega) (by omega) fun w' e => h _ ((kk.tr ke).tr e)
          simp only [↓eBinI, ↓eDiv, ↓eShift, ↓eBinS, ↓ePick, ↓eNot, ↓eNeg, ↓eConv, ↓eConvS, ↓eExt0, ↓eExt1, ↓eExt2, ↓eFA, ↓eIA, ↓eLenSl, ↓eCapSl, ↓eLenS, ↓eMin, ↓eMax, ↓eCondT, ↓eCondF, ↓gIf_tt, ↓gIf_ff, ↓gIf_tf, ↓gIf_ft, ↓gIf_u, ↓gIfW_u, ↓gIfW_tt, ↓gIfW_ff, ↓gIfW_tf, ↓gIfW_ft, binI, divI, shiftI, add_mk, Nat.zero_add, cond_true, cond_false, decide_true, decide_false, Bool.not_true, Bool.not_false, Bool.and_true, Bool.true_and, Bool.and_false, Bool.false_and, Int.toNat_natCast, Nat.mul_one] at e
          exact e
        · skip
          refine boxC (cs := [.int .i64 0, .slice none 0 0, .slice none 0 0]) fun g6 w4 hg6 h4 c6 => ?_
          have z4 := h4.size; have l6 := c6.lt
          refine ⟨h4, ?_⟩
          refine Step_c ((hs.ext h3).ext h4) (((hk.ext h2).ext h3).ext h4) (ro.ext h4) (so.ext h4) (by omega) (by omega) (by omega) (by omega) hse fun vk vn vs2 w5 DD BB h5 hB1 hB2 rk rn o5 hD2 hb5 => ?_
          have z5 := h5.size
          refine ⟨(Ext.tr h4 h5), ?_⟩
          have rs : Rd (.slice tSkip) (BB ≤ ·) w5 [vs2] sk := o5.rd2 (fun b hb => (hD2 b hb).1) (fun b _ hB _ => hB) (by show sk.length < _; omega)
          have rs := rd_bd rs; have rk := rd_bd rk; have rn := rd_bd rn
          have ov := one_of_rd rn; have os := one_of_rd rs
          simp only [↓eExt0, ↓eExt1, chainV]
          refine (c6.ext h5).setN (l' := [.int .i64 (gen + 1), vn, vs2]) rfl rfl (allOne3 rfl ov os) fun we ce fe => ?_
          refine anew_ ?_
          have ke : Ext w1b we := Ext.tn (Ext.tr (Ext.tr (Ext.tr h2 h3) h4) h5) fe (fun x hx => by omega)
          have e := steps_end (X := X) (K := K) (((((c2.ext h2).ext h3).ext h4).ext h5).fr fe (by omega)) ce (hk.ext ke) (hc.ext ke) (hv.ext ke) (rk.fr fe (fun b hb => by omega)) (rn.fr fe (fun b hb => by omega)) (rs.fr fe (fun b hb => by omega)) (hx.ext ke) (by omega) (by omega) (by omega) (by omega) (by omega) fun w' e => h _ ((kk.tr ke).tr e)
          simp only [↓eBinI, ↓eDiv, ↓eShift, ↓eBinS, ↓ePick, ↓eNot, ↓eNeg, ↓eConv, ↓eConvS, ↓eExt0, ↓eExt1, ↓eExt2, ↓eFA, ↓eIA, ↓eLenSl, ↓eCapSl, ↓eLenS, ↓eMin, ↓eMax, ↓eCondT, ↓eCondF, ↓gIf_tt, ↓gIf_ff, ↓gIf_tf, ↓gIf_ft, ↓gIf_u, ↓gIfW_u, ↓gIfW_tt, ↓gIfW_ff, ↓gIfW_tf, ↓gIfW_ft, binI, divI, shiftI, add_mk, Nat.zero_add, cond_true, cond_false, decide_true, decide_false, Bool.not_true, Bool.not_false, Bool.and_true, Bool.true_and, Bool.and_false, Bool.false_and, Int.toNat_natCast, Nat.mul_one] at e
          exact e
      · skip
        refine boxC (cs := [.int .i64 0, .slice none 0 0, .slice none 0 0]) fun g6 w3 hg6 h3 c6 => ?_
        have z3 := h3.size; have l6 := c6.lt
        refine ⟨(Ext.tr h2 h3), ?_⟩
        refine (?_ : GCalls Tryd.prog 14 [chainV gen vc vs] _ X _)
        refine LOf_c ((hc.ext h2).ext h3) ((hv.ext h2).ext h3) (by omega) fun vo w4 h4 ro so => ?_
        have z4 := h4.size
        refine anew_ ?_
        refine Step_c ((hs.ext h3).ext h4) (((hk.ext h2).ext h3).ext h4) ro so (by omega) (by omega) (by omega) (by omega) hse fun vk vn vs2 w5 DD BB h5 hB1 hB2 rk rn o5 hD2 hb5 => ?_
        have z5 := h5.size
        refine ⟨h5, ?_⟩
        have rs : Rd (.slice tSkip) (BB ≤ ·) w5 [vs2] sk := o5.rd2 (fun b hb => (hD2 b hb).1) (fun b _ hB _ => hB) (by show sk.length < _; omega)
        have rs := rd_bd rs; have rk := rd_bd rk; have rn := rd_bd rn
        have ov := one_of_rd rn; have os := one_of_rd rs
        simp only [↓eExt0, ↓eExt1, chainV]
        refine ((c6.ext h4).ext h5).setN (l' := [.int .i64 (gen + 1), vn, vs2]) rfl rfl (allOne3 rfl ov os) fun we ce fe => ?_
        refine anew_ ?_
        have ke : Ext w1b we := Ext.tn (Ext.tr (Ext.tr (Ext.tr h2 h3) h4) h5) fe (fun x hx => by omega)
        have e := steps_end (X := X) (K := K) (((((c2.ext h2).ext h3).ext h4).ext h5).fr fe (by omega)) ce (hk.ext ke) (hc.ext ke) (hv.ext ke) (rk.fr fe (fun b hb => by omega)) (rn.fr fe (fun b hb => by omega)) (rs.fr fe (fun b hb => by omega)) (hx.ext ke) (by omega) (by omega) (by omega) (by omega) (by omega) fun w' e => h _ ((kk.tr ke).tr e)
        simp only [↓eBinI, ↓eDiv, ↓eShift, ↓eBinS, ↓ePick, ↓eNot, ↓eNeg, ↓eConv, ↓eConvS, ↓eExt0, ↓eExt1, ↓eExt2, ↓eFA, ↓eIA, ↓eLenSl, ↓eCapSl, ↓eLenS, ↓eMin, ↓eMax, ↓eCondT, ↓eCondF, ↓gIf_tt, ↓gIf_ff, ↓gIf_tf, ↓gIf_ft, ↓gIf_u, ↓gIfW_u, ↓gIfW_tt, ↓gIfW_ff, ↓gIfW_tf, ↓gIfW_ft, binI, divI, shiftI, add_mk, Nat.zero_add, cond_true, cond_false, decide_true, decide_false, Bool.not_true, Bool.not_false, Bool.and_true, Bool.true_and, Bool.and_false, Bool.false_and, Int.toNat_natCast, Nat.mul_one] at e
        exact e
    · skip
      refine boxC (cs := [.int .i64 0, .slice none 0 0, .slice none 0 0]) fun g6 w2 hg6 h2 c6 => ?_
      have z2 := h2.size; have l6 := c6.lt
      refine ⟨h2, ?_⟩
      refine Real_c (by omega) fun gs w3 h3 qs hs => ?_
      have z3 := h3.size
      refine ⟨(Ext.tr h2 h3), ?_⟩
      refine (?_ : GCalls Tryd.prog 14 [chainV gen vc vs] _ X _)
      refine LOf_c ((hc.ext h2).ext h3) ((hv.ext h2).ext h3) (by omega) fun vo w4 h4 ro so => ?_
      have z4 := h4.size
      refine anew_ ?_
      refine Step_c (hs.ext h4) (((hk.ext h2).ext h3).ext h4) ro so (by omega) (by omega) (by omega) (by omega) hse fun vk vn vs2 w5 DD BB h5 hB1 hB2 rk rn o5 hD2 hb5 => ?_
      have z5 := h5.size
      refine ⟨h5, ?_⟩
      have rs : Rd (.slice tSkip) (BB ≤ ·) w5 [vs2] sk := o5.rd2 (fun b hb => (hD2 b hb).1) (fun b _ hB _ => hB) (by show sk.length < _; omega)
      have rs := rd_bd rs; have rk := rd_bd rk; have rn := rd_bd rn
      have ov := one_of_rd rn; have os := one_of_rd rs
      simp only [↓eExt0, ↓eExt1, chainV]
      refine (((c6.ext h3).ext h4).ext h5).setN (l' := [.int .i64 (gen + 1), vn, vs2]) rfl rfl (allOne3 rfl ov os) fun we ce fe => ?_
      refine anew_ ?_
      have ke : Ext w1b we := Ext.tn (Ext.tr (Ext.tr (Ext.tr h2 h3) h4) h5) fe (fun x hx => by omega)
      have e := steps_end (X := X) (K := K) (((((c2.ext h2).ext h3).ext h4).ext h5).fr fe (by omega)) ce (hk.ext ke) (hc.ext ke) (hv.ext ke) (rk.fr fe (fun b hb => by omega)) (rn.fr fe (fun b hb => by omega)) (rs.fr fe (fun b hb => by omega)) (hx.ext ke) (by omega) (by omega) (by omega) (by omega) (by omega) fun w' e => h _ ((kk.tr ke).tr e)
      simp only [↓eBinI, ↓eDiv, ↓eShift, ↓eBinS, ↓ePick, ↓eNot, ↓eNeg, ↓eConv, ↓eConvS, ↓eExt0, ↓eExt1, ↓eExt2, ↓eFA, ↓eIA, ↓eLenSl, ↓eCapSl, ↓eLenS, ↓eMin, ↓eMax, ↓eCondT, ↓eCondF, ↓gIf_tt, ↓gIf_ff, ↓gIf_tf, ↓gIf_ft, ↓gIf_u, ↓gIfW_u, ↓gIfW_tt, ↓gIfW_ff, ↓gIfW_tf, ↓gIfW_ft, binI, divI, shiftI, add_mk, Nat.zero_add, cond_true, cond_false, decide_true, decide_false, Bool.not_true, Bool.not_false, Bool.and_true, Bool.true_and, Bool.and_false, Bool.false_and, Int.toNat_natCast, Nat.mul_one] at e
      exact e
end Go.Proofs.YtkpgmaiklfjjgaaDoor
