/-
  Alive: a chain that is stepped.
-/
import Derived.Test.YtkpgmaiklfjjgaaDoorDw
set_option linter.unusedSimpArgs false
set_option linter.unusedVariables false
namespace Go.Proofs.YtkpgmaiklfjjgaaDoor
open Go Go.G Go.RowKit
variable {X : KX} {w : World} {K : KV} {D D' : Nat → Prop}
theorem has0 (cur : List UInt8) : hasF 3 (skF 0 cur 2) 0 = true := by simp [hasF, placeF, skF, List.range_succ, List.findIdx?_cons]
theorem has2 (cur : List UInt8) : hasF 3 (skF 0 cur 2) 2 = false := by simp [hasF, placeF, skF, List.range_succ, List.findIdx?_cons]
theorem alive_end {g2 : Nat} {vc vs : Value} {cur : List UInt8} (c : Cs w g2 [.int .i64 3, vc, vs]) (hv : Rd (.slice tSkip) D w [vs] (skF 0 cur 2)) (h : ∀ w', Ext w w' → K (.bool true) w') :
  (pBinI .eql .i64 (.int .i64 0) (.int .i64 0) fun t13 =>
    gIf t13 true (fun K => pFA 0 (.pointer (some ⟨g2, 0, none⟩)) K) fun t15 =>
    gIf t13 true (fun K => pLd (· = w) t15 K) fun t16 =>
    gIf t13 true (fun K => pBinI .eql .i64 t16 (.int .i64 3) K) fun t17 =>
    pPick t13 t17 (.bool false) fun t18 =>
    gIf t18 true (fun K => pFA 2 (.pointer (some ⟨g2, 0, none⟩)) K) fun t20 =>
    gIf t18 true (fun K => pLd (· = w) t20 K) fun t21 =>
    gIf t18 true (fun K => pLenSl t21 K) fun t22 =>
    gIf t18 true (fun K => pBinI .eql .i64 t22 (.int .i64 2) K) fun t23 =>
    pPick t18 t23 (.bool false) fun t24 =>
    gIf t24 true (fun K => pLdN (· = w) 3 (.pointer (some ⟨g2, 0, none⟩)) K) fun t26 =>
    gIfW t24 true (fun w K => pCall Tryd.prog 20 [t26, (.int .i64 0)] X w K) w fun t27 w =>
    pPick t24 t27 (.bool false) fun t28 =>
    gIf t28 true (fun K => pLdN (· = w) 3 (.pointer (some ⟨g2, 0, none⟩)) K) fun t30 =>
    gIfW t28 true (fun w K => pCall Tryd.prog 20 [t30, (.int .i64 2)] X w K) w fun t31 w =>
    gIf t28 true (fun K => pNot t31 K) fun t32 =>
    pPick t28 t32 (.bool false) fun t33 =>
    K t33 w) := by
  obtain ⟨a, cc, rfl, _, _⟩ := hv.form
  have hl := skF_len 0 cur 2
  simp only [↓eBinI, ↓eDiv, ↓eShift, ↓eBinS, ↓ePick, ↓eNot, ↓eNeg, ↓eConv, ↓eConvS, ↓eExt0, ↓eExt1, ↓eExt2, ↓eFA, ↓eIA, ↓eLenSl, ↓eCapSl, ↓eLenS, ↓eMin, ↓eMax, ↓eCondT, ↓eCondF, ↓gIf_tt, ↓gIf_ff, ↓gIf_tf, ↓gIf_ft, ↓gIf_u, ↓gIfW_u, ↓gIfW_tt, ↓gIfW_ff, ↓gIfW_tf, ↓gIfW_ft, binI, divI, shiftI, add_mk, Nat.zero_add, cond_true, cond_false, decide_true, decide_false, Bool.not_true, Bool.not_false, Bool.and_true, Bool.true_and, Bool.and_false, Bool.false_and, Int.toNat_natCast, Nat.mul_one, show ((0 : Int) == 0) = true from by decide, ↓c.c0, ↓c.c2, show ((3 : Int) == 3) = true from by decide, hl, show ((((2 : Nat)) : Int) == 2) = true from by decide, ↓c.ld3]
  rw [hl] at hv
  refine (?_ : GCalls Tryd.prog 20 [chainV 3 vc (.slice a 2 cc), .int .i64 0] _ X w)
  refine Has_c hv fun w1 h1 => ?_
  rw [hl] at c
  simp only [has0]
  simp only [↓eBinI, ↓eDiv, ↓eShift, ↓eBinS, ↓ePick, ↓eNot, ↓eNeg, ↓eConv, ↓eConvS, ↓eExt0, ↓eExt1, ↓eExt2, ↓eFA, ↓eIA, ↓eLenSl, ↓eCapSl, ↓eLenS, ↓eMin, ↓eMax, ↓eCondT, ↓eCondF, ↓gIf_tt, ↓gIf_ff, ↓gIf_tf, ↓gIf_ft, ↓gIf_u, ↓gIfW_u, ↓gIfW_tt, ↓gIfW_ff, ↓gIfW_tf, ↓gIfW_ft, binI, divI, shiftI, add_mk, Nat.zero_add, cond_true, cond_false, decide_true, decide_false, Bool.not_true, Bool.not_false, Bool.and_true, Bool.true_and, Bool.and_false, Bool.false_and, Int.toNat_natCast, Nat.mul_one, ↓(c.ext h1).ld3]
  refine (?_ : GCalls Tryd.prog 20 [chainV 3 vc (.slice a 2 cc), .int .i64 2] _ X w1)
  refine Has_c (hv.ext h1) fun w2 h2 => ?_
  simp only [has2]
  simp only [↓eBinI, ↓eDiv, ↓eShift, ↓eBinS, ↓ePick, ↓eNot, ↓eNeg, ↓eConv, ↓eConvS, ↓eExt0, ↓eExt1, ↓eExt2, ↓eFA, ↓eIA, ↓eLenSl, ↓eCapSl, ↓eLenS, ↓eMin, ↓eMax, ↓eCondT, ↓eCondF, ↓gIf_tt, ↓gIf_ff, ↓gIf_tf, ↓gIf_ft, ↓gIf_u, ↓gIfW_u, ↓gIfW_tt, ↓gIfW_ff, ↓gIfW_tf, ↓gIfW_ft, binI, divI, shiftI, add_mk, Nat.zero_add, cond_true, cond_false, decide_true, decide_false, Bool.not_true, Bool.not_false, Bool.and_true, Bool.true_and, Bool.and_false, Bool.false_and, Int.toNat_natCast, Nat.mul_one]
  exact h _ (h1.tr h2)
theorem nilSk (D : Nat → Prop) (w : World) : Rd (.slice tSkip) D w [.slice none 0 0] ([] : List (Int × List UInt8)) := ⟨none, 0, rfl, Nat.le_refl _, by show 0 < _; omega, fun h => absurd rfl h⟩
set_option maxHeartbeats 1000000 in
theorem alive33_c (hk : KT w) (h : ∀ w', Ext w w' → K (.bool true) w') : GCalls Tryd.prog 11 [] K X w := by
  have hk2 := hk.two
  apply oubliettelaw33_alive.calls; unfold oubliettelaw33_alive.b
  refine draw_ fun w1 h1 => ?_
  have z1 := h1.size
  have k1 : Ext w1 w1 := Fr.refl _ _
  refine ⟨?_, ?_, ?_⟩
  · skip
    refine Real_c (by omega) fun gs w2 h2 qs hs => ?_
    have z2 := h2.size
    refine ⟨(k1.tr h2), ?_⟩
    refine ⟨?_, ?_⟩
    · skip
      refine makeB (n := 32) (by omega) fun gm w3 hgm h3 cm => ?_
      have zt := (k1.tr h2).size
      have rm := own_rd (Cs.own (B := w1.heap.size) (D := NoB) (xs := List.replicate 32 0) (rest := []) (n := 32) (c := 32) (by simpa using cm) (by omega) (fun h => h) (by simp) rfl) (by simp)
      have z3 := h3.size
      refine ⟨((k1.tr h2).tr h3), ?_⟩
      refine ⟨?_, ?_⟩
      · skip
        refine Start_c rm (by simp) fun vc w4 h4 rc => ?_
        have z4 := h4.size
        refine ⟨(((k1.tr h2).tr h3).tr h4), ?_⟩
        refine ⟨?_, ?_⟩
        · skip
          refine AtGo_c (g0 := 0) (gen := 2) (win := 4) (sk := []) ((hs.ext h3).ext h4) (hk.ext (h1.tr (((k1.tr h2).tr h3).tr h4))) rc (nilSk NoB _) (by simp) (by simp) (fun i hi => by simp at hi) (by omega) (by omega) (by omega) (by omega) (by omega) (by omega) fun vk vc2 vs2 w5 h5 rk rc2 rs2 => ?_
          have z5 := h5.size
          refine ⟨((((k1.tr h2).tr h3).tr h4).tr h5), ?_⟩
          have e2 : ((2 : Int) - 0).toNat = 2 := by decide
          rw [e2] at rs2
          have rs2 : Rd (.slice tSkip) _ w5 [vs2] (skF 0 (List.replicate 32 0) 2) := rs2
          have rs2 := rd_bd rs2
          have ov := one_of_rd rc2; have os := one_of_rd rs2
          simp only [↓eExt0, ↓eExt1, ↓eExt2, chainV]
          refine boxC (cs := [.int .i64 0, .slice none 0 0, .slice none 0 0]) fun g2 w6 hg2 h6 c2 => ?_
          have z6 := h6.size; have l2 := c2.lt
          refine ⟨(((((k1.tr h2).tr h3).tr h4).tr h5).tr h6), ?_⟩
          refine c2.setN (l' := [.int .i64 3, vc2, vs2]) rfl rfl (allOne3 rfl ov os) fun we ce fe => ?_
          have ke : Ext w1 we := (((((k1.tr h2).tr h3).tr h4).tr h5).tr h6).tn fe (fun x hx => by omega)
          refine ⟨ke, ?_⟩
          exact alive_end ce ((rs2.ext h6).fr fe (fun b hb => by omega)) fun w' e => h _ ((h1.tr ke).tr e)
        · skip
          refine boxC (cs := [.int .i64 0, .slice none 0 0, .slice none 0 0]) fun g2 w5 hg2 h5 c2 => ?_
          have z5 := h5.size; have l2 := c2.lt
          refine ⟨((((k1.tr h2).tr h3).tr h4).tr h5), ?_⟩
          refine AtGo_c (g0 := 0) (gen := 2) (win := 4) (sk := []) (((hs.ext h3).ext h4).ext h5) (hk.ext (h1.tr ((((k1.tr h2).tr h3).tr h4).tr h5))) (rc.ext h5) (nilSk NoB _) (by simp) (by simp) (fun i hi => by simp at hi) (by omega) (by omega) (by omega) (by omega) (by omega) (by omega) fun vk vc2 vs2 w6 h6 rk rc2 rs2 => ?_
          have z6 := h6.size
          refine ⟨(((((k1.tr h2).tr h3).tr h4).tr h5).tr h6), ?_⟩
          have e2 : ((2 : Int) - 0).toNat = 2 := by decide
          rw [e2] at rs2
          have rs2 : Rd (.slice tSkip) _ w6 [vs2] (skF 0 (List.replicate 32 0) 2) := rs2
          have rs2 := rd_bd rs2
          have ov := one_of_rd rc2; have os := one_of_rd rs2
          simp only [↓eExt0, ↓eExt1, ↓eExt2, chainV]
          refine (c2.ext h6).setN (l' := [.int .i64 3, vc2, vs2]) rfl rfl (allOne3 rfl ov os) fun we ce fe => ?_
          have ke : Ext w1 we := (((((k1.tr h2).tr h3).tr h4).tr h5).tr h6).tn fe (fun x hx => by omega)
          refine ⟨ke, ?_⟩
          exact alive_end ce (rs2.fr fe (fun b hb => by omega)) fun w' e => h _ ((h1.tr ke).tr e)
      · skip
        refine boxC (cs := [.int .i64 0, .slice none 0 0, .slice none 0 0]) fun g2 w4 hg2 h4 c2 => ?_
        have z4 := h4.size; have l2 := c2.lt
        refine ⟨(((k1.tr h2).tr h3).tr h4), ?_⟩
        refine Start_c (rm.ext h4) (by simp) fun vc w5 h5 rc => ?_
        have z5 := h5.size
        refine ⟨((((k1.tr h2).tr h3).tr h4).tr h5), ?_⟩
        refine AtGo_c (g0 := 0) (gen := 2) (win := 4) (sk := []) (((hs.ext h3).ext h4).ext h5) (hk.ext (h1.tr ((((k1.tr h2).tr h3).tr h4).tr h5))) rc (nilSk NoB _) (by simp) (by simp) (fun i hi => by simp at hi) (by omega) (by omega) (by omega) (by omega) (by omega) (by omega) fun vk vc2 vs2 w6 h6 rk rc2 rs2 => ?_
        have z6 := h6.size
        refine ⟨(((((k1.tr h2).tr h3).tr h4).tr h5).tr h6), ?_⟩
        have e2 : ((2 : Int) - 0).toNat = 2 := by decide
        rw [e2] at rs2
        have rs2 : Rd (.slice tSkip) _ w6 [vs2] (skF 0 (List.replicate 32 0) 2) := rs2
        have rs2 := rd_bd rs2
        have ov := one_of_rd rc2; have os := one_of_rd rs2
        simp only [↓eExt0, ↓eExt1, ↓eExt2, chainV]
        refine ((c2.ext h5).ext h6).setN (l' := [.int .i64 3, vc2, vs2]) rfl rfl (allOne3 rfl ov os) fun we ce fe => ?_
        have ke : Ext w1 we := (((((k1.tr h2).tr h3).tr h4).tr h5).tr h6).tn fe (fun x hx => by omega)
        refine ⟨ke, ?_⟩
        exact alive_end ce (rs2.fr fe (fun b hb => by omega)) fun w' e => h _ ((h1.tr ke).tr e)
    · skip
      refine boxC (cs := [.int .i64 0, .slice none 0 0, .slice none 0 0]) fun g2 w3 hg2 h3 c2 => ?_
      have z3 := h3.size; have l2 := c2.lt
      refine ⟨((k1.tr h2).tr h3), ?_⟩
      refine makeB (n := 32) (by omega) fun gm w4 hgm h4 cm => ?_
      have zt := ((k1.tr h2).tr h3).size
      have rm := own_rd (Cs.own (B := w1.heap.size) (D := NoB) (xs := List.replicate 32 0) (rest := []) (n := 32) (c := 32) (by simpa using cm) (by omega) (fun h => h) (by simp) rfl) (by simp)
      have z4 := h4.size
      refine ⟨(((k1.tr h2).tr h3).tr h4), ?_⟩
      refine Start_c rm (by simp) fun vc w5 h5 rc => ?_
      have z5 := h5.size
      refine ⟨((((k1.tr h2).tr h3).tr h4).tr h5), ?_⟩
      refine AtGo_c (g0 := 0) (gen := 2) (win := 4) (sk := []) (((hs.ext h3).ext h4).ext h5) (hk.ext (h1.tr ((((k1.tr h2).tr h3).tr h4).tr h5))) rc (nilSk NoB _) (by simp) (by simp) (fun i hi => by simp at hi) (by omega) (by omega) (by omega) (by omega) (by omega) (by omega) fun vk vc2 vs2 w6 h6 rk rc2 rs2 => ?_
      have z6 := h6.size
      refine ⟨(((((k1.tr h2).tr h3).tr h4).tr h5).tr h6), ?_⟩
      have e2 : ((2 : Int) - 0).toNat = 2 := by decide
      rw [e2] at rs2
      have rs2 : Rd (.slice tSkip) _ w6 [vs2] (skF 0 (List.replicate 32 0) 2) := rs2
      have rs2 := rd_bd rs2
      have ov := one_of_rd rc2; have os := one_of_rd rs2
      simp only [↓eExt0, ↓eExt1, ↓eExt2, chainV]
      refine (((c2.ext h4).ext h5).ext h6).setN (l' := [.int .i64 3, vc2, vs2]) rfl rfl (allOne3 rfl ov os) fun we ce fe => ?_
      have ke : Ext w1 we := (((((k1.tr h2).tr h3).tr h4).tr h5).tr h6).tn fe (fun x hx => by omega)
      refine ⟨ke, ?_⟩
      exact alive_end ce (rs2.fr fe (fun b hb => by omega)) fun w' e => h _ ((h1.tr ke).tr e)
  · skip
    refine makeB (n := 32) (by omega) fun gm w2 hgm h2 cm => ?_
    have zt := k1.size
    have rm := own_rd (Cs.own (B := w1.heap.size) (D := NoB) (xs := List.replicate 32 0) (rest := []) (n := 32) (c := 32) (by simpa using cm) (by omega) (fun h => h) (by simp) rfl) (by simp)
    have z2 := h2.size
    refine ⟨(k1.tr h2), ?_⟩
    refine ⟨?_, ?_⟩
    · skip
      refine Real_c (by omega) fun gs w3 h3 qs hs => ?_
      have z3 := h3.size
      refine ⟨((k1.tr h2).tr h3), ?_⟩
      refine ⟨?_, ?_⟩
      · skip
        refine Start_c (rm.ext h3) (by simp) fun vc w4 h4 rc => ?_
        have z4 := h4.size
        refine ⟨(((k1.tr h2).tr h3).tr h4), ?_⟩
        refine ⟨?_, ?_⟩
        · skip
          refine AtGo_c (g0 := 0) (gen := 2) (win := 4) (sk := []) (hs.ext h4) (hk.ext (h1.tr (((k1.tr h2).tr h3).tr h4))) rc (nilSk NoB _) (by simp) (by simp) (fun i hi => by simp at hi) (by omega) (by omega) (by omega) (by omega) (by omega) (by omega) fun vk vc2 vs2 w5 h5 rk rc2 rs2 => ?_
          have z5 := h5.size
          refine ⟨((((k1.tr h2).tr h3).tr h4).tr h5), ?_⟩
          have e2 : ((2 : Int) - 0).toNat = 2 := by decide
          rw [e2] at rs2
          have rs2 : Rd (.slice tSkip) _ w5 [vs2] (skF 0 (List.replicate 32 0) 2) := rs2
          have rs2 := rd_bd rs2
          have ov := one_of_rd rc2; have os := one_of_rd rs2
          simp only [↓eExt0, ↓eExt1, ↓eExt2, chainV]
          refine boxC (cs := [.int .i64 0, .slice none 0 0, .slice none 0 0]) fun g2 w6 hg2 h6 c2 => ?_
          have z6 := h6.size; have l2 := c2.lt
          refine ⟨(((((k1.tr h2).tr h3).tr h4).tr h5).tr h6), ?_⟩
          refine c2.setN (l' := [.int .i64 3, vc2, vs2]) rfl rfl (allOne3 rfl ov os) fun we ce fe => ?_
          have ke : Ext w1 we := (((((k1.tr h2).tr h3).tr h4).tr h5).tr h6).tn fe (fun x hx => by omega)
          refine ⟨ke, ?_⟩
          exact alive_end ce ((rs2.ext h6).fr fe (fun b hb => by omega)) fun w' e => h _ ((h1.tr ke).tr e)
        · skip
          refine boxC (cs := [.int .i64 0, .slice none 0 0, .slice none 0 0]) fun g2 w5 hg2 h5 c2 => ?_
          have z5 := h5.size; have l2 := c2.lt
          refine ⟨((((k1.tr h2).tr h3).tr h4).tr h5), ?_⟩
          refine AtGo_c (g0 := 0) (gen := 2) (win := 4) (sk := []) ((hs.ext h4).ext h5) (hk.ext (h1.tr ((((k1.tr h2).tr h3).tr h4).tr h5))) (rc.ext h5) (nilSk NoB _) (by simp) (by simp) (fun i hi => by simp at hi) (by omega) (by omega) (by omega) (by omega) (by omega) (by omega) fun vk vc2 vs2 w6 h6 rk rc2 rs2 => ?_
          have z6 := h6.size
          refine ⟨(((((k1.tr h2).tr h3).tr h4).tr h5).tr h6), ?_⟩
          have e2 : ((2 : Int) - 0).toNat = 2 := by decide
          rw [e2] at rs2
          have rs2 : Rd (.slice tSkip) _ w6 [vs2] (skF 0 (List.replicate 32 0) 2) := rs2
          have rs2 := rd_bd rs2
          have ov := one_of_rd rc2; have os := one_of_rd rs2
          simp only [↓eExt0, ↓eExt1, ↓eExt2, chainV]
          refine (c2.ext h6).setN (l' := [.int .i64 3, vc2, vs2]) rfl rfl (allOne3 rfl ov os) fun we ce fe => ?_
          have ke : Ext w1 we := (((((k1.tr h2).tr h3).tr h4).tr h5).tr h6).tn fe (fun x hx => by omega)
          refine ⟨ke, ?_⟩
          exact alive_end ce (rs2.fr fe (fun b hb => by omega)) fun w' e => h _ ((h1.tr ke).tr e)
      · skip
        refine boxC (cs := [.int .i64 0, .slice none 0 0, .slice none 0 0]) fun g2 w4 hg2 h4 c2 => ?_
        have z4 := h4.size; have l2 := c2.lt
        refine ⟨(((k1.tr h2).tr h3).tr h4), ?_⟩
        refine Start_c ((rm.ext h3).ext h4) (by simp) fun vc w5 h5 rc => ?_
        have z5 := h5.size
        refine ⟨((((k1.tr h2).tr h3).tr h4).tr h5), ?_⟩
        refine AtGo_c (g0 := 0) (gen := 2) (win := 4) (sk := []) ((hs.ext h4).ext h5) (hk.ext (h1.tr ((((k1.tr h2).tr h3).tr h4).tr h5))) rc (nilSk NoB _) (by simp) (by simp) (fun i hi => by simp at hi) (by omega) (by omega) (by omega) (by omega) (by omega) (by omega) fun vk vc2 vs2 w6 h6 rk rc2 rs2 => ?_
        have z6 := h6.size
        refine ⟨(((((k1.tr h2).tr h3).tr h4).tr h5).tr h6), ?_⟩
        have e2 : ((2 : Int) - 0).toNat = 2 := by decide
        rw [e2] at rs2
        have rs2 : Rd (.slice tSkip) _ w6 [vs2] (skF 0 (List.replicate 32 0) 2) := rs2
        have rs2 := rd_bd rs2
        have ov := one_of_rd rc2; have os := one_of_rd rs2
        simp only [↓eExt0, ↓eExt1, ↓eExt2, chainV]
        refine ((c2.ext h5).ext h6).setN (l' := [.int .i64 3, vc2, vs2]) rfl rfl (allOne3 rfl ov os) fun we ce fe => ?_
        have ke : Ext w1 we := (((((k1.tr h2).tr h3).tr h4).tr h5).tr h6).tn fe (fun x hx => by omega)
        refine ⟨ke, ?_⟩
        exact alive_end ce (rs2.fr fe (fun b hb => by omega)) fun w' e => h _ ((h1.tr ke).tr e)
    · skip
      refine boxC (cs := [.int .i64 0, .slice none 0 0, .slice none 0 0]) fun g2 w3 hg2 h3 c2 => ?_
      have z3 := h3.size; have l2 := c2.lt
      refine ⟨((k1.tr h2).tr h3), ?_⟩
      refine Real_c (by omega) fun gs w4 h4 qs hs => ?_
      have z4 := h4.size
      refine ⟨(((k1.tr h2).tr h3).tr h4), ?_⟩
      refine Start_c ((rm.ext h3).ext h4) (by simp) fun vc w5 h5 rc => ?_
      have z5 := h5.size
      refine ⟨((((k1.tr h2).tr h3).tr h4).tr h5), ?_⟩
      refine AtGo_c (g0 := 0) (gen := 2) (win := 4) (sk := []) (hs.ext h5) (hk.ext (h1.tr ((((k1.tr h2).tr h3).tr h4).tr h5))) rc (nilSk NoB _) (by simp) (by simp) (fun i hi => by simp at hi) (by omega) (by omega) (by omega) (by omega) (by omega) (by omega) fun vk vc2 vs2 w6 h6 rk rc2 rs2 => ?_
      have z6 := h6.size
      refine ⟨(((((k1.tr h2).tr h3).tr h4).tr h5).tr h6), ?_⟩
      have e2 : ((2 : Int) - 0).toNat = 2 := by decide
      rw [e2] at rs2
      have rs2 : Rd (.slice tSkip) _ w6 [vs2] (skF 0 (List.replicate 32 0) 2) := rs2
      have rs2 := rd_bd rs2
      have ov := one_of_rd rc2; have os := one_of_rd rs2
      simp only [↓eExt0, ↓eExt1, ↓eExt2, chainV]
      refine (((c2.ext h4).ext h5).ext h6).setN (l' := [.int .i64 3, vc2, vs2]) rfl rfl (allOne3 rfl ov os) fun we ce fe => ?_
      have ke : Ext w1 we := (((((k1.tr h2).tr h3).tr h4).tr h5).tr h6).tn fe (fun x hx => by omega)
      refine ⟨ke, ?_⟩
      exact alive_end ce (rs2.fr fe (fun b hb => by omega)) fun w' e => h _ ((h1.tr ke).tr e)
  · skip
    refine boxC (cs := [.int .i64 0, .slice none 0 0, .slice none 0 0]) fun g2 w2 hg2 h2 c2 => ?_
    have z2 := h2.size; have l2 := c2.lt
    refine ⟨(k1.tr h2), ?_⟩
    refine ⟨?_, ?_⟩
    · skip
      refine Real_c (by omega) fun gs w3 h3 qs hs => ?_
      have z3 := h3.size
      refine ⟨((k1.tr h2).tr h3), ?_⟩
      refine makeB (n := 32) (by omega) fun gm w4 hgm h4 cm => ?_
      have zt := ((k1.tr h2).tr h3).size
      have rm := own_rd (Cs.own (B := w1.heap.size) (D := NoB) (xs := List.replicate 32 0) (rest := []) (n := 32) (c := 32) (by simpa using cm) (by omega) (fun h => h) (by simp) rfl) (by simp)
      have z4 := h4.size
      refine ⟨(((k1.tr h2).tr h3).tr h4), ?_⟩
      refine Start_c rm (by simp) fun vc w5 h5 rc => ?_
      have z5 := h5.size
      refine ⟨((((k1.tr h2).tr h3).tr h4).tr h5), ?_⟩
      refine AtGo_c (g0 := 0) (gen := 2) (win := 4) (sk := []) ((hs.ext h4).ext h5) (hk.ext (h1.tr ((((k1.tr h2).tr h3).tr h4).tr h5))) rc (nilSk NoB _) (by simp) (by simp) (fun i hi => by simp at hi) (by omega) (by omega) (by omega) (by omega) (by omega) (by omega) fun vk vc2 vs2 w6 h6 rk rc2 rs2 => ?_
      have z6 := h6.size
      refine ⟨(((((k1.tr h2).tr h3).tr h4).tr h5).tr h6), ?_⟩
      have e2 : ((2 : Int) - 0).toNat = 2 := by decide
      rw [e2] at rs2
      have rs2 : Rd (.slice tSkip) _ w6 [vs2] (skF 0 (List.replicate 32 0) 2) := rs2
      have rs2 := rd_bd rs2
      have ov := one_of_rd rc2; have os := one_of_rd rs2
      simp only [↓eExt0, ↓eExt1, ↓eExt2, chainV]
      refine ((((c2.ext h3).ext h4).ext h5).ext h6).setN (l' := [.int .i64 3, vc2, vs2]) rfl rfl (allOne3 rfl ov os) fun we ce fe => ?_
      have ke : Ext w1 we := (((((k1.tr h2).tr h3).tr h4).tr h5).tr h6).tn fe (fun x hx => by omega)
      refine ⟨ke, ?_⟩
      exact alive_end ce (rs2.fr fe (fun b hb => by omega)) fun w' e => h _ ((h1.tr ke).tr e)
    · skip
      refine makeB (n := 32) (by omega) fun gm w3 hgm h3 cm => ?_
      have zt := (k1.tr h2).size
      have rm := own_rd (Cs.own (B := w1.heap.size) (D := NoB) (xs := List.replicate 32 0) (rest := []) (n := 32) (c := 32) (by simpa using cm) (by omega) (fun h => h) (by simp) rfl) (by simp)
      have z3 := h3.size
      refine ⟨((k1.tr h2).tr h3), ?_⟩
      refine Real_c (by omega) fun gs w4 h4 qs hs => ?_
      have z4 := h4.size
      refine ⟨(((k1.tr h2).tr h3).tr h4), ?_⟩
      refine Start_c (rm.ext h4) (by simp) fun vc w5 h5 rc => ?_
      have z5 := h5.size
      refine ⟨((((k1.tr h2).tr h3).tr h4).tr h5), ?_⟩
      refine AtGo_c (g0 := 0) (gen := 2) (win := 4) (sk := []) (hs.ext h5) (hk.ext (h1.tr ((((k1.tr h2).tr h3).tr h4).tr h5))) rc (nilSk NoB _) (by simp) (by simp) (fun i hi => by simp at hi) (by omega) (by omega) (by omega) (by omega) (by omega) (by omega) fun vk vc2 vs2 w6 h6 rk rc2 rs2 => ?_
      have z6 := h6.size
      refine ⟨(((((k1.tr h2).tr h3).tr h4).tr h5).tr h6), ?_⟩
      have e2 : ((2 : Int) - 0).toNat = 2 := by decide
      rw [e2] at rs2
      have rs2 : Rd (.slice tSkip) _ w6 [vs2] (skF 0 (List.replicate 32 0) 2) := rs2
      have rs2 := rd_bd rs2
      have ov := one_of_rd rc2; have os := one_of_rd rs2
      simp only [↓eExt0, ↓eExt1, ↓eExt2, chainV]
      refine ((((c2.ext h3).ext h4).ext h5).ext h6).setN (l' := [.int .i64 3, vc2, vs2]) rfl rfl (allOne3 rfl ov os) fun we ce fe => ?_
      have ke : Ext w1 we := (((((k1.tr h2).tr h3).tr h4).tr h5).tr h6).tn fe (fun x hx => by omega)
      refine ⟨ke, ?_⟩
      exact alive_end ce (rs2.fr fe (fun b hb => by omega)) fun w' e => h _ ((h1.tr ke).tr e)
end Go.Proofs.YtkpgmaiklfjjgaaDoor
