/-
  Alive: a first epoch.
  The functions' own code as conditions on values and worlds; the kernel checks that each is the code's own.
-/
import Derived.Test.YtkpgmaiklfjjgaaGreatDoorMoaq
import Derived.Test.YtkpgmaiklfjjgaaGreatDoorProg
section
set_option linter.unusedSimpArgs false
set_option linter.unusedVariables false
namespace Go.Proofs.YtkpgmaiklfjjgaaGreatDoor
open Go Go.G Go.RowKit
variable {X : KX} {w : World} {K : KV} {D D' D1 D2 D3 D4 D5 : Nat → Prop}
theorem KT.two {w : World} (h : KT w) : 2 < w.heap.size := cell_lt (h 0 (by rw [kT_len]; omega))
theorem dec3 : Lib.decDigits 3 = [51] := by rw [Lib.decDigits, dif_pos (by omega)]; rfl
theorem lab3 {l : ByteArray} (h : l.data.toList = sendL 3) : l = ⟨#[115, 101, 110, 100, 101, 114, 32, 51]⟩ := by
  obtain ⟨⟨l⟩⟩ := l
  have h : l = sendL 3 := h
  rw [h, sendL, dec3]; rfl
theorem alive_end34 {g : Nat} {v : Value} {e i j : List UInt8} (c : Cs w g (v.cells.toList)) (hb : IsBirth D w v e i (bornL j 1)) (pt : PT w) (h : ∀ w', Ext w w' → K (.bool true) w') :
  (pBinI .eql .i64 (.int .i64 0) (.int .i64 0) fun t10 =>
                  gIf t10 true (fun K => pFA 2 (.pointer (some ⟨g, 0, none⟩)) K) fun t12 =>
                  gIf t10 true (fun K => pLd (· = w) t12 K) fun t13 =>
                  gIf t10 true (fun K => pLenSl t13 K) fun t14 =>
                  gIf t10 true (fun K => pBinI .eql .i64 t14 (.int .i64 1) K) fun t15 =>
                  pPick t10 t15 (.bool false) fun t16 =>
                  gIf t16 true (fun K => pFA 2 (.pointer (some ⟨g, 0, none⟩)) K) fun t18 =>
                  gIf t16 true (fun K => pLd (· = w) t18 K) fun t19 =>
                  gIf t16 true (fun K => pIA 3 t19 (.int .i64 0) K) fun t20 =>
                  gIf t16 true (fun K => pFA 0 t20 K) fun t21 =>
                  gIf t16 true (fun K => pLd (· = w) t21 K) fun t22 =>
                  gIf t16 true (fun K => pBinI .eql .i64 t22 (.int .i64 0) K) fun t23 =>
                  pPick t16 t23 (.bool false) fun t24 =>
                  gIfW t24 true (fun w K => pCall Tryz.prog 23 [(.int .i64 3)] X w K) w fun t26 w =>
                  gIf t24 true (fun K => pBinS .eql t26 (.string ⟨#[115, 101, 110, 100, 101, 114, 32, 51]⟩) K) fun t27 =>
                  pPick t24 t27 (.bool false) fun t28 =>
                  K t28 w) := by
  obtain ⟨ve, vi, vc, rfl, re, ri, rc⟩ := hb
  have c : Cs w g [ve, vi, vc] := c
  obtain ⟨ad, cc, vk, vs, rfl, s1, _, q0, r1, r2⟩ := chAt rc (i := 0) (by rw [bornL_len]; omega)
  have hl := bornL_len j 1
  have q := q0 0 _ rfl
  have hz := (plain_born j 1 _ (List.getElem_mem (by rw [bornL_len]; omega : 0 < (bornL j 1).length))).1
  rw [hz] at q
  have a0 : (ad.add (0 * 3)).add 0 = ad.add (0 * 3 + 0) := by rw [add_add _ _ _ s1]
  simp only [↓eBinI, ↓eDiv, ↓eShift, ↓eBinS, ↓ePick, ↓eNot, ↓eNeg, ↓eConv, ↓eConvS, ↓eExt0, ↓eExt1, ↓eExt2, ↓eFA, ↓eIA, ↓eLenSl, ↓eCapSl, ↓eLenS, ↓eMin, ↓eMax, ↓eCondT, ↓eCondF, ↓gIf_tt, ↓gIf_ff, ↓gIf_tf, ↓gIf_ft, ↓gIf_u, ↓gIfW_u, ↓gIfW_tt, ↓gIfW_ff, ↓gIfW_tf, ↓gIfW_ft, binI, divI, shiftI, add_mk, Nat.zero_add, cond_true, cond_false, decide_true, decide_false, Bool.not_true, Bool.not_false, Bool.and_true, Bool.true_and, Bool.and_false, Bool.false_and, Int.toNat_natCast, Nat.mul_one, show ((0 : Int) == 0) = true from rfl, ↓c.c2, hl, show ((((1 : Nat)) : Int) == 1) = true from rfl]
  refine ⟨by omega, by omega, ?_⟩
  have e : (ad.add (Int.toNat 0 * 3)).add 0 = ad.add (0 * 3 + 0) := a0
  rw [e]
  simp only [↓eBinI, ↓eDiv, ↓eShift, ↓eBinS, ↓ePick, ↓eNot, ↓eNeg, ↓eConv, ↓eConvS, ↓eExt0, ↓eExt1, ↓eExt2, ↓eFA, ↓eIA, ↓eLenSl, ↓eCapSl, ↓eLenS, ↓eMin, ↓eMax, ↓eCondT, ↓eCondF, ↓gIf_tt, ↓gIf_ff, ↓gIf_tf, ↓gIf_ft, ↓gIf_u, ↓gIfW_u, ↓gIfW_tt, ↓gIfW_ff, ↓gIfW_tf, ↓gIfW_ft, binI, divI, shiftI, add_mk, Nat.zero_add, cond_true, cond_false, decide_true, decide_false, Bool.not_true, Bool.not_false, Bool.and_true, Bool.true_and, Bool.and_false, Bool.false_and, Int.toNat_natCast, Nat.mul_one, ↓eLdW, q, Option.some.injEq, exists_eq_left', show ((0 : Int) == 0) = true from rfl]
  refine (?_ : GCalls Tryz.prog 23 [.int .i64 (3 : Nat)] _ X w)
  refine Label_c (by omega) pt fun w1 l hl h1 => ?_
  rw [lab3 hl]
  simp only [↓eBinI, ↓eDiv, ↓eShift, ↓eBinS, ↓ePick, ↓eNot, ↓eNeg, ↓eConv, ↓eConvS, ↓eExt0, ↓eExt1, ↓eExt2, ↓eFA, ↓eIA, ↓eLenSl, ↓eCapSl, ↓eLenS, ↓eMin, ↓eMax, ↓eCondT, ↓eCondF, ↓gIf_tt, ↓gIf_ff, ↓gIf_tf, ↓gIf_ft, ↓gIf_u, ↓gIfW_u, ↓gIfW_tt, ↓gIfW_ff, ↓gIfW_tf, ↓gIfW_ft, binI, divI, shiftI, add_mk, Nat.zero_add, cond_true, cond_false, decide_true, decide_false, Bool.not_true, Bool.not_false, Bool.and_true, Bool.true_and, Bool.and_false, Bool.false_and, Int.toNat_natCast, Nat.mul_one]
  refine ⟨by decide, ?_⟩
  have eb : binS .eql (⟨#[115, 101, 110, 100, 101, 114, 32, 51]⟩ : ByteArray) ⟨#[115, 101, 110, 100, 101, 114, 32, 51]⟩ = .bool true := by simp [binS]
  rw [eb]
  exact h _ h1
theorem ex20 {a b : Value} {K : KP} (h : K a) : pExt (.tuple #[a, b]) 0 K := by rw [eExt0]; exact h
theorem ex21 {a b : Value} {K : KP} (h : K b) : pExt (.tuple #[a, b]) 1 K := by rw [eExt1]; exact h
set_option maxHeartbeats 1000000 in
theorem alive34_c (hk : KT w) (pt : PT w) (h : ∀ w', Ext w w' → K (.bool true) w') : GCalls Tryz.prog 5 [] K X w := by
  have hk2 := hk.two
  apply oubliettelaw34_alive.calls; unfold oubliettelaw34_alive.b
  refine draw_ fun w1 h1 => ?_
  have z1 := h1.size
  have k1 : Ext w1 w1 := Fr.refl _ _
  refine ⟨?_, ?_, ?_⟩
  · skip
    refine Real_c (by omega) fun gs w2 h2 qs hs => ?_
    have z2 := h2.size
    refine ⟨(k1.tr h2), ?_⟩
    refine ⟨?_, ?_⟩
    · skip
      refine makeB (n := 32) (by omega) fun gm w3 hgm h3 cm => ?_
      have zt := (k1.tr h2).size
      have rm := own_rd (Cs.own (B := w1.heap.size) (D := NoB) (xs := List.replicate 32 0) (rest := []) (n := 32) (c := 32) (by simpa using cm) (by omega) (fun h => h) (by simp) rfl) (by simp)
      have z3 := h3.size
      refine ⟨((k1.tr h2).tr h3), ?_⟩
      refine ⟨?_, ?_⟩
      · skip
        refine EFirst_c (n := 1) (hs.ext h3) (hk.ext (h1.tr ((k1.tr h2).tr h3))) (pt.ext (h1.tr ((k1.tr h2).tr h3))) rm (fun w' e hne => absurd (whyF_one (by omega) (by omega) (by simp)) hne) fun m v w4 hm _ h4 hb => ?_
        obtain rfl : m = 1 := by omega
        have hb := hb.bd
        have z4 := h4.size
        refine ⟨(((k1.tr h2).tr h3).tr h4), ?_⟩
        refine ex20 (ex21 ?_)
        refine boxC (cs := [nilV, nilV, nilV]) fun g2 w5 hg2 h5 c2 => ?_
        have z5 := h5.size; have l2 := c2.lt
        refine ⟨((((k1.tr h2).tr h3).tr h4).tr h5), ?_⟩
        refine put_birth c2 rfl (hb.ext h5) (fun b hb => by have := hb.1; have := hb.2; omega) fun we fe ce hbe => ?_
        have ke : Ext w1 we := ((((k1.tr h2).tr h3).tr h4).tr h5).tn fe (fun x hx => by omega)
        refine ⟨ke, ?_⟩
        exact alive_end34 ce hbe ((pt.ext h1).ext ke) fun w' e => h _ ((h1.tr ke).tr e)
      · skip
        refine boxC (cs := [nilV, nilV, nilV]) fun g2 w4 hg2 h4 c2 => ?_
        have z4 := h4.size; have l2 := c2.lt
        refine ⟨(((k1.tr h2).tr h3).tr h4), ?_⟩
        refine EFirst_c (n := 1) ((hs.ext h3).ext h4) (hk.ext (h1.tr (((k1.tr h2).tr h3).tr h4))) (pt.ext (h1.tr (((k1.tr h2).tr h3).tr h4))) (rm.ext h4) (fun w' e hne => absurd (whyF_one (by omega) (by omega) (by simp)) hne) fun m v w5 hm _ h5 hb => ?_
        obtain rfl : m = 1 := by omega
        have hb := hb.bd
        have z5 := h5.size
        refine ⟨((((k1.tr h2).tr h3).tr h4).tr h5), ?_⟩
        refine ex20 (ex21 ?_)
        refine put_birth (c2.ext h5) rfl hb (fun b hb => by have := hb.1; have := hb.2; omega) fun we fe ce hbe => ?_
        have ke : Ext w1 we := ((((k1.tr h2).tr h3).tr h4).tr h5).tn fe (fun x hx => by omega)
        refine ⟨ke, ?_⟩
        exact alive_end34 ce hbe ((pt.ext h1).ext ke) fun w' e => h _ ((h1.tr ke).tr e)
    · skip
      refine boxC (cs := [nilV, nilV, nilV]) fun g2 w3 hg2 h3 c2 => ?_
      have z3 := h3.size; have l2 := c2.lt
      refine ⟨((k1.tr h2).tr h3), ?_⟩
      refine makeB (n := 32) (by omega) fun gm w4 hgm h4 cm => ?_
      have zt := ((k1.tr h2).tr h3).size
      have rm := own_rd (Cs.own (B := w1.heap.size) (D := NoB) (xs := List.replicate 32 0) (rest := []) (n := 32) (c := 32) (by simpa using cm) (by omega) (fun h => h) (by simp) rfl) (by simp)
      have z4 := h4.size
      refine ⟨(((k1.tr h2).tr h3).tr h4), ?_⟩
      refine EFirst_c (n := 1) ((hs.ext h3).ext h4) (hk.ext (h1.tr (((k1.tr h2).tr h3).tr h4))) (pt.ext (h1.tr (((k1.tr h2).tr h3).tr h4))) rm (fun w' e hne => absurd (whyF_one (by omega) (by omega) (by simp)) hne) fun m v w5 hm _ h5 hb => ?_
      obtain rfl : m = 1 := by omega
      have hb := hb.bd
      have z5 := h5.size
      refine ⟨((((k1.tr h2).tr h3).tr h4).tr h5), ?_⟩
      refine ex20 (ex21 ?_)
      refine put_birth ((c2.ext h4).ext h5) rfl hb (fun b hb => by have := hb.1; have := hb.2; omega) fun we fe ce hbe => ?_
      have ke : Ext w1 we := ((((k1.tr h2).tr h3).tr h4).tr h5).tn fe (fun x hx => by omega)
      refine ⟨ke, ?_⟩
      exact alive_end34 ce hbe ((pt.ext h1).ext ke) fun w' e => h _ ((h1.tr ke).tr e)
  · skip
    refine makeB (n := 32) (by omega) fun gm w2 hgm h2 cm => ?_
    have zt := k1.size
    have rm := own_rd (Cs.own (B := w1.heap.size) (D := NoB) (xs := List.replicate 32 0) (rest := []) (n := 32) (c := 32) (by simpa using cm) (by omega) (fun h => h) (by simp) rfl) (by simp)
    have z2 := h2.size
    refine ⟨(k1.tr h2), ?_⟩
    refine ⟨?_, ?_⟩
    · skip
      refine Real_c (by omega) fun gs w3 h3 qs hs => ?_
      have z3 := h3.size
      refine ⟨((k1.tr h2).tr h3), ?_⟩
      refine ⟨?_, ?_⟩
      · skip
        refine EFirst_c (n := 1) hs (hk.ext (h1.tr ((k1.tr h2).tr h3))) (pt.ext (h1.tr ((k1.tr h2).tr h3))) (rm.ext h3) (fun w' e hne => absurd (whyF_one (by omega) (by omega) (by simp)) hne) fun m v w4 hm _ h4 hb => ?_
        obtain rfl : m = 1 := by omega
        have hb := hb.bd
        have z4 := h4.size
        refine ⟨(((k1.tr h2).tr h3).tr h4), ?_⟩
        refine ex20 (ex21 ?_)
        refine boxC (cs := [nilV, nilV, nilV]) fun g2 w5 hg2 h5 c2 => ?_
        have z5 := h5.size; have l2 := c2.lt
        refine ⟨((((k1.tr h2).tr h3).tr h4).tr h5), ?_⟩
        refine put_birth c2 rfl (hb.ext h5) (fun b hb => by have := hb.1; have := hb.2; omega) fun we fe ce hbe => ?_
        have ke : Ext w1 we := ((((k1.tr h2).tr h3).tr h4).tr h5).tn fe (fun x hx => by omega)
        refine ⟨ke, ?_⟩
        exact alive_end34 ce hbe ((pt.ext h1).ext ke) fun w' e => h _ ((h1.tr ke).tr e)
      · skip
        refine boxC (cs := [nilV, nilV, nilV]) fun g2 w4 hg2 h4 c2 => ?_
        have z4 := h4.size; have l2 := c2.lt
        refine ⟨(((k1.tr h2).tr h3).tr h4), ?_⟩
        refine EFirst_c (n := 1) (hs.ext h4) (hk.ext (h1.tr (((k1.tr h2).tr h3).tr h4))) (pt.ext (h1.tr (((k1.tr h2).tr h3).tr h4))) ((rm.ext h3).ext h4) (fun w' e hne => absurd (whyF_one (by omega) (by omega) (by simp)) hne) fun m v w5 hm _ h5 hb => ?_
        obtain rfl : m = 1 := by omega
        have hb := hb.bd
        have z5 := h5.size
        refine ⟨((((k1.tr h2).tr h3).tr h4).tr h5), ?_⟩
        refine ex20 (ex21 ?_)
        refine put_birth (c2.ext h5) rfl hb (fun b hb => by have := hb.1; have := hb.2; omega) fun we fe ce hbe => ?_
        have ke : Ext w1 we := ((((k1.tr h2).tr h3).tr h4).tr h5).tn fe (fun x hx => by omega)
        refine ⟨ke, ?_⟩
        exact alive_end34 ce hbe ((pt.ext h1).ext ke) fun w' e => h _ ((h1.tr ke).tr e)
    · skip
      refine boxC (cs := [nilV, nilV, nilV]) fun g2 w3 hg2 h3 c2 => ?_
      have z3 := h3.size; have l2 := c2.lt
      refine ⟨((k1.tr h2).tr h3), ?_⟩
      refine Real_c (by omega) fun gs w4 h4 qs hs => ?_
      have z4 := h4.size
      refine ⟨(((k1.tr h2).tr h3).tr h4), ?_⟩
      refine EFirst_c (n := 1) hs (hk.ext (h1.tr (((k1.tr h2).tr h3).tr h4))) (pt.ext (h1.tr (((k1.tr h2).tr h3).tr h4))) ((rm.ext h3).ext h4) (fun w' e hne => absurd (whyF_one (by omega) (by omega) (by simp)) hne) fun m v w5 hm _ h5 hb => ?_
      obtain rfl : m = 1 := by omega
      have hb := hb.bd
      have z5 := h5.size
      refine ⟨((((k1.tr h2).tr h3).tr h4).tr h5), ?_⟩
      refine ex20 (ex21 ?_)
      refine put_birth ((c2.ext h4).ext h5) rfl hb (fun b hb => by have := hb.1; have := hb.2; omega) fun we fe ce hbe => ?_
      have ke : Ext w1 we := ((((k1.tr h2).tr h3).tr h4).tr h5).tn fe (fun x hx => by omega)
      refine ⟨ke, ?_⟩
      exact alive_end34 ce hbe ((pt.ext h1).ext ke) fun w' e => h _ ((h1.tr ke).tr e)
  · skip
    refine boxC (cs := [nilV, nilV, nilV]) fun g2 w2 hg2 h2 c2 => ?_
    have z2 := h2.size; have l2 := c2.lt
    refine ⟨(k1.tr h2), ?_⟩
    refine ⟨?_, ?_⟩
    · skip
      refine Real_c (by omega) fun gs w3 h3 qs hs => ?_
      have z3 := h3.size
      refine ⟨((k1.tr h2).tr h3), ?_⟩
      refine makeB (n := 32) (by omega) fun gm w4 hgm h4 cm => ?_
      have zt := ((k1.tr h2).tr h3).size
      have rm := own_rd (Cs.own (B := w1.heap.size) (D := NoB) (xs := List.replicate 32 0) (rest := []) (n := 32) (c := 32) (by simpa using cm) (by omega) (fun h => h) (by simp) rfl) (by simp)
      have z4 := h4.size
      refine ⟨(((k1.tr h2).tr h3).tr h4), ?_⟩
      refine EFirst_c (n := 1) (hs.ext h4) (hk.ext (h1.tr (((k1.tr h2).tr h3).tr h4))) (pt.ext (h1.tr (((k1.tr h2).tr h3).tr h4))) rm (fun w' e hne => absurd (whyF_one (by omega) (by omega) (by simp)) hne) fun m v w5 hm _ h5 hb => ?_
      obtain rfl : m = 1 := by omega
      have hb := hb.bd
      have z5 := h5.size
      refine ⟨((((k1.tr h2).tr h3).tr h4).tr h5), ?_⟩
      refine ex20 (ex21 ?_)
      refine put_birth (((c2.ext h3).ext h4).ext h5) rfl hb (fun b hb => by have := hb.1; have := hb.2; omega) fun we fe ce hbe => ?_
      have ke : Ext w1 we := ((((k1.tr h2).tr h3).tr h4).tr h5).tn fe (fun x hx => by omega)
      refine ⟨ke, ?_⟩
      exact alive_end34 ce hbe ((pt.ext h1).ext ke) fun w' e => h _ ((h1.tr ke).tr e)
    · skip
      refine makeB (n := 32) (by omega) fun gm w3 hgm h3 cm => ?_
      have zt := (k1.tr h2).size
      have rm := own_rd (Cs.own (B := w1.heap.size) (D := NoB) (xs := List.replicate 32 0) (rest := []) (n := 32) (c := 32) (by simpa using cm) (by omega) (fun h => h) (by simp) rfl) (by simp)
      have z3 := h3.size
      refine ⟨((k1.tr h2).tr h3), ?_⟩
      refine Real_c (by omega) fun gs w4 h4 qs hs => ?_
      have z4 := h4.size
      refine ⟨(((k1.tr h2).tr h3).tr h4), ?_⟩
      refine EFirst_c (n := 1) hs (hk.ext (h1.tr (((k1.tr h2).tr h3).tr h4))) (pt.ext (h1.tr (((k1.tr h2).tr h3).tr h4))) (rm.ext h4) (fun w' e hne => absurd (whyF_one (by omega) (by omega) (by simp)) hne) fun m v w5 hm _ h5 hb => ?_
      obtain rfl : m = 1 := by omega
      have hb := hb.bd
      have z5 := h5.size
      refine ⟨((((k1.tr h2).tr h3).tr h4).tr h5), ?_⟩
      refine ex20 (ex21 ?_)
      refine put_birth (((c2.ext h3).ext h4).ext h5) rfl hb (fun b hb => by have := hb.1; have := hb.2; omega) fun we fe ce hbe => ?_
      have ke : Ext w1 we := ((((k1.tr h2).tr h3).tr h4).tr h5).tn fe (fun x hx => by omega)
      refine ⟨ke, ?_⟩
      exact alive_end34 ce hbe ((pt.ext h1).ext ke) fun w' e => h _ ((h1.tr ke).tr e)
end Go.Proofs.YtkpgmaiklfjjgaaGreatDoor
end
section
set_option maxRecDepth 100000
set_option linter.unusedVariables false
namespace Go.Proofs.YtkpgmaiklfjjgaaGreatDoor
open Go.G

/-! oubliette/oubliettelaw34.EpochBorn -/
def oubliettelaw34_EpochBorn.pl : Nat → DrawPlan
  | _ => ⟨[], .done⟩
def oubliettelaw34_EpochBorn.c5 (x0 : Value) (x1 : Value) (x2 : Value) (x10 : Value) (x17 : Value) (g : Nat → Value) (R : KV) (X : KX) (w : World) : Prop :=
  pBinI .neq .i64 x17 (.int .i64 0) fun t128 =>
  gIf t128 false (fun K => pLdN (· = w) 3 x10 K) fun t130 =>
  gIfW t128 false (fun w K => pCall Tryz.prog 12 [t130] X w K) w fun t131 w =>
  gIf t128 false (fun K => K x0) fun t132 =>
  gIf t128 false (fun K => K x1) fun t133 =>
  gIf t128 false (fun K => K x2) fun t134 =>
  gIfW t128 false (fun w K => pCall Tryz.prog 15 [t132, t133, t134] X w K) w fun t135 w =>
  gIfW t128 false (fun w K => pCall Tryz.prog 11 [t131, t135] X w K) w fun t136 w =>
  pPick t128 (.bool true) t136 fun t137 =>
  gIfW t137 true (fun w K => pCall Tryz.prog 5 [] X w K) w fun t139 w =>
  pPick t137 t139 (.bool false) fun t140 =>
  R t140 w
def oubliettelaw34_EpochBorn.C5 (e : List Value) (R : KV) (X : KX) (w : World) : Prop := atP Tryz.prog Tryz.f3 oubliettelaw34_EpochBorn.pl [1, 1, 1, 1, 1, 1, 1, 1, 1, 1, 1, 1] [] R X e w
theorem oubliettelaw34_EpochBorn.c5_eq (x0 : Value) (x1 : Value) (x2 : Value) (x10 : Value) (x17 : Value) (g : Nat → Value) (R : KV) (X : KX) (w : World) : atP Tryz.prog Tryz.f3 oubliettelaw34_EpochBorn.pl [1, 1, 1, 1, 1, 1, 1, 1, 1, 1, 1, 1] [] R X [x0, x1, x2, g 3, g 4, g 5, g 6, g 7, g 8, g 9, x10, g 11, g 12, g 13, g 14, g 15, g 16, x17, g 18, g 19, g 20, g 21, g 22, g 23, g 24, g 25, g 26, g 27, g 28, g 29, g 30, g 31, g 32, g 33, g 34, g 35, g 36, g 37, g 38, g 39, g 40, g 41, g 42, g 43, g 44, g 45, g 46, g 47, g 48, g 49, g 50, g 51, g 52, g 53, g 54, g 55, g 56, g 57, g 58, g 59, g 60, g 61, g 62, g 63, g 64, g 65, g 66, g 67, g 68, g 69, g 70, g 71, g 72, g 73, g 74, g 75, g 76, g 77, g 78, g 79, g 80, g 81, g 82, g 83, g 84, g 85, g 86, g 87, g 88, g 89, g 90, g 91, g 92, g 93, g 94, g 95, g 96, g 97, g 98, g 99, g 100, g 101, g 102, g 103, g 104, g 105, g 106, g 107, g 108, g 109, g 110, g 111, g 112, g 113, g 114, g 115, g 116, g 117, g 118, g 119, g 120, g 121, g 122, g 123, g 124, g 125, g 126, g 127, g 128, g 129, g 130, g 131, g 132, g 133, g 134, g 135, g 136, g 137, g 138, g 139, g 140] w = oubliettelaw34_EpochBorn.c5 x0 x1 x2 x10 x17 g R X w := by kernel_rfl
theorem oubliettelaw34_EpochBorn.c5_at {e0 e1 e2 e3 e4 e5 e6 e7 e8 e9 e10 e11 e12 e13 e14 e15 e16 e17 e18 e19 e20 e21 e22 e23 e24 e25 e26 e27 e28 e29 e30 e31 e32 e33 e34 e35 e36 e37 e38 e39 e40 e41 e42 e43 e44 e45 e46 e47 e48 e49 e50 e51 e52 e53 e54 e55 e56 e57 e58 e59 e60 e61 e62 e63 e64 e65 e66 e67 e68 e69 e70 e71 e72 e73 e74 e75 e76 e77 e78 e79 e80 e81 e82 e83 e84 e85 e86 e87 e88 e89 e90 e91 e92 e93 e94 e95 e96 e97 e98 e99 e100 e101 e102 e103 e104 e105 e106 e107 e108 e109 e110 e111 e112 e113 e114 e115 e116 e117 e118 e119 e120 e121 e122 e123 e124 e125 e126 e127 e128 e129 e130 e131 e132 e133 e134 e135 e136 e137 e138 e139 e140 : Value} {R : KV} {X : KX} {w : World} (h : oubliettelaw34_EpochBorn.c5 e0 e1 e2 e10 e17 (fun i => nth [e0, e1, e2, e3, e4, e5, e6, e7, e8, e9, e10, e11, e12, e13, e14, e15, e16, e17, e18, e19, e20, e21, e22, e23, e24, e25, e26, e27, e28, e29, e30, e31, e32, e33, e34, e35, e36, e37, e38, e39, e40, e41, e42, e43, e44, e45, e46, e47, e48, e49, e50, e51, e52, e53, e54, e55, e56, e57, e58, e59, e60, e61, e62, e63, e64, e65, e66, e67, e68, e69, e70, e71, e72, e73, e74, e75, e76, e77, e78, e79, e80, e81, e82, e83, e84, e85, e86, e87, e88, e89, e90, e91, e92, e93, e94, e95, e96, e97, e98, e99, e100, e101, e102, e103, e104, e105, e106, e107, e108, e109, e110, e111, e112, e113, e114, e115, e116, e117, e118, e119, e120, e121, e122, e123, e124, e125, e126, e127, e128, e129, e130, e131, e132, e133, e134, e135, e136, e137, e138, e139, e140] i) R X w) : oubliettelaw34_EpochBorn.C5 [e0, e1, e2, e3, e4, e5, e6, e7, e8, e9, e10, e11, e12, e13, e14, e15, e16, e17, e18, e19, e20, e21, e22, e23, e24, e25, e26, e27, e28, e29, e30, e31, e32, e33, e34, e35, e36, e37, e38, e39, e40, e41, e42, e43, e44, e45, e46, e47, e48, e49, e50, e51, e52, e53, e54, e55, e56, e57, e58, e59, e60, e61, e62, e63, e64, e65, e66, e67, e68, e69, e70, e71, e72, e73, e74, e75, e76, e77, e78, e79, e80, e81, e82, e83, e84, e85, e86, e87, e88, e89, e90, e91, e92, e93, e94, e95, e96, e97, e98, e99, e100, e101, e102, e103, e104, e105, e106, e107, e108, e109, e110, e111, e112, e113, e114, e115, e116, e117, e118, e119, e120, e121, e122, e123, e124, e125, e126, e127, e128, e129, e130, e131, e132, e133, e134, e135, e136, e137, e138, e139, e140] R X w :=
  Eq.mpr (oubliettelaw34_EpochBorn.c5_eq e0 e1 e2 e10 e17 (fun i => nth [e0, e1, e2, e3, e4, e5, e6, e7, e8, e9, e10, e11, e12, e13, e14, e15, e16, e17, e18, e19, e20, e21, e22, e23, e24, e25, e26, e27, e28, e29, e30, e31, e32, e33, e34, e35, e36, e37, e38, e39, e40, e41, e42, e43, e44, e45, e46, e47, e48, e49, e50, e51, e52, e53, e54, e55, e56, e57, e58, e59, e60, e61, e62, e63, e64, e65, e66, e67, e68, e69, e70, e71, e72, e73, e74, e75, e76, e77, e78, e79, e80, e81, e82, e83, e84, e85, e86, e87, e88, e89, e90, e91, e92, e93, e94, e95, e96, e97, e98, e99, e100, e101, e102, e103, e104, e105, e106, e107, e108, e109, e110, e111, e112, e113, e114, e115, e116, e117, e118, e119, e120, e121, e122, e123, e124, e125, e126, e127, e128, e129, e130, e131, e132, e133, e134, e135, e136, e137, e138, e139, e140] i) R X w) h
def oubliettelaw34_EpochBorn.c4 (x0 : Value) (x2 : Value) (x8 : Value) (x12 : Value) (x16 : Value) (g : Nat → Value) (R : KV) (X : KX) (w : World) : Prop :=
  pBinI .eql .i64 x16 (.int .i64 0) fun t108 =>
  gIf t108 true (fun K => pLdN (· = w) 3 x8 K) fun t110 =>
  gIfW t108 true (fun w K => pCall Tryz.prog 12 [t110] X w K) w fun t111 w =>
  gIf t108 true (fun K => K x0) fun t112 =>
  gIf t108 true (fun K => K x2) fun t113 =>
  gIfW t108 true (fun w K => pCall Tryz.prog 13 [t112, t113] X w K) w fun t114 w =>
  gIfW t108 true (fun w K => pCall Tryz.prog 11 [t111, t114] X w K) w fun t115 w =>
  gIf t108 true (fun K => pNot t115 K) fun t116 =>
  gIf t108 true (fun K => K t116) fun t117 =>
  gIf t117 false (fun K => pLdN (· = w) 3 x12 K) fun t118 =>
  gIfW t117 false (fun w K => pCall Tryz.prog 12 [t118] X w K) w fun t119 w =>
  gIf t117 false (fun K => K x0) fun t120 =>
  gIf t117 false (fun K => K x2) fun t121 =>
  gIfW t117 false (fun w K => pCall Tryz.prog 14 [t120, t121] X w K) w fun t122 w =>
  gIfW t117 false (fun w K => pCall Tryz.prog 11 [t119, t122] X w K) w fun t123 w =>
  gIf t117 false (fun K => pNot t123 K) fun t124 =>
  gIf t108 true (fun K => pPick t117 (.bool true) t124 K) fun t125 =>
  pPick t108 t125 (.bool false) fun t126 =>
  scond t126
  (R (.bool false) w)
  (oubliettelaw34_EpochBorn.C5 [x0, (g 1), x2, (g 3), (g 4), (g 5), (g 6), (g 7), x8, (g 9), (g 10), (g 11), x12, (g 13), (g 14), (g 15), x16, (g 17), (g 18), (g 19), (g 20), (g 21), (g 22), (g 23), (g 24), (g 25), (g 26), (g 27), (g 28), (g 29), (g 30), (g 31), (g 32), (g 33), (g 34), (g 35), (g 36), (g 37), (g 38), (g 39), (g 40), (g 41), (g 42), (g 43), (g 44), (g 45), (g 46), (g 47), (g 48), (g 49), (g 50), (g 51), (g 52), (g 53), (g 54), (g 55), (g 56), (g 57), (g 58), (g 59), (g 60), (g 61), (g 62), (g 63), (g 64), (g 65), (g 66), (g 67), (g 68), (g 69), (g 70), (g 71), (g 72), (g 73), (g 74), (g 75), (g 76), (g 77), (g 78), (g 79), (g 80), (g 81), (g 82), (g 83), (g 84), (g 85), (g 86), (g 87), (g 88), (g 89), (g 90), (g 91), (g 92), (g 93), (g 94), (g 95), (g 96), (g 97), (g 98), (g 99), (g 100), (g 101), (g 102), (g 103), (g 104), (g 105), (g 106), x16, t108, t108, t110, t111, t112, t113, t114, t115, t116, t117, t118, t119, t120, t121, t122, t123, t124, t125, t126, (g 127), (g 128), (g 129), (g 130), (g 131), (g 132), (g 133), (g 134), (g 135), (g 136), (g 137), (g 138), (g 139), (g 140)] R X w)
def oubliettelaw34_EpochBorn.C4 (e : List Value) (R : KV) (X : KX) (w : World) : Prop := atP Tryz.prog Tryz.f3 oubliettelaw34_EpochBorn.pl [1, 1, 1, 1, 1, 1, 1, 1, 1, 1, 1] [] R X e w
theorem oubliettelaw34_EpochBorn.c4_eq (x0 : Value) (x2 : Value) (x8 : Value) (x12 : Value) (x16 : Value) (g : Nat → Value) (R : KV) (X : KX) (w : World) : atP Tryz.prog Tryz.f3 oubliettelaw34_EpochBorn.pl [1, 1, 1, 1, 1, 1, 1, 1, 1, 1, 1] [] R X [x0, g 1, x2, g 3, g 4, g 5, g 6, g 7, x8, g 9, g 10, g 11, x12, g 13, g 14, g 15, x16, g 17, g 18, g 19, g 20, g 21, g 22, g 23, g 24, g 25, g 26, g 27, g 28, g 29, g 30, g 31, g 32, g 33, g 34, g 35, g 36, g 37, g 38, g 39, g 40, g 41, g 42, g 43, g 44, g 45, g 46, g 47, g 48, g 49, g 50, g 51, g 52, g 53, g 54, g 55, g 56, g 57, g 58, g 59, g 60, g 61, g 62, g 63, g 64, g 65, g 66, g 67, g 68, g 69, g 70, g 71, g 72, g 73, g 74, g 75, g 76, g 77, g 78, g 79, g 80, g 81, g 82, g 83, g 84, g 85, g 86, g 87, g 88, g 89, g 90, g 91, g 92, g 93, g 94, g 95, g 96, g 97, g 98, g 99, g 100, g 101, g 102, g 103, g 104, g 105, g 106, g 107, g 108, g 109, g 110, g 111, g 112, g 113, g 114, g 115, g 116, g 117, g 118, g 119, g 120, g 121, g 122, g 123, g 124, g 125, g 126, g 127, g 128, g 129, g 130, g 131, g 132, g 133, g 134, g 135, g 136, g 137, g 138, g 139, g 140] w = oubliettelaw34_EpochBorn.c4 x0 x2 x8 x12 x16 g R X w := by kernel_rfl
theorem oubliettelaw34_EpochBorn.c4_at {e0 e1 e2 e3 e4 e5 e6 e7 e8 e9 e10 e11 e12 e13 e14 e15 e16 e17 e18 e19 e20 e21 e22 e23 e24 e25 e26 e27 e28 e29 e30 e31 e32 e33 e34 e35 e36 e37 e38 e39 e40 e41 e42 e43 e44 e45 e46 e47 e48 e49 e50 e51 e52 e53 e54 e55 e56 e57 e58 e59 e60 e61 e62 e63 e64 e65 e66 e67 e68 e69 e70 e71 e72 e73 e74 e75 e76 e77 e78 e79 e80 e81 e82 e83 e84 e85 e86 e87 e88 e89 e90 e91 e92 e93 e94 e95 e96 e97 e98 e99 e100 e101 e102 e103 e104 e105 e106 e107 e108 e109 e110 e111 e112 e113 e114 e115 e116 e117 e118 e119 e120 e121 e122 e123 e124 e125 e126 e127 e128 e129 e130 e131 e132 e133 e134 e135 e136 e137 e138 e139 e140 : Value} {R : KV} {X : KX} {w : World} (h : oubliettelaw34_EpochBorn.c4 e0 e2 e8 e12 e16 (fun i => nth [e0, e1, e2, e3, e4, e5, e6, e7, e8, e9, e10, e11, e12, e13, e14, e15, e16, e17, e18, e19, e20, e21, e22, e23, e24, e25, e26, e27, e28, e29, e30, e31, e32, e33, e34, e35, e36, e37, e38, e39, e40, e41, e42, e43, e44, e45, e46, e47, e48, e49, e50, e51, e52, e53, e54, e55, e56, e57, e58, e59, e60, e61, e62, e63, e64, e65, e66, e67, e68, e69, e70, e71, e72, e73, e74, e75, e76, e77, e78, e79, e80, e81, e82, e83, e84, e85, e86, e87, e88, e89, e90, e91, e92, e93, e94, e95, e96, e97, e98, e99, e100, e101, e102, e103, e104, e105, e106, e107, e108, e109, e110, e111, e112, e113, e114, e115, e116, e117, e118, e119, e120, e121, e122, e123, e124, e125, e126, e127, e128, e129, e130, e131, e132, e133, e134, e135, e136, e137, e138, e139, e140] i) R X w) : oubliettelaw34_EpochBorn.C4 [e0, e1, e2, e3, e4, e5, e6, e7, e8, e9, e10, e11, e12, e13, e14, e15, e16, e17, e18, e19, e20, e21, e22, e23, e24, e25, e26, e27, e28, e29, e30, e31, e32, e33, e34, e35, e36, e37, e38, e39, e40, e41, e42, e43, e44, e45, e46, e47, e48, e49, e50, e51, e52, e53, e54, e55, e56, e57, e58, e59, e60, e61, e62, e63, e64, e65, e66, e67, e68, e69, e70, e71, e72, e73, e74, e75, e76, e77, e78, e79, e80, e81, e82, e83, e84, e85, e86, e87, e88, e89, e90, e91, e92, e93, e94, e95, e96, e97, e98, e99, e100, e101, e102, e103, e104, e105, e106, e107, e108, e109, e110, e111, e112, e113, e114, e115, e116, e117, e118, e119, e120, e121, e122, e123, e124, e125, e126, e127, e128, e129, e130, e131, e132, e133, e134, e135, e136, e137, e138, e139, e140] R X w :=
  Eq.mpr (oubliettelaw34_EpochBorn.c4_eq e0 e2 e8 e12 e16 (fun i => nth [e0, e1, e2, e3, e4, e5, e6, e7, e8, e9, e10, e11, e12, e13, e14, e15, e16, e17, e18, e19, e20, e21, e22, e23, e24, e25, e26, e27, e28, e29, e30, e31, e32, e33, e34, e35, e36, e37, e38, e39, e40, e41, e42, e43, e44, e45, e46, e47, e48, e49, e50, e51, e52, e53, e54, e55, e56, e57, e58, e59, e60, e61, e62, e63, e64, e65, e66, e67, e68, e69, e70, e71, e72, e73, e74, e75, e76, e77, e78, e79, e80, e81, e82, e83, e84, e85, e86, e87, e88, e89, e90, e91, e92, e93, e94, e95, e96, e97, e98, e99, e100, e101, e102, e103, e104, e105, e106, e107, e108, e109, e110, e111, e112, e113, e114, e115, e116, e117, e118, e119, e120, e121, e122, e123, e124, e125, e126, e127, e128, e129, e130, e131, e132, e133, e134, e135, e136, e137, e138, e139, e140] i) R X w) h
def oubliettelaw34_EpochBorn.c3 (x8 : Value) (x10 : Value) (x12 : Value) (x16 : Value) (x17 : Value) (g : Nat → Value) (R : KV) (X : KX) (w : World) : Prop :=
  pBinI .neq .i64 x16 (.int .i64 0) fun t81 =>
  gIf t81 true (fun K => pLdN (· = w) 3 x8 K) fun t83 =>
  gIfW t81 true (fun w K => pCall Tryz.prog 12 [t83] X w K) w fun t84 w =>
  gIf t81 true (fun K => pBuild [.slice none 0 0, .slice none 0 0, .slice none 0 0] [] K) fun t85 =>
  gIfW t81 true (fun w K => pCall Tryz.prog 11 [t84, t85] X w K) w fun t86 w =>
  gIf t81 true (fun K => pNot t86 K) fun t87 =>
  gIf t81 true (fun K => K t87) fun t88 =>
  gIf t88 false (fun K => pLdN (· = w) 3 x12 K) fun t89 =>
  gIfW t88 false (fun w K => pCall Tryz.prog 12 [t89] X w K) w fun t90 w =>
  gIf t88 false (fun K => pBuild [.slice none 0 0, .slice none 0 0, .slice none 0 0] [] K) fun t91 =>
  gIfW t88 false (fun w K => pCall Tryz.prog 11 [t90, t91] X w K) w fun t92 w =>
  gIf t88 false (fun K => pNot t92 K) fun t93 =>
  gIf t81 true (fun K => pPick t88 (.bool true) t93 K) fun t94 =>
  pPick t81 t94 (.bool false) fun t95 =>
  gIf t95 false (fun K => K x17) fun t97 =>
  gIf t95 false (fun K => pBinI .neq .i64 t97 (.int .i64 0) K) fun t98 =>
  gIf t95 false (fun K => K t98) fun t99 =>
  gIf t99 true (fun K => pLdN (· = w) 3 x10 K) fun t100 =>
  gIfW t99 true (fun w K => pCall Tryz.prog 12 [t100] X w K) w fun t101 w =>
  gIf t99 true (fun K => pBuild [.slice none 0 0, .slice none 0 0, .slice none 0 0] [] K) fun t102 =>
  gIfW t99 true (fun w K => pCall Tryz.prog 11 [t101, t102] X w K) w fun t103 w =>
  gIf t99 true (fun K => pNot t103 K) fun t104 =>
  gIf t95 false (fun K => pPick t99 t104 (.bool false) K) fun t105 =>
  pPick t95 (.bool true) t105 fun t106 =>
  scond t106
  (R (.bool false) w)
  (oubliettelaw34_EpochBorn.C4 [(g 0), (g 1), (g 2), (g 3), (g 4), (g 5), (g 6), (g 7), x8, (g 9), x10, (g 11), x12, (g 13), (g 14), (g 15), x16, x17, (g 18), (g 19), (g 20), (g 21), (g 22), (g 23), (g 24), (g 25), (g 26), (g 27), (g 28), (g 29), (g 30), (g 31), (g 32), (g 33), (g 34), (g 35), (g 36), (g 37), (g 38), (g 39), (g 40), (g 41), (g 42), (g 43), (g 44), (g 45), (g 46), (g 47), (g 48), (g 49), (g 50), (g 51), (g 52), (g 53), (g 54), (g 55), (g 56), (g 57), (g 58), (g 59), (g 60), (g 61), (g 62), (g 63), (g 64), (g 65), (g 66), (g 67), (g 68), (g 69), (g 70), (g 71), (g 72), (g 73), (g 74), (g 75), (g 76), (g 77), (g 78), (g 79), x16, t81, t81, t83, t84, t85, t86, t87, t88, t89, t90, t91, t92, t93, t94, t95, t95, t97, t98, t99, t100, t101, t102, t103, t104, t105, t106, (g 107), (g 108), (g 109), (g 110), (g 111), (g 112), (g 113), (g 114), (g 115), (g 116), (g 117), (g 118), (g 119), (g 120), (g 121), (g 122), (g 123), (g 124), (g 125), (g 126), (g 127), (g 128), (g 129), (g 130), (g 131), (g 132), (g 133), (g 134), (g 135), (g 136), (g 137), (g 138), (g 139), (g 140)] R X w)
def oubliettelaw34_EpochBorn.C3 (e : List Value) (R : KV) (X : KX) (w : World) : Prop := atP Tryz.prog Tryz.f3 oubliettelaw34_EpochBorn.pl [1, 1, 1, 1, 1, 1, 1, 1, 1, 1] [] R X e w
theorem oubliettelaw34_EpochBorn.c3_eq (x8 : Value) (x10 : Value) (x12 : Value) (x16 : Value) (x17 : Value) (g : Nat → Value) (R : KV) (X : KX) (w : World) : atP Tryz.prog Tryz.f3 oubliettelaw34_EpochBorn.pl [1, 1, 1, 1, 1, 1, 1, 1, 1, 1] [] R X [g 0, g 1, g 2, g 3, g 4, g 5, g 6, g 7, x8, g 9, x10, g 11, x12, g 13, g 14, g 15, x16, x17, g 18, g 19, g 20, g 21, g 22, g 23, g 24, g 25, g 26, g 27, g 28, g 29, g 30, g 31, g 32, g 33, g 34, g 35, g 36, g 37, g 38, g 39, g 40, g 41, g 42, g 43, g 44, g 45, g 46, g 47, g 48, g 49, g 50, g 51, g 52, g 53, g 54, g 55, g 56, g 57, g 58, g 59, g 60, g 61, g 62, g 63, g 64, g 65, g 66, g 67, g 68, g 69, g 70, g 71, g 72, g 73, g 74, g 75, g 76, g 77, g 78, g 79, g 80, g 81, g 82, g 83, g 84, g 85, g 86, g 87, g 88, g 89, g 90, g 91, g 92, g 93, g 94, g 95, g 96, g 97, g 98, g 99, g 100, g 101, g 102, g 103, g 104, g 105, g 106, g 107, g 108, g 109, g 110, g 111, g 112, g 113, g 114, g 115, g 116, g 117, g 118, g 119, g 120, g 121, g 122, g 123, g 124, g 125, g 126, g 127, g 128, g 129, g 130, g 131, g 132, g 133, g 134, g 135, g 136, g 137, g 138, g 139, g 140] w = oubliettelaw34_EpochBorn.c3 x8 x10 x12 x16 x17 g R X w := by kernel_rfl
theorem oubliettelaw34_EpochBorn.c3_at {e0 e1 e2 e3 e4 e5 e6 e7 e8 e9 e10 e11 e12 e13 e14 e15 e16 e17 e18 e19 e20 e21 e22 e23 e24 e25 e26 e27 e28 e29 e30 e31 e32 e33 e34 e35 e36 e37 e38 e39 e40 e41 e42 e43 e44 e45 e46 e47 e48 e49 e50 e51 e52 e53 e54 e55 e56 e57 e58 e59 e60 e61 e62 e63 e64 e65 e66 e67 e68 e69 e70 e71 e72 e73 e74 e75 e76 e77 e78 e79 e80 e81 e82 e83 e84 e85 e86 e87 e88 e89 e90 e91 e92 e93 e94 e95 e96 e97 e98 e99 e100 e101 e102 e103 e104 e105 e106 e107 e108 e109 e110 e111 e112 e113 e114 e115 e116 e117 e118 e119 e120 e121 e122 e123 e124 e125 e126 e127 e128 e129 e130 e131 e132 e133 e134 e135 e136 e137 e138 e139 e140 : Value} {R : KV} {X : KX} {w : World} (h : oubliettelaw34_EpochBorn.c3 e8 e10 e12 e16 e17 (fun i => nth [e0, e1, e2, e3, e4, e5, e6, e7, e8, e9, e10, e11, e12, e13, e14, e15, e16, e17, e18, e19, e20, e21, e22, e23, e24, e25, e26, e27, e28, e29, e30, e31, e32, e33, e34, e35, e36, e37, e38, e39, e40, e41, e42, e43, e44, e45, e46, e47, e48, e49, e50, e51, e52, e53, e54, e55, e56, e57, e58, e59, e60, e61, e62, e63, e64, e65, e66, e67, e68, e69, e70, e71, e72, e73, e74, e75, e76, e77, e78, e79, e80, e81, e82, e83, e84, e85, e86, e87, e88, e89, e90, e91, e92, e93, e94, e95, e96, e97, e98, e99, e100, e101, e102, e103, e104, e105, e106, e107, e108, e109, e110, e111, e112, e113, e114, e115, e116, e117, e118, e119, e120, e121, e122, e123, e124, e125, e126, e127, e128, e129, e130, e131, e132, e133, e134, e135, e136, e137, e138, e139, e140] i) R X w) : oubliettelaw34_EpochBorn.C3 [e0, e1, e2, e3, e4, e5, e6, e7, e8, e9, e10, e11, e12, e13, e14, e15, e16, e17, e18, e19, e20, e21, e22, e23, e24, e25, e26, e27, e28, e29, e30, e31, e32, e33, e34, e35, e36, e37, e38, e39, e40, e41, e42, e43, e44, e45, e46, e47, e48, e49, e50, e51, e52, e53, e54, e55, e56, e57, e58, e59, e60, e61, e62, e63, e64, e65, e66, e67, e68, e69, e70, e71, e72, e73, e74, e75, e76, e77, e78, e79, e80, e81, e82, e83, e84, e85, e86, e87, e88, e89, e90, e91, e92, e93, e94, e95, e96, e97, e98, e99, e100, e101, e102, e103, e104, e105, e106, e107, e108, e109, e110, e111, e112, e113, e114, e115, e116, e117, e118, e119, e120, e121, e122, e123, e124, e125, e126, e127, e128, e129, e130, e131, e132, e133, e134, e135, e136, e137, e138, e139, e140] R X w :=
  Eq.mpr (oubliettelaw34_EpochBorn.c3_eq e8 e10 e12 e16 e17 (fun i => nth [e0, e1, e2, e3, e4, e5, e6, e7, e8, e9, e10, e11, e12, e13, e14, e15, e16, e17, e18, e19, e20, e21, e22, e23, e24, e25, e26, e27, e28, e29, e30, e31, e32, e33, e34, e35, e36, e37, e38, e39, e40, e41, e42, e43, e44, e45, e46, e47, e48, e49, e50, e51, e52, e53, e54, e55, e56, e57, e58, e59, e60, e61, e62, e63, e64, e65, e66, e67, e68, e69, e70, e71, e72, e73, e74, e75, e76, e77, e78, e79, e80, e81, e82, e83, e84, e85, e86, e87, e88, e89, e90, e91, e92, e93, e94, e95, e96, e97, e98, e99, e100, e101, e102, e103, e104, e105, e106, e107, e108, e109, e110, e111, e112, e113, e114, e115, e116, e117, e118, e119, e120, e121, e122, e123, e124, e125, e126, e127, e128, e129, e130, e131, e132, e133, e134, e135, e136, e137, e138, e139, e140] i) R X w) h
def oubliettelaw34_EpochBorn.c2 (x0 : Value) (x1 : Value) (x2 : Value) (x9 : Value) (x11 : Value) (x13 : Value) (g : Nat → Value) (R : KV) (X : KX) (w : World) : Prop :=
  pBSlice 22 1 (rowOf [.slice none 0 0] 1) [(0, 1, x0)] w fun t59 w =>
  pCall Tryz.prog 10 [t59, x2] X w fun t61 w =>
  pBSlice 22 2 (rowOf [.slice none 0 0] 2) [(0, 1, x0), (1, 1, x1)] w fun t64 w =>
  pCall Tryz.prog 10 [t64, x2] X w fun t66 w =>
  pBinI .neq .i64 x9 t61 fun t69 =>
  gIf t69 false (fun K => K x13) fun t71 =>
  gIf t69 false (fun K => K t61) fun t72 =>
  gIf t69 false (fun K => pBinI .neq .i64 t71 t72 K) fun t73 =>
  pPick t69 (.bool true) t73 fun t74 =>
  gIf t74 false (fun K => K x11) fun t76 =>
  gIf t74 false (fun K => K t66) fun t77 =>
  gIf t74 false (fun K => pBinI .neq .i64 t76 t77 K) fun t78 =>
  pPick t74 (.bool true) t78 fun t79 =>
  scond t79
  (R (.bool false) w)
  (oubliettelaw34_EpochBorn.C3 [x0, x1, x2, (g 3), (g 4), (g 5), (g 6), (g 7), (g 8), x9, (g 10), x11, (g 12), x13, (g 14), (g 15), t61, t66, (g 18), (g 19), (g 20), (g 21), (g 22), (g 23), (g 24), (g 25), (g 26), (g 27), (g 28), (g 29), (g 30), (g 31), (g 32), (g 33), (g 34), (g 35), (g 36), (g 37), (g 38), (g 39), (g 40), (g 41), (g 42), (g 43), (g 44), (g 45), (g 46), (g 47), (g 48), (g 49), (g 50), (g 51), (g 52), (g 53), (g 54), (g 55), (g 56), (g 57), x0, t59, x2, t61, x0, x1, t64, x2, t66, x9, t61, t69, t69, t71, t72, t73, t74, t74, t76, t77, t78, t79, (g 80), (g 81), (g 82), (g 83), (g 84), (g 85), (g 86), (g 87), (g 88), (g 89), (g 90), (g 91), (g 92), (g 93), (g 94), (g 95), (g 96), (g 97), (g 98), (g 99), (g 100), (g 101), (g 102), (g 103), (g 104), (g 105), (g 106), (g 107), (g 108), (g 109), (g 110), (g 111), (g 112), (g 113), (g 114), (g 115), (g 116), (g 117), (g 118), (g 119), (g 120), (g 121), (g 122), (g 123), (g 124), (g 125), (g 126), (g 127), (g 128), (g 129), (g 130), (g 131), (g 132), (g 133), (g 134), (g 135), (g 136), (g 137), (g 138), (g 139), (g 140)] R X w)
def oubliettelaw34_EpochBorn.C2 (e : List Value) (R : KV) (X : KX) (w : World) : Prop := atP Tryz.prog Tryz.f3 oubliettelaw34_EpochBorn.pl [1, 1, 1, 1, 1, 1, 1, 1] [] R X e w
theorem oubliettelaw34_EpochBorn.c2_eq (x0 : Value) (x1 : Value) (x2 : Value) (x9 : Value) (x11 : Value) (x13 : Value) (g : Nat → Value) (R : KV) (X : KX) (w : World) : atP Tryz.prog Tryz.f3 oubliettelaw34_EpochBorn.pl [1, 1, 1, 1, 1, 1, 1, 1] [] R X [x0, x1, x2, g 3, g 4, g 5, g 6, g 7, g 8, x9, g 10, x11, g 12, x13, g 14, g 15, g 16, g 17, g 18, g 19, g 20, g 21, g 22, g 23, g 24, g 25, g 26, g 27, g 28, g 29, g 30, g 31, g 32, g 33, g 34, g 35, g 36, g 37, g 38, g 39, g 40, g 41, g 42, g 43, g 44, g 45, g 46, g 47, g 48, g 49, g 50, g 51, g 52, g 53, g 54, g 55, g 56, g 57, g 58, g 59, g 60, g 61, g 62, g 63, g 64, g 65, g 66, g 67, g 68, g 69, g 70, g 71, g 72, g 73, g 74, g 75, g 76, g 77, g 78, g 79, g 80, g 81, g 82, g 83, g 84, g 85, g 86, g 87, g 88, g 89, g 90, g 91, g 92, g 93, g 94, g 95, g 96, g 97, g 98, g 99, g 100, g 101, g 102, g 103, g 104, g 105, g 106, g 107, g 108, g 109, g 110, g 111, g 112, g 113, g 114, g 115, g 116, g 117, g 118, g 119, g 120, g 121, g 122, g 123, g 124, g 125, g 126, g 127, g 128, g 129, g 130, g 131, g 132, g 133, g 134, g 135, g 136, g 137, g 138, g 139, g 140] w = oubliettelaw34_EpochBorn.c2 x0 x1 x2 x9 x11 x13 g R X w := by kernel_rfl
theorem oubliettelaw34_EpochBorn.c2_at {e0 e1 e2 e3 e4 e5 e6 e7 e8 e9 e10 e11 e12 e13 e14 e15 e16 e17 e18 e19 e20 e21 e22 e23 e24 e25 e26 e27 e28 e29 e30 e31 e32 e33 e34 e35 e36 e37 e38 e39 e40 e41 e42 e43 e44 e45 e46 e47 e48 e49 e50 e51 e52 e53 e54 e55 e56 e57 e58 e59 e60 e61 e62 e63 e64 e65 e66 e67 e68 e69 e70 e71 e72 e73 e74 e75 e76 e77 e78 e79 e80 e81 e82 e83 e84 e85 e86 e87 e88 e89 e90 e91 e92 e93 e94 e95 e96 e97 e98 e99 e100 e101 e102 e103 e104 e105 e106 e107 e108 e109 e110 e111 e112 e113 e114 e115 e116 e117 e118 e119 e120 e121 e122 e123 e124 e125 e126 e127 e128 e129 e130 e131 e132 e133 e134 e135 e136 e137 e138 e139 e140 : Value} {R : KV} {X : KX} {w : World} (h : oubliettelaw34_EpochBorn.c2 e0 e1 e2 e9 e11 e13 (fun i => nth [e0, e1, e2, e3, e4, e5, e6, e7, e8, e9, e10, e11, e12, e13, e14, e15, e16, e17, e18, e19, e20, e21, e22, e23, e24, e25, e26, e27, e28, e29, e30, e31, e32, e33, e34, e35, e36, e37, e38, e39, e40, e41, e42, e43, e44, e45, e46, e47, e48, e49, e50, e51, e52, e53, e54, e55, e56, e57, e58, e59, e60, e61, e62, e63, e64, e65, e66, e67, e68, e69, e70, e71, e72, e73, e74, e75, e76, e77, e78, e79, e80, e81, e82, e83, e84, e85, e86, e87, e88, e89, e90, e91, e92, e93, e94, e95, e96, e97, e98, e99, e100, e101, e102, e103, e104, e105, e106, e107, e108, e109, e110, e111, e112, e113, e114, e115, e116, e117, e118, e119, e120, e121, e122, e123, e124, e125, e126, e127, e128, e129, e130, e131, e132, e133, e134, e135, e136, e137, e138, e139, e140] i) R X w) : oubliettelaw34_EpochBorn.C2 [e0, e1, e2, e3, e4, e5, e6, e7, e8, e9, e10, e11, e12, e13, e14, e15, e16, e17, e18, e19, e20, e21, e22, e23, e24, e25, e26, e27, e28, e29, e30, e31, e32, e33, e34, e35, e36, e37, e38, e39, e40, e41, e42, e43, e44, e45, e46, e47, e48, e49, e50, e51, e52, e53, e54, e55, e56, e57, e58, e59, e60, e61, e62, e63, e64, e65, e66, e67, e68, e69, e70, e71, e72, e73, e74, e75, e76, e77, e78, e79, e80, e81, e82, e83, e84, e85, e86, e87, e88, e89, e90, e91, e92, e93, e94, e95, e96, e97, e98, e99, e100, e101, e102, e103, e104, e105, e106, e107, e108, e109, e110, e111, e112, e113, e114, e115, e116, e117, e118, e119, e120, e121, e122, e123, e124, e125, e126, e127, e128, e129, e130, e131, e132, e133, e134, e135, e136, e137, e138, e139, e140] R X w :=
  Eq.mpr (oubliettelaw34_EpochBorn.c2_eq e0 e1 e2 e9 e11 e13 (fun i => nth [e0, e1, e2, e3, e4, e5, e6, e7, e8, e9, e10, e11, e12, e13, e14, e15, e16, e17, e18, e19, e20, e21, e22, e23, e24, e25, e26, e27, e28, e29, e30, e31, e32, e33, e34, e35, e36, e37, e38, e39, e40, e41, e42, e43, e44, e45, e46, e47, e48, e49, e50, e51, e52, e53, e54, e55, e56, e57, e58, e59, e60, e61, e62, e63, e64, e65, e66, e67, e68, e69, e70, e71, e72, e73, e74, e75, e76, e77, e78, e79, e80, e81, e82, e83, e84, e85, e86, e87, e88, e89, e90, e91, e92, e93, e94, e95, e96, e97, e98, e99, e100, e101, e102, e103, e104, e105, e106, e107, e108, e109, e110, e111, e112, e113, e114, e115, e116, e117, e118, e119, e120, e121, e122, e123, e124, e125, e126, e127, e128, e129, e130, e131, e132, e133, e134, e135, e136, e137, e138, e139, e140] i) R X w) h
def oubliettelaw34_EpochBorn.c1 (x0 : Value) (x1 : Value) (x2 : Value) (g : Nat → Value) (R : KV) (X : KX) (w : World) : Prop :=
  pCall Tryz.prog 6 [(.slice none 0 0)] X w fun t27 w =>
  pCall Tryz.prog 7 [t27, x0, x2] X w fun t32 w =>
  pExt t32 0 fun t33 =>
  pExt t32 1 fun t34 =>
  pBox 30 (.agg #[.slice none 0 0, .slice none 0 0, .slice none 0 0]) w fun t8 w =>
  pStN 3 t8 t33 w fun _ w =>
  pCall Tryz.prog 8 [t27, x0, x1, x2] X w fun t40 w =>
  pExt t40 0 fun t41 =>
  pExt t40 1 fun t42 =>
  pBox 30 (.agg #[.slice none 0 0, .slice none 0 0, .slice none 0 0]) w fun t10 w =>
  pStN 3 t10 t41 w fun _ w =>
  pCall Tryz.prog 9 [t27, x0, x2] X w fun t47 w =>
  pExt t47 0 fun t48 =>
  pExt t47 1 fun t49 =>
  pBox 30 (.agg #[.slice none 0 0, .slice none 0 0, .slice none 0 0]) w fun t12 w =>
  pStN 3 t12 t48 w fun _ w =>
  pCall Tryz.prog 7 [(.pointer none), x0, x2] X w fun t53 w =>
  pExt t53 0 fun t54 =>
  pExt t53 1 fun t55 =>
  pBox 30 (.agg #[.slice none 0 0, .slice none 0 0, .slice none 0 0]) w fun t14 w =>
  pStN 3 t14 t54 w fun _ w =>
  pBinI .neq .i64 t55 (.int .i64 1) fun t57 =>
  scond t57
  (R (.bool false) w)
  (oubliettelaw34_EpochBorn.C2 [x0, x1, x2, (g 3), (g 4), (g 5), (g 6), t27, t8, t34, t10, t42, t12, t49, t14, t55, (g 16), (g 17), (g 18), (g 19), (g 20), (g 21), (g 22), (g 23), (g 24), (g 25), (g 26), t27, t32, t27, x0, x2, t32, t33, t34, t40, t27, x0, x1, x2, t40, t41, t42, t47, t27, x0, x2, t47, t48, t49, t53, x0, x2, t53, t54, t55, t55, t57, (g 58), (g 59), (g 60), (g 61), (g 62), (g 63), (g 64), (g 65), (g 66), (g 67), (g 68), (g 69), (g 70), (g 71), (g 72), (g 73), (g 74), (g 75), (g 76), (g 77), (g 78), (g 79), (g 80), (g 81), (g 82), (g 83), (g 84), (g 85), (g 86), (g 87), (g 88), (g 89), (g 90), (g 91), (g 92), (g 93), (g 94), (g 95), (g 96), (g 97), (g 98), (g 99), (g 100), (g 101), (g 102), (g 103), (g 104), (g 105), (g 106), (g 107), (g 108), (g 109), (g 110), (g 111), (g 112), (g 113), (g 114), (g 115), (g 116), (g 117), (g 118), (g 119), (g 120), (g 121), (g 122), (g 123), (g 124), (g 125), (g 126), (g 127), (g 128), (g 129), (g 130), (g 131), (g 132), (g 133), (g 134), (g 135), (g 136), (g 137), (g 138), (g 139), (g 140)] R X w)
def oubliettelaw34_EpochBorn.C1 (e : List Value) (R : KV) (X : KX) (w : World) : Prop := atP Tryz.prog Tryz.f3 oubliettelaw34_EpochBorn.pl [1, 1] [] R X e w
theorem oubliettelaw34_EpochBorn.c1_eq (x0 : Value) (x1 : Value) (x2 : Value) (g : Nat → Value) (R : KV) (X : KX) (w : World) : atP Tryz.prog Tryz.f3 oubliettelaw34_EpochBorn.pl [1, 1] [] R X [x0, x1, x2, g 3, g 4, g 5, g 6, g 7, g 8, g 9, g 10, g 11, g 12, g 13, g 14, g 15, g 16, g 17, g 18, g 19, g 20, g 21, g 22, g 23, g 24, g 25, g 26, g 27, g 28, g 29, g 30, g 31, g 32, g 33, g 34, g 35, g 36, g 37, g 38, g 39, g 40, g 41, g 42, g 43, g 44, g 45, g 46, g 47, g 48, g 49, g 50, g 51, g 52, g 53, g 54, g 55, g 56, g 57, g 58, g 59, g 60, g 61, g 62, g 63, g 64, g 65, g 66, g 67, g 68, g 69, g 70, g 71, g 72, g 73, g 74, g 75, g 76, g 77, g 78, g 79, g 80, g 81, g 82, g 83, g 84, g 85, g 86, g 87, g 88, g 89, g 90, g 91, g 92, g 93, g 94, g 95, g 96, g 97, g 98, g 99, g 100, g 101, g 102, g 103, g 104, g 105, g 106, g 107, g 108, g 109, g 110, g 111, g 112, g 113, g 114, g 115, g 116, g 117, g 118, g 119, g 120, g 121, g 122, g 123, g 124, g 125, g 126, g 127, g 128, g 129, g 130, g 131, g 132, g 133, g 134, g 135, g 136, g 137, g 138, g 139, g 140] w = oubliettelaw34_EpochBorn.c1 x0 x1 x2 g R X w := by kernel_rfl
theorem oubliettelaw34_EpochBorn.c1_at {e0 e1 e2 e3 e4 e5 e6 e7 e8 e9 e10 e11 e12 e13 e14 e15 e16 e17 e18 e19 e20 e21 e22 e23 e24 e25 e26 e27 e28 e29 e30 e31 e32 e33 e34 e35 e36 e37 e38 e39 e40 e41 e42 e43 e44 e45 e46 e47 e48 e49 e50 e51 e52 e53 e54 e55 e56 e57 e58 e59 e60 e61 e62 e63 e64 e65 e66 e67 e68 e69 e70 e71 e72 e73 e74 e75 e76 e77 e78 e79 e80 e81 e82 e83 e84 e85 e86 e87 e88 e89 e90 e91 e92 e93 e94 e95 e96 e97 e98 e99 e100 e101 e102 e103 e104 e105 e106 e107 e108 e109 e110 e111 e112 e113 e114 e115 e116 e117 e118 e119 e120 e121 e122 e123 e124 e125 e126 e127 e128 e129 e130 e131 e132 e133 e134 e135 e136 e137 e138 e139 e140 : Value} {R : KV} {X : KX} {w : World} (h : oubliettelaw34_EpochBorn.c1 e0 e1 e2 (fun i => nth [e0, e1, e2, e3, e4, e5, e6, e7, e8, e9, e10, e11, e12, e13, e14, e15, e16, e17, e18, e19, e20, e21, e22, e23, e24, e25, e26, e27, e28, e29, e30, e31, e32, e33, e34, e35, e36, e37, e38, e39, e40, e41, e42, e43, e44, e45, e46, e47, e48, e49, e50, e51, e52, e53, e54, e55, e56, e57, e58, e59, e60, e61, e62, e63, e64, e65, e66, e67, e68, e69, e70, e71, e72, e73, e74, e75, e76, e77, e78, e79, e80, e81, e82, e83, e84, e85, e86, e87, e88, e89, e90, e91, e92, e93, e94, e95, e96, e97, e98, e99, e100, e101, e102, e103, e104, e105, e106, e107, e108, e109, e110, e111, e112, e113, e114, e115, e116, e117, e118, e119, e120, e121, e122, e123, e124, e125, e126, e127, e128, e129, e130, e131, e132, e133, e134, e135, e136, e137, e138, e139, e140] i) R X w) : oubliettelaw34_EpochBorn.C1 [e0, e1, e2, e3, e4, e5, e6, e7, e8, e9, e10, e11, e12, e13, e14, e15, e16, e17, e18, e19, e20, e21, e22, e23, e24, e25, e26, e27, e28, e29, e30, e31, e32, e33, e34, e35, e36, e37, e38, e39, e40, e41, e42, e43, e44, e45, e46, e47, e48, e49, e50, e51, e52, e53, e54, e55, e56, e57, e58, e59, e60, e61, e62, e63, e64, e65, e66, e67, e68, e69, e70, e71, e72, e73, e74, e75, e76, e77, e78, e79, e80, e81, e82, e83, e84, e85, e86, e87, e88, e89, e90, e91, e92, e93, e94, e95, e96, e97, e98, e99, e100, e101, e102, e103, e104, e105, e106, e107, e108, e109, e110, e111, e112, e113, e114, e115, e116, e117, e118, e119, e120, e121, e122, e123, e124, e125, e126, e127, e128, e129, e130, e131, e132, e133, e134, e135, e136, e137, e138, e139, e140] R X w :=
  Eq.mpr (oubliettelaw34_EpochBorn.c1_eq e0 e1 e2 (fun i => nth [e0, e1, e2, e3, e4, e5, e6, e7, e8, e9, e10, e11, e12, e13, e14, e15, e16, e17, e18, e19, e20, e21, e22, e23, e24, e25, e26, e27, e28, e29, e30, e31, e32, e33, e34, e35, e36, e37, e38, e39, e40, e41, e42, e43, e44, e45, e46, e47, e48, e49, e50, e51, e52, e53, e54, e55, e56, e57, e58, e59, e60, e61, e62, e63, e64, e65, e66, e67, e68, e69, e70, e71, e72, e73, e74, e75, e76, e77, e78, e79, e80, e81, e82, e83, e84, e85, e86, e87, e88, e89, e90, e91, e92, e93, e94, e95, e96, e97, e98, e99, e100, e101, e102, e103, e104, e105, e106, e107, e108, e109, e110, e111, e112, e113, e114, e115, e116, e117, e118, e119, e120, e121, e122, e123, e124, e125, e126, e127, e128, e129, e130, e131, e132, e133, e134, e135, e136, e137, e138, e139, e140] i) R X w) h
def oubliettelaw34_EpochBorn.b (x0 : Value) (x1 : Value) (x2 : Value) (R : KV) (X : KX) (w : World) : Prop :=
  pLenSl x0 fun t19 =>
  pBinI .gtr .i64 t19 (.int .i64 100) fun t20 =>
  gIf t20 false (fun K => K x1) fun t22 =>
  gIf t20 false (fun K => pLenSl t22 K) fun t23 =>
  gIf t20 false (fun K => pBinI .gtr .i64 t23 (.int .i64 100) K) fun t24 =>
  pPick t20 (.bool true) t24 fun t25 =>
  scond t25
  (pCall Tryz.prog 5 [] X w fun t26 w =>
    R t26 w)
  (oubliettelaw34_EpochBorn.C1 [x0, x1, x2, undef, undef, undef, (.bool false), undef, undef, undef, undef, undef, undef, undef, undef, undef, undef, undef, x0, t19, t20, t20, t22, t23, t24, t25, undef, undef, undef, undef, undef, undef, undef, undef, undef, undef, undef, undef, undef, undef, undef, undef, undef, undef, undef, undef, undef, undef, undef, undef, undef, undef, undef, undef, undef, undef, undef, undef, undef, undef, undef, undef, undef, undef, undef, undef, undef, undef, undef, undef, undef, undef, undef, undef, undef, undef, undef, undef, undef, undef, undef, undef, undef, undef, undef, undef, undef, undef, undef, undef, undef, undef, undef, undef, undef, undef, undef, undef, undef, undef, undef, undef, undef, undef, undef, undef, undef, undef, undef, undef, undef, undef, undef, undef, undef, undef, undef, undef, undef, undef, undef, undef, undef, undef, undef, undef, undef, undef, undef, undef, undef, undef, undef, undef, undef, undef, undef, undef, undef, undef, undef] R X w)
theorem oubliettelaw34_EpochBorn.b_eq (x0 : Value) (x1 : Value) (x2 : Value) (R : KV) (X : KX) (w : World) : atP Tryz.prog Tryz.f3 oubliettelaw34_EpochBorn.pl [] [] R X ([x0, x1, x2] ++ undefs 138) w = oubliettelaw34_EpochBorn.b x0 x1 x2 R X w := by kernel_rfl
theorem oubliettelaw34_EpochBorn.calls {x0 x1 x2 : Value} {R : KV} {X : KX} {w : World} (h : oubliettelaw34_EpochBorn.b x0 x1 x2 R X w) : GCalls Tryz.prog 3 [x0, x1, x2] R X w :=
  gcalls_of (pl := oubliettelaw34_EpochBorn.pl) Tryz.func3 rfl (by kernel_rfl) hmixed (oubliettelaw34_EpochBorn.b_eq x0 x1 x2 R X w ▸ h)
end Go.Proofs.YtkpgmaiklfjjgaaGreatDoor
end
