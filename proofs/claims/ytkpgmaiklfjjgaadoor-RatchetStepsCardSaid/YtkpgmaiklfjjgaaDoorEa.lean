/-
  The steps of a chain.
-/
import Derived.Test.YtkpgmaiklfjjgaaDoorDz
set_option linter.unusedSimpArgs false
set_option linter.unusedVariables false
namespace Go.Proofs.YtkpgmaiklfjjgaaDoor
open Go Go.G Go.RowKit
variable {X : KX} {w : World} {K : KV} {D D' D1 D2 D3 D4 D5 D6 : Nat → Prop}
theorem fillMid {z0 z1 z2 a : Value} (ha : one a = true) : fillL [z0, z1, z2] [(1, 1, a)] = some [z0, a, z2] := by simp [fillL, one_cells ha, cutIn]
set_option maxHeartbeats 1000000 in
theorem steps_end {g2 g6 : Nat} {gen : Int} {vc vs vk vn vs' x1 : Value} {cur key : List UInt8} {sk : List (Int × List UInt8)} (c2 : Cs w g2 [.int .i64 gen, vc, vs]) (c6 : Cs w g6 [.int .i64 (gen + 1), vn, vs']) (hk : KT w)
    (hc : Rd (.slice .byte) D1 w [vc] cur) (hv : Rd (.slice tSkip) D2 w [vs] sk) (rk : Rd (.slice .byte) D3 w [vk] (deriveF cur keyL)) (rn : Rd (.slice .byte) D4 w [vn] (deriveF cur nextL)) (rs : Rd (.slice tSkip) D5 w [vs'] sk) (hx : Rd (.slice .byte) D6 w [x1] key)
    (hcl : cur.length ≤ 1000) (hsl : sk.length ≤ 1000) (hkl : key.length ≤ 1000) (hg0 : -9223372036854775808 ≤ gen) (hg1 : gen < 9223372036854775807) (h : ∀ w', Ext w w' → K (.bool true) w') :
    (pLdN (· = w) 3 (.pointer (some ⟨g2, 0, none⟩)) fun t29 =>
                pBox 25 (.agg #[.int .i64 0, .slice none 0 0, .slice none 0 0]) w fun t7 w =>
                pStN 3 t7 t29 w fun _ w =>
                pFA 0 (.pointer (some ⟨g2, 0, none⟩)) fun t30 =>
                pLd (· = w) t30 fun t31 =>
                pBinI .add .i64 t31 (.int .i64 1) fun t32 =>
                pFA 0 t7 fun t33 =>
                pSt t33 t32 w fun _ w =>
                pFA 1 (.pointer (some ⟨g2, 0, none⟩)) fun t34 =>
                pLd (· = w) t34 fun t35 =>
                pCall Tryd.prog 15 [t35, (.string ⟨#[110, 101, 120, 116]⟩)] X w fun t36 w =>
                pFA 1 t7 fun t37 =>
                pSt t37 t36 w fun _ w =>
                drawn w fun S w =>
                pFA 1 (.pointer (some ⟨g2, 0, none⟩)) fun t39 =>
                pLd S t39 fun t40 =>
                pCall Tryd.prog 15 [t40, (.string ⟨#[107, 101, 121]⟩)] X w fun t41 w =>
                anew w fun S w =>
                pCall Tryd.prog 16 [vk, t41] X w fun t42 w =>
                S w ∧ (gIf t42 true (fun K => pLdN S 3 (.pointer (some ⟨g6, 0, none⟩)) K) fun t44 =>
                  gIf t42 true (fun K => pLdN S 3 t7 K) fun t46 =>
                  gIfW t42 true (fun w K => pCall Tryd.prog 18 [t44] X w K) w fun t45 w =>
                  S w ∧ (gIfW t42 true (fun w K => pCall Tryd.prog 17 [t45, t46] X w K) w fun t47 w =>
                    S w ∧ (pPick t42 t47 (.bool false) fun t48 =>
                      gIf t48 true (fun K => K x1) fun t50 =>
                      gIf t48 true (fun K => K x1) fun t53 =>
                      gIf t48 true (fun K => pBuild [.int .i64 0, .slice none 0 0, .slice none 0 0] [(1, 1, t53)] K) fun t54 =>
                      gIfW t48 true (fun w K => pCall Tryd.prog 19 [t50] X w K) w fun t51 w =>
                      S w ∧ (gIfW t48 true (fun w K => pCall Tryd.prog 18 [t51] X w K) w fun t52 w =>
                        S w ∧ (gIfW t48 true (fun w K => pCall Tryd.prog 17 [t52, t54] X w K) w fun t55 w =>
                          S w ∧ (pPick t48 t55 (.bool false) fun t56 =>
                            gIfW t56 true (fun w K => pCall Tryd.prog 11 [] X w K) w fun t58 w =>
                            S w ∧ (pPick t56 t58 (.bool false) fun t59 =>
                              K t59 w)))))))) := by
  have oc := one_of_rd hc
  have os := one_of_rd hv
  have ox := one_of_rd hx
  have l2 := c2.lt; have l6 := c6.lt
  rw [c2.ld3]
  refine boxC (cs := [.int .i64 0, .slice none 0 0, .slice none 0 0]) fun g7 w1 hg7 h1 c7 => ?_
  have l7 := c7.lt
  refine c7.setN (l' := [.int .i64 gen, vc, vs]) rfl rfl (allOne3 rfl oc os) fun w2 c7 f2 => ?_
  have z1 := h1.size; have z2 := f2.size
  have h2 : Ext w w2 := h1.tn f2 (fun x hx => by omega)
  have e1 : IntKind.i64.wrap (gen + 1) = gen + 1 := by rw [wrap64 (by omega) (by omega)]
  have d2 := c2.ext h2
  simp only [↓eBinI, ↓eDiv, ↓eShift, ↓eBinS, ↓ePick, ↓eNot, ↓eNeg, ↓eConv, ↓eConvS, ↓eExt0, ↓eExt1, ↓eExt2, ↓eFA, ↓eIA, ↓eLenSl, ↓eCapSl, ↓eLenS, ↓eMin, ↓eMax, ↓eCondT, ↓eCondF, ↓gIf_tt, ↓gIf_ff, ↓gIf_tf, ↓gIf_ft, ↓gIf_u, ↓gIfW_u, ↓gIfW_tt, ↓gIfW_ff, ↓gIfW_tf, ↓gIfW_ft, binI, divI, shiftI, add_mk, Nat.zero_add, cond_true, cond_false, decide_true, decide_false, Bool.not_true, Bool.not_false, Bool.and_true, Bool.true_and, Bool.and_false, Bool.false_and, Int.toNat_natCast, Nat.mul_one, ↓d2.c0, e1]
  refine c7.set (i := 0) (by simp) rfl fun w3 c7 f3 => ?_
  have h3 : Ext w w3 := h2.tn f3 (fun x hx => by omega)
  have d2 := c2.ext h3
  simp only [↓eBinI, ↓eDiv, ↓eShift, ↓eBinS, ↓ePick, ↓eNot, ↓eNeg, ↓eConv, ↓eConvS, ↓eExt0, ↓eExt1, ↓eExt2, ↓eFA, ↓eIA, ↓eLenSl, ↓eCapSl, ↓eLenS, ↓eMin, ↓eMax, ↓eCondT, ↓eCondF, ↓gIf_tt, ↓gIf_ff, ↓gIf_tf, ↓gIf_ft, ↓gIf_u, ↓gIfW_u, ↓gIfW_tt, ↓gIfW_ff, ↓gIfW_tf, ↓gIfW_ft, binI, divI, shiftI, add_mk, Nat.zero_add, cond_true, cond_false, decide_true, decide_false, Bool.not_true, Bool.not_false, Bool.and_true, Bool.true_and, Bool.and_false, Bool.false_and, Int.toNat_natCast, Nat.mul_one, ↓d2.c1]
  refine ref_Derive_c (l := ⟨#[110, 101, 120, 116]⟩) (hc.ext h3) hcl (show 4 ≤ 200 by omega) fun vn2 w4 h4 rn2 => ?_
  have on := one_of_rd rn2
  have h04 := h3.tr h4
  have c7 := c7.ext h4
  have z3 := h3.size
  have rn2 := rn2.wide (D' := fun b => w3.heap.size ≤ b) (fun b hb => hb)
  try simp only [↓eBinI, ↓eDiv, ↓eShift, ↓eBinS, ↓ePick, ↓eNot, ↓eNeg, ↓eConv, ↓eConvS, ↓eExt0, ↓eExt1, ↓eExt2, ↓eFA, ↓eIA, ↓eLenSl, ↓eCapSl, ↓eLenS, ↓eMin, ↓eMax, ↓eCondT, ↓eCondF, ↓gIf_tt, ↓gIf_ff, ↓gIf_tf, ↓gIf_ft, ↓gIf_u, ↓gIfW_u, ↓gIfW_tt, ↓gIfW_ff, ↓gIfW_tf, ↓gIfW_ft, binI, divI, shiftI, add_mk, Nat.zero_add, cond_true, cond_false, decide_true, decide_false, Bool.not_true, Bool.not_false, Bool.and_true, Bool.true_and, Bool.and_false, Bool.false_and, Int.toNat_natCast, Nat.mul_one]
  refine c7.set (i := 1) (by simp) on fun w5 c7 f5 => ?_
  have c7 : Cs w5 g7 [.int .i64 (gen + 1), vn2, vs] := c7
  have h05 : Ext w w5 := h04.tn f5 (fun x hx => by omega)
  have z3' := f3.size
  have rn2 := rn2.fr f5 (fun b hb => by show ¬ b = g7; omega)
  refine draw_ fun w6 h6 => ?_
  have h06 := h05.tr h6
  have d2 := c2.ext h06
  simp only [↓eBinI, ↓eDiv, ↓eShift, ↓eBinS, ↓ePick, ↓eNot, ↓eNeg, ↓eConv, ↓eConvS, ↓eExt0, ↓eExt1, ↓eExt2, ↓eFA, ↓eIA, ↓eLenSl, ↓eCapSl, ↓eLenS, ↓eMin, ↓eMax, ↓eCondT, ↓eCondF, ↓gIf_tt, ↓gIf_ff, ↓gIf_tf, ↓gIf_ft, ↓gIf_u, ↓gIfW_u, ↓gIfW_tt, ↓gIfW_ff, ↓gIfW_tf, ↓gIfW_ft, binI, divI, shiftI, add_mk, Nat.zero_add, cond_true, cond_false, decide_true, decide_false, Bool.not_true, Bool.not_false, Bool.and_true, Bool.true_and, Bool.and_false, Bool.false_and, Int.toNat_natCast, Nat.mul_one, ↓d2.e1]
  refine ref_Derive_c (l := ⟨#[107, 101, 121]⟩) (hc.ext h06) hcl (show 3 ≤ 200 by omega) fun vk2 w7 h7 rk2 => ?_
  refine anew_ ?_
  have h07 := h06.tr h7
  refine Same_c (rk.ext h07) rk2 fun w8 h8 => ?_
  refine ⟨h8, ?_⟩
  have h08 := h07.tr h8
  have d6 := (c6.ext h07)
  have d7 := ((c7.ext h6).ext h7)
  have hd : decide (deriveF cur keyL = deriveF cur (⟨#[107, 101, 121]⟩ : ByteArray).data.toList) = true := decide_eq_true rfl
  rw [hd]
  simp only [↓eBinI, ↓eDiv, ↓eShift, ↓eBinS, ↓ePick, ↓eNot, ↓eNeg, ↓eConv, ↓eConvS, ↓eExt0, ↓eExt1, ↓eExt2, ↓eFA, ↓eIA, ↓eLenSl, ↓eCapSl, ↓eLenS, ↓eMin, ↓eMax, ↓eCondT, ↓eCondF, ↓gIf_tt, ↓gIf_ff, ↓gIf_tf, ↓gIf_ft, ↓gIf_u, ↓gIfW_u, ↓gIfW_tt, ↓gIfW_ff, ↓gIfW_tf, ↓gIfW_ft, binI, divI, shiftI, add_mk, Nat.zero_add, cond_true, cond_false, decide_true, decide_false, Bool.not_true, Bool.not_false, Bool.and_true, Bool.true_and, Bool.and_false, Bool.false_and, Int.toNat_natCast, Nat.mul_one, ↓d6.le3, ↓d7.le3]
  refine (?_ : GCalls Tryd.prog 18 [chainV (gen + 1) vn vs'] _ X w8)
  refine Back_c (rn.ext h08) (rs.ext h08) hsl fun vb w9 h9 rn9 rb9 => ?_
  have h09 := h08.tr h9
  refine ⟨h8.tr h9, ?_⟩
  refine (?_ : GCalls Tryd.prog 17 [chainV (gen + 1) vn vb, chainV (gen + 1) vn2 vs] _ X w9)
  refine SameT_c rn9 rb9 ((((rn2.ext h6).ext h7).ext h8).ext h9) (hv.ext h09) fun w10 h10 => ?_
  have h010 := h09.tr h10
  refine ⟨(h8.tr h9).tr h10, ?_⟩
  simp only [↓eBinI, ↓eDiv, ↓eShift, ↓eBinS, ↓ePick, ↓eNot, ↓eNeg, ↓eConv, ↓eConvS, ↓eExt0, ↓eExt1, ↓eExt2, ↓eFA, ↓eIA, ↓eLenSl, ↓eCapSl, ↓eLenS, ↓eMin, ↓eMax, ↓eCondT, ↓eCondF, ↓gIf_tt, ↓gIf_ff, ↓gIf_tf, ↓gIf_ft, ↓gIf_u, ↓gIfW_u, ↓gIfW_tt, ↓gIfW_ff, ↓gIfW_tf, ↓gIfW_ft, binI, divI, shiftI, add_mk, Nat.zero_add, cond_true, cond_false, decide_true, decide_false, Bool.not_true, Bool.not_false, Bool.and_true, Bool.true_and, Bool.and_false, Bool.false_and, Int.toNat_natCast, Nat.mul_one]
  refine ⟨[.int .i64 0, x1, .slice none 0 0], fillMid ox, ?_⟩
  refine Start_c (hx.ext h010) hkl fun v11 w11 h11 r11 => ?_
  refine ⟨((h8.tr h9).tr h10).tr h11, ?_⟩
  have h011 := h010.tr h11
  try simp only [↓eBinI, ↓eDiv, ↓eShift, ↓eBinS, ↓ePick, ↓eNot, ↓eNeg, ↓eConv, ↓eConvS, ↓eExt0, ↓eExt1, ↓eExt2, ↓eFA, ↓eIA, ↓eLenSl, ↓eCapSl, ↓eLenS, ↓eMin, ↓eMax, ↓eCondT, ↓eCondF, ↓gIf_tt, ↓gIf_ff, ↓gIf_tf, ↓gIf_ft, ↓gIf_u, ↓gIfW_u, ↓gIfW_tt, ↓gIfW_ff, ↓gIfW_tf, ↓gIfW_ft, binI, divI, shiftI, add_mk, Nat.zero_add, cond_true, cond_false, decide_true, decide_false, Bool.not_true, Bool.not_false, Bool.and_true, Bool.true_and, Bool.and_false, Bool.false_and, Int.toNat_natCast, Nat.mul_one]
  refine Back_c r11 (nilSk NoB w11) (by simp) fun vb2 w12 h12 r12 rb12 => ?_
  refine ⟨(((h8.tr h9).tr h10).tr h11).tr h12, ?_⟩
  have h012 := h011.tr h12
  try simp only [↓eBinI, ↓eDiv, ↓eShift, ↓eBinS, ↓ePick, ↓eNot, ↓eNeg, ↓eConv, ↓eConvS, ↓eExt0, ↓eExt1, ↓eExt2, ↓eFA, ↓eIA, ↓eLenSl, ↓eCapSl, ↓eLenS, ↓eMin, ↓eMax, ↓eCondT, ↓eCondF, ↓gIf_tt, ↓gIf_ff, ↓gIf_tf, ↓gIf_ft, ↓gIf_u, ↓gIfW_u, ↓gIfW_tt, ↓gIfW_ff, ↓gIfW_tf, ↓gIfW_ft, binI, divI, shiftI, add_mk, Nat.zero_add, cond_true, cond_false, decide_true, decide_false, Bool.not_true, Bool.not_false, Bool.and_true, Bool.true_and, Bool.and_false, Bool.false_and, Int.toNat_natCast, Nat.mul_one]
  refine (?_ : GCalls Tryd.prog 17 [chainV 0 v11 vb2, chainV 0 x1 (.slice none 0 0)] _ X w12)
  refine SameT_c r12 rb12 (hx.ext h012) (nilSk NoB w12) fun w13 h13 => ?_
  have h013 := h012.tr h13
  refine ⟨((((h8.tr h9).tr h10).tr h11).tr h12).tr h13, ?_⟩
  simp only [↓eBinI, ↓eDiv, ↓eShift, ↓eBinS, ↓ePick, ↓eNot, ↓eNeg, ↓eConv, ↓eConvS, ↓eExt0, ↓eExt1, ↓eExt2, ↓eFA, ↓eIA, ↓eLenSl, ↓eCapSl, ↓eLenS, ↓eMin, ↓eMax, ↓eCondT, ↓eCondF, ↓gIf_tt, ↓gIf_ff, ↓gIf_tf, ↓gIf_ft, ↓gIf_u, ↓gIfW_u, ↓gIfW_tt, ↓gIfW_ff, ↓gIfW_tf, ↓gIfW_ft, binI, divI, shiftI, add_mk, Nat.zero_add, cond_true, cond_false, decide_true, decide_false, Bool.not_true, Bool.not_false, Bool.and_true, Bool.true_and, Bool.and_false, Bool.false_and, Int.toNat_natCast, Nat.mul_one]
  refine alive33_c (hk.ext h013) fun w14 h14 => ?_
  refine ⟨(((((h8.tr h9).tr h10).tr h11).tr h12).tr h13).tr h14, ?_⟩
  try simp only [↓eBinI, ↓eDiv, ↓eShift, ↓eBinS, ↓ePick, ↓eNot, ↓eNeg, ↓eConv, ↓eConvS, ↓eExt0, ↓eExt1, ↓eExt2, ↓eFA, ↓eIA, ↓eLenSl, ↓eCapSl, ↓eLenS, ↓eMin, ↓eMax, ↓eCondT, ↓eCondF, ↓gIf_tt, ↓gIf_ff, ↓gIf_tf, ↓gIf_ft, ↓gIf_u, ↓gIfW_u, ↓gIfW_tt, ↓gIfW_ff, ↓gIfW_tf, ↓gIfW_ft, binI, divI, shiftI, add_mk, Nat.zero_add, cond_true, cond_false, decide_true, decide_false, Bool.not_true, Bool.not_false, Bool.and_true, Bool.true_and, Bool.and_false, Bool.false_and, Int.toNat_natCast, Nat.mul_one]
  exact h _ (h013.tr h14)
end Go.Proofs.YtkpgmaiklfjjgaaDoor
