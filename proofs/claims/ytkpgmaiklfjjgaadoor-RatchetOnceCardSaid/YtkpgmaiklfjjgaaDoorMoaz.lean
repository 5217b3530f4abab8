/-
  The steps of a chain.
  The law on the steps of a chain.
  The row's frame: what comes in reads as lists and numbers; a law that hands back true and turns nothing holds.
  What the rows' conditions say of the tables that start-up code lays.
  A chain as it comes in.
-/
import Derived.Test.YtkpgmaiklfjjgaaDoorMoay
import Derived.WalkKit
import Derived.ProofKit
import Derived.OpenShut
import Derived.Carry
import Derived.Test.YtkpgmaiklfjjgaaDoorCards
import Derived.Test.YtkpgmaiklfjjgaaDoorTie
import Derived.ChangeSame
import Derived.ChangeVars
import Derived.JoinedOf
import Derived.RowKit
import Derived.RowKitTokens
import Derived.LaidLaws
import Derived.LaidMore
import Derived.LaidHandle
import Derived.LaidByTextLater
import Derived.SevenTiedAt
import Derived.Lib.LaidTab
import Derived.Stop.Joined
import Derived.Stop.LaidErr
import Derived.MakeChecks
section
set_option linter.unusedSimpArgs false
set_option linter.unusedVariables false
namespace Go.Proofs.YtkpgmaiklfjjgaaDoor
open Go Go.G Go.RowKit
variable {X : KX} {w : World} {K : KV} {D D' D1 D2 D3 D4 D5 D6 : Nat → Prop}
theorem fillMid {z0 z1 z2 a : Value} (ha : one a = true) : fillL [z0, z1, z2] [(1, 1, a)] = some [z0, a, z2] := by simp [fillL, one_cells ha, cutIn]
set_option maxHeartbeats 1000000 in
theorem steps_end {g2 g6 : Nat} {gen : Int} {vc vs vk vn vs' x1 : Value} {cur key : List UInt8} {sk : List (Int × List UInt8)} (c2 : Cs w g2 [.int .i64 gen, vc, vs]) (c6 : Cs w g6 [.int .i64 (gen + 1), vn, vs']) (hk : KT w)
    (hc : Rd (.slice .byte) D1 w [vc] cur) (hv : Rd (.slice tSkip) D2 w [vs] sk) (rk : Rd (.slice .byte) D3 w [vk] (deriveF cur keyL)) (rn : Rd (.slice .byte) D4 w [vn] (deriveF cur nextL)) (rs : Rd (.slice tSkip) D5 w [vs'] sk) (hx : Rd (.slice .byte) D6 w [x1] key)
    (hcl : cur.length ≤ 1000) (hsl : sk.length ≤ 1000) (hkl : key.length ≤ 1000) (hg0 : -9223372036854775808 ≤ gen) (hg1 : gen < 9223372036854775807) (h : ∀ w', Ext w w' → K (.bool true) w') :
    (pLdN (· = w) 3 (.pointer (some ⟨g2, 0, none⟩)) fun t29 =>
                pBox 25 (.agg #[.int .i64 0, .slice none 0 0, .slice none 0 0]) w fun t7 w =>
                pStN 3 t7 t29 w fun _ w =>
                pFA 0 (.pointer (some ⟨g2, 0, none⟩)) fun t30 =>
                pLd (· = w) t30 fun t31 =>
                pBinI .add .i64 t31 (.int .i64 1) fun t32 =>
                pFA 0 t7 fun t33 =>
                pSt t33 t32 w fun _ w =>
                pFA 1 (.pointer (some ⟨g2, 0, none⟩)) fun t34 =>
                pLd (· = w) t34 fun t35 =>
                pCall Tryd.prog 15 [t35, (.string ⟨#[110, 101, 120, 116]⟩)] X w fun t36 w =>
                pFA 1 t7 fun t37 =>
                pSt t37 t36 w fun _ w =>
                drawn w fun S w =>
                pFA 1 (.pointer (some ⟨g2, 0, none⟩)) fun t39 =>
                pLd S t39 fun t40 =>
                pCall Tryd.prog 15 [t40, (.string ⟨#[107, 101, 121]⟩)] X w fun t41 w =>
                anew w fun S w =>
                pCall Tryd.prog 16 [vk, t41] X w fun t42 w =>
                S w ∧ (gIf t42 true (fun K => pLdN S 3 (.pointer (some ⟨g6, 0, none⟩)) K) fun t44 =>
                  gIf t42 true (fun K => pLdN S 3 t7 K) fun t46 =>
                  gIfW t42 true (fun w K => pCall Tryd.prog 18 [t44] X w K) w fun t45 w =>
                  S w ∧ (gIfW t42 true (fun w K => pCall Tryd.prog 17 [t45, t46] X w K) w fun t47 w =>
                    S w ∧ (pPick t42 t47 (.bool false) fun t48 =>
                      gIf t48 true (fun K => K x1) fun t50 =>
                      gIf t48 true (fun K => K x1) fun t53 =>
                      gIf t48 true (fun K => pBuild [.int .i64 0, .slice none 0 0, .slice none 0 0] [(1, 1, t53)] K) fun t54 =>
                      gIfW t48 true (fun w K => pCall Tryd.prog 19 [t50] X w K) w fun t51 w =>
                      S w ∧ (gIfW t48 true (fun w K => pCall Tryd.prog 18 [t51] X w K) w fun t52 w =>
                        S w ∧ (gIfW t48 true (fun w K => pCall Tryd.prog 17 [t52, t54] X w K) w fun t55 w =>
                          S w ∧ (pPick t48 t55 (.bool false) fun t56 =>
                            gIfW t56 true (fun w K => pCall Tryd.prog 11 [] X w K) w fun t58 w =>
                            S w ∧ (pPick t56 t58 (.bool false) fun t59 =>
                              K t59 w)))))))) := by
  have oc := one_of_rd hc
  have os := one_of_rd hv
  have ox := one_of_rd hx
  have l2 := c2.lt; have l6 := c6.lt
  rw [c2.ld3]
  refine boxC (cs := [.int .i64 0, .slice none 0 0, .slice none 0 0]) fun g7 w1 hg7 h1 c7 => ?_
  have l7 := c7.lt
  refine c7.setN (l' := [.int .i64 gen, vc, vs]) rfl rfl (allOne3 rfl oc os) fun w2 c7 f2 => ?_
  have z1 := h1.size; have z2 := f2.size
  have h2 : Ext w w2 := h1.tn f2 (fun x hx => by omega)
  have e1 : IntKind.i64.wrap (gen + 1) = gen + 1 := by rw [wrap64 (by omega) (by omega)]
  have d2 := c2.ext h2
  simp only [↓eBinI, ↓eDiv, ↓eShift, ↓eBinS, ↓ePick, ↓eNot, ↓eNeg, ↓eConv, ↓eConvS, ↓eExt0, ↓eExt1, ↓eExt2, ↓eFA, ↓eIA, ↓eLenSl, ↓eCapSl, ↓eLenS, ↓eMin, ↓eMax, ↓eCondT, ↓eCondF, ↓gIf_tt, ↓gIf_ff, ↓gIf_tf, ↓gIf_ft, ↓gIf_u, ↓gIfW_u, ↓gIfW_tt, ↓gIfW_ff, ↓gIfW_tf, ↓gIfW_ft, binI, divI, shiftI, add_mk, Nat.zero_add, cond_true, cond_false, decide_true, decide_false, Bool.not_true, Bool.not_false, Bool.and_true, Bool.true_and, Bool.and_false, Bool.false_and, Int.toNat_natCast, Nat.mul_one, ↓d2.c0, e1]
  refine c7.set (i := 0) (by simp) rfl fun w3 c7 f3 => ?_
  have h3 : Ext w w3 := h2.tn f3 (fun x hx => by omega)
  have d2 := c2.ext h3
  simp only [↓eBinI, ↓eDiv, ↓eShift, ↓eBinS, ↓ePick, ↓eNot, ↓eNeg, ↓eConv, ↓eConvS, ↓eExt0, ↓eExt1, ↓eExt2, ↓eFA, ↓eIA, ↓eLenSl, ↓eCapSl, ↓eLenS, ↓eMin, ↓eMax, ↓eCondT, ↓eCondF, ↓gIf_tt, ↓gIf_ff, ↓gIf_tf, ↓gIf_ft, ↓gIf_u, ↓gIfW_u, ↓gIfW_tt, ↓gIfW_ff, ↓gIfW_tf, ↓gIfW_ft, binI, divI, shiftI, add_mk, Nat.zero_add, cond_true, cond_false, decide_true, decide_false, Bool.not_true, Bool.not_false, Bool.and_true, Bool.true_and, Bool.and_false, Bool.false_and, Int.toNat_natCast, Nat.mul_one, ↓d2.c1]
  refine ref_Derive_c (l := ⟨#[110, 101, 120, 116]⟩) (hc.ext h3) hcl (show 4 ≤ 200 by omega) fun vn2 w4 h4 rn2 => ?_
  have on := one_of_rd rn2
  have h04 := h3.tr h4
  have c7 := c7.ext h4
  have z3 := h3.size
  have rn2 := rn2.wide (D' := fun b => w3.heap.size ≤ b) (fun b hb => hb)
  try simp only [↓eBinI, ↓eDiv, ↓eShift, ↓eBinS, ↓ePick, ↓eNot, ↓eNeg, ↓eConv, ↓eConvS, ↓eExt0, ↓eExt1, ↓eExt2, ↓eFA, ↓eIA, ↓eLenSl, ↓eCapSl, ↓eLenS, ↓eMin, ↓eMax, ↓eCondT, ↓eCondF, ↓gIf_tt, ↓gIf_ff, ↓gIf_tf, ↓gIf_ft, ↓gIf_u, ↓gIfW_u, ↓gIfW_tt, ↓gIfW_ff, ↓gIfW_tf, ↓gIfW_ft, binI, divI, shiftI, add_mk, Nat.zero_add, cond_true, cond_false, decide_true, decide_false, Bool.not_true, Bool.not_false, Bool.and_true, Bool.true_and, Bool.and_false, Bool.false_and, Int.toNat_natCast, Nat.mul_one]
  refine c7.set (i := 1) (by simp) on fun w5 c7 f5 => ?_
  have c7 : Cs w5 g7 [.int .i64 (gen + 1), vn2, vs] := c7
  have h05 : Ext w w5 := h04.tn f5 (fun x hx => by omega)
  have z3' := f3.size
  have rn2 := rn2.fr f5 (fun b hb => by show ¬ b = g7; omega)
  refine draw_ fun w6 h6 => ?_
  have h06 := h05.tr h6
  have d2 := c2.ext h06
  simp only [↓eBinI, ↓eDiv, ↓eShift, ↓eBinS, ↓ePick, ↓eNot, ↓eNeg, ↓eConv, ↓eConvS, ↓eExt0, ↓eExt1, ↓eExt2, ↓eFA, ↓eIA, ↓eLenSl, ↓eCapSl, ↓eLenS, ↓eMin, ↓eMax, ↓eCondT, ↓eCondF, ↓gIf_tt, ↓gIf_ff, ↓gIf_tf, ↓gIf_ft, ↓gIf_u, ↓gIfW_u, ↓gIfW_tt, ↓gIfW_ff, ↓gIfW_tf, ↓gIfW_ft, binI, divI, shiftI, add_mk, Nat.zero_add, cond_true, cond_false, decide_true, decide_false, Bool.not_true, Bool.not_false, Bool.and_true, Bool.true_and, Bool.and_false, Bool.false_and, Int.toNat_natCast, Nat.mul_one, ↓d2.e1]
  refine ref_Derive_c (l := ⟨#[107, 101, 121]⟩) (hc.ext h06) hcl (show 3 ≤ 200 by omega) fun vk2 w7 h7 rk2 => ?_
  refine anew_ ?_
  have h07 := h06.tr h7
  refine Same_c (rk.ext h07) rk2 fun w8 h8 => ?_
  refine ⟨h8, ?_⟩
  have h08 := h07.tr h8
  have d6 := (c6.ext h07)
  have d7 := ((c7.ext h6).ext h7)
  have hd : decide (deriveF cur keyL = deriveF cur (⟨#[107, 101, 121]⟩ : ByteArray).data.toList) = true := decide_eq_true rfl
  rw [hd]
  simp only [↓eBinI, ↓eDiv, ↓eShift, ↓eBinS, ↓ePick, ↓eNot, ↓eNeg, ↓eConv, ↓eConvS, ↓eExt0, ↓eExt1, ↓eExt2, ↓eFA, ↓eIA, ↓eLenSl, ↓eCapSl, ↓eLenS, ↓eMin, ↓eMax, ↓eCondT, ↓eCondF, ↓gIf_tt, ↓gIf_ff, ↓gIf_tf, ↓gIf_ft, ↓gIf_u, ↓gIfW_u, ↓gIfW_tt, ↓gIfW_ff, ↓gIfW_tf, ↓gIfW_ft, binI, divI, shiftI, add_mk, Nat.zero_add, cond_true, cond_false, decide_true, decide_false, Bool.not_true, Bool.not_false, Bool.and_true, Bool.true_and, Bool.and_false, Bool.false_and, Int.toNat_natCast, Nat.mul_one, ↓d6.le3, ↓d7.le3]
  refine (?_ : GCalls Tryd.prog 18 [chainV (gen + 1) vn vs'] _ X w8)
  refine Back_c (rn.ext h08) (rs.ext h08) hsl fun vb w9 h9 rn9 rb9 => ?_
  have h09 := h08.tr h9
  refine ⟨h8.tr h9, ?_⟩
  refine (?_ : GCalls Tryd.prog 17 [chainV (gen + 1) vn vb, chainV (gen + 1) vn2 vs] _ X w9)
  refine SameT_c rn9 rb9 ((((rn2.ext h6).ext h7).ext h8).ext h9) (hv.ext h09) fun w10 h10 => ?_
  have h010 := h09.tr h10
  refine ⟨(h8.tr h9).tr h10, ?_⟩
  simp only [↓eBinI, ↓eDiv, ↓eShift, ↓eBinS, ↓ePick, ↓eNot, ↓eNeg, ↓eConv, ↓eConvS, ↓eExt0, ↓eExt1, ↓eExt2, ↓eFA, ↓eIA, ↓eLenSl, ↓eCapSl, ↓eLenS, ↓eMin, ↓eMax, ↓eCondT, ↓eCondF, ↓gIf_tt, ↓gIf_ff, ↓gIf_tf, ↓gIf_ft, ↓gIf_u, ↓gIfW_u, ↓gIfW_tt, ↓gIfW_ff, ↓gIfW_tf, ↓gIfW_ft, binI, divI, shiftI, add_mk, Nat.zero_add, cond_true, cond_false, decide_true, decide_false, Bool.not_true, Bool.not_false, Bool.and_true, Bool.true_and, Bool.and_false, Bool.false_and, Int.toNat_natCast, Nat.mul_one]
  refine ⟨[.int .i64 0, x1, .slice none 0 0], fillMid ox, ?_⟩
  refine Start_c (hx.ext h010) hkl fun v11 w11 h11 r11 => ?_
  refine ⟨((h8.tr h9).tr h10).tr h11, ?_⟩
  have h011 := h010.tr h11
  try simp only [↓eBinI, ↓eDiv, ↓eShift, ↓eBinS, ↓ePick, ↓eNot, ↓eNeg, ↓eConv, ↓eConvS, ↓eExt0, ↓eExt1, ↓eExt2, ↓eFA, ↓eIA, ↓eLenSl, ↓eCapSl, ↓eLenS, ↓eMin, ↓eMax, ↓eCondT, ↓eCondF, ↓gIf_tt, ↓gIf_ff, ↓gIf_tf, ↓gIf_ft, ↓gIf_u, ↓gIfW_u, ↓gIfW_tt, ↓gIfW_ff, ↓gIfW_tf, ↓gIfW_ft, binI, divI, shiftI, add_mk, Nat.zero_add, cond_true, cond_false, decide_true, decide_false, Bool.not_true, Bool.not_false, Bool.and_true, Bool.true_and, Bool.and_false, Bool.false_and, Int.toNat_natCast, Nat.mul_one]
  refine Back_c r11 (nilSk NoB w11) (by simp) fun vb2 w12 h12 r12 rb12 => ?_
  refine ⟨(((h8.tr h9).tr h10).tr h11).tr h12, ?_⟩
  have h012 := h011.tr h12
  try simp only [↓eBinI, ↓eDiv, ↓eShift, ↓eBinS, ↓ePick, ↓eNot, ↓eNeg, ↓eConv, ↓eConvS, ↓eExt0, ↓eExt1, ↓eExt2, ↓eFA, ↓eIA, ↓eLenSl, ↓eCapSl, ↓eLenS, ↓eMin, ↓eMax, ↓eCondT, ↓eCondF, ↓gIf_tt, ↓gIf_ff, ↓gIf_tf, ↓gIf_ft, ↓gIf_u, ↓gIfW_u, ↓gIfW_tt, ↓gIfW_ff, ↓gIfW_tf, ↓gIfW_ft, binI, divI, shiftI, add_mk, Nat.zero_add, cond_true, cond_false, decide_true, decide_false, Bool.not_true, Bool.not_false, Bool.and_true, Bool.true_and, Bool.and_false, Bool.false_and, Int.toNat_natCast, Nat.mul_one]
  refine (?_ : GCalls Tryd.prog 17 [chainV 0 v11 vb2, chainV 0 x1 (.slice none 0 0)] _ X w12)
  refine SameT_c r12 rb12 (hx.ext h012) (nilSk NoB w12) fun w13 h13 => ?_
  have h013 := h012.tr h13
  refine ⟨((((h8.tr h9).tr h10).tr h11).tr h12).tr h13, ?_⟩
  simp only [↓eBinI, ↓eDiv, ↓eShift, ↓eBinS, ↓ePick, ↓eNot, ↓eNeg, ↓eConv, ↓eConvS, ↓eExt0, ↓eExt1, ↓eExt2, ↓eFA, ↓eIA, ↓eLenSl, ↓eCapSl, ↓eLenS, ↓eMin, ↓eMax, ↓eCondT, ↓eCondF, ↓gIf_tt, ↓gIf_ff, ↓gIf_tf, ↓gIf_ft, ↓gIf_u, ↓gIfW_u, ↓gIfW_tt, ↓gIfW_ff, ↓gIfW_tf, ↓gIfW_ft, binI, divI, shiftI, add_mk, Nat.zero_add, cond_true, cond_false, decide_true, decide_false, Bool.not_true, Bool.not_false, Bool.and_true, Bool.true_and, Bool.and_false, Bool.false_and, Int.toNat_natCast, Nat.mul_one]
  refine alive33_c (hk.ext h013) fun w14 h14 => ?_
  refine ⟨(((((h8.tr h9).tr h10).tr h11).tr h12).tr h13).tr h14, ?_⟩
  try simp only [↓eBinI, ↓eDiv, ↓eShift, ↓eBinS, ↓ePick, ↓eNot, ↓eNeg, ↓eConv, ↓eConvS, ↓eExt0, ↓eExt1, ↓eExt2, ↓eFA, ↓eIA, ↓eLenSl, ↓eCapSl, ↓eLenS, ↓eMin, ↓eMax, ↓eCondT, ↓eCondF, ↓gIf_tt, ↓gIf_ff, ↓gIf_tf, ↓gIf_ft, ↓gIf_u, ↓gIfW_u, ↓gIfW_tt, ↓gIfW_ff, ↓gIfW_tf, ↓gIfW_ft, binI, divI, shiftI, add_mk, Nat.zero_add, cond_true, cond_false, decide_true, decide_false, Bool.not_true, Bool.not_false, Bool.and_true, Bool.true_and, Bool.and_false, Bool.false_and, Int.toNat_natCast, Nat.mul_one]
  exact h _ (h013.tr h14)
end Go.Proofs.YtkpgmaiklfjjgaaDoor
end
section
set_option linter.unusedSimpArgs false
set_option linter.unusedVariables false
namespace Go.Proofs.YtkpgmaiklfjjgaaDoor
open Go Go.G Go.RowKit
variable {X : KX} {w : World} {K : KV} {D D' D1 D2 D3 D4 D5 D6 : Nat → Prop}
set_option maxHeartbeats 2000000 in
set_option maxRecDepth 100000 in
theorem RatchetSteps_c {gen : Int} {vc vs x1 : Value} {cur key : List UInt8} {sk : List (Int × List UInt8)} (hk : KT w) (hc : Rd (.slice .byte) D1 w [vc] cur) (hv : Rd (.slice tSkip) D2 w [vs] sk) (hx : Rd (.slice .byte) D3 w [x1] key)
    (hg0 : -9223372036854775808 ≤ gen) (hg1 : gen ≤ 9223372036854775807) (h : ∀ w', Ext w w' → K (.bool true) w') : GCalls Tryd.prog 3 [chainV gen vc vs, x1] K X w := by
  have hk2 := hk.two
  obtain ⟨ax, cx, rfl, _, _⟩ := hx.form
  apply oubliettelaw33_RatchetSteps.calls; unfold oubliettelaw33_RatchetSteps.b
  refine boxC (cs := [.int .i64 gen, vc, vs]) fun g2 w0 hg2 h0 c2 => ?_
  have z0 := h0.size; have l2 := c2.lt
  rw [c2.ld3]
  refine (?_ : GCalls Tryd.prog 10 [chainV gen vc vs] _ X w0)
  refine Light_c (hc.ext h0) (hv.ext h0) fun w1 h1 => ?_
  have h01 := h0.tr h1
  have z01 := h1.size
  have c2 := c2.ext h1
  cases hl : lightF cur sk with
  | false =>
    simp only [↓eBinI, ↓eDiv, ↓eShift, ↓eBinS, ↓ePick, ↓eNot, ↓eNeg, ↓eConv, ↓eConvS, ↓eExt0, ↓eExt1, ↓eExt2, ↓eFA, ↓eIA, ↓eLenSl, ↓eCapSl, ↓eLenS, ↓eMin, ↓eMax, ↓eCondT, ↓eCondF, ↓gIf_tt, ↓gIf_ff, ↓gIf_tf, ↓gIf_ft, ↓gIf_u, ↓gIfW_u, ↓gIfW_tt, ↓gIfW_ff, ↓gIfW_tf, ↓gIfW_ft, binI, divI, shiftI, add_mk, Nat.zero_add, cond_true, cond_false, decide_true, decide_false, Bool.not_true, Bool.not_false, Bool.and_true, Bool.true_and, Bool.and_false, Bool.false_and, Int.toNat_natCast, Nat.mul_one]
    exact alive33_c (hk.ext h01) fun w' e => h _ (h01.tr e)
  | true =>
    have hlt : cur.length ≤ 100 ∧ sk.length ≤ 20 ∧ ∀ i (hi : i < sk.length), sk[i].2.length ≤ 1000 := by
      simp only [lightF, Bool.and_eq_true, decide_eq_true_eq, List.all_eq_true] at hl
      exact ⟨hl.1.1, hl.1.2, fun i hi => by have := hl.2 _ (List.getElem_mem hi); omega⟩
    obtain ⟨hcl, hsl, hse⟩ := hlt
    by_cases d1 : (key.length : Int) > 100
    · simp only [↓eBinI, ↓eDiv, ↓eShift, ↓eBinS, ↓ePick, ↓eNot, ↓eNeg, ↓eConv, ↓eConvS, ↓eExt0, ↓eExt1, ↓eExt2, ↓eFA, ↓eIA, ↓eLenSl, ↓eCapSl, ↓eLenS, ↓eMin, ↓eMax, ↓eCondT, ↓eCondF, ↓gIf_tt, ↓gIf_ff, ↓gIf_tf, ↓gIf_ft, ↓gIf_u, ↓gIfW_u, ↓gIfW_tt, ↓gIfW_ff, ↓gIfW_tf, ↓gIfW_ft, binI, divI, shiftI, add_mk, Nat.zero_add, cond_true, cond_false, decide_true, decide_false, Bool.not_true, Bool.not_false, Bool.and_true, Bool.true_and, Bool.and_false, Bool.false_and, Int.toNat_natCast, Nat.mul_one, d1]
      exact alive33_c (hk.ext h01) fun w' e => h _ (h01.tr e)
    by_cases d2 : gen > 1099511627776
    · simp only [↓eBinI, ↓eDiv, ↓eShift, ↓eBinS, ↓ePick, ↓eNot, ↓eNeg, ↓eConv, ↓eConvS, ↓eExt0, ↓eExt1, ↓eExt2, ↓eFA, ↓eIA, ↓eLenSl, ↓eCapSl, ↓eLenS, ↓eMin, ↓eMax, ↓eCondT, ↓eCondF, ↓gIf_tt, ↓gIf_ff, ↓gIf_tf, ↓gIf_ft, ↓gIf_u, ↓gIfW_u, ↓gIfW_tt, ↓gIfW_ff, ↓gIfW_tf, ↓gIfW_ft, binI, divI, shiftI, add_mk, Nat.zero_add, cond_true, cond_false, decide_true, decide_false, Bool.not_true, Bool.not_false, Bool.and_true, Bool.true_and, Bool.and_false, Bool.false_and, Int.toNat_natCast, Nat.mul_one, d1, ↓c2.c0, d2]
      exact alive33_c (hk.ext h01) fun w' e => h _ (h01.tr e)
    simp only [↓eBinI, ↓eDiv, ↓eShift, ↓eBinS, ↓ePick, ↓eNot, ↓eNeg, ↓eConv, ↓eConvS, ↓eExt0, ↓eExt1, ↓eExt2, ↓eFA, ↓eIA, ↓eLenSl, ↓eCapSl, ↓eLenS, ↓eMin, ↓eMax, ↓eCondT, ↓eCondF, ↓gIf_tt, ↓gIf_ff, ↓gIf_tf, ↓gIf_ft, ↓gIf_u, ↓gIfW_u, ↓gIfW_tt, ↓gIfW_ff, ↓gIfW_tf, ↓gIfW_ft, binI, divI, shiftI, add_mk, Nat.zero_add, cond_true, cond_false, decide_true, decide_false, Bool.not_true, Bool.not_false, Bool.and_true, Bool.true_and, Bool.and_false, Bool.false_and, Int.toNat_natCast, Nat.mul_one, d1, ↓c2.c0, d2]
    refine draw_ fun w1b h1b => ?_
    have z1b := h1b.size
    have c2 := c2.ext h1b
    rw [c2.le3]
    have kk : Ext w w1b := h01.tr h1b
    have hk := hk.ext kk
    have hc := hc.ext kk
    have hv := hv.ext kk
    have hx := hx.ext kk
    have k1 : Ext w1b w1b := Fr.refl _ _
    refine ⟨?_, ?_⟩
    · skip
      refine Real_c (by omega) fun gs w2 h2 qs hs => ?_
      have z2 := h2.size
      refine ⟨h2, ?_⟩
      refine ⟨?_, ?_⟩
      · skip
        refine (?_ : GCalls Tryd.prog 14 [chainV gen vc vs] _ X _)
        refine LOf_c (hc.ext h2) (hv.ext h2) (by omega) fun vo w3 h3 ro so => ?_
        have z3 := h3.size
        refine anew_ ?_
        refine ⟨?_, ?_⟩
        · skip
          refine Step_c (hs.ext h3) ((hk.ext h2).ext h3) ro so (by omega) (by omega) (by omega) (by omega) hse fun vk vn vs2 w4 DD BB h4 hB1 hB2 rk rn o5 hD2 hb5 => ?_
          have z4 := h4.size
          refine ⟨h4, ?_⟩
          have rs : Rd (.slice tSkip) (BB ≤ ·) w4 [vs2] sk := o5.rd2 (fun b hb => (hD2 b hb).1) (fun b _ hB _ => hB) (by show sk.length < _; omega)
          have rs := rd_bd rs; have rk := rd_bd rk; have rn := rd_bd rn
          have ov := one_of_rd rn; have os := one_of_rd rs
          simp only [↓eExt0, ↓eExt1, chainV]
          refine boxC (cs := [.int .i64 0, .slice none 0 0, .slice none 0 0]) fun g6 w5 hg6 h5 c6 => ?_
          have z5 := h5.size; have l6 := c6.lt
          refine ⟨(Ext.tr h4 h5), ?_⟩
          refine c6.setN (l' := [.int .i64 (gen + 1), vn, vs2]) rfl rfl (allOne3 rfl ov os) fun we ce fe => ?_
          refine anew_ ?_
          have ke : Ext w1b we := Ext.tn (Ext.tr (Ext.tr (Ext.tr h2 h3) h4) h5) fe (fun x hx => by omega)
          have e := steps_end (X := X) (K := K) (((((c2.ext h2).ext h3).ext h4).ext h5).fr fe (by omega)) ce (hk.ext ke) (hc.ext ke) (hv.ext ke) ((rk.ext h5).fr fe (fun b hb => by omega)) ((rn.ext h5).fr fe (fun b hb => by omega)) ((rs.ext h5).fr fe (fun b hb => by omega)) (hx.ext ke) (by omega) (by omega) (by omega) (by omega) (by omega) fun w' e => h _ ((kk.tr ke).tr e)
          simp only [↓eBinI, ↓eDiv, ↓eShift, ↓eBinS, ↓ePick, ↓eNot, ↓eNeg, ↓eConv, ↓eConvS, ↓eExt0, ↓eExt1, ↓eExt2, ↓eFA, ↓eIA, ↓eLenSl, ↓eCapSl, ↓eLenS, ↓eMin, ↓eMax, ↓eCondT, ↓eCondF, ↓gIf_tt, ↓gIf_ff, ↓gIf_tf, ↓gIf_ft, ↓gIf_u, ↓gIfW_u, ↓gIfW_tt, ↓gIfW_ff, ↓gIfW_tf, ↓gIfW_ft, binI, divI, shiftI, add_mk, Nat.zero_add, cond_true, cond_false, decide_true, decide_false, Bool.not_true, Bool.not_false, Bool.and_true, Bool.true_and, Bool.and_false, Bool.false_and, Int.toNat_natCast, Nat.mul_one] at e
          exact e
        · skip
          refine boxC (cs := [.int .i64 0, .slice none 0 0, .slice none 0 0]) fun g6 w4 hg6 h4 c6 => ?_
          have z4 := h4.size; have l6 := c6.lt
          refine ⟨h4, ?_⟩
          refine Step_c ((hs.ext h3).ext h4) (((hk.ext h2).ext h3).ext h4) (ro.ext h4) (so.ext h4) (by omega) (by omega) (by omega) (by omega) hse fun vk vn vs2 w5 DD BB h5 hB1 hB2 rk rn o5 hD2 hb5 => ?_
          have z5 := h5.size
          refine ⟨(Ext.tr h4 h5), ?_⟩
          have rs : Rd (.slice tSkip) (BB ≤ ·) w5 [vs2] sk := o5.rd2 (fun b hb => (hD2 b hb).1) (fun b _ hB _ => hB) (by show sk.length < _; omega)
          have rs := rd_bd rs; have rk := rd_bd rk; have rn := rd_bd rn
          have ov := one_of_rd rn; have os := one_of_rd rs
          simp only [↓eExt0, ↓eExt1, chainV]
          refine (c6.ext h5).setN (l' := [.int .i64 (gen + 1), vn, vs2]) rfl rfl (allOne3 rfl ov os) fun we ce fe => ?_
          refine anew_ ?_
          have ke : Ext w1b we := Ext.tn (Ext.tr (Ext.tr (Ext.tr h2 h3) h4) h5) fe (fun x hx => by omega)
          have e := steps_end (X := X) (K := K) (((((c2.ext h2).ext h3).ext h4).ext h5).fr fe (by omega)) ce (hk.ext ke) (hc.ext ke) (hv.ext ke) (rk.fr fe (fun b hb => by omega)) (rn.fr fe (fun b hb => by omega)) (rs.fr fe (fun b hb => by omega)) (hx.ext ke) (by omega) (by omega) (by omega) (by omega) (by omega) fun w' e => h _ ((kk.tr ke).tr e)
          simp only [↓eBinI, ↓eDiv, ↓eShift, ↓eBinS, ↓ePick, ↓eNot, ↓eNeg, ↓eConv, ↓eConvS, ↓eExt0, ↓eExt1, ↓eExt2, ↓eFA, ↓eIA, ↓eLenSl, ↓eCapSl, ↓eLenS, ↓eMin, ↓eMax, ↓eCondT, ↓eCondF, ↓gIf_tt, ↓gIf_ff, ↓gIf_tf, ↓gIf_ft, ↓gIf_u, ↓gIfW_u, ↓gIfW_tt, ↓gIfW_ff, ↓gIfW_tf, ↓gIfW_ft, binI, divI, shiftI, add_mk, Nat.zero_add, cond_true, cond_false, decide_true, decide_false, Bool.not_true, Bool.not_false, Bool.and_true, Bool.true_and, Bool.and_false, Bool.false_and, Int.toNat_natCast, Nat.mul_one] at e
          exact e
      · skip
        refine boxC (cs := [.int .i64 0, .slice none 0 0, .slice none 0 0]) fun g6 w3 hg6 h3 c6 => ?_
        have z3 := h3.size; have l6 := c6.lt
        refine ⟨(Ext.tr h2 h3), ?_⟩
        refine (?_ : GCalls Tryd.prog 14 [chainV gen vc vs] _ X _)
        refine LOf_c ((hc.ext h2).ext h3) ((hv.ext h2).ext h3) (by omega) fun vo w4 h4 ro so => ?_
        have z4 := h4.size
        refine anew_ ?_
        refine Step_c ((hs.ext h3).ext h4) (((hk.ext h2).ext h3).ext h4) ro so (by omega) (by omega) (by omega) (by omega) hse fun vk vn vs2 w5 DD BB h5 hB1 hB2 rk rn o5 hD2 hb5 => ?_
        have z5 := h5.size
        refine ⟨h5, ?_⟩
        have rs : Rd (.slice tSkip) (BB ≤ ·) w5 [vs2] sk := o5.rd2 (fun b hb => (hD2 b hb).1) (fun b _ hB _ => hB) (by show sk.length < _; omega)
        have rs := rd_bd rs; have rk := rd_bd rk; have rn := rd_bd rn
        have ov := one_of_rd rn; have os := one_of_rd rs
        simp only [↓eExt0, ↓eExt1, chainV]
        refine ((c6.ext h4).ext h5).setN (l' := [.int .i64 (gen + 1), vn, vs2]) rfl rfl (allOne3 rfl ov os) fun we ce fe => ?_
        refine anew_ ?_
        have ke : Ext w1b we := Ext.tn (Ext.tr (Ext.tr (Ext.tr h2 h3) h4) h5) fe (fun x hx => by omega)
        have e := steps_end (X := X) (K := K) (((((c2.ext h2).ext h3).ext h4).ext h5).fr fe (by omega)) ce (hk.ext ke) (hc.ext ke) (hv.ext ke) (rk.fr fe (fun b hb => by omega)) (rn.fr fe (fun b hb => by omega)) (rs.fr fe (fun b hb => by omega)) (hx.ext ke) (by omega) (by omega) (by omega) (by omega) (by omega) fun w' e => h _ ((kk.tr ke).tr e)
        simp only [↓eBinI, ↓eDiv, ↓eShift, ↓eBinS, ↓ePick, ↓eNot, ↓eNeg, ↓eConv, ↓eConvS, ↓eExt0, ↓eExt1, ↓eExt2, ↓eFA, ↓eIA, ↓eLenSl, ↓eCapSl, ↓eLenS, ↓eMin, ↓eMax, ↓eCondT, ↓eCondF, ↓gIf_tt, ↓gIf_ff, ↓gIf_tf, ↓gIf_ft, ↓gIf_u, ↓gIfW_u, ↓gIfW_tt, ↓gIfW_ff, ↓gIfW_tf, ↓gIfW_ft, binI, divI, shiftI, add_mk, Nat.zero_add, cond_true, cond_false, decide_true, decide_false, Bool.not_true, Bool.not_false, Bool.and_true, Bool.true_and, Bool.and_false, Bool.false_and, Int.toNat_natCast, Nat.mul_one] at e
        exact e
    · skip
      refine boxC (cs := [.int .i64 0, .slice none 0 0, .slice none 0 0]) fun g6 w2 hg6 h2 c6 => ?_
      have z2 := h2.size; have l6 := c6.lt
      refine ⟨h2, ?_⟩
      refine Real_c (by omega) fun gs w3 h3 qs hs => ?_
      have z3 := h3.size
      refine ⟨(Ext.tr h2 h3), ?_⟩
      refine (?_ : GCalls Tryd.prog 14 [chainV gen vc vs] _ X _)
      refine LOf_c ((hc.ext h2).ext h3) ((hv.ext h2).ext h3) (by omega) fun vo w4 h4 ro so => ?_
      have z4 := h4.size
      refine anew_ ?_
      refine Step_c (hs.ext h4) (((hk.ext h2).ext h3).ext h4) ro so (by omega) (by omega) (by omega) (by omega) hse fun vk vn vs2 w5 DD BB h5 hB1 hB2 rk rn o5 hD2 hb5 => ?_
      have z5 := h5.size
      refine ⟨h5, ?_⟩
      have rs : Rd (.slice tSkip) (BB ≤ ·) w5 [vs2] sk := o5.rd2 (fun b hb => (hD2 b hb).1) (fun b _ hB _ => hB) (by show sk.length < _; omega)
      have rs := rd_bd rs; have rk := rd_bd rk; have rn := rd_bd rn
      have ov := one_of_rd rn; have os := one_of_rd rs
      simp only [↓eExt0, ↓eExt1, chainV]
      refine (((c6.ext h3).ext h4).ext h5).setN (l' := [.int .i64 (gen + 1), vn, vs2]) rfl rfl (allOne3 rfl ov os) fun we ce fe => ?_
      refine anew_ ?_
      have ke : Ext w1b we := Ext.tn (Ext.tr (Ext.tr (Ext.tr h2 h3) h4) h5) fe (fun x hx => by omega)
      have e := steps_end (X := X) (K := K) (((((c2.ext h2).ext h3).ext h4).ext h5).fr fe (by omega)) ce (hk.ext ke) (hc.ext ke) (hv.ext ke) (rk.fr fe (fun b hb => by omega)) (rn.fr fe (fun b hb => by omega)) (rs.fr fe (fun b hb => by omega)) (hx.ext ke) (by omega) (by omega) (by omega) (by omega) (by omega) fun w' e => h _ ((kk.tr ke).tr e)
      simp only [↓eBinI, ↓eDiv, ↓eShift, ↓eBinS, ↓ePick, ↓eNot, ↓eNeg, ↓eConv, ↓eConvS, ↓eExt0, ↓eExt1, ↓eExt2, ↓eFA, ↓eIA, ↓eLenSl, ↓eCapSl, ↓eLenS, ↓eMin, ↓eMax, ↓eCondT, ↓eCondF, ↓gIf_tt, ↓gIf_ff, ↓gIf_tf, ↓gIf_ft, ↓gIf_u, ↓gIfW_u, ↓gIfW_tt, ↓gIfW_ff, ↓gIfW_tf, ↓gIfW_ft, binI, divI, shiftI, add_mk, Nat.zero_add, cond_true, cond_false, decide_true, decide_false, Bool.not_true, Bool.not_false, Bool.and_true, Bool.true_and, Bool.and_false, Bool.false_and, Int.toNat_natCast, Nat.mul_one] at e
      exact e
end Go.Proofs.YtkpgmaiklfjjgaaDoor
end
section
set_option linter.unusedSimpArgs false
set_option linter.unusedVariables false
namespace Go.G
open Go Go.ChangeShapes Go.WideShapes Go.ChangeAt Go.RowKit
/-- Whatever is read at this type of the program reads as this. -/
def Opens (P : Program) (t : TypeId) (ty : Ty) : Prop :=
  ∀ (H : Type) (enc : TypeId × Value → H) (w : World) (sp : Nat → Bool) (fuel : Nat) (cs : List Value) (x : DataW H × List MemPlace),
    DataW.trod enc P w 0 sp true fuel t cs = some x → ∃ y, Rd ty (fun b => b < w.heap.size) w cs y
variable {P : Program} {t : TypeId}
theorem wf_min_max {k : IntKind} {n : Int} (h : (Lit.int k n).wf = true) : k.min ≤ n ∧ n ≤ k.max := by
  simp only [Lit.wf, Bool.and_eq_true, decide_eq_true_eq] at h; exact h
theorem opens_int {k : IntKind} (ht : P.underlying t = some (.int k)) : Opens P t (.int k) := fun H enc w sp fuel cs x h => by
  obtain ⟨n, rfl, _, hw⟩ := DataW.trod_int ht h
  exact ⟨n, rfl, wf_min_max hw⟩
theorem opens_byte (ht : P.underlying t = some (.int .u8)) : Opens P t .byte := fun H enc w sp fuel cs x h => by
  obtain ⟨n, rfl, _, hw⟩ := DataW.trod_int ht h
  have := wf_min_max hw
  simp [IntKind.min, IntKind.max, IntKind.signed, IntKind.bits] at this
  refine ⟨UInt8.ofNat n.toNat, ?_⟩
  show [Value.int .u8 n] = [Value.int .u8 _]
  congr 2
  rw [UInt8.toNat_ofNat']
  omega
theorem opens_bool (ht : P.underlying t = some .bool) : Opens P t .bool := fun H enc w sp fuel cs x h => by
  obtain ⟨b, rfl, _⟩ := DataW.trod_bool ht h
  exact ⟨b, rfl⟩
theorem opens_str (ht : P.underlying t = some .string) : Opens P t .str := fun H enc w sp fuel cs x h => by
  obtain ⟨s, rfl, _, hl⟩ := DataW.trod_string ht h
  refine ⟨s.data.toList, ?_, ?_⟩
  · simp
  · simp [maxLen] at hl ⊢
    have : s.data.size = s.size := rfl
    omega
theorem list_choice {α : Type} {p : Nat → α → Prop} : ∀ (n : Nat), (∀ i, i < n → ∃ y, p i y) → ∃ l : List α, l.length = n ∧ ∀ i (h : i < l.length), p i l[i]
  | 0, _ => ⟨[], rfl, fun i h => by simp at h⟩
  | n + 1, h => by
    obtain ⟨l, hl, hp⟩ := list_choice n (fun i hi => h i (by omega))
    obtain ⟨y, hy⟩ := h n (by omega)
    refine ⟨l ++ [y], by simp [hl], fun i hi => ?_⟩
    by_cases hin : i < l.length
    · rw [List.getElem_append_left hin]; exact hp i hin
    · have : i = l.length := by simp at hi; omega
      subst this
      rw [List.getElem_append_right (by omega)]
      simpa [hl] using hy
theorem opens_slice {e : TypeId} {ty : Ty} (ht : P.underlying t = some (.slice e)) (hc : P.cellsOf e = ty.n) (he : Opens P e ty) : Opens P t (.slice ty) := fun H enc w sp fuel cs x h => by
  rcases DataW.trod_slice ht h with ⟨rfl, _⟩ | ⟨a, len, cap, elems, rest, n, rfl, rfl, _, _, hlc, hcm, hel, hget, _, _⟩
  · exact ⟨[], none, 0, rfl, Nat.le_refl _, by simp, fun h => absurd rfl h⟩
  · have hp := ty.n_pos
    have hspot : 0 < len → a.spot = none := fun h0 => by
      have hg := hget 0 h0
      rw [List.getElem?_eq_getElem (by omega)] at hg
      obtain ⟨cs, h1, _⟩ := Option.bind_eq_some_iff.1 hg
      obtain ⟨_, hlen, hcell⟩ := World.cells?_some h1
      rw [hc] at hcell hlen
      have h0 := hcell 0 (by omega)
      rw [List.getElem?_eq_getElem (by omega), add_zero, Nat.zero_mul, add_zero] at h0
      exact World.cell?_spot h0
    have key : ∀ i, i < len → ∃ y, a.spot = none ∧ a.block < w.heap.size ∧ ∃ cs : List Value, cs.length = ty.n ∧ (∀ j v, cs[j]? = some v → w.cell? (a.add (i * ty.n + j)) = some v) ∧ Rd ty (fun b => b < w.heap.size) w cs y := by
      intro i hi
      have hg := hget i hi
      rw [List.getElem?_eq_getElem (by omega)] at hg
      obtain ⟨cs, h1, h2⟩ := Option.bind_eq_some_iff.1 hg
      obtain ⟨_, hlen, hcell⟩ := World.cells?_some h1
      obtain ⟨y, hy⟩ := he H enc w sp n cs _ h2
      rw [hc] at hcell hlen
      have h0 := hcell 0 (by omega)
      rw [List.getElem?_eq_getElem (by omega)] at h0
      have hsp : a.spot = none := hspot (by omega)
      refine ⟨y, hsp, ?_, cs, hlen, fun j v hj => ?_, hy⟩
      · have := cell_lt h0
        rwa [add_block, add_block] at this
      · have hjl := (List.getElem?_eq_some_iff.1 hj).1
        have := hcell j (by omega)
        rw [add_add _ _ _ hsp] at this
        rw [this]; exact hj
    obtain ⟨ys, hl, hy⟩ := list_choice len key
    refine ⟨ys, some a, cap, by rw [hl], by omega, by simp [maxLen] at hcm; omega, fun hne => ?_⟩
    have hpos : 0 < ys.length := List.length_pos_iff.2 hne
    obtain ⟨s0, b0, _⟩ := hy 0 hpos
    exact ⟨a, rfl, s0, b0, fun i hi => (hy i hi).2.2⟩
theorem opens_pair {fs : Array Field} {f1 f2 : Field} {a b : Ty} (ht : P.underlying t = some (.struct fs)) (hf : fs = #[f1, f2]) (hn : P.cellsOf t = a.n + b.n) (o1 : f1.offset = 0) (o2 : f2.offset = a.n) (c1 : P.cellsOf f1.type = a.n) (c2 : P.cellsOf f2.type = b.n)
    (h1 : Opens P f1.type a) (h2 : Opens P f2.type b) : Opens P t (.pair a b) := fun H enc w sp fuel cs x h => by
  subst hf
  obtain ⟨xs, n, _, _, hl, hxl, hx⟩ := DataW.trod_struct ht h
  have g1 := hx 0 f1 rfl
  have g2 := hx 1 f2 rfl
  simp at hxl
  rw [List.getElem?_eq_getElem (by omega), o1, c1] at g1
  rw [List.getElem?_eq_getElem (by omega), o2, c2] at g2
  obtain ⟨y1, hy1⟩ := h1 H enc w sp n _ _ g1
  obtain ⟨y2, hy2⟩ := h2 H enc w sp n _ _ g2
  rw [hn] at hl
  refine ⟨(y1, y2), cs.take a.n, cs.drop a.n, (List.take_append_drop _ _).symm, by simp; omega, by simp; omega, by simpa using hy1, ?_⟩
  rw [List.take_of_length_le (by simp; omega)] at hy2
  exact hy2
theorem opens_three {fs : Array Field} {f1 f2 f3 : Field} {a b c : Ty} (ht : P.underlying t = some (.struct fs)) (hf : fs = #[f1, f2, f3]) (hn : P.cellsOf t = a.n + (b.n + c.n)) (o1 : f1.offset = 0) (o2 : f2.offset = a.n) (o3 : f3.offset = a.n + b.n) (c1 : P.cellsOf f1.type = a.n) (c2 : P.cellsOf f2.type = b.n) (c3 : P.cellsOf f3.type = c.n)
    (h1 : Opens P f1.type a) (h2 : Opens P f2.type b) (h3 : Opens P f3.type c) : Opens P t (.pair a (.pair b c)) := fun H enc w sp fuel cs x h => by
  subst hf
  obtain ⟨xs, n, _, _, hl, hxl, hx⟩ := DataW.trod_struct ht h
  have g1 := hx 0 f1 rfl
  have g2 := hx 1 f2 rfl
  have g3 := hx 2 f3 rfl
  simp at hxl
  rw [List.getElem?_eq_getElem (by omega), o1, c1] at g1
  rw [List.getElem?_eq_getElem (by omega), o2, c2] at g2
  rw [List.getElem?_eq_getElem (by omega), o3, c3] at g3
  obtain ⟨y1, hy1⟩ := h1 H enc w sp n _ _ g1
  obtain ⟨y2, hy2⟩ := h2 H enc w sp n _ _ g2
  obtain ⟨y3, hy3⟩ := h3 H enc w sp n _ _ g3
  rw [hn] at hl
  refine ⟨(y1, y2, y3), cs.take a.n, cs.drop a.n, (List.take_append_drop _ _).symm, by simp; omega, by simp [Ty.n]; omega, by simpa using hy1, (cs.drop a.n).take b.n, (cs.drop a.n).drop b.n, (List.take_append_drop _ _).symm, by simp; omega, by simp; omega, hy2, ?_⟩
  rw [List.take_of_length_le (by simp; omega)] at hy3
  rw [List.drop_drop]
  exact hy3
theorem trodAll_stays {H : Type} {enc : TypeId × Value → H} (hl : laidOutB P = true) {W W' : World} (hb : Below W.heap.size W W') : ∀ {ts : List TypeId} {vs : List Value} {ds : List (DataW H)} {ps : List MemPlace}, (∀ t ∈ ts, P.readableRec t = true ∧ t < P.types.size) →
    DataW.TrodAll enc P W 0 (fun _ => true) true ts vs ds ps → DataW.TrodAll enc P W' 0 (fun b => decide (b < W.heap.size)) true ts vs ds ps
  | [], [], [], _, _, h => h
  | t :: ts, v :: vs, d :: ds, ps, hr, h => by
    obtain ⟨p, q, h1, h2, h3⟩ := h
    refine ⟨p, q, ?_, trodAll_stays hl hb (fun t ht => hr t (List.mem_cons_of_mem _ ht)) h2, h3⟩
    obtain ⟨fuel, hf⟩ := h1
    exact Below.trod hl (hr t (by simp)).1 (hr t (by simp)).2 ⟨fuel, hf⟩ hb (fun x hx => DataW.trod_lt _ _ _ _ hf x hx)
  | [], _ :: _, _, _, _, h => by simp [DataW.TrodAll] at h
  | [], [], _ :: _, _, _, h => by simp [DataW.TrodAll] at h
  | _ :: _, [], _, _, _, h => by simp [DataW.TrodAll] at h
  | _ :: _, _ :: _, [], _, _, h => by simp [DataW.TrodAll] at h
theorem trodAll_len {H : Type} {enc : TypeId × Value → H} {W : World} {base : Nat} {sp : Nat → Bool} {hd : Bool} : ∀ {ts : List TypeId} {vs : List Value} {ds : List (DataW H)} {ps : List MemPlace}, DataW.TrodAll enc P W base sp hd ts vs ds ps → ds.length = ts.length ∧ vs.length = ts.length
  | [], [], [], _, _ => ⟨rfl, rfl⟩
  | t :: ts, v :: vs, d :: ds, _, h => by
    obtain ⟨p, q, _, h2, _⟩ := h
    have := trodAll_len h2
    simp [this]
  | [], _ :: _, _, _, h => by simp [DataW.TrodAll] at h
  | [], [], _ :: _, _, h => by simp [DataW.TrodAll] at h
  | _ :: _, [], _, _, h => by simp [DataW.TrodAll] at h
  | _ :: _, _ :: _, [], _, h => by simp [DataW.TrodAll] at h
theorem Ext.below {w w' : World} (h : Ext w w') : Below w.heap.size w w' := ⟨h.os, h.tape, h.output, h.size, fun k hk => h.keep k hk (fun h => h)⟩
/-- A law: it hands back true, and nothing has turned. -/
theorem law_end {fn : Func} {s : ChangeSpec} {H : Type} {enc : TypeId × Value → H} {W : World} {args : Array Value} {ds gs : List (DataW H)} {before : List MemPlace} {f : FuncId} {tb : TypeId}
    (hW : DataW.Whole enc P fn.params.toList s.vars false W args.toList ds gs before) (hv : s.vars = []) (hs : ∀ ds : List (DataW H), ds.length = fn.params.toList.length → s.fn H ds = { results := [.lit (.bool true)], args := ds })
    (hr : fn.resultTypes = #[tb]) (hb : P.underlying tb = some .bool) (hl : laidOutB P = true) (hp : ∀ t ∈ fn.params.toList, P.readableRec t = true ∧ t < P.types.size)
    (walk : GCalls P f args.toList (fun v w' => v = .bool true ∧ Ext W w') (fun _ _ => False) W) (hfb : ((P.funcs[f]?).bind (·.body)).isSome = true := by kernel_rfl) :
    Calls P f args W fun e w' => ∃ v, e = .returned v ∧ s.post enc P fn false true false false W args v w' := by
  have hw := walk.calls hfb
  rw [Array.toArray_toList] at hw
  refine hw.mono fun e w' he => ?_
  cases e with
  | returned v =>
    obtain ⟨rfl, hE⟩ := he
    refine ⟨_, rfl, ds, gs, before, [], before, [], hW, ?_⟩
    obtain ⟨p, q, hA, hV, rfl, _, _⟩ := hW
    rw [hv] at hV
    cases gs with
    | cons _ _ => simp [DataW.TrodVars] at hV
    | nil =>
    have hq : q = [] := hV
    subst hq
    rw [List.append_nil, hs ds (trodAll_len hA).1, hr]
    simp only [List.append_nil]
    refine ⟨?_, trodAll_stays hl hE.below hp hA, ?_, hE.below.frame _, fun h => by cases h⟩
    · refine ⟨[], [], ⟨1, ?_⟩, rfl, rfl⟩
      simp [DataW.trod, hb, Value.cells]
    · rw [hv]; rfl
  | panicked ch => exact he.elim
  | outgrown => exact he.elim
end Go.G
end
section
set_option maxRecDepth 100000
set_option linter.unusedVariables false
namespace Go.Proofs.YtkpgmaiklfjjgaaDoor
open Go Go.G Go.ChangeShapes Go.WideShapes Go.ChangeAt Go.RowKit
theorem opens_bytes : Opens Tryd.prog 22 (.slice .byte) := opens_slice Tryd.underlying22 (by kernel_rfl) (opens_byte Tryd.underlying5)
theorem opens_ints : Opens Tryd.prog 42 (.slice (.int .i64)) := opens_slice Tryd.underlying42 (by kernel_rfl) (opens_int Tryd.underlying3)
def kInts : List Int := kT.map fun x => (x.toNat : Int)
theorem k_data : (Rows.laid_oubliette_sha_k : DataW Unit) = Lib.tabData .u32 kInts := by kernel_rfl
theorem p_data : (Rows.laid_internal_strconv_uint64pow10 : DataW Unit) = Lib.tabData .u64 Lib.pow10Tab := by kernel_rfl
abbrev laid1 : List (String × DataW Unit) := [("oubliette/sha.k", Rows.laid_oubliette_sha_k)]
abbrev laid4 : List (String × DataW Unit) := [("math/bits.deBruijn32tab", Rows.laid_math_bits_deBruijn32tab), ("math/bits.deBruijn64tab", Rows.laid_math_bits_deBruijn64tab), ("internal/strconv.uint64pow10", Rows.laid_internal_strconv_uint64pow10), ("oubliette/sha.k", Rows.laid_oubliette_sha_k)]
theorem gK : Tryd.prog.globalNamed "oubliette/sha.k" = some 2 := by kernel_rfl
theorem kt_of {W : World} (h : Lib.TabIs Tryd.prog W "oubliette/sha.k" .u32 kInts) : KT W := fun i hi => by
  have hl : kInts.length = kT.length := by simp [kInts]
  have := h.cell gK i (by omega)
  rw [this]
  simp [kInts, u, List.getD, hi]
theorem gP : Tryd.prog.globalNamed "internal/strconv.uint64pow10" = some 0 := by kernel_rfl
theorem of_laid1 {W : World} (h : laidMetH Tryd.prog laid1 W) : KT W := by
  rw [MakeChecks.laidMetH_plain _ _ _ (by kernel_rfl)] at h
  unfold laid1 at h
  rw [k_data] at h
  exact kt_of (Lib.tabIs_of_head gK (by kernel_rfl) Tryd.underlying155 Tryd.underlying154 (by kernel_rfl) (by kernel_rfl) h)
theorem of_laid4 {W : World} (h : laidMetH Tryd.prog laid4 W) : TB W := by
  rw [MakeChecks.laidMetH_plain _ _ _ (by kernel_rfl)] at h
  unfold laid4 at h
  have h2 := h.tail.tail
  have h3 := h2.tail
  rw [k_data] at h3
  rw [p_data] at h2
  exact ⟨kt_of (Lib.tabIs_of_head gK (by kernel_rfl) Tryd.underlying155 Tryd.underlying154 (by kernel_rfl) (by kernel_rfl) h3),
    Lib.tabIs_of_head gP (by kernel_rfl) Tryd.underlying181 Tryd.underlying112 (by kernel_rfl) (by kernel_rfl) h2⟩
theorem own : ownKnob Tryd.prog.godebug = none := by kernel_rfl
theorem door_met1 (os : Os) (args : Array Value) : laidMetH Tryd.prog laid1 ((World.doorLaid Tryd.prog 600 os).forCall (fun _ _ => 0) ⟨#[], args, []⟩).memory := by
  rw [MakeChecks.laidMetH_plain _ _ _ (by kernel_rfl)]
  exact laidMet_of_run' 8 (by kernel_rfl) (by kernel_rfl)
theorem door_met4 (os : Os) (args : Array Value) : laidMetH Tryd.prog laid4 ((World.doorLaid Tryd.prog 600 os).forCall (fun _ _ => 0) ⟨#[], args, []⟩).memory := by
  rw [MakeChecks.laidMetH_plain _ _ _ (by kernel_rfl)]
  exact laidMet_of_run' 8 (by kernel_rfl) (by kernel_rfl)
end Go.Proofs.YtkpgmaiklfjjgaaDoor
end
section
set_option maxRecDepth 100000
set_option linter.unusedVariables false
namespace Go.Proofs.YtkpgmaiklfjjgaaDoor
open Go Go.G Go.ChangeShapes Go.WideShapes Go.ChangeAt Go.RowKit
abbrev tChain : Ty := .pair (.int .i64) (.pair (.slice .byte) (.slice tSkip))
theorem opens_skips : Opens Tryd.prog 23 (.slice tSkip) :=
  opens_slice Tryd.underlying23 (by kernel_rfl) (opens_pair Tryd.underlying84 rfl (by kernel_rfl) rfl rfl (by kernel_rfl) (by kernel_rfl) (opens_int Tryd.underlying3) opens_bytes)
theorem opens_chain : Opens Tryd.prog 25 tChain :=
  opens_three Tryd.underlying25 rfl (by kernel_rfl) rfl rfl rfl (by kernel_rfl) (by kernel_rfl) (by kernel_rfl) (opens_int Tryd.underlying3) opens_bytes opens_skips
theorem chain_of {v : Value} {w : World} {D : Nat → Prop} {x : tChain.D} (h : RdV tChain D w v x) (hv : ∃ cs, v = .agg cs) :
    ∃ gen vc vs, v = chainV gen vc vs ∧ -9223372036854775808 ≤ gen ∧ gen ≤ 9223372036854775807 ∧ ∃ cur : List UInt8, ∃ sk : List (Int × List UInt8), Rd (.slice .byte) D w [vc] cur ∧ Rd (.slice tSkip) D w [vs] sk := by
  obtain ⟨cs, rfl⟩ := hv
  obtain ⟨va, vb, h1, _, _, h2, vc, vd, h3, hc, hd, h4, h5⟩ := h
  obtain ⟨c, rfl⟩ := List.length_eq_one_iff.1 hc
  obtain ⟨d, rfl⟩ := List.length_eq_one_iff.1 hd
  refine ⟨x.1, c, d, ?_, h2.2.1, h2.2.2, x.2.1, x.2.2, h4, h5⟩
  rw [h3, h2.1] at h1
  unfold chainV
  congr 1
  apply Array.ext'
  simpa [Value.cells] using h1
end Go.Proofs.YtkpgmaiklfjjgaaDoor
end
