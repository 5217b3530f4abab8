/-
  The law on what an epoch is born with, part by part.
  The law on what an epoch is born with.
-/
import Derived.Test.YtkpgmaiklfjjgaaGreatDoorMoar
section
set_option linter.unusedSimpArgs false
set_option linter.unusedVariables false
namespace Go.Proofs.YtkpgmaiklfjjgaaGreatDoor
open Go Go.G Go.RowKit
variable {X : KX} {w : World} {K : KV} {D D' D1 D2 D3 D4 D5 : Nat → Prop}
abbrev B3 := List UInt8 × List UInt8 × List Ch
abbrev b3nil : B3 := ([], [], [])
def bornB (j : List UInt8) (n : Int) : B3 := (deriveF j exportL, deriveF j initL, bornL j n.toNat)
/-- A box that holds what an epoch is born with. -/
def Holds (w : World) (g : Nat) (p : B3) : Prop := ∃ ve vi vc D, Cs w g [ve, vi, vc] ∧ IsBirth D w (birthV ve vi vc) p.1 p.2.1 p.2.2
theorem Holds.ext {w w' : World} {g : Nat} {p : B3} (h : Holds w g p) (e : Ext w w') : Holds w' g p := by
  obtain ⟨ve, vi, vc, D, c, hb⟩ := h
  exact ⟨ve, vi, vc, D, c.ext e, hb.ext e⟩
theorem b3_of {f : Int} {p q : B3} (h : f = 0 → p = q) (d : f = 0) : p = q := h d
variable {x0 x1 : Value} {a b : List UInt8} {n f : Int} {g8 g10 g12 : Nat} {p8 p10 p12 : B3} {gg : Nat → Value}
theorem plainB {j : List UInt8} {n : Int} {p : B3} (h : p = bornB j n ∨ p = b3nil) (hn : n ≤ 4) : p.2.2.length ≤ 100 ∧ plain p.2.2 := by
  rcases h with rfl | rfl
  · exact ⟨by show (bornL j n.toNat).length ≤ 100; rw [bornL_len]; omega, plain_born _ _⟩
  · exact ⟨by show 0 ≤ 100; omega, fun c hc => by cases hc⟩
theorem c5_c (hk : KT w) (pt : PT w) (hx : Rd (.slice .byte) D1 w [x0] a) (hy : Rd (.slice .byte) D2 w [x1] b) (hal : a.length ≤ 100) (hbl : b.length ≤ 100) (h10 : Holds w g10 p10) (hp : whyF n [a, b] = 0 → p10 = bornB (deriveF (ofF a b) joinL) n)
    (h : ∀ w', Ext w w' → K (.bool true) w') : oubliettelaw34_EpochBorn.c5 x0 x1 (.int .i64 n) (.pointer (some ⟨g10, 0, none⟩)) (.int .i64 (whyF n [a, b])) gg K X w := by
  unfold oubliettelaw34_EpochBorn.c5
  by_cases d : whyF n [a, b] = 0
  · obtain ⟨n1, n4, _⟩ := whyF_keys d
    obtain ⟨m, rfl⟩ : ∃ m : Nat, n = (m : Int) := ⟨n.toNat, by omega⟩
    have hp := hp d
    subst hp
    obtain ⟨ve, vi, vc, D, c, hb⟩ := h10
    rw [d]
    simp only [↓eBinI, ↓eDiv, ↓eShift, ↓eBinS, ↓ePick, ↓eNot, ↓eNeg, ↓eConv, ↓eConvS, ↓eExt0, ↓eExt1, ↓eExt2, ↓eFA, ↓eIA, ↓eLenSl, ↓eCapSl, ↓eLenS, ↓eMin, ↓eMax, ↓eCondT, ↓eCondF, ↓gIf_tt, ↓gIf_ff, ↓gIf_tf, ↓gIf_ft, ↓gIf_u, ↓gIfW_u, ↓gIfW_tt, ↓gIfW_ff, ↓gIfW_tf, ↓gIfW_ft, binI, divI, shiftI, add_mk, Nat.zero_add, cond_true, cond_false, decide_true, decide_false, Bool.not_true, Bool.not_false, Bool.and_true, Bool.true_and, Bool.and_false, Bool.false_and, Int.toNat_natCast, Nat.mul_one, eq0, ↓c.ld3]
    refine (?_ : GCalls Tryz.prog 12 [birthV ve vi vc] _ X w)
    have hq := plainB (.inl rfl : bornB (deriveF (ofF a b) joinL) m = _ ∨ _) n4
    refine Back34_c hb hq.1 hq.2 fun v1 w1 h1 hb1 => ?_
    refine refNext_c (by omega) (hx.ext h1) (hy.ext h1) (by omega) (by omega) fun v2 w2 h2 hb2 => ?_
    refine Same34_c (hb1.ext h2) hb2 fun w3 h3 => ?_
    simp only [↓eBinI, ↓eDiv, ↓eShift, ↓eBinS, ↓ePick, ↓eNot, ↓eNeg, ↓eConv, ↓eConvS, ↓eExt0, ↓eExt1, ↓eExt2, ↓eFA, ↓eIA, ↓eLenSl, ↓eCapSl, ↓eLenS, ↓eMin, ↓eMax, ↓eCondT, ↓eCondF, ↓gIf_tt, ↓gIf_ff, ↓gIf_tf, ↓gIf_ft, ↓gIf_u, ↓gIfW_u, ↓gIfW_tt, ↓gIfW_ff, ↓gIfW_tf, ↓gIfW_ft, binI, divI, shiftI, add_mk, Nat.zero_add, cond_true, cond_false, decide_true, decide_false, Bool.not_true, Bool.not_false, Bool.and_true, Bool.true_and, Bool.and_false, Bool.false_and, Int.toNat_natCast, Nat.mul_one]
    exact alive34_c (((hk.ext h1).ext h2).ext h3) (((pt.ext h1).ext h2).ext h3) fun w4 h4 => h _ (((h1.tr h2).tr h3).tr h4)
  · simp only [↓eBinI, ↓eDiv, ↓eShift, ↓eBinS, ↓ePick, ↓eNot, ↓eNeg, ↓eConv, ↓eConvS, ↓eExt0, ↓eExt1, ↓eExt2, ↓eFA, ↓eIA, ↓eLenSl, ↓eCapSl, ↓eLenS, ↓eMin, ↓eMax, ↓eCondT, ↓eCondF, ↓gIf_tt, ↓gIf_ff, ↓gIf_tf, ↓gIf_ft, ↓gIf_u, ↓gIfW_u, ↓gIfW_tt, ↓gIfW_ff, ↓gIfW_tf, ↓gIfW_ft, binI, divI, shiftI, add_mk, Nat.zero_add, cond_true, cond_false, decide_true, decide_false, Bool.not_true, Bool.not_false, Bool.and_true, Bool.true_and, Bool.and_false, Bool.false_and, Int.toNat_natCast, Nat.mul_one, neqW d]
    exact alive34_c hk pt h
set_option maxRecDepth 100000 in
theorem c4_c (hk : KT w) (pt : PT w) (hx : Rd (.slice .byte) D1 w [x0] a) (hal : a.length ≤ 100) (h8 : Holds w g8 p8) (h12 : Holds w g12 p12) (hp8 : whyF n [a] = 0 → p8 = bornB (deriveF a joinL) n) (hp12 : whyF n [a] = 0 → p12 = bornB a n)
    (h : ∀ w' gg', Ext w w' → oubliettelaw34_EpochBorn.c5 x0 (gg 1) (.int .i64 n) (gg 10) (gg 17) gg' K X w') : oubliettelaw34_EpochBorn.c4 x0 (.int .i64 n) (.pointer (some ⟨g8, 0, none⟩)) (.pointer (some ⟨g12, 0, none⟩)) (.int .i64 (whyF n [a])) gg K X w := by
  unfold oubliettelaw34_EpochBorn.c4
  by_cases d : whyF n [a] = 0
  · obtain ⟨n1, n4, _⟩ := whyF_keys d
    obtain ⟨m, rfl⟩ : ∃ m : Nat, n = (m : Int) := ⟨n.toNat, by omega⟩
    have hp8 := hp8 d
    have hp12 := hp12 d
    subst hp8 hp12
    have hq8 := plainB (.inl rfl : bornB (deriveF a joinL) m = _ ∨ _) n4
    have hq12 := plainB (.inl rfl : bornB a m = _ ∨ _) n4
    obtain ⟨ve, vi, vc, D, c, hb⟩ := h8
    obtain ⟨ue, ui, uc, D', c', hb'⟩ := h12
    rw [d]
    simp only [↓eBinI, ↓eDiv, ↓eShift, ↓eBinS, ↓ePick, ↓eNot, ↓eNeg, ↓eConv, ↓eConvS, ↓eExt0, ↓eExt1, ↓eExt2, ↓eFA, ↓eIA, ↓eLenSl, ↓eCapSl, ↓eLenS, ↓eMin, ↓eMax, ↓eCondT, ↓eCondF, ↓gIf_tt, ↓gIf_ff, ↓gIf_tf, ↓gIf_ft, ↓gIf_u, ↓gIfW_u, ↓gIfW_tt, ↓gIfW_ff, ↓gIfW_tf, ↓gIfW_ft, binI, divI, shiftI, add_mk, Nat.zero_add, cond_true, cond_false, decide_true, decide_false, Bool.not_true, Bool.not_false, Bool.and_true, Bool.true_and, Bool.and_false, Bool.false_and, Int.toNat_natCast, Nat.mul_one, show ((0 : Int) == 0) = true from rfl, ↓c.ld3]
    refine (?_ : GCalls Tryz.prog 12 [birthV ve vi vc] _ X w)
    refine Back34_c hb hq8.1 hq8.2 fun v1 w1 h1 hb1 => ?_
    refine refFirst_c (by omega) (hx.ext h1) (by omega) fun v2 w2 h2 hb2 => ?_
    refine Same34_c (hb1.ext h2) hb2 fun w3 h3 => ?_
    have h13 := (h1.tr h2).tr h3
    have c' := c'.ext h13
    simp only [↓eBinI, ↓eDiv, ↓eShift, ↓eBinS, ↓ePick, ↓eNot, ↓eNeg, ↓eConv, ↓eConvS, ↓eExt0, ↓eExt1, ↓eExt2, ↓eFA, ↓eIA, ↓eLenSl, ↓eCapSl, ↓eLenS, ↓eMin, ↓eMax, ↓eCondT, ↓eCondF, ↓gIf_tt, ↓gIf_ff, ↓gIf_tf, ↓gIf_ft, ↓gIf_u, ↓gIfW_u, ↓gIfW_tt, ↓gIfW_ff, ↓gIfW_tf, ↓gIfW_ft, binI, divI, shiftI, add_mk, Nat.zero_add, cond_true, cond_false, decide_true, decide_false, Bool.not_true, Bool.not_false, Bool.and_true, Bool.true_and, Bool.and_false, Bool.false_and, Int.toNat_natCast, Nat.mul_one, ↓c'.ld3]
    refine (?_ : GCalls Tryz.prog 12 [birthV ue ui uc] _ X w3)
    refine Back34_c (hb'.ext h13) hq12.1 hq12.2 fun v4 w4 h4 hb4 => ?_
    refine refBorn_c (by omega) ((hx.ext h13).ext h4) (by omega) fun v5 w5 h5 hb5 => ?_
    refine Same34_c (hb4.ext h5) hb5 fun w6 h6 => ?_
    simp only [↓eBinI, ↓eDiv, ↓eShift, ↓eBinS, ↓ePick, ↓eNot, ↓eNeg, ↓eConv, ↓eConvS, ↓eExt0, ↓eExt1, ↓eExt2, ↓eFA, ↓eIA, ↓eLenSl, ↓eCapSl, ↓eLenS, ↓eMin, ↓eMax, ↓eCondT, ↓eCondF, ↓gIf_tt, ↓gIf_ff, ↓gIf_tf, ↓gIf_ft, ↓gIf_u, ↓gIfW_u, ↓gIfW_tt, ↓gIfW_ff, ↓gIfW_tf, ↓gIfW_ft, binI, divI, shiftI, add_mk, Nat.zero_add, cond_true, cond_false, decide_true, decide_false, Bool.not_true, Bool.not_false, Bool.and_true, Bool.true_and, Bool.and_false, Bool.false_and, Int.toNat_natCast, Nat.mul_one]
    exact oubliettelaw34_EpochBorn.c5_at (h _ _ (((h13.tr h4).tr h5).tr h6))
  · simp only [↓eBinI, ↓eDiv, ↓eShift, ↓eBinS, ↓ePick, ↓eNot, ↓eNeg, ↓eConv, ↓eConvS, ↓eExt0, ↓eExt1, ↓eExt2, ↓eFA, ↓eIA, ↓eLenSl, ↓eCapSl, ↓eLenS, ↓eMin, ↓eMax, ↓eCondT, ↓eCondF, ↓gIf_tt, ↓gIf_ff, ↓gIf_tf, ↓gIf_ft, ↓gIf_u, ↓gIfW_u, ↓gIfW_tt, ↓gIfW_ff, ↓gIfW_tf, ↓gIfW_ft, binI, divI, shiftI, add_mk, Nat.zero_add, cond_true, cond_false, decide_true, decide_false, Bool.not_true, Bool.not_false, Bool.and_true, Bool.true_and, Bool.and_false, Bool.false_and, Int.toNat_natCast, Nat.mul_one, show (whyF n [a] == 0) = false by simpa using d]
    exact oubliettelaw34_EpochBorn.c5_at (h _ _ (Fr.refl _ _))
set_option maxRecDepth 100000 in
theorem c3_c (h8 : Holds w g8 p8) (h10 : Holds w g10 p10) (h12 : Holds w g12 p12) {one two : Int} (hp8 : one ≠ 0 → p8 = b3nil) (hp12 : one ≠ 0 → p12 = b3nil) (hp10 : two ≠ 0 → p10 = b3nil)
    (h : ∀ w' gg', Ext w w' → gg' 1 = gg 1 → gg' 10 = .pointer (some ⟨g10, 0, none⟩) → gg' 17 = .int .i64 two → oubliettelaw34_EpochBorn.c4 (gg 0) (gg 2) (.pointer (some ⟨g8, 0, none⟩)) (.pointer (some ⟨g12, 0, none⟩)) (.int .i64 one) gg' K X w') :
    oubliettelaw34_EpochBorn.c3 (.pointer (some ⟨g8, 0, none⟩)) (.pointer (some ⟨g10, 0, none⟩)) (.pointer (some ⟨g12, 0, none⟩)) (.int .i64 one) (.int .i64 two) gg K X w := by
  unfold oubliettelaw34_EpochBorn.c3
  obtain ⟨ze, zi, zc, D', c10, hb10⟩ := h10
  by_cases d : one = 0
  · subst d
    simp only [↓eBinI, ↓eDiv, ↓eShift, ↓eBinS, ↓ePick, ↓eNot, ↓eNeg, ↓eConv, ↓eConvS, ↓eExt0, ↓eExt1, ↓eExt2, ↓eFA, ↓eIA, ↓eLenSl, ↓eCapSl, ↓eLenS, ↓eMin, ↓eMax, ↓eCondT, ↓eCondF, ↓gIf_tt, ↓gIf_ff, ↓gIf_tf, ↓gIf_ft, ↓gIf_u, ↓gIfW_u, ↓gIfW_tt, ↓gIfW_ff, ↓gIfW_tf, ↓gIfW_ft, binI, divI, shiftI, add_mk, Nat.zero_add, cond_true, cond_false, decide_true, decide_false, Bool.not_true, Bool.not_false, Bool.and_true, Bool.true_and, Bool.and_false, Bool.false_and, Int.toNat_natCast, Nat.mul_one, eq0]
    by_cases d2 : two = 0
    · subst d2
      simp only [↓eBinI, ↓eDiv, ↓eShift, ↓eBinS, ↓ePick, ↓eNot, ↓eNeg, ↓eConv, ↓eConvS, ↓eExt0, ↓eExt1, ↓eExt2, ↓eFA, ↓eIA, ↓eLenSl, ↓eCapSl, ↓eLenS, ↓eMin, ↓eMax, ↓eCondT, ↓eCondF, ↓gIf_tt, ↓gIf_ff, ↓gIf_tf, ↓gIf_ft, ↓gIf_u, ↓gIfW_u, ↓gIfW_tt, ↓gIfW_ff, ↓gIfW_tf, ↓gIfW_ft, binI, divI, shiftI, add_mk, Nat.zero_add, cond_true, cond_false, decide_true, decide_false, Bool.not_true, Bool.not_false, Bool.and_true, Bool.true_and, Bool.and_false, Bool.false_and, Int.toNat_natCast, Nat.mul_one, eq0]
      exact oubliettelaw34_EpochBorn.c4_at (h _ _ (Fr.refl _ _) rfl rfl rfl)
    · have hp10 := hp10 d2
      subst hp10
      have hq := plainB (j := []) (n := 0) (.inr rfl : b3nil = _ ∨ b3nil = _) (by omega)
      simp only [↓eBinI, ↓eDiv, ↓eShift, ↓eBinS, ↓ePick, ↓eNot, ↓eNeg, ↓eConv, ↓eConvS, ↓eExt0, ↓eExt1, ↓eExt2, ↓eFA, ↓eIA, ↓eLenSl, ↓eCapSl, ↓eLenS, ↓eMin, ↓eMax, ↓eCondT, ↓eCondF, ↓gIf_tt, ↓gIf_ff, ↓gIf_tf, ↓gIf_ft, ↓gIf_u, ↓gIfW_u, ↓gIfW_tt, ↓gIfW_ff, ↓gIfW_tf, ↓gIfW_ft, binI, divI, shiftI, add_mk, Nat.zero_add, cond_true, cond_false, decide_true, decide_false, Bool.not_true, Bool.not_false, Bool.and_true, Bool.true_and, Bool.and_false, Bool.false_and, Int.toNat_natCast, Nat.mul_one, neqW d2, ↓c10.ld3]
      refine (?_ : GCalls Tryz.prog 12 [birthV ze zi zc] _ X w)
      refine Back34_c hb10 hq.1 hq.2 fun v7 w7 h7 hb7 => ?_
      refine ⟨[nilV, nilV, nilV], rfl, ?_⟩
      refine (?_ : GCalls Tryz.prog 11 [v7, birthV nilV nilV nilV] _ X w7)
      refine Same34_c hb7 (IsBirth.nil (fun _ => False) _) fun w8 h8 => ?_
      simp only [↓eBinI, ↓eDiv, ↓eShift, ↓eBinS, ↓ePick, ↓eNot, ↓eNeg, ↓eConv, ↓eConvS, ↓eExt0, ↓eExt1, ↓eExt2, ↓eFA, ↓eIA, ↓eLenSl, ↓eCapSl, ↓eLenS, ↓eMin, ↓eMax, ↓eCondT, ↓eCondF, ↓gIf_tt, ↓gIf_ff, ↓gIf_tf, ↓gIf_ft, ↓gIf_u, ↓gIfW_u, ↓gIfW_tt, ↓gIfW_ff, ↓gIfW_tf, ↓gIfW_ft, binI, divI, shiftI, add_mk, Nat.zero_add, cond_true, cond_false, decide_true, decide_false, Bool.not_true, Bool.not_false, Bool.and_true, Bool.true_and, Bool.and_false, Bool.false_and, Int.toNat_natCast, Nat.mul_one]
      exact oubliettelaw34_EpochBorn.c4_at (h _ _ (Ext.tr (Ext.tr (Fr.refl _ _) h7) h8) rfl rfl rfl)
  · have hp8 := hp8 d
    have hp12 := hp12 d
    subst hp8 hp12
    have hq := plainB (j := []) (n := 0) (.inr rfl : b3nil = _ ∨ b3nil = _) (by omega)
    obtain ⟨ve, vi, vc, D, c, hb⟩ := h8
    obtain ⟨ue, ui, uc, D', c', hb'⟩ := h12
    simp only [↓eBinI, ↓eDiv, ↓eShift, ↓eBinS, ↓ePick, ↓eNot, ↓eNeg, ↓eConv, ↓eConvS, ↓eExt0, ↓eExt1, ↓eExt2, ↓eFA, ↓eIA, ↓eLenSl, ↓eCapSl, ↓eLenS, ↓eMin, ↓eMax, ↓eCondT, ↓eCondF, ↓gIf_tt, ↓gIf_ff, ↓gIf_tf, ↓gIf_ft, ↓gIf_u, ↓gIfW_u, ↓gIfW_tt, ↓gIfW_ff, ↓gIfW_tf, ↓gIfW_ft, binI, divI, shiftI, add_mk, Nat.zero_add, cond_true, cond_false, decide_true, decide_false, Bool.not_true, Bool.not_false, Bool.and_true, Bool.true_and, Bool.and_false, Bool.false_and, Int.toNat_natCast, Nat.mul_one, neqW d, ↓c.ld3]
    refine (?_ : GCalls Tryz.prog 12 [birthV ve vi vc] _ X w)
    refine Back34_c hb hq.1 hq.2 fun v1 w1 h1 hb1 => ?_
    refine ⟨[nilV, nilV, nilV], rfl, ?_⟩
    refine (?_ : GCalls Tryz.prog 11 [v1, birthV nilV nilV nilV] _ X w1)
    refine Same34_c hb1 (IsBirth.nil (fun _ => False) _) fun w2 h2 => ?_
    have h12 := h1.tr h2
    have c' := c'.ext h12
    simp only [↓eBinI, ↓eDiv, ↓eShift, ↓eBinS, ↓ePick, ↓eNot, ↓eNeg, ↓eConv, ↓eConvS, ↓eExt0, ↓eExt1, ↓eExt2, ↓eFA, ↓eIA, ↓eLenSl, ↓eCapSl, ↓eLenS, ↓eMin, ↓eMax, ↓eCondT, ↓eCondF, ↓gIf_tt, ↓gIf_ff, ↓gIf_tf, ↓gIf_ft, ↓gIf_u, ↓gIfW_u, ↓gIfW_tt, ↓gIfW_ff, ↓gIfW_tf, ↓gIfW_ft, binI, divI, shiftI, add_mk, Nat.zero_add, cond_true, cond_false, decide_true, decide_false, Bool.not_true, Bool.not_false, Bool.and_true, Bool.true_and, Bool.and_false, Bool.false_and, Int.toNat_natCast, Nat.mul_one, ↓c'.ld3]
    refine (?_ : GCalls Tryz.prog 12 [birthV ue ui uc] _ X w2)
    refine Back34_c (hb'.ext h12) hq.1 hq.2 fun v3 w3 h3 hb3 => ?_
    refine ⟨[nilV, nilV, nilV], rfl, ?_⟩
    refine (?_ : GCalls Tryz.prog 11 [v3, birthV nilV nilV nilV] _ X w3)
    refine Same34_c hb3 (IsBirth.nil (fun _ => False) _) fun w4 h4 => ?_
    have h14 := (h12.tr h3).tr h4
    have c10 := c10.ext h14
    have hb10 := hb10.ext h14
    simp only [↓eBinI, ↓eDiv, ↓eShift, ↓eBinS, ↓ePick, ↓eNot, ↓eNeg, ↓eConv, ↓eConvS, ↓eExt0, ↓eExt1, ↓eExt2, ↓eFA, ↓eIA, ↓eLenSl, ↓eCapSl, ↓eLenS, ↓eMin, ↓eMax, ↓eCondT, ↓eCondF, ↓gIf_tt, ↓gIf_ff, ↓gIf_tf, ↓gIf_ft, ↓gIf_u, ↓gIfW_u, ↓gIfW_tt, ↓gIfW_ff, ↓gIfW_tf, ↓gIfW_ft, binI, divI, shiftI, add_mk, Nat.zero_add, cond_true, cond_false, decide_true, decide_false, Bool.not_true, Bool.not_false, Bool.and_true, Bool.true_and, Bool.and_false, Bool.false_and, Int.toNat_natCast, Nat.mul_one]
    by_cases d2 : two = 0
    · subst d2
      simp only [↓eBinI, ↓eDiv, ↓eShift, ↓eBinS, ↓ePick, ↓eNot, ↓eNeg, ↓eConv, ↓eConvS, ↓eExt0, ↓eExt1, ↓eExt2, ↓eFA, ↓eIA, ↓eLenSl, ↓eCapSl, ↓eLenS, ↓eMin, ↓eMax, ↓eCondT, ↓eCondF, ↓gIf_tt, ↓gIf_ff, ↓gIf_tf, ↓gIf_ft, ↓gIf_u, ↓gIfW_u, ↓gIfW_tt, ↓gIfW_ff, ↓gIfW_tf, ↓gIfW_ft, binI, divI, shiftI, add_mk, Nat.zero_add, cond_true, cond_false, decide_true, decide_false, Bool.not_true, Bool.not_false, Bool.and_true, Bool.true_and, Bool.and_false, Bool.false_and, Int.toNat_natCast, Nat.mul_one, eq0]
      exact oubliettelaw34_EpochBorn.c4_at (h _ _ h14 rfl rfl rfl)
    · have hp10 := hp10 d2
      subst hp10
      have hq := plainB (j := []) (n := 0) (.inr rfl : b3nil = _ ∨ b3nil = _) (by omega)
      simp only [↓eBinI, ↓eDiv, ↓eShift, ↓eBinS, ↓ePick, ↓eNot, ↓eNeg, ↓eConv, ↓eConvS, ↓eExt0, ↓eExt1, ↓eExt2, ↓eFA, ↓eIA, ↓eLenSl, ↓eCapSl, ↓eLenS, ↓eMin, ↓eMax, ↓eCondT, ↓eCondF, ↓gIf_tt, ↓gIf_ff, ↓gIf_tf, ↓gIf_ft, ↓gIf_u, ↓gIfW_u, ↓gIfW_tt, ↓gIfW_ff, ↓gIfW_tf, ↓gIfW_ft, binI, divI, shiftI, add_mk, Nat.zero_add, cond_true, cond_false, decide_true, decide_false, Bool.not_true, Bool.not_false, Bool.and_true, Bool.true_and, Bool.and_false, Bool.false_and, Int.toNat_natCast, Nat.mul_one, neqW d2, ↓c10.ld3]
      refine (?_ : GCalls Tryz.prog 12 [birthV ze zi zc] _ X w4)
      refine Back34_c hb10 hq.1 hq.2 fun v7 w7 h7 hb7 => ?_
      refine ⟨[nilV, nilV, nilV], rfl, ?_⟩
      refine (?_ : GCalls Tryz.prog 11 [v7, birthV nilV nilV nilV] _ X w7)
      refine Same34_c hb7 (IsBirth.nil (fun _ => False) _) fun w8 h8 => ?_
      simp only [↓eBinI, ↓eDiv, ↓eShift, ↓eBinS, ↓ePick, ↓eNot, ↓eNeg, ↓eConv, ↓eConvS, ↓eExt0, ↓eExt1, ↓eExt2, ↓eFA, ↓eIA, ↓eLenSl, ↓eCapSl, ↓eLenS, ↓eMin, ↓eMax, ↓eCondT, ↓eCondF, ↓gIf_tt, ↓gIf_ff, ↓gIf_tf, ↓gIf_ft, ↓gIf_u, ↓gIfW_u, ↓gIfW_tt, ↓gIfW_ff, ↓gIfW_tf, ↓gIfW_ft, binI, divI, shiftI, add_mk, Nat.zero_add, cond_true, cond_false, decide_true, decide_false, Bool.not_true, Bool.not_false, Bool.and_true, Bool.true_and, Bool.and_false, Bool.false_and, Int.toNat_natCast, Nat.mul_one]
      exact oubliettelaw34_EpochBorn.c4_at (h _ _ (Ext.tr (Ext.tr h14 h7) h8) rfl rfl rfl)
end Go.Proofs.YtkpgmaiklfjjgaaGreatDoor
end
section
set_option linter.unusedSimpArgs false
set_option linter.unusedVariables false
namespace Go.Proofs.YtkpgmaiklfjjgaaGreatDoor
open Go Go.G Go.RowKit
variable {X : KX} {w : World} {K : KV} {D D' D1 D2 D3 D4 D5 : Nat → Prop}
variable {x0 x1 : Value} {a b : List UInt8} {n f : Int} {gs g8 g10 g12 : Nat} {p8 p10 p12 : B3} {gg : Nat → Value}
theorem EFirst2_c (hs : SReal w gs) (hk : KT w) (pt : PT w) (ha : Rd (.slice .byte) D w [x1] a)
    (h : ∀ v w' p, Ext w w' → (whyF n [a] = 0 → p = bornB (deriveF a joinL) n) → (whyF n [a] ≠ 0 → p = b3nil) → IsBirth (w.heap.size ≤ ·) w' v p.1 p.2.1 p.2.2 → K (.tuple #[v, .int .i64 (whyF n [a])]) w') : GCalls Tryz.prog 7 [.pointer (some ⟨gs, 0, none⟩), x1, .int .i64 n] K X w := by
  refine EFirst_c hs hk pt ha (fun w' e hne => h _ w' b3nil e (fun d => absurd d hne) (fun _ => rfl) (IsBirth.nil _ _)) fun m v w' hm d e hb => ?_
  subst hm
  have := h v w' (bornB (deriveF a joinL) m) e (fun _ => rfl) (fun c => absurd d c) hb
  rw [d] at this; exact this
theorem ENext2_c (hs : SReal w gs) (hk : KT w) (pt : PT w) (ha : Rd (.slice .byte) D w [x0] a) (hb : Rd (.slice .byte) D' w [x1] b)
    (h : ∀ v w' p, Ext w w' → (whyF n [a, b] = 0 → p = bornB (deriveF (ofF a b) joinL) n) → (whyF n [a, b] ≠ 0 → p = b3nil) → IsBirth (w.heap.size ≤ ·) w' v p.1 p.2.1 p.2.2 → K (.tuple #[v, .int .i64 (whyF n [a, b])]) w') : GCalls Tryz.prog 8 [.pointer (some ⟨gs, 0, none⟩), x0, x1, .int .i64 n] K X w := by
  refine ENext_c hs hk pt ha hb (fun w' e hne => h _ w' b3nil e (fun d => absurd d hne) (fun _ => rfl) (IsBirth.nil _ _)) fun m v w' hm d e hb => ?_
  subst hm
  have := h v w' (bornB (deriveF (ofF a b) joinL) m) e (fun _ => rfl) (fun c => absurd d c) hb
  rw [d] at this; exact this
theorem Born2_c (hs : SReal w gs) (hk : KT w) (pt : PT w) (ha : Rd (.slice .byte) D w [x1] a)
    (h : ∀ v w' p, Ext w w' → (whyF n [a] = 0 → p = bornB a n) → (whyF n [a] ≠ 0 → p = b3nil) → IsBirth (w.heap.size ≤ ·) w' v p.1 p.2.1 p.2.2 → K (.tuple #[v, .int .i64 (whyF n [a])]) w') : GCalls Tryz.prog 9 [.pointer (some ⟨gs, 0, none⟩), x1, .int .i64 n] K X w := by
  refine Born_c hs hk pt ha (fun w' e hne => h _ w' b3nil e (fun d => absurd d hne) (fun _ => rfl) (IsBirth.nil _ _)) fun m v w' hm d e hb => ?_
  subst hm
  have := h v w' (bornB a m) e (fun _ => rfl) (fun c => absurd d c) hb
  rw [d] at this; exact this
theorem box_put {T : TypeId} {v : Value} {p : B3} (hb : IsBirth D w v p.1 p.2.1 p.2.2) (k : ∀ g w', Ext w w' → Holds w' g p → K (.pointer (some ⟨g, 0, none⟩)) w') : pBox T (.agg #[nilV, nilV, nilV]) w fun t w => pStN 3 t v w fun _ w => K t w := by
  refine boxC (cs := [nilV, nilV, nilV]) fun g w1 hg h1 c1 => ?_
  have z1 := h1.size; have l1 := c1.lt
  refine put_birth c1 rfl (hb.bd.ext h1) (fun b hb => by have := hb.2; omega) fun w2 f2 c2 hb2 => ?_
  refine k g w2 (h1.tn f2 (fun x hx => by omega)) ?_
  obtain ⟨ve, vi, vc, rfl, r1, r2, r3⟩ := hb2
  exact ⟨ve, vi, vc, _, c2, ⟨ve, vi, vc, rfl, r1, r2, r3⟩⟩
theorem bneS (n : Int) : (n != n) = false := by simp
set_option maxRecDepth 100000 in
theorem c2_c (hx : Rd (.slice .byte) D1 w [x0] a) (hy : Rd (.slice .byte) D2 w [x1] b)
    (h : ∀ w' gg', Ext w w' → gg' 0 = x0 → gg' 1 = x1 → gg' 2 = .int .i64 n → oubliettelaw34_EpochBorn.c3 (gg 8) (gg 10) (gg 12) (.int .i64 (whyF n [a])) (.int .i64 (whyF n [a, b])) gg' K X w') :
    oubliettelaw34_EpochBorn.c2 x0 x1 (.int .i64 n) (.int .i64 (whyF n [a])) (.int .i64 (whyF n [a, b])) (.int .i64 (whyF n [a])) gg K X w := by
  unfold oubliettelaw34_EpochBorn.c2
  have oa := one_of_rd hx
  have ob := one_of_rd hy
  refine bslice1 oa fun g1 w1 hg1 h1 c1 => ?_
  refine ref_Why_c (row1 c1 (hx.ext h1)) ?_
  refine Cs.bslice (cs := [x0, x1]) (by simp [rowOf, fillL, one_cells oa, one_cells ob, cutIn]) fun g2 w2 hg2 h2 c2 => ?_
  refine ref_Why_c (row2 c2 ((hx.ext h1).ext h2) ((hy.ext h1).ext h2)) ?_
  simp only [↓eBinI, ↓eDiv, ↓eShift, ↓eBinS, ↓ePick, ↓eNot, ↓eNeg, ↓eConv, ↓eConvS, ↓eExt0, ↓eExt1, ↓eExt2, ↓eFA, ↓eIA, ↓eLenSl, ↓eCapSl, ↓eLenS, ↓eMin, ↓eMax, ↓eCondT, ↓eCondF, ↓gIf_tt, ↓gIf_ff, ↓gIf_tf, ↓gIf_ft, ↓gIf_u, ↓gIfW_u, ↓gIfW_tt, ↓gIfW_ff, ↓gIfW_tf, ↓gIfW_ft, binI, divI, shiftI, add_mk, Nat.zero_add, cond_true, cond_false, decide_true, decide_false, Bool.not_true, Bool.not_false, Bool.and_true, Bool.true_and, Bool.and_false, Bool.false_and, Int.toNat_natCast, Nat.mul_one, bneS]
  exact oubliettelaw34_EpochBorn.c3_at (h _ _ (h1.tr h2) rfl rfl rfl)
set_option maxRecDepth 100000 in
theorem c1_c (hk : KT w) (pt : PT w) (hx : Rd (.slice .byte) D1 w [x0] a) (hy : Rd (.slice .byte) D2 w [x1] b)
    (h : ∀ w' gg' g8 g10 g12 p8 p10 p12, Ext w w' → Holds w' g8 p8 → Holds w' g10 p10 → Holds w' g12 p12 → (whyF n [a] = 0 → p8 = bornB (deriveF a joinL) n) → (whyF n [a] ≠ 0 → p8 = b3nil) → (whyF n [a, b] = 0 → p10 = bornB (deriveF (ofF a b) joinL) n) → (whyF n [a, b] ≠ 0 → p10 = b3nil) → (whyF n [a] = 0 → p12 = bornB a n) → (whyF n [a] ≠ 0 → p12 = b3nil) →
      gg' 8 = .pointer (some ⟨g8, 0, none⟩) → gg' 10 = .pointer (some ⟨g10, 0, none⟩) → gg' 12 = .pointer (some ⟨g12, 0, none⟩) → oubliettelaw34_EpochBorn.c2 x0 x1 (.int .i64 n) (.int .i64 (whyF n [a])) (.int .i64 (whyF n [a, b])) (.int .i64 (whyF n [a])) gg' K X w') :
    oubliettelaw34_EpochBorn.c1 x0 x1 (.int .i64 n) gg K X w := by
  unfold oubliettelaw34_EpochBorn.c1
  have hk2 := hk.two
  refine Real_c (by omega) fun gs w1 h1 qs hs => ?_
  refine EFirst2_c hs (hk.ext h1) (pt.ext h1) (hx.ext h1) fun v2 w2 p8 h2 d8 e8 b8 => ?_
  refine ex20 (ex21 ?_)
  refine box_put b8 fun g8 w3 h3 H8 => ?_
  have k3 := (h1.tr h2).tr h3
  refine ENext2_c ((hs.ext h2).ext h3) (hk.ext k3) (pt.ext k3) (hx.ext k3) (hy.ext k3) fun v4 w4 p10 h4 d10 e10 b10 => ?_
  refine ex20 (ex21 ?_)
  refine box_put b10 fun g10 w5 h5 H10 => ?_
  have k5 := (k3.tr h4).tr h5
  refine Born2_c ((((hs.ext h2).ext h3).ext h4).ext h5) (hk.ext k5) (pt.ext k5) (hx.ext k5) fun v6 w6 p12 h6 d12 e12 b12 => ?_
  refine ex20 (ex21 ?_)
  refine box_put b12 fun g12 w7 h7 H12 => ?_
  have k7 := (k5.tr h6).tr h7
  refine FirstNil_c (one_of_rd hx) fun w8 h8 => ?_
  refine ex20 (ex21 ?_)
  refine box_put (p := b3nil) (IsBirth.nil (fun _ => False) _) fun g14 w9 h9 H14 => ?_
  have k9 := (k7.tr h8).tr h9
  simp only [↓eBinI, ↓eDiv, ↓eShift, ↓eBinS, ↓ePick, ↓eNot, ↓eNeg, ↓eConv, ↓eConvS, ↓eExt0, ↓eExt1, ↓eExt2, ↓eFA, ↓eIA, ↓eLenSl, ↓eCapSl, ↓eLenS, ↓eMin, ↓eMax, ↓eCondT, ↓eCondF, ↓gIf_tt, ↓gIf_ff, ↓gIf_tf, ↓gIf_ft, ↓gIf_u, ↓gIfW_u, ↓gIfW_tt, ↓gIfW_ff, ↓gIfW_tf, ↓gIfW_ft, binI, divI, shiftI, add_mk, Nat.zero_add, cond_true, cond_false, decide_true, decide_false, Bool.not_true, Bool.not_false, Bool.and_true, Bool.true_and, Bool.and_false, Bool.false_and, Int.toNat_natCast, Nat.mul_one, bneS]
  exact oubliettelaw34_EpochBorn.c2_at (h _ _ g8 g10 g12 p8 p10 p12 k9 (((((((H8.ext h4).ext h5).ext h6).ext h7).ext h8).ext h9)) (((((H10.ext h6).ext h7).ext h8).ext h9)) ((H12.ext h8).ext h9) d8 e8 d10 e10 d12 e12 rfl rfl rfl)
set_option maxRecDepth 100000 in
theorem EpochBorn_c (hk : KT w) (pt : PT w) (hx : Rd (.slice .byte) D1 w [x0] a) (hy : Rd (.slice .byte) D2 w [x1] b) (h : ∀ w', Ext w w' → K (.bool true) w') : GCalls Tryz.prog 3 [x0, x1, .int .i64 n] K X w := by
  obtain ⟨ax, cx, rfl, _, _⟩ := hx.form
  obtain ⟨ay, cy, rfl, _, _⟩ := hy.form
  apply oubliettelaw34_EpochBorn.calls; unfold oubliettelaw34_EpochBorn.b
  by_cases d1 : (a.length : Int) > 100
  · simp only [↓eBinI, ↓eDiv, ↓eShift, ↓eBinS, ↓ePick, ↓eNot, ↓eNeg, ↓eConv, ↓eConvS, ↓eExt0, ↓eExt1, ↓eExt2, ↓eFA, ↓eIA, ↓eLenSl, ↓eCapSl, ↓eLenS, ↓eMin, ↓eMax, ↓eCondT, ↓eCondF, ↓gIf_tt, ↓gIf_ff, ↓gIf_tf, ↓gIf_ft, ↓gIf_u, ↓gIfW_u, ↓gIfW_tt, ↓gIfW_ff, ↓gIfW_tf, ↓gIfW_ft, binI, divI, shiftI, add_mk, Nat.zero_add, cond_true, cond_false, decide_true, decide_false, Bool.not_true, Bool.not_false, Bool.and_true, Bool.true_and, Bool.and_false, Bool.false_and, Int.toNat_natCast, Nat.mul_one, d1]
    exact alive34_c hk pt h
  by_cases d2 : (b.length : Int) > 100
  · simp only [↓eBinI, ↓eDiv, ↓eShift, ↓eBinS, ↓ePick, ↓eNot, ↓eNeg, ↓eConv, ↓eConvS, ↓eExt0, ↓eExt1, ↓eExt2, ↓eFA, ↓eIA, ↓eLenSl, ↓eCapSl, ↓eLenS, ↓eMin, ↓eMax, ↓eCondT, ↓eCondF, ↓gIf_tt, ↓gIf_ff, ↓gIf_tf, ↓gIf_ft, ↓gIf_u, ↓gIfW_u, ↓gIfW_tt, ↓gIfW_ff, ↓gIfW_tf, ↓gIfW_ft, binI, divI, shiftI, add_mk, Nat.zero_add, cond_true, cond_false, decide_true, decide_false, Bool.not_true, Bool.not_false, Bool.and_true, Bool.true_and, Bool.and_false, Bool.false_and, Int.toNat_natCast, Nat.mul_one, d1, d2]
    exact alive34_c hk pt h
  simp only [↓eBinI, ↓eDiv, ↓eShift, ↓eBinS, ↓ePick, ↓eNot, ↓eNeg, ↓eConv, ↓eConvS, ↓eExt0, ↓eExt1, ↓eExt2, ↓eFA, ↓eIA, ↓eLenSl, ↓eCapSl, ↓eLenS, ↓eMin, ↓eMax, ↓eCondT, ↓eCondF, ↓gIf_tt, ↓gIf_ff, ↓gIf_tf, ↓gIf_ft, ↓gIf_u, ↓gIfW_u, ↓gIfW_tt, ↓gIfW_ff, ↓gIfW_tf, ↓gIfW_ft, binI, divI, shiftI, add_mk, Nat.zero_add, cond_true, cond_false, decide_true, decide_false, Bool.not_true, Bool.not_false, Bool.and_true, Bool.true_and, Bool.and_false, Bool.false_and, Int.toNat_natCast, Nat.mul_one, d1, d2]
  refine oubliettelaw34_EpochBorn.c1_at (c1_c hk pt hx hy fun w1 gg1 g8 g10 g12 p8 p10 p12 h1 H8 H10 H12 d8 e8 d10 e10 d12 e12 q8 q10 q12 => ?_)
  refine c2_c (hx.ext h1) (hy.ext h1) fun w2 gg2 h2 r0 r1 r2 => ?_
  rw [q8, q10, q12]
  refine c3_c (H8.ext h2) (H10.ext h2) (H12.ext h2) e8 e12 e10 fun w3 gg3 h3 s1 s10 s17 => ?_
  rw [r0, r2]
  have k3 := (h1.tr h2).tr h3
  refine c4_c (hk.ext k3) (pt.ext k3) (hx.ext k3) (by omega) ((H8.ext h2).ext h3) ((H12.ext h2).ext h3) d8 d12 fun w4 gg4 h4 => ?_
  rw [s1, s10, s17, r1]
  have k4 := k3.tr h4
  exact c5_c (hk.ext k4) (pt.ext k4) (hx.ext k4) (hy.ext k4) (by omega) (by omega) (((H10.ext h2).ext h3).ext h4) d10 fun w5 h5 => h _ (k4.tr h5)
end Go.Proofs.YtkpgmaiklfjjgaaGreatDoor
end
