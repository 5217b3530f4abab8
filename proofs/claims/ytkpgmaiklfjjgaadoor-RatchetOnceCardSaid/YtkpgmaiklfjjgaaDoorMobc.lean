/-
  The law on what a chain tells once.
-/
import Derived.Test.YtkpgmaiklfjjgaaDoorMobb
section
set_option linter.unusedSimpArgs false
set_option linter.unusedVariables false
namespace Go.Proofs.YtkpgmaiklfjjgaaDoor
open Go Go.G Go.RowKit
variable {X : KX} {w : World} {K : KV} {D D' D1 D2 D3 : Nat → Prop}
def onceInv (key : List UInt8) (l : List Int) (win : Int) (w w4 : World) (gs g8 : Nat) (x9 x10 : Value) (w' : World) : Prop :=
  ∃ (i g : Nat) (vc vs : Value) (cur : List UInt8) (sk : List (Int × List UInt8)) (told : List Int) (DC : Nat → Prop), i ≤ l.length ∧ told.length ≤ i ∧ x10 = .int .i64 i ∧ Ext w w' ∧ w4.heap.size ≤ w'.heap.size ∧ SReal w' gs ∧ Cs w' g8 [.int .i64 g, vc, vs] ∧
      Rd (.slice .byte) DC w' [vc] cur ∧ Rd (.slice tSkip) DC w' [vs] sk ∧ (∀ b, DC b → b ≠ g8 ∧ b < w'.heap.size) ∧ (∀ b, Blk x9 b → w4.heap.size ≤ b → b < w'.heap.size ∧ ¬ DC b) ∧ ChainOk key g cur sk told ∧ (sk.length : Int) ≤ win ∧ g ≤ 41 ∧ G.Own (.int .i64) NoB w4.heap.size w' x9 told
theorem onceInv.no {key cur : List UInt8} {l told : List Int} {win : Int} {w w4 w5 w' : World} {gs g8 i g : Nat} {x9 vc vs : Value} {sk : List (Int × List UInt8)} {DC : Nat → Prop} (hi : i < l.length) (hti : told.length ≤ i) (h5 : Ext w w5) (z5 : w4.heap.size ≤ w5.heap.size) (hs : SReal w5 gs) (c5 : Cs w5 g8 [.int .i64 g, vc, vs])
    (rc : Rd (.slice .byte) DC w5 [vc] cur) (rs : Rd (.slice tSkip) DC w5 [vs] sk) (hDC : ∀ b, DC b → b ≠ g8 ∧ b < w5.heap.size) (hDB : ∀ b, Blk x9 b → w4.heap.size ≤ b → b < w5.heap.size ∧ ¬ DC b) (hok : ChainOk key g cur sk told) (hsw : (sk.length : Int) ≤ win) (hg : g ≤ 41) (ho : G.Own (.int .i64) NoB w4.heap.size w5 x9 told)
    (e : Ext w5 w') : onceInv key l win w w4 gs g8 x9 (.int .i64 ((i + 1 : Nat) : Int)) w' := by
  have z := e.size
  exact ⟨i + 1, g, vc, vs, cur, sk, told, DC, by omega, by omega, rfl, h5.tr e, by omega, hs.ext e, c5.ext e, rc.ext e, rs.ext e, fun b hb => ⟨(hDC b hb).1, by have := (hDC b hb).2; omega⟩, fun b hb hB => ⟨by have := (hDB b hb hB).1; omega, (hDB b hb hB).2⟩, hok, hsw, hg, ho.ext e⟩
theorem onceInv.yes {key cur' : List UInt8} {l told : List Int} {win li : Int} {w w4 w5 wT w' : World} {gs g8 i g' : Nat} {x9 x9' vc' vs' : Value} {sk' : List (Int × List UInt8)} {A : Nat} (hi : i < l.length) (hti : told.length ≤ i) (h5 : Ext w w5) (z5 : w4.heap.size ≤ w5.heap.size) (z14 : w.heap.size ≤ w4.heap.size) (hg8 : w.heap.size ≤ g8) (hg84 : g8 < w4.heap.size) (hgs : gs < g8) (hs : SReal w5 gs)
    (hDB : ∀ b, Blk x9 b → w4.heap.size ≤ b → b < w5.heap.size) (e : Ext w5 wT) (hA : w5.heap.size ≤ A)
    (rc : Rd (.slice .byte) (A ≤ ·) wT [vc'] cur') (rs : Rd (.slice tSkip) (A ≤ ·) wT [vs'] sk') (hok : ChainOk key g' cur' sk' (told ++ [li])) (hsw : (sk'.length : Int) ≤ win) (hg : g' ≤ 41)
    (f : Fr (fun b => (Blk x9 b ∧ w4.heap.size ≤ b) ∨ b = g8) wT w') (c8 : Cs w' g8 [.int .i64 g', vc', vs']) (ho : G.Own (.int .i64) NoB w4.heap.size w' x9' (told ++ [li])) (hb : ∀ b, Blk x9' b → Blk x9 b ∨ (wT.heap.size ≤ b ∧ b < w'.heap.size)) :
    onceInv key l win w w4 gs g8 x9' (.int .i64 ((i + 1 : Nat) : Int)) w' := by
  have z := e.size
  have zf := f.size
  refine ⟨i + 1, g', vc', vs', cur', sk', _, fun b => A ≤ b ∧ b < wT.heap.size, by omega, by simp; omega, rfl, (h5.tr e).tn f (fun x hx => by rcases hx with ⟨_, h⟩ | h <;> omega), by omega, (hs.ext e).fr f (fun h => by rcases h with ⟨_, h⟩ | h <;> omega), c8, (rd_bd rc).fr f (fun b hb h => ?_), (rd_bd rs).fr f (fun b hb h => ?_), fun b hb => ⟨by have := hb.1; omega, by have := hb.2; omega⟩, fun b hx hB => ?_, hok, hsw, hg, ho⟩
  · have := hb.1
    rcases h with ⟨h1, h2⟩ | h
    · have := hDB b h1 h2; omega
    · omega
  · have := hb.1
    rcases h with ⟨h1, h2⟩ | h
    · have := hDB b h1 h2; omega
    · omega
  · rcases hb b hx with h | h
    · have := hDB b h hB
      exact ⟨by omega, fun hd => by have := hd.1; omega⟩
    · exact ⟨h.2, fun hd => by have := hd.2; omega⟩
set_option maxHeartbeats 2000000 in
set_option maxRecDepth 100000 in
theorem RatchetOnce_c {win : Int} {x0 x1 : Value} {key : List UInt8} {l : List Int} (hk : KT w) (hx : Rd (.slice .byte) D1 w [x0] key) (hl : Rd (.slice (.int .i64)) D2 w [x1] l)
    (h : ∀ w', Ext w w' → K (.bool true) w') : GCalls Tryd.prog 4 [x0, x1, .int .i64 win] K X w := by
  have hk2 := hk.two
  obtain ⟨ax, cx, hxf, _, _⟩ := hx.form
  obtain ⟨al, cl, hlf, _, _⟩ := hl.form
  apply oubliettelaw33_RatchetOnce.calls; unfold oubliettelaw33_RatchetOnce.b
  rw [hxf, hlf]
  by_cases d1 : (key.length : Int) > 100
  · simp only [↓eBinI, ↓eDiv, ↓eShift, ↓eBinS, ↓ePick, ↓eNot, ↓eNeg, ↓eConv, ↓eConvS, ↓eExt0, ↓eExt1, ↓eExt2, ↓eFA, ↓eIA, ↓eLenSl, ↓eCapSl, ↓eLenS, ↓eMin, ↓eMax, ↓eCondT, ↓eCondF, ↓gIf_tt, ↓gIf_ff, ↓gIf_tf, ↓gIf_ft, ↓gIf_u, ↓gIfW_u, ↓gIfW_tt, ↓gIfW_ff, ↓gIfW_tf, ↓gIfW_ft, binI, divI, shiftI, add_mk, Nat.zero_add, cond_true, cond_false, decide_true, decide_false, Bool.not_true, Bool.not_false, Bool.and_true, Bool.true_and, Bool.and_false, Bool.false_and, Int.toNat_natCast, Nat.mul_one, d1]
    exact alive33_c hk fun w' e => h _ e
  by_cases d2 : (l.length : Int) > 20
  · simp only [↓eBinI, ↓eDiv, ↓eShift, ↓eBinS, ↓ePick, ↓eNot, ↓eNeg, ↓eConv, ↓eConvS, ↓eExt0, ↓eExt1, ↓eExt2, ↓eFA, ↓eIA, ↓eLenSl, ↓eCapSl, ↓eLenS, ↓eMin, ↓eMax, ↓eCondT, ↓eCondF, ↓gIf_tt, ↓gIf_ff, ↓gIf_tf, ↓gIf_ft, ↓gIf_u, ↓gIfW_u, ↓gIfW_tt, ↓gIfW_ff, ↓gIfW_tf, ↓gIfW_ft, binI, divI, shiftI, add_mk, Nat.zero_add, cond_true, cond_false, decide_true, decide_false, Bool.not_true, Bool.not_false, Bool.and_true, Bool.true_and, Bool.and_false, Bool.false_and, Int.toNat_natCast, Nat.mul_one, d1, d2]
    exact alive33_c hk fun w' e => h _ e
  by_cases d3 : win < 1
  · simp only [↓eBinI, ↓eDiv, ↓eShift, ↓eBinS, ↓ePick, ↓eNot, ↓eNeg, ↓eConv, ↓eConvS, ↓eExt0, ↓eExt1, ↓eExt2, ↓eFA, ↓eIA, ↓eLenSl, ↓eCapSl, ↓eLenS, ↓eMin, ↓eMax, ↓eCondT, ↓eCondF, ↓gIf_tt, ↓gIf_ff, ↓gIf_tf, ↓gIf_ft, ↓gIf_u, ↓gIfW_u, ↓gIfW_tt, ↓gIfW_ff, ↓gIfW_tf, ↓gIfW_ft, binI, divI, shiftI, add_mk, Nat.zero_add, cond_true, cond_false, decide_true, decide_false, Bool.not_true, Bool.not_false, Bool.and_true, Bool.true_and, Bool.and_false, Bool.false_and, Int.toNat_natCast, Nat.mul_one, d1, d2, d3]
    exact alive33_c hk fun w' e => h _ e
  by_cases d4 : win > 8
  · simp only [↓eBinI, ↓eDiv, ↓eShift, ↓eBinS, ↓ePick, ↓eNot, ↓eNeg, ↓eConv, ↓eConvS, ↓eExt0, ↓eExt1, ↓eExt2, ↓eFA, ↓eIA, ↓eLenSl, ↓eCapSl, ↓eLenS, ↓eMin, ↓eMax, ↓eCondT, ↓eCondF, ↓gIf_tt, ↓gIf_ff, ↓gIf_tf, ↓gIf_ft, ↓gIf_u, ↓gIfW_u, ↓gIfW_tt, ↓gIfW_ff, ↓gIfW_tf, ↓gIfW_ft, binI, divI, shiftI, add_mk, Nat.zero_add, cond_true, cond_false, decide_true, decide_false, Bool.not_true, Bool.not_false, Bool.and_true, Bool.true_and, Bool.and_false, Bool.false_and, Int.toNat_natCast, Nat.mul_one, d1, d2, d3, d4]
    exact alive33_c hk fun w' e => h _ e
  simp only [↓eBinI, ↓eDiv, ↓eShift, ↓eBinS, ↓ePick, ↓eNot, ↓eNeg, ↓eConv, ↓eConvS, ↓eExt0, ↓eExt1, ↓eExt2, ↓eFA, ↓eIA, ↓eLenSl, ↓eCapSl, ↓eLenS, ↓eMin, ↓eMax, ↓eCondT, ↓eCondF, ↓gIf_tt, ↓gIf_ff, ↓gIf_tf, ↓gIf_ft, ↓gIf_u, ↓gIfW_u, ↓gIfW_tt, ↓gIfW_ff, ↓gIfW_tf, ↓gIfW_ft, binI, divI, shiftI, add_mk, Nat.zero_add, cond_true, cond_false, decide_true, decide_false, Bool.not_true, Bool.not_false, Bool.and_true, Bool.true_and, Bool.and_false, Bool.false_and, Int.toNat_natCast, Nat.mul_one, d1, d2, d3, d4]
  refine Real_c (by omega) fun gs w1 h1 qs hs => ?_
  rw [← hxf, ← hlf]
  have lgs : gs < w1.heap.size := by obtain ⟨p, hp⟩ := hs; exact hp.lt
  refine Start_c (hx.ext h1) (by omega) fun v2 w2 h2 r2 => ?_
  refine boxC (cs := [.int .i64 0, .slice none 0 0, .slice none 0 0]) fun g8 w3 hg8 h3 c3 => ?_
  have z1 := h1.size; have z2 := h2.size; have z3 := h3.size; have l3 := c3.lt
  refine c3.setN (l' := [.int .i64 0, v2, .slice none 0 0]) rfl rfl (allOne3 rfl (one_of_rd r2) rfl) fun w4 c4 f4 => ?_
  have z4 := f4.size
  have h14 : Ext w w4 := ((h1.tr h2).tr h3).tn f4 (fun x hx => by omega)
  refine oubliettelaw33_RatchetOnce.loop1 (onceInv key l win w w4 gs g8)
    (fun x9 x10 w' => l.length - (iv x10).toNat)
    ⟨0, 0, v2, .slice none 0 0, key, [], [], fun b => b ≠ g8 ∧ b < w4.heap.size, by omega, by simp, rfl, h14, Nat.le_refl _, (((hs.ext h2).ext h3).fr f4 (by omega)), c4, ((((rd_bd r2).ext h3).fr f4 (fun b hb => by omega)).wide (fun b hb => by omega)), ⟨none, 0, rfl, by simp, by simp, by simp⟩, fun b hb => hb, fun b hb => by obtain ⟨_, _, _, e, _⟩ := hb; simp at e, ChainOk.start key, by simp; omega, by omega, G.Own.nil⟩ ?_
  rintro x9 x10 gg w5 ⟨i, g, vc, vs, cur, sk, told, DC, hi, hti, rfl, h5, z5, hs, c5, rc, rs, hDC, hDB, hok, hsw, hg, ho⟩
  unfold oubliettelaw33_RatchetOnce.b1
  rw [hlf]
  by_cases ci : (i : Int) < (l.length : Int)
  · obtain ⟨b1, k1, u1, e1, s1, -, q1, rr1⟩ := (hl.ext h5).idx rfl (i := i) (by omega)
    rw [hlf] at e1
    simp only [Value.slice.injEq] at e1
    obtain ⟨rfl, -, rfl⟩ := e1
    have v1 := rr1.1
    simp only [List.cons.injEq, and_true] at v1
    subst v1
    have b0 := rr1.2.1; have b1 := rr1.2.2
    simp only [↓eBinI, ↓eDiv, ↓eShift, ↓eBinS, ↓ePick, ↓eNot, ↓eNeg, ↓eConv, ↓eConvS, ↓eExt0, ↓eExt1, ↓eExt2, ↓eFA, ↓eIA, ↓eLenSl, ↓eCapSl, ↓eLenS, ↓eMin, ↓eMax, ↓eCondT, ↓eCondF, ↓gIf_tt, ↓gIf_ff, ↓gIf_tf, ↓gIf_ft, ↓gIf_u, ↓gIfW_u, ↓gIfW_tt, ↓gIfW_ff, ↓gIfW_tf, ↓gIfW_ft, binI, divI, shiftI, add_mk, Nat.zero_add, cond_true, cond_false, decide_true, decide_false, Bool.not_true, Bool.not_false, Bool.and_true, Bool.true_and, Bool.and_false, Bool.false_and, Int.toNat_natCast, Nat.mul_one, ci, ↓eLdW, q1, Option.some.injEq, exists_eq_left']
    refine ⟨by omega, trivial, ?_⟩
    by_cases e1 : l[i] < 0
    · simp (maxSteps := 2000000) only [↓eBinI, ↓eDiv, ↓eShift, ↓eBinS, ↓ePick, ↓eNot, ↓eNeg, ↓eConv, ↓eConvS, ↓eExt0, ↓eExt1, ↓eExt2, ↓eFA, ↓eIA, ↓eLenSl, ↓eCapSl, ↓eLenS, ↓eMin, ↓eMax, ↓eCondT, ↓eCondF, ↓gIf_tt, ↓gIf_ff, ↓gIf_tf, ↓gIf_ft, ↓gIf_u, ↓gIfW_u, ↓gIfW_tt, ↓gIfW_ff, ↓gIfW_tf, ↓gIfW_ft, binI, divI, shiftI, add_mk, Nat.zero_add, cond_true, cond_false, decide_true, decide_false, Bool.not_true, Bool.not_false, Bool.and_true, Bool.true_and, Bool.and_false, Bool.false_and, Int.toNat_natCast, Nat.mul_one, e1]
      exact alive33_c (hk.ext h5) fun w' e => h _ (h5.tr e)
    by_cases e2 : l[i] > 40
    · simp (maxSteps := 2000000) only [↓eBinI, ↓eDiv, ↓eShift, ↓eBinS, ↓ePick, ↓eNot, ↓eNeg, ↓eConv, ↓eConvS, ↓eExt0, ↓eExt1, ↓eExt2, ↓eFA, ↓eIA, ↓eLenSl, ↓eCapSl, ↓eLenS, ↓eMin, ↓eMax, ↓eCondT, ↓eCondF, ↓gIf_tt, ↓gIf_ff, ↓gIf_tf, ↓gIf_ft, ↓gIf_u, ↓gIfW_u, ↓gIfW_tt, ↓gIfW_ff, ↓gIfW_tf, ↓gIfW_ft, binI, divI, shiftI, add_mk, Nat.zero_add, cond_true, cond_false, decide_true, decide_false, Bool.not_true, Bool.not_false, Bool.and_true, Bool.true_and, Bool.and_false, Bool.false_and, Int.toNat_natCast, Nat.mul_one, e1, ↓eLdW, q1, Option.some.injEq, exists_eq_left', e2]
      refine ⟨by omega, by first | trivial | omega, ?_⟩
      exact alive33_c (hk.ext h5) fun w' e => h _ (h5.tr e)
    simp (maxSteps := 2000000) only [↓eBinI, ↓eDiv, ↓eShift, ↓eBinS, ↓ePick, ↓eNot, ↓eNeg, ↓eConv, ↓eConvS, ↓eExt0, ↓eExt1, ↓eExt2, ↓eFA, ↓eIA, ↓eLenSl, ↓eCapSl, ↓eLenS, ↓eMin, ↓eMax, ↓eCondT, ↓eCondF, ↓gIf_tt, ↓gIf_ff, ↓gIf_tf, ↓gIf_ft, ↓gIf_u, ↓gIfW_u, ↓gIfW_tt, ↓gIfW_ff, ↓gIfW_tf, ↓gIfW_ft, binI, divI, shiftI, add_mk, Nat.zero_add, cond_true, cond_false, decide_true, decide_false, Bool.not_true, Bool.not_false, Bool.and_true, Bool.true_and, Bool.and_false, Bool.false_and, Int.toNat_natCast, Nat.mul_one, e1, ↓eLdW, q1, Option.some.injEq, exists_eq_left', e2]
    refine ⟨by omega, by first | trivial | omega, ?_⟩
    refine draw_ fun w6 h6 => ?_
    have c6 := c5.ext h6
    rw [c6.le3]
    refine ⟨by omega, trivial, ?_⟩
    have q6 := h6.cell q1
    rw [eLdE q6]
    refine (?_ : GCalls Tryd.prog 20 [chainV g vc vs, .int .i64 l[i]] _ X w6)
    refine Has_c (rs.ext h6) fun w7 h7 => ?_
    refine anew_ ?_
    refine draw_ fun w8 h8 => ?_
    have c8 := (c6.ext h7).ext h8
    rw [c8.le3]
    refine ⟨by omega, trivial, ?_⟩
    rw [eLdE (h8.cell (h7.cell q6))]
    have h68 := (h6.tr h7).tr h8
    have kq := q1
    have hsl := hs.ext h68
    have z68 := h68.size
    have l8 := c5.lt
    refine ⟨?_, ?_⟩
    · refine (?_ : GCalls Tryd.prog 21 [.pointer (some ⟨gs, 0, none⟩), chainV g vc vs, .int .i64 l[i], .int .i64 win] _ X w8)
      refine AtOk_c hsl ((hk.ext h5).ext h68) hok (rc.ext h68) (rs.ext h68) (by omega) hsw (by omega) (by omega) (by omega) (by omega) hg (fun f w9 h9 hf => ?_) fun vk vc' vs' w9 g' cur' sk' h9 hh hm rk rc' rs' hok' hsw' hg' => ?_
      · refine anew_ ?_
        refine ex30 (ex31 (ex32 ?_))
        refine boxC (cs := [.int .i64 0, .slice none 0 0, .slice none 0 0]) fun g13 w10 hg13 h10 c13 => ?_
        refine ⟨h10, ?_⟩
        have z9 := h9.size; have z10 := h10.size
        refine c13.setN (l' := [.int .i64 0, .slice none 0 0, .slice none 0 0]) rfl rfl (allOne3 rfl rfl rfl) fun w11 c13 f13 => ?_
        have e : Ext w5 w11 := ((h68.tr h9).tr h10).tn f13 (fun x hx => by omega)
        refine once_no (e.cell q1) (ho.ext e) (by omega) hf fun w12 h12 y0 y1 y2 y3 y4 y5 y6 y7 y8 y9 y10 y11 => ?_
        unfold oubliettelaw33_RatchetOnce.j1
        simp only [↓eBinI, ↓eDiv, ↓eShift, ↓eBinS, ↓ePick, ↓eNot, ↓eNeg, ↓eConv, ↓eConvS, ↓eExt0, ↓eExt1, ↓eExt2, ↓eFA, ↓eIA, ↓eLenSl, ↓eCapSl, ↓eLenS, ↓eMin, ↓eMax, ↓eCondT, ↓eCondF, ↓gIf_tt, ↓gIf_ff, ↓gIf_tf, ↓gIf_ft, ↓gIf_u, ↓gIfW_u, ↓gIfW_tt, ↓gIfW_ff, ↓gIfW_tf, ↓gIfW_ft, binI, divI, shiftI, add_mk, Nat.zero_add, cond_true, cond_false, decide_true, decide_false, Bool.not_true, Bool.not_false, Bool.and_true, Bool.true_and, Bool.and_false, Bool.false_and, Int.toNat_natCast, Nat.mul_one]
        rw [wrap64 (by omega) (by omega)]
        exact oubliettelaw33_RatchetOnce.leaf1 (onceInv.no (by omega) hti h5 z5 hs c5 rc rs hDC hDB hok hsw hg ho (e.tr h12)) (by simp only [iv]; omega)
      · refine anew_ ?_
        refine ex30 (ex31 (ex32 ?_))
        refine boxC (cs := [.int .i64 0, .slice none 0 0, .slice none 0 0]) fun g13 w10 hg13 h10 c13 => ?_
        refine ⟨h10, ?_⟩
        have z9 := h9.size; have z10 := h10.size
        have rk := ((rd_bd rk).ext h10)
        have rc' := ((rd_bd rc').ext h10)
        have rs' := ((rd_bd rs').ext h10)
        refine c13.setN (l' := [.int .i64 g', vc', vs']) rfl rfl (allOne3 rfl (one_of_rd rc') (one_of_rd rs')) fun w11 c13 f13 => ?_
        have z13 := f13.size
        have e : Ext w5 w11 := ((h68.tr h9).tr h10).tn f13 (fun x hx => by omega)
        have hx9 : ∀ b, Blk x9 b ∧ w4.heap.size ≤ b → b < w5.heap.size := fun b hb => (hDB b hb.1 hb.2).1
        have l83 := c5.lt
        have rk := rk.fr f13 (fun b hb h => by have h1 := hb.1; have h2 := hb.2; have : b = g13 := h; omega)
        have rc' := rc'.fr f13 (fun b hb h => by have h1 := hb.1; have h2 := hb.2; have : b = g13 := h; omega)
        have rs' := rs'.fr f13 (fun b hb h => by have h1 := hb.1; have h2 := hb.2; have : b = g13 := h; omega)
        refine once_yes (n := l.length) (D := fun b => w8.heap.size ≤ b ∧ b < w9.heap.size) (D3 := fun b => w8.heap.size ≤ b ∧ b < w9.heap.size) hh (e.cell q1) (by omega) (by omega) (ho.ext e) (by omega) (by omega) hm (by omega) (by omega) (((hx.ext h5).ext e)) (by omega) (c5.ext e) c13 rk rc' rs' hsw' (by omega) (hok'.hasnt (List.mem_append_right _ (List.mem_singleton.2 rfl)))
          (fun b hb => ⟨by rcases hb with hb | hb <;> (have := hb.1; omega), by rcases hb with hb | hb <;> (have := hb.2; omega), fun h => by have := hx9 b h; rcases hb with hb | hb <;> (have := hb.1; omega)⟩) (by omega) (fun h => by omega) (fun h => by have := hx9 _ h; omega) (by omega) fun v w12 f12 c12 o12 b12 y0 y1 y2 y3 y4 y5 y6 y7 y8 y9 y10 y11 y12 y13 y14 y15 y16 y17 y18 y19 y20 y21 y22 y23 y24 y25 y26 y27 y28 y29 y30 y31 => ?_
        unfold oubliettelaw33_RatchetOnce.j1
        simp only [↓eBinI, ↓eDiv, ↓eShift, ↓eBinS, ↓ePick, ↓eNot, ↓eNeg, ↓eConv, ↓eConvS, ↓eExt0, ↓eExt1, ↓eExt2, ↓eFA, ↓eIA, ↓eLenSl, ↓eCapSl, ↓eLenS, ↓eMin, ↓eMax, ↓eCondT, ↓eCondF, ↓gIf_tt, ↓gIf_ff, ↓gIf_tf, ↓gIf_ft, ↓gIf_u, ↓gIfW_u, ↓gIfW_tt, ↓gIfW_ff, ↓gIfW_tf, ↓gIfW_ft, binI, divI, shiftI, add_mk, Nat.zero_add, cond_true, cond_false, decide_true, decide_false, Bool.not_true, Bool.not_false, Bool.and_true, Bool.true_and, Bool.and_false, Bool.false_and, Int.toNat_natCast, Nat.mul_one]
        rw [wrap64 (by omega) (by omega)]
        exact oubliettelaw33_RatchetOnce.leaf1 (onceInv.yes (A := w8.heap.size) (by omega) hti h5 z5 (by omega) (by omega) (by omega) (by omega) hs (fun b h1 h2 => hx9 b ⟨h1, h2⟩) e (by omega) (rc'.wide fun b hb => hb.1) (rs'.wide fun b hb => hb.1) hok' hsw' hg' f12 c12 o12 b12) (by simp only [iv]; omega)
    · refine boxC (cs := [.int .i64 0, .slice none 0 0, .slice none 0 0]) fun g13 w9 hg13 h9 c13 => ?_
      refine ⟨h9, ?_⟩
      refine (?_ : GCalls Tryd.prog 21 [.pointer (some ⟨gs, 0, none⟩), chainV g vc vs, .int .i64 l[i], .int .i64 win] _ X w9)
      refine AtOk_c (hsl.ext h9) (((hk.ext h5).ext h68).ext h9) hok ((rc.ext h68).ext h9) ((rs.ext h68).ext h9) (by omega) hsw (by omega) (by omega) (by omega) (by omega) hg (fun f w10 h10 hf => ?_) fun vk vc' vs' w10 g' cur' sk' h10 hh hm rk rc' rs' hok' hsw' hg' => ?_
      · refine anew_ ?_
        refine ex30 (ex31 (ex32 ?_))
        have z9 := h9.size; have z10 := h10.size
        have l13 := c13.lt
        have c13 := c13.ext h10
        refine c13.setN (l' := [.int .i64 0, .slice none 0 0, .slice none 0 0]) rfl rfl (allOne3 rfl rfl rfl) fun w11 c13 f13 => ?_
        have e : Ext w5 w11 := ((h68.tr h9).tr h10).tn f13 (fun x hx => by omega)
        refine once_no (e.cell q1) (ho.ext e) (by omega) hf fun w12 h12 y0 y1 y2 y3 y4 y5 y6 y7 y8 y9 y10 y11 => ?_
        unfold oubliettelaw33_RatchetOnce.j1
        simp only [↓eBinI, ↓eDiv, ↓eShift, ↓eBinS, ↓ePick, ↓eNot, ↓eNeg, ↓eConv, ↓eConvS, ↓eExt0, ↓eExt1, ↓eExt2, ↓eFA, ↓eIA, ↓eLenSl, ↓eCapSl, ↓eLenS, ↓eMin, ↓eMax, ↓eCondT, ↓eCondF, ↓gIf_tt, ↓gIf_ff, ↓gIf_tf, ↓gIf_ft, ↓gIf_u, ↓gIfW_u, ↓gIfW_tt, ↓gIfW_ff, ↓gIfW_tf, ↓gIfW_ft, binI, divI, shiftI, add_mk, Nat.zero_add, cond_true, cond_false, decide_true, decide_false, Bool.not_true, Bool.not_false, Bool.and_true, Bool.true_and, Bool.and_false, Bool.false_and, Int.toNat_natCast, Nat.mul_one]
        rw [wrap64 (by omega) (by omega)]
        exact oubliettelaw33_RatchetOnce.leaf1 (onceInv.no (by omega) hti h5 z5 hs c5 rc rs hDC hDB hok hsw hg ho (e.tr h12)) (by simp only [iv]; omega)
      · refine anew_ ?_
        refine ex30 (ex31 (ex32 ?_))
        have z9 := h9.size; have z10 := h10.size
        have l13 := c13.lt
        have c13 := c13.ext h10
        have rk := rd_bd rk
        have rc' := rd_bd rc'
        have rs' := rd_bd rs'
        refine c13.setN (l' := [.int .i64 g', vc', vs']) rfl rfl (allOne3 rfl (one_of_rd rc') (one_of_rd rs')) fun w11 c13 f13 => ?_
        have z13 := f13.size
        have e : Ext w5 w11 := ((h68.tr h9).tr h10).tn f13 (fun x hx => by omega)
        have hx9 : ∀ b, Blk x9 b ∧ w4.heap.size ≤ b → b < w5.heap.size := fun b hb => (hDB b hb.1 hb.2).1
        have l83 := c5.lt
        have rk := rk.fr f13 (fun b hb h => by have h1 := hb.1; have h2 := hb.2; have : b = g13 := h; omega)
        have rc' := rc'.fr f13 (fun b hb h => by have h1 := hb.1; have h2 := hb.2; have : b = g13 := h; omega)
        have rs' := rs'.fr f13 (fun b hb h => by have h1 := hb.1; have h2 := hb.2; have : b = g13 := h; omega)
        refine once_yes (n := l.length) (D := fun b => w9.heap.size ≤ b ∧ b < w10.heap.size) (D3 := fun b => w9.heap.size ≤ b ∧ b < w10.heap.size) hh (e.cell q1) (by omega) (by omega) (ho.ext e) (by omega) (by omega) hm (by omega) (by omega) (((hx.ext h5).ext e)) (by omega) (c5.ext e) c13 rk rc' rs' hsw' (by omega) (hok'.hasnt (List.mem_append_right _ (List.mem_singleton.2 rfl)))
          (fun b hb => ⟨by rcases hb with hb | hb <;> (have := hb.1; omega), by rcases hb with hb | hb <;> (have := hb.2; omega), fun h => by have := hx9 b h; rcases hb with hb | hb <;> (have := hb.1; omega)⟩) (by omega) (fun h => by omega) (fun h => by have := hx9 _ h; omega) (by omega) fun v w12 f12 c12 o12 b12 y0 y1 y2 y3 y4 y5 y6 y7 y8 y9 y10 y11 y12 y13 y14 y15 y16 y17 y18 y19 y20 y21 y22 y23 y24 y25 y26 y27 y28 y29 y30 y31 => ?_
        unfold oubliettelaw33_RatchetOnce.j1
        simp only [↓eBinI, ↓eDiv, ↓eShift, ↓eBinS, ↓ePick, ↓eNot, ↓eNeg, ↓eConv, ↓eConvS, ↓eExt0, ↓eExt1, ↓eExt2, ↓eFA, ↓eIA, ↓eLenSl, ↓eCapSl, ↓eLenS, ↓eMin, ↓eMax, ↓eCondT, ↓eCondF, ↓gIf_tt, ↓gIf_ff, ↓gIf_tf, ↓gIf_ft, ↓gIf_u, ↓gIfW_u, ↓gIfW_tt, ↓gIfW_ff, ↓gIfW_tf, ↓gIfW_ft, binI, divI, shiftI, add_mk, Nat.zero_add, cond_true, cond_false, decide_true, decide_false, Bool.not_true, Bool.not_false, Bool.and_true, Bool.true_and, Bool.and_false, Bool.false_and, Int.toNat_natCast, Nat.mul_one]
        rw [wrap64 (by omega) (by omega)]
        exact oubliettelaw33_RatchetOnce.leaf1 (onceInv.yes (A := w9.heap.size) (by omega) hti h5 z5 (by omega) (by omega) (by omega) (by omega) hs (fun b h1 h2 => hx9 b ⟨h1, h2⟩) e (by omega) (rc'.wide fun b hb => hb.1) (rs'.wide fun b hb => hb.1) hok' hsw' hg' f12 c12 o12 b12) (by simp only [iv]; omega)
  · simp only [↓eBinI, ↓eDiv, ↓eShift, ↓eBinS, ↓ePick, ↓eNot, ↓eNeg, ↓eConv, ↓eConvS, ↓eExt0, ↓eExt1, ↓eExt2, ↓eFA, ↓eIA, ↓eLenSl, ↓eCapSl, ↓eLenS, ↓eMin, ↓eMax, ↓eCondT, ↓eCondF, ↓gIf_tt, ↓gIf_ff, ↓gIf_tf, ↓gIf_ft, ↓gIf_u, ↓gIfW_u, ↓gIfW_tt, ↓gIfW_ff, ↓gIfW_tf, ↓gIfW_ft, binI, divI, shiftI, add_mk, Nat.zero_add, cond_true, cond_false, decide_true, decide_false, Bool.not_true, Bool.not_false, Bool.and_true, Bool.true_and, Bool.and_false, Bool.false_and, Int.toNat_natCast, Nat.mul_one, ci]
    exact alive33_c (hk.ext h5) fun w' e => h _ (h5.tr e)
end Go.Proofs.YtkpgmaiklfjjgaaDoor
end
