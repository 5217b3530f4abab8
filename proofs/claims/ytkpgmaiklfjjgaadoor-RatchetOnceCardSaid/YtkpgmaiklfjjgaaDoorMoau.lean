/-
  What is drawn, bytes by bytes.
-/
import Derived.Test.YtkpgmaiklfjjgaaDoorMoat
section
set_option linter.unusedSimpArgs false
set_option linter.unusedVariables false
namespace Go.Proofs.YtkpgmaiklfjjgaaDoor
open Go Go.G Go.RowKit
variable {X : KX} {w : World} {K : KV} {D D' : Nat → Prop}
theorem rd_bound {v : Value} {xs : List UInt8} (h : Rd (.slice .byte) D w [v] xs) : Rd (.slice .byte) (fun b => D b ∧ b < w.heap.size) w [v] xs := by
  have hf := h.form
  obtain ⟨a, c, cs, rfl, h1, h2⟩ := Rd.rows h
  obtain ⟨_, _, e, hc, hl⟩ := hf
  simp only [Value.slice.injEq, true_and] at e
  obtain ⟨-, rfl⟩ := e
  have h1' : RdL .byte (fun b => D b ∧ b < w.heap.size) w cs xs := h1.flat rfl
  exact Rd.of_rows h1' (fun _ h => h) hc hl fun i u hi => by
    obtain ⟨ad, e1, e2, e3, e4⟩ := h2 i u hi
    have := cell_lt e4
    rw [add_block] at this
    exact ⟨ad, e1, e2, ⟨e3, this⟩, e4⟩
theorem TB.bytes {w w0 : World} (h : TB w) (h0 : TB w0) {g sb n l : Nat} (hB : w0.heap.size ≤ g) {seed : List UInt8} (hs : Src w g sb seed n) (hl : seed.length ≤ 1000) (hn : n < 50000) (h1 : 1 ≤ l) (h2 : l ≤ 4096)
    (hh : ∀ v w', Fr (· = g) w w' → Src w' g sb seed (n + cnt l) → Rd (.slice .byte) (w.heap.size ≤ ·) w' [v] ((bytesF seed n (cnt l)).take l) → K v w') : GCalls Tryd.prog 27 [.pointer (some ⟨g, 0, none⟩), .int .i64 (l : Int)] K X w :=
  Bytes_c h.kt h.pt (by have := h0.kt.two; omega) (fun b hb => by have := h0.pt.lt b hb; omega) hs hl hn h1 h2 hh
set_option maxHeartbeats 2000000 in
set_option maxRecDepth 100000 in
theorem DrawBytes_c {x : Value} {seed : List UInt8} {n : Int} (hb : TB w) (hx : Rd (.slice .byte) D w [x] seed) (h : ∀ w', Ext w w' → K (.bool true) w') : GCalls Tryd.prog 7 [x, .int .i64 n] K X w := by
  have h2 := hb.kt.two
  obtain ⟨ax, cx, rfl, hcx, hlx⟩ := hx.form
  apply oubliettelaw14_DrawBytes.calls; unfold oubliettelaw14_DrawBytes.b
  by_cases c1 : (seed.length : Int) > 100
  · simp only [↓eBinI, ↓eDiv, ↓eShift, ↓eBinS, ↓ePick, ↓eNot, ↓eNeg, ↓eConv, ↓eConvS, ↓eExt0, ↓eExt1, ↓eExt2, ↓eFA, ↓eIA, ↓eLenSl, ↓eCapSl, ↓eLenS, ↓eMin, ↓eMax, ↓eCondT, ↓eCondF, ↓gIf_tt, ↓gIf_ff, ↓gIf_tf, ↓gIf_ft, ↓gIf_u, ↓gIfW_u, ↓gIfW_tt, ↓gIfW_ff, ↓gIfW_tf, ↓gIfW_ft, binI, divI, shiftI, add_mk, Nat.zero_add, cond_true, cond_false, decide_true, decide_false, Bool.not_true, Bool.not_false, Bool.and_true, Bool.true_and, Bool.and_false, Bool.false_and, Int.toNat_natCast, Nat.mul_one, c1]
    exact alive_c hb h
  by_cases c2 : n < 1
  · simp only [↓eBinI, ↓eDiv, ↓eShift, ↓eBinS, ↓ePick, ↓eNot, ↓eNeg, ↓eConv, ↓eConvS, ↓eExt0, ↓eExt1, ↓eExt2, ↓eFA, ↓eIA, ↓eLenSl, ↓eCapSl, ↓eLenS, ↓eMin, ↓eMax, ↓eCondT, ↓eCondF, ↓gIf_tt, ↓gIf_ff, ↓gIf_tf, ↓gIf_ft, ↓gIf_u, ↓gIfW_u, ↓gIfW_tt, ↓gIfW_ff, ↓gIfW_tf, ↓gIfW_ft, binI, divI, shiftI, add_mk, Nat.zero_add, cond_true, cond_false, decide_true, decide_false, Bool.not_true, Bool.not_false, Bool.and_true, Bool.true_and, Bool.and_false, Bool.false_and, Int.toNat_natCast, Nat.mul_one, c1, c2]
    exact alive_c hb h
  by_cases c3 : n > 150
  · simp only [↓eBinI, ↓eDiv, ↓eShift, ↓eBinS, ↓ePick, ↓eNot, ↓eNeg, ↓eConv, ↓eConvS, ↓eExt0, ↓eExt1, ↓eExt2, ↓eFA, ↓eIA, ↓eLenSl, ↓eCapSl, ↓eLenS, ↓eMin, ↓eMax, ↓eCondT, ↓eCondF, ↓gIf_tt, ↓gIf_ff, ↓gIf_tf, ↓gIf_ft, ↓gIf_u, ↓gIfW_u, ↓gIfW_tt, ↓gIfW_ff, ↓gIfW_tf, ↓gIfW_ft, binI, divI, shiftI, add_mk, Nat.zero_add, cond_true, cond_false, decide_true, decide_false, Bool.not_true, Bool.not_false, Bool.and_true, Bool.true_and, Bool.and_false, Bool.false_and, Int.toNat_natCast, Nat.mul_one, c1, c2, c3]
    exact alive_c hb h
  simp only [↓eBinI, ↓eDiv, ↓eShift, ↓eBinS, ↓ePick, ↓eNot, ↓eNeg, ↓eConv, ↓eConvS, ↓eExt0, ↓eExt1, ↓eExt2, ↓eFA, ↓eIA, ↓eLenSl, ↓eCapSl, ↓eLenS, ↓eMin, ↓eMax, ↓eCondT, ↓eCondF, ↓gIf_tt, ↓gIf_ff, ↓gIf_tf, ↓gIf_ft, ↓gIf_u, ↓gIfW_u, ↓gIfW_tt, ↓gIfW_ff, ↓gIfW_tf, ↓gIfW_ft, binI, divI, shiftI, add_mk, Nat.zero_add, cond_true, cond_false, decide_true, decide_false, Bool.not_true, Bool.not_false, Bool.and_true, Bool.true_and, Bool.and_false, Bool.false_and, Int.toNat_natCast, Nat.mul_one, c1, c2, c3]
  obtain ⟨m, rfl⟩ : ∃ m : Nat, n = (m : Int) := ⟨n.toNat, by omega⟩
  refine New_c (by omega) hx (by omega) fun g1 b1 w1 h1 q1 q2 q3 s1 => ?_
  have z1 := h1.size; have l1 := s1.lt
  refine New_c (by omega) (hx.ext h1) (by omega) fun g2 b2 w2 h2' p1 p2 p3 s2 => ?_
  have z2 := h2'.size; have l2 := s2.lt
  have s1 := s1.ext h2'
  have k2 := h1.tr h2'
  refine SClone_c s1 (by omega) fun g3 b3 w3 h3 r1 r2 r3 s3 => ?_
  have z3 := h3.size; have l3 := s3.lt
  have k3 := k2.tr h3
  have s1 := s1.ext h3
  have s2 := s2.ext h3
  refine (hb.ext k3).draw (B := 0) hb (by omega) s3 (by omega) (by omega) fun v4 w4 f4 s3 r4 => ?_
  have k4 : Ext w w4 := k3.tn f4 (fun x hx => by omega)
  have z4 := f4.size
  have s1 : Src w4 g1 b1 seed 0 := s1.fr f4 (by omega) (by omega)
  have s2 : Src w4 g2 b2 seed 0 := s2.fr f4 (by omega) (by omega)
  refine (hb.ext k4).bytes hb (by omega) s1 (by omega) (by omega) (by omega) (by omega) fun v5 w5 f5 s1 rb => ?_
  have k5 : Ext w w5 := k4.tn f5 (fun x hx => by omega)
  have z5 := f5.size
  have s2 : Src w5 g2 b2 seed 0 := s2.fr f5 (by omega) (by omega)
  have s3 : Src w5 g3 b3 seed (0 + 1) := s3.fr f5 (by omega) (by omega)
  have hbl := bytesF_len seed 0 (cnt m)
  have hcm : m ≤ 32 * cnt m ∧ 32 * cnt m < m + 32 := by unfold cnt; omega
  have rb := rd_bound rb
  obtain ⟨ab, cb, rfl, hcb, _⟩ := rb.form
  have htl : ((bytesF seed 0 (cnt m)).take m).length = m := by rw [List.length_take]; omega
  refine oubliettelaw14_DrawBytes.loop1 (fun x9 x10 w' => ∃ j : Nat, j ≤ cnt m ∧ x10 = .int .i64 j ∧ Fr (· = g2) w5 w' ∧ Src w' g2 b2 seed j ∧ G.Own .byte NoB w5.heap.size w' x9 (bytesF seed 0 j)) (fun _ x10 _ => cnt m - (iv x10).toNat) ⟨0, by omega, rfl, Fr.refl _ _, s2, G.Own.nil⟩ ?_
  rintro x9 x10 gg w6 ⟨j, hj, rfl, f6, s2, o6⟩
  unfold oubliettelaw14_DrawBytes.b1
  have k6 : Ext w w6 := k5.tn f6 (fun x hx => by omega)
  have z6 := f6.size
  have hlj := bytesF_len seed 0 j
  obtain ⟨a9, c9, rfl, hc9⟩ := o6.form
  rw [hlj] at o6 hc9
  by_cases cj : 32 * j < m
  · have d1 : (j : Int) < (m : Int) := by omega
    have d2 : (((32 * j : Nat)) : Int) < (m : Int) := by omega
    simp only [↓eBinI, ↓eDiv, ↓eShift, ↓eBinS, ↓ePick, ↓eNot, ↓eNeg, ↓eConv, ↓eConvS, ↓eExt0, ↓eExt1, ↓eExt2, ↓eFA, ↓eIA, ↓eLenSl, ↓eCapSl, ↓eLenS, ↓eMin, ↓eMax, ↓eCondT, ↓eCondF, ↓gIf_tt, ↓gIf_ff, ↓gIf_tf, ↓gIf_ft, ↓gIf_u, ↓gIfW_u, ↓gIfW_tt, ↓gIfW_ff, ↓gIfW_tf, ↓gIfW_ft, binI, divI, shiftI, add_mk, Nat.zero_add, cond_true, cond_false, decide_true, decide_false, Bool.not_true, Bool.not_false, Bool.and_true, Bool.true_and, Bool.and_false, Bool.false_and, Int.toNat_natCast, Nat.mul_one, hlj, d1, d2]
    refine (hb.ext k6).draw (B := 0) hb (by omega) s2 (by omega) (by omega) fun v7 w7 f7 s2' r7 => ?_
    have f57 : Fr (· = g2) w5 w7 := f6.trans f7 (fun _ _ h => h)
    have hal := atF_len seed j
    have o7 := o6.fr f7 (fun _ h => h.elim) (fun b hb hB => by show ¬ b = g2; omega)
    refine o7.cat f57.size (fun h => h) rfl rfl r7 (fun cs h => h.flat rfl) (by show (2 * ((bytesF seed 0 j).length + (atF seed j).length) + 192) * 1 ≤ _; omega) fun v8 w8 o8 f8 _ => ?_
    have f58 : Fr (· = g2) w5 w8 := f57.trans f8 (fun x hx h => by have := h.2; omega)
    have e1 : IntKind.i64.wrap ((j : Int) + 1) = ((j + 1 : Nat) : Int) := by rw [wrap64 (by omega) (by omega)]; omega
    have hsu := bytesF_succ seed 0 j
    rw [Nat.zero_add] at hsu
    rw [← hsu] at o8
    try simp only [↓eBinI, ↓eDiv, ↓eShift, ↓eBinS, ↓ePick, ↓eNot, ↓eNeg, ↓eConv, ↓eConvS, ↓eExt0, ↓eExt1, ↓eExt2, ↓eFA, ↓eIA, ↓eLenSl, ↓eCapSl, ↓eLenS, ↓eMin, ↓eMax, ↓eCondT, ↓eCondF, ↓gIf_tt, ↓gIf_ff, ↓gIf_tf, ↓gIf_ft, ↓gIf_u, ↓gIfW_u, ↓gIfW_tt, ↓gIfW_ff, ↓gIfW_tf, ↓gIfW_ft, binI, divI, shiftI, add_mk, Nat.zero_add, cond_true, cond_false, decide_true, decide_false, Bool.not_true, Bool.not_false, Bool.and_true, Bool.true_and, Bool.and_false, Bool.false_and, Int.toNat_natCast, Nat.mul_one, e1]
    exact oubliettelaw14_DrawBytes.leaf1 ⟨j + 1, by omega, by first | rfl | (rw [e1]), f58, s2'.fr f8 (fun h => by have := h.2; omega) (fun h => by have := h.2; omega), o8⟩ (by simp only [iv]; omega)
  · have hjm : j = cnt m := by omega
    subst hjm
    have d2 : ¬ (((32 * cnt m : Nat) : Int) < (m : Int)) := by omega
    have s1 : Src w6 g1 b1 seed (0 + cnt m) := s1.fr f6 (by omega) (by omega)
    have s3 : Src w6 g3 b3 seed (0 + 1) := s3.fr f6 (by omega) (by omega)
    have rb6 := rb.fr f6 (fun b hb => by show ¬ b = g2; omega)
    rw [htl] at rb6
    have ra6 := own_rd o6 (by show (bytesF _ _ _).length < _; omega)
    have hzc : (((cnt m : Nat) : Int) == ((cnt m : Nat) : Int)) = true := by simp
    by_cases d1 : ((cnt m : Nat) : Int) < (m : Int)
    all_goals
      simp only [↓eBinI, ↓eDiv, ↓eShift, ↓eBinS, ↓ePick, ↓eNot, ↓eNeg, ↓eConv, ↓eConvS, ↓eExt0, ↓eExt1, ↓eExt2, ↓eFA, ↓eIA, ↓eLenSl, ↓eCapSl, ↓eLenS, ↓eMin, ↓eMax, ↓eCondT, ↓eCondF, ↓gIf_tt, ↓gIf_ff, ↓gIf_tf, ↓gIf_ft, ↓gIf_u, ↓gIfW_u, ↓gIfW_tt, ↓gIfW_ff, ↓gIfW_tf, ↓gIfW_ft, binI, divI, shiftI, add_mk, Nat.zero_add, cond_true, cond_false, decide_true, decide_false, Bool.not_true, Bool.not_false, Bool.and_true, Bool.true_and, Bool.and_false, Bool.false_and, Int.toNat_natCast, Nat.mul_one, hlj, d1, d2, htl, show (((m : Nat) : Int) == (m : Int)) = true from by simp]
      refine eSl (l := 0) (h := m) (m := c9) bnd_none (bnd_int (by omega)) bnd_none (by omega) (by omega) (by omega) (by simp) ?_
      have hcut := ra6.cut (l := 0) (e := m) (m := c9) (by omega) (by omega) (by omega) (by omega)
      rw [List.drop_zero] at hcut
      refine Same_c rb6 hcut fun w7 h7 => ?_
      have k7 := k6.tr h7
      have s1 := s1.ext h7
      have s2 := s2.ext h7
      have s3 := s3.ext h7
      simp only [decide_true]
      simp only [↓eBinI, ↓eDiv, ↓eShift, ↓eBinS, ↓ePick, ↓eNot, ↓eNeg, ↓eConv, ↓eConvS, ↓eExt0, ↓eExt1, ↓eExt2, ↓eFA, ↓eIA, ↓eLenSl, ↓eCapSl, ↓eLenS, ↓eMin, ↓eMax, ↓eCondT, ↓eCondF, ↓gIf_tt, ↓gIf_ff, ↓gIf_tf, ↓gIf_ft, ↓gIf_u, ↓gIfW_u, ↓gIfW_tt, ↓gIfW_ff, ↓gIfW_tf, ↓gIfW_ft, binI, divI, shiftI, add_mk, Nat.zero_add, cond_true, cond_false, decide_true, decide_false, Bool.not_true, Bool.not_false, Bool.and_true, Bool.true_and, Bool.and_false, Bool.false_and, Int.toNat_natCast, Nat.mul_one]
      refine Drawn_c s1 ?_
      try simp only [↓eBinI, ↓eDiv, ↓eShift, ↓eBinS, ↓ePick, ↓eNot, ↓eNeg, ↓eConv, ↓eConvS, ↓eExt0, ↓eExt1, ↓eExt2, ↓eFA, ↓eIA, ↓eLenSl, ↓eCapSl, ↓eLenS, ↓eMin, ↓eMax, ↓eCondT, ↓eCondF, ↓gIf_tt, ↓gIf_ff, ↓gIf_tf, ↓gIf_ft, ↓gIf_u, ↓gIfW_u, ↓gIfW_tt, ↓gIfW_ff, ↓gIfW_tf, ↓gIfW_ft, binI, divI, shiftI, add_mk, Nat.zero_add, cond_true, cond_false, decide_true, decide_false, Bool.not_true, Bool.not_false, Bool.and_true, Bool.true_and, Bool.and_false, Bool.false_and, Int.toNat_natCast, Nat.mul_one]
      refine Drawn_c s2 ?_
      simp only [↓eBinI, ↓eDiv, ↓eShift, ↓eBinS, ↓ePick, ↓eNot, ↓eNeg, ↓eConv, ↓eConvS, ↓eExt0, ↓eExt1, ↓eExt2, ↓eFA, ↓eIA, ↓eLenSl, ↓eCapSl, ↓eLenS, ↓eMin, ↓eMax, ↓eCondT, ↓eCondF, ↓gIf_tt, ↓gIf_ff, ↓gIf_tf, ↓gIf_ft, ↓gIf_u, ↓gIfW_u, ↓gIfW_tt, ↓gIfW_ff, ↓gIfW_tf, ↓gIfW_ft, binI, divI, shiftI, add_mk, Nat.zero_add, cond_true, cond_false, decide_true, decide_false, Bool.not_true, Bool.not_false, Bool.and_true, Bool.true_and, Bool.and_false, Bool.false_and, Int.toNat_natCast, Nat.mul_one, hzc]
      refine Drawn_c s3 ?_
      simp only [↓eBinI, ↓eDiv, ↓eShift, ↓eBinS, ↓ePick, ↓eNot, ↓eNeg, ↓eConv, ↓eConvS, ↓eExt0, ↓eExt1, ↓eExt2, ↓eFA, ↓eIA, ↓eLenSl, ↓eCapSl, ↓eLenS, ↓eMin, ↓eMax, ↓eCondT, ↓eCondF, ↓gIf_tt, ↓gIf_ff, ↓gIf_tf, ↓gIf_ft, ↓gIf_u, ↓gIfW_u, ↓gIfW_tt, ↓gIfW_ff, ↓gIfW_tf, ↓gIfW_ft, binI, divI, shiftI, add_mk, Nat.zero_add, cond_true, cond_false, decide_true, decide_false, Bool.not_true, Bool.not_false, Bool.and_true, Bool.true_and, Bool.and_false, Bool.false_and, Int.toNat_natCast, Nat.mul_one, show ((((1 : Nat)) : Int) == 1) = true from by decide, show ((((0 + 1 : Nat)) : Int) == 1) = true from by decide]
      refine (hb.ext k7).draw (B := 0) hb (by omega) s1 (by omega) (by omega) fun v8 w8 f8 _ r8 => ?_
      have k8 : Ext w w8 := k7.tn f8 (fun x hx => by omega)
      have z7 := h7.size
      have s2 : Src w8 g2 b2 seed (cnt m) := s2.fr f8 (by omega) (by omega)
      refine (hb.ext k8).draw (B := 0) hb (by omega) s2 (by omega) (by omega) fun v9 w9 f9 _ r9 => ?_
      have k9 : Ext w w9 := k8.tn f9 (fun x hx => by omega)
      have r8 := r8.fr f9 (fun b hb => by show ¬ b = g2; omega)
      rw [Nat.zero_add] at r8
      refine Same_c r8 r9 fun w10 h10 => ?_
      simp only [decide_true]
      simp only [↓eBinI, ↓eDiv, ↓eShift, ↓eBinS, ↓ePick, ↓eNot, ↓eNeg, ↓eConv, ↓eConvS, ↓eExt0, ↓eExt1, ↓eExt2, ↓eFA, ↓eIA, ↓eLenSl, ↓eCapSl, ↓eLenS, ↓eMin, ↓eMax, ↓eCondT, ↓eCondF, ↓gIf_tt, ↓gIf_ff, ↓gIf_tf, ↓gIf_ft, ↓gIf_u, ↓gIfW_u, ↓gIfW_tt, ↓gIfW_ff, ↓gIfW_tf, ↓gIfW_ft, binI, divI, shiftI, add_mk, Nat.zero_add, cond_true, cond_false, decide_true, decide_false, Bool.not_true, Bool.not_false, Bool.and_true, Bool.true_and, Bool.and_false, Bool.false_and, Int.toNat_natCast, Nat.mul_one]
      refine alive_c (hb.ext (k9.tr h10)) fun w11 h11 => ?_
      try simp only [↓eBinI, ↓eDiv, ↓eShift, ↓eBinS, ↓ePick, ↓eNot, ↓eNeg, ↓eConv, ↓eConvS, ↓eExt0, ↓eExt1, ↓eExt2, ↓eFA, ↓eIA, ↓eLenSl, ↓eCapSl, ↓eLenS, ↓eMin, ↓eMax, ↓eCondT, ↓eCondF, ↓gIf_tt, ↓gIf_ff, ↓gIf_tf, ↓gIf_ft, ↓gIf_u, ↓gIfW_u, ↓gIfW_tt, ↓gIfW_ff, ↓gIfW_tf, ↓gIfW_ft, binI, divI, shiftI, add_mk, Nat.zero_add, cond_true, cond_false, decide_true, decide_false, Bool.not_true, Bool.not_false, Bool.and_true, Bool.true_and, Bool.and_false, Bool.false_and, Int.toNat_natCast, Nat.mul_one]
      exact h _ ((k9.tr h10).tr h11)
end Go.Proofs.YtkpgmaiklfjjgaaDoor
end
