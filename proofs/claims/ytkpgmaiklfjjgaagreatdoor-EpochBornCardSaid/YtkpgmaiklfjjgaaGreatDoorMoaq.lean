/-
  What an epoch is born with: both sides' chains.
  A first epoch, a next one; the reference's.
  What an epoch is born with, turned to the reference's type, and compared.
-/
import Derived.Test.YtkpgmaiklfjjgaaGreatDoorMoap
section
set_option linter.unusedSimpArgs false
set_option linter.unusedVariables false
namespace Go.Proofs.YtkpgmaiklfjjgaaGreatDoor
open Go Go.G Go.RowKit
variable {X : KX} {w : World} {K : KV} {D D' D1 D2 D3 D4 D5 : Nat → Prop}
theorem chRow {A : Nat} {v : Value} {cur : List UInt8} (hv : Rd (.slice .byte) D w [v] cur) : Rd tCh D w [.int .i64 0, v, nilV] ((0, cur, []) : Ch) :=
  ⟨[.int .i64 0], [v, nilV], rfl, rfl, rfl, ⟨rfl, show IntKind.i64.min ≤ 0 by decide, show (0 : Int) ≤ IntKind.i64.max by decide⟩, [v], [nilV], rfl, rfl, rfl, hv, nil_any _ D w⟩
theorem pushCh {E r A B : Nat} {vo v : Value} {cur : List UInt8} {l : List Ch} (ho : G.Own tCh D1 B w vo l) (hB : B ≤ w.heap.size) (hBA : B ≤ A) (hD1 : ∀ b, D1 b → b < w.heap.size) (hAw : A ≤ w.heap.size) (hb1 : ∀ b, Blk vo b → b < A) (c : Cs w r [.int .i64 0, v, nilV])
    (hv : Rd (.slice .byte) (A ≤ ·) w [v] cur) (hl : l.length ≤ 1000)
    (k : ∀ v' w', Fr (fun b => Blk vo b ∧ B ≤ b) w w' → G.Own tCh (fun b => D1 b ∨ (A ≤ b ∧ b < w.heap.size)) B w' v' (l ++ [(0, cur, [])]) → (∀ b, Blk v' b → b < w'.heap.size) → K v' w') :
    pApp E 3 56 [.int .i64 0, nilV, nilV] vo (.slice (some ⟨r, 0, none⟩) 1 1) w K := by
  have hD2 : G.Own tCh (fun b => D1 b ∨ (A ≤ b ∧ b < w.heap.size)) B w vo l := ho.wide2 (fun b hb => .inl hb) (fun b hb hB hn => by
    rintro (hd | hd)
    · exact hn hd
    · have := hb1 b hb; omega)
  have hrow : Rd tCh (fun b => D1 b ∨ (A ≤ b ∧ b < w.heap.size)) w [.int .i64 0, v, nilV] ((0, cur, []) : Ch) := chRow (A := A) ((rd_bd hv).wide fun b hb => .inr hb)
  obtain ⟨T, c'⟩ := c
  refine hD2.push hB (fun hd => by rcases hd with hd | hd
                                   · have := hD1 _ hd; omega
                                   · omega) rfl rfl c' hrow (by omega) fun v' w' ho' hf' hb' => ?_
  have z := hf'.size
  refine k v' w' hf' ho' fun b hb => ?_
  rcases hb' b hb with hb | hb
  · have := hb1 b hb; omega
  · omega
theorem fillMid {z0 z1 z2 a : Value} (ha : one a = true) : fillL [z0, z1, z2] [(1, 1, a)] = some [z0, a, z2] := by simp [fillL, one_cells ha, cutIn]
theorem neqW {f : Int} (h : f ≠ 0) : (f != 0) = true := by simpa using h
theorem eq0 : ((0 : Int) != 0) = false := rfl
set_option maxHeartbeats 1000000 in
theorem Born_c {gs : Nat} {x1 : Value} {j : List UInt8} {n : Int} (hs : SReal w gs) (hk : KT w) (pt : PT w) (hj : Rd (.slice .byte) D w [x1] j)
    (hno : ∀ w', Ext w w' → whyF n [j] ≠ 0 → K (.tuple #[birthV nilV nilV nilV, .int .i64 (whyF n [j])]) w')
    (h : ∀ (m : Nat) v w', n = (m : Int) → whyF n [j] = 0 → Ext w w' → IsBirth (w.heap.size ≤ ·) w' v (deriveF j exportL) (deriveF j initL) (bornL j m) → K (.tuple #[v, .int .i64 0]) w') : GCalls Tryz.prog 9 [.pointer (some ⟨gs, 0, none⟩), x1, .int .i64 n] K X w := by
  have oj := one_of_rd hj
  apply epoch_Born.calls; unfold epoch_Born.b
  refine boxV rfl fun g3 w1 hg3 h1 c3 => ?_
  refine boxV oj fun g4 w2 hg4 h2 c4 => ?_
  refine boxC (cs := [nilV, nilV, nilV]) fun g6 w3 hg6 h3 c6 => ?_
  have m3 := c3.lt; have m4 := c4.lt
  have c3 := (c3.ext h2).ext h3
  have c4 := c4.ext h3
  have z1 := h1.size; have z2 := h2.size; have z3 := h3.size; have l3 := c3.lt; have l4 := c4.lt; have l6 := c6.lt
  have h03 := (h1.tr h2).tr h3
  simp only [↓eBinI, ↓eDiv, ↓eShift, ↓eBinS, ↓ePick, ↓eNot, ↓eNeg, ↓eConv, ↓eConvS, ↓eExt0, ↓eExt1, ↓eExt2, ↓eFA, ↓eIA, ↓eLenSl, ↓eCapSl, ↓eLenS, ↓eMin, ↓eMax, ↓eCondT, ↓eCondF, ↓gIf_tt, ↓gIf_ff, ↓gIf_tf, ↓gIf_ft, ↓gIf_u, ↓gIfW_u, ↓gIfW_tt, ↓gIfW_ff, ↓gIfW_tf, ↓gIfW_ft, binI, divI, shiftI, add_mk, Nat.zero_add, cond_true, cond_false, decide_true, decide_false, Bool.not_true, Bool.not_false, Bool.and_true, Bool.true_and, Bool.and_false, Bool.false_and, Int.toNat_natCast, Nat.mul_one, ↓c3.c0, ↓c4.c0]
  refine bslice1 oj fun g7 w4 hg7 h4 c7 => ?_
  have h04 := h03.tr h4
  have z4 := h4.size
  refine Why_c (row1 c7 (hj.ext h04)) ?_
  by_cases d : whyF n [j] = 0
  · obtain ⟨n1, n4, hk1⟩ := whyF_keys d
    have hjl : j.length = 32 := hk1 j (List.mem_singleton.2 rfl)
    obtain ⟨m, rfl⟩ : ∃ m : Nat, n = (m : Int) := ⟨n.toNat, by omega⟩
    rw [d]
    simp only [↓eBinI, ↓eDiv, ↓eShift, ↓eBinS, ↓ePick, ↓eNot, ↓eNeg, ↓eConv, ↓eConvS, ↓eExt0, ↓eExt1, ↓eExt2, ↓eFA, ↓eIA, ↓eLenSl, ↓eCapSl, ↓eLenS, ↓eMin, ↓eMax, ↓eCondT, ↓eCondF, ↓gIf_tt, ↓gIf_ff, ↓gIf_tf, ↓gIf_ft, ↓gIf_u, ↓gIfW_u, ↓gIfW_tt, ↓gIfW_ff, ↓gIfW_tf, ↓gIfW_ft, binI, divI, shiftI, add_mk, Nat.zero_add, cond_true, cond_false, decide_true, decide_false, Bool.not_true, Bool.not_false, Bool.and_true, Bool.true_and, Bool.and_false, Bool.false_and, Int.toNat_natCast, Nat.mul_one, eq0]
    refine (?_ : GCalls Tryz.prog 28 [.string ⟨#[101, 120, 112, 111, 114, 116]⟩, .pointer (some ⟨g3, 0, none⟩), .pointer (some ⟨g4, 0, none⟩)] _ X w4)
    refine dclos_c (hs.ext h04) (hk.ext h04) (c3.ext h4) (c4.ext h4) (hj.ext h04) (by omega) (show 6 ≤ 200 by omega) fun ve w5 h5 re => ?_
    have h05 := h04.tr h5
    have z5 := h5.size
    refine (?_ : GCalls Tryz.prog 28 [.string ⟨#[105, 110, 105, 116]⟩, .pointer (some ⟨g3, 0, none⟩), .pointer (some ⟨g4, 0, none⟩)] _ X w5)
    refine dclos_c (hs.ext h05) (hk.ext h05) ((c3.ext h4).ext h5) ((c4.ext h4).ext h5) (hj.ext h05) (by omega) (show 4 ≤ 200 by omega) fun vi w6 h6 ri => ?_
    have h06 := h05.tr h6
    have z6 := h6.size
    have re : Rd (.slice .byte) (w4.heap.size ≤ ·) w5 [ve] (deriveF j exportL) := re
    have ri : Rd (.slice .byte) (w5.heap.size ≤ ·) w6 [vi] (deriveF j initL) := ri
    have oe := one_of_rd re
    have oi := one_of_rd ri
    refine ⟨[ve, vi], fill2 oe oi, ?_⟩
    try simp only [↓eBinI, ↓eDiv, ↓eShift, ↓eBinS, ↓ePick, ↓eNot, ↓eNeg, ↓eConv, ↓eConvS, ↓eExt0, ↓eExt1, ↓eExt2, ↓eFA, ↓eIA, ↓eLenSl, ↓eCapSl, ↓eLenS, ↓eMin, ↓eMax, ↓eCondT, ↓eCondF, ↓gIf_tt, ↓gIf_ff, ↓gIf_tf, ↓gIf_ft, ↓gIf_u, ↓gIfW_u, ↓gIfW_tt, ↓gIfW_ff, ↓gIfW_tf, ↓gIfW_ft, binI, divI, shiftI, add_mk, Nat.zero_add, cond_true, cond_false, decide_true, decide_false, Bool.not_true, Bool.not_false, Bool.and_true, Bool.true_and, Bool.and_false, Bool.false_and, Int.toNat_natCast, Nat.mul_one]
    refine Cs.set23 (((c6.ext h4).ext h5).ext h6) oe oi fun w7 c6 f7 => ?_
    have z7 := f7.size
    have h07 : Ext w w7 := h06.tn f7 (fun x hx => by omega)
    have c3 := (((c3.ext h4).ext h5).ext h6).fr f7 (show ¬ g3 = g6 by omega)
    have c4 := (((c4.ext h4).ext h5).ext h6).fr f7 (show ¬ g4 = g6 by omega)
    have re := (rd_bd (re.ext h6)).fr f7 (fun b hb (e : b = g6) => by have := hb.1; omega)
    have ri := (rd_bd ri).fr f7 (fun b hb (e : b = g6) => by have := hb.1; omega)
    refine epoch_Born.loop1 (fun x28 w' => ∃ (i : Nat) (vc : Value) (D1 : Nat → Prop), i ≤ m ∧ x28 = .int .i64 i ∧ Ext w w' ∧ w7.heap.size ≤ w'.heap.size ∧ Cs w' g6 [ve, vi, vc] ∧ Cs w' g3 [.pointer (some ⟨gs, 0, none⟩)] ∧ Cs w' g4 [x1] ∧
        Rd (.slice .byte) (fun b => w.heap.size ≤ b ∧ b < w7.heap.size ∧ b ≠ g6) w' [ve] (deriveF j exportL) ∧ Rd (.slice .byte) (fun b => w.heap.size ≤ b ∧ b < w7.heap.size ∧ b ≠ g6) w' [vi] (deriveF j initL) ∧ G.Own tCh D1 w7.heap.size w' vc (bornL j i) ∧ (∀ b, D1 b → w7.heap.size ≤ b ∧ b < w'.heap.size) ∧ (∀ b, Blk vc b → b < w'.heap.size))
      (fun x28 w' => m - (iv x28).toNat)
      ⟨0, nilV, fun _ => False, by omega, rfl, h07, Nat.le_refl _, c6, c3, c4, re.wide (fun b hb => by have := hb.1; have := hb.2; exact ⟨by omega, by omega, by omega⟩), ri.wide (fun b hb => by have := hb.1; have := hb.2; exact ⟨by omega, by omega, by omega⟩), G.Own.nil, fun b hb => hb.elim, fun b hb => by obtain ⟨_, _, _, e, _⟩ := hb; cases e⟩ ?_
    rintro x28 gg w8 ⟨i, vc, D1, hi, rfl, h8, z8, c6, c3, c4, re, ri, ho, hD1, hb1⟩
    unfold epoch_Born.b1
    have l6' := c6.lt
    by_cases ci : (i : Int) < (m : Int)
    · simp only [↓eBinI, ↓eDiv, ↓eShift, ↓eBinS, ↓ePick, ↓eNot, ↓eNeg, ↓eConv, ↓eConvS, ↓eExt0, ↓eExt1, ↓eExt2, ↓eFA, ↓eIA, ↓eLenSl, ↓eCapSl, ↓eLenS, ↓eMin, ↓eMax, ↓eCondT, ↓eCondF, ↓gIf_tt, ↓gIf_ff, ↓gIf_tf, ↓gIf_ft, ↓gIf_u, ↓gIfW_u, ↓gIfW_tt, ↓gIfW_ff, ↓gIfW_tf, ↓gIfW_ft, binI, divI, shiftI, add_mk, Nat.zero_add, cond_true, cond_false, decide_true, decide_false, Bool.not_true, Bool.not_false, Bool.and_true, Bool.true_and, Bool.and_false, Bool.false_and, Int.toNat_natCast, Nat.mul_one, ci]
      refine draw_ fun w9 h9 => ?_
      simp only [↓eBinI, ↓eDiv, ↓eShift, ↓eBinS, ↓ePick, ↓eNot, ↓eNeg, ↓eConv, ↓eConvS, ↓eExt0, ↓eExt1, ↓eExt2, ↓eFA, ↓eIA, ↓eLenSl, ↓eCapSl, ↓eLenS, ↓eMin, ↓eMax, ↓eCondT, ↓eCondF, ↓gIf_tt, ↓gIf_ff, ↓gIf_tf, ↓gIf_ft, ↓gIf_u, ↓gIfW_u, ↓gIfW_tt, ↓gIfW_ff, ↓gIfW_tf, ↓gIfW_ft, binI, divI, shiftI, add_mk, Nat.zero_add, cond_true, cond_false, decide_true, decide_false, Bool.not_true, Bool.not_false, Bool.and_true, Bool.true_and, Bool.and_false, Bool.false_and, Int.toNat_natCast, Nat.mul_one, ↓(c6.ext h9).e2]
      have h89 := h8.tr h9
      refine Label_c (by omega) (pt.ext h89) fun w10 l hl h10 => ?_
      refine ⟨h10, ?_⟩
      have h810 := h89.tr h10
      have k10 := h9.tr h10
      refine (?_ : GCalls Tryz.prog 28 [.string l, .pointer (some ⟨g3, 0, none⟩), .pointer (some ⟨g4, 0, none⟩)] _ X w10)
      refine dclos_c (hs.ext h810) (hk.ext h810) (c3.ext k10) (c4.ext k10) (hj.ext h810) (by omega) (by rw [hl]; have := sendL_len i (by omega); omega) fun v w11 h11 r11 => ?_
      refine ⟨h10.tr h11, ?_⟩
      have k11 := k10.tr h11
      refine Start_c r11 (by rw [deriveF_len]; omega) fun v2 w12 h12 r12 => ?_
      refine ⟨(h10.tr h11).tr h12, ?_⟩
      have k12 := k11.tr h12
      refine Cs.bslice (cs := [.int .i64 0, v2, nilV]) (fillAgg rfl rfl) fun r w13 hr h13 b13 => ⟨((h10.tr h11).tr h12).tr h13, ?_⟩
      have k13 := k12.tr h13
      have s9 := h9.size; have s10 := h10.size; have s11 := h11.size; have s12 := h12.size; have s13 := h13.size
      rw [hl] at r12
      refine pushCh (A := w11.heap.size) (ho.ext k13) (by omega) (by omega) (fun b hb => by have := hD1 b hb; omega) (by omega) (fun b hb => by have := hb1 b hb; omega) b13 (r12.ext h13) (by rw [bornL_len]; omega) fun vc' w14 f14 o14 hb14 => ?_
      have s14 := f14.size
      refine anew_ ?_
      have ov : one vc' = true := by obtain ⟨a, c, e, _⟩ := o14.form; rw [e]; rfl
      have t6 : ¬ (Blk vc g6 ∧ w7.heap.size ≤ g6) := fun hh => by have := hh.2; omega
      try simp only [↓eBinI, ↓eDiv, ↓eShift, ↓eBinS, ↓ePick, ↓eNot, ↓eNeg, ↓eConv, ↓eConvS, ↓eExt0, ↓eExt1, ↓eExt2, ↓eFA, ↓eIA, ↓eLenSl, ↓eCapSl, ↓eLenS, ↓eMin, ↓eMax, ↓eCondT, ↓eCondF, ↓gIf_tt, ↓gIf_ff, ↓gIf_tf, ↓gIf_ft, ↓gIf_u, ↓gIfW_u, ↓gIfW_tt, ↓gIfW_ff, ↓gIfW_tf, ↓gIfW_ft, binI, divI, shiftI, add_mk, Nat.zero_add, cond_true, cond_false, decide_true, decide_false, Bool.not_true, Bool.not_false, Bool.and_true, Bool.true_and, Bool.and_false, Bool.false_and, Int.toNat_natCast, Nat.mul_one]
      refine ((c6.ext k13).fr f14 t6).set (i := 2) (by simp) ov fun w15 c6' f15 => ?_
      refine anew_ ?_
      have s15 := f15.size
      try simp only [↓eBinI, ↓eDiv, ↓eShift, ↓eBinS, ↓ePick, ↓eNot, ↓eNeg, ↓eConv, ↓eConvS, ↓eExt0, ↓eExt1, ↓eExt2, ↓eFA, ↓eIA, ↓eLenSl, ↓eCapSl, ↓eLenS, ↓eMin, ↓eMax, ↓eCondT, ↓eCondF, ↓gIf_tt, ↓gIf_ff, ↓gIf_tf, ↓gIf_ft, ↓gIf_u, ↓gIfW_u, ↓gIfW_tt, ↓gIfW_ff, ↓gIfW_tf, ↓gIfW_ft, binI, divI, shiftI, add_mk, Nat.zero_add, cond_true, cond_false, decide_true, decide_false, Bool.not_true, Bool.not_false, Bool.and_true, Bool.true_and, Bool.and_false, Bool.false_and, Int.toNat_natCast, Nat.mul_one]
      rw [wrap64 (by omega) (by omega)]
      have e14 : Ext w w14 := (h8.tr k13).tn f14 (fun x hx => by have := hx.2; omega)
      have q14 : ∀ b, b < w7.heap.size ∧ b ≠ g6 → ¬ (Blk vc b ∧ w7.heap.size ≤ b) := fun b hb hh => by have := hb.1; have := hh.2; omega
      refine epoch_Born.leaf1 ⟨i + 1, vc', fun b => D1 b ∨ (w11.heap.size ≤ b ∧ b < w13.heap.size), by omega, by simp, e14.tn f15 (fun x hx => by omega), by omega, c6', ((c3.ext k13).fr f14 (fun hh => by have := hh.2; omega)).fr f15 (show ¬ g3 = g6 by omega), ((c4.ext k13).fr f14 (fun hh => by have := hh.2; omega)).fr f15 (show ¬ g4 = g6 by omega),
        ((re.ext k13).fr f14 (fun b hb => q14 b hb.2)).fr f15 (fun b hb (e : b = g6) => hb.2.2 e), ((ri.ext k13).fr f14 (fun b hb => q14 b hb.2)).fr f15 (fun b hb (e : b = g6) => hb.2.2 e), ?_, fun b hb => ?_, fun b hb => ?_⟩ (by simp only [iv]; omega)
      · rw [bornL_succ]
        exact o14.fr f15 (fun b hb (e : b = g6) => by rcases hb with hb | hb
                                                      · have := hD1 b hb; omega
                                                      · omega) (fun b hb hB (e : b = g6) => by omega)
      · rcases hb with hb | hb
        · have := hD1 b hb; omega
        · omega
      · have := hb14 b hb; omega
    · have : i = m := by omega
      subst this
      simp only [↓eBinI, ↓eDiv, ↓eShift, ↓eBinS, ↓ePick, ↓eNot, ↓eNeg, ↓eConv, ↓eConvS, ↓eExt0, ↓eExt1, ↓eExt2, ↓eFA, ↓eIA, ↓eLenSl, ↓eCapSl, ↓eLenS, ↓eMin, ↓eMax, ↓eCondT, ↓eCondF, ↓gIf_tt, ↓gIf_ff, ↓gIf_tf, ↓gIf_ft, ↓gIf_u, ↓gIfW_u, ↓gIfW_tt, ↓gIfW_ff, ↓gIfW_tf, ↓gIfW_ft, binI, divI, shiftI, add_mk, Nat.zero_add, cond_true, cond_false, decide_true, decide_false, Bool.not_true, Bool.not_false, Bool.and_true, Bool.true_and, Bool.and_false, Bool.false_and, Int.toNat_natCast, Nat.mul_one, ci]
      rw [c6.ld3]
      have oc : one vc = true := by obtain ⟨a, c, e, _⟩ := ho.form; rw [e]; rfl
      refine c6.setN (l' := [ve, vi, vc]) rfl rfl (allOne3 oe oi oc) fun w9 c6' f9 => ?_
      have s9 := f9.size
      rw [c6'.ld3]
      refine h i _ w9 rfl d (h8.tn f9 (fun x hx => by omega)) ⟨ve, vi, vc, rfl, (re.fr f9 (fun b hb (e : b = g6) => hb.2.2 e)).wide (fun b hb => hb.1), (ri.fr f9 (fun b hb (e : b = g6) => hb.2.2 e)).wide (fun b hb => hb.1), ?_⟩
      exact ((ho.fr f9 (fun b hb (e : b = g6) => by have := hD1 b hb; omega) (fun b hb hB (e : b = g6) => by omega)).rd (D' := (w.heap.size ≤ ·)) (fun b hb => by have := hD1 b hb; show w.heap.size ≤ b; omega) (fun b hb => by show w.heap.size ≤ b; omega) (by show (bornL j i).length < _; rw [bornL_len]; omega))
  · simp only [↓eBinI, ↓eDiv, ↓eShift, ↓eBinS, ↓ePick, ↓eNot, ↓eNeg, ↓eConv, ↓eConvS, ↓eExt0, ↓eExt1, ↓eExt2, ↓eFA, ↓eIA, ↓eLenSl, ↓eCapSl, ↓eLenS, ↓eMin, ↓eMax, ↓eCondT, ↓eCondF, ↓gIf_tt, ↓gIf_ff, ↓gIf_tf, ↓gIf_ft, ↓gIf_u, ↓gIfW_u, ↓gIfW_tt, ↓gIfW_ff, ↓gIfW_tf, ↓gIfW_ft, binI, divI, shiftI, add_mk, Nat.zero_add, cond_true, cond_false, decide_true, decide_false, Bool.not_true, Bool.not_false, Bool.and_true, Bool.true_and, Bool.and_false, Bool.false_and, Int.toNat_natCast, Nat.mul_one, neqW d]
    rw [(c6.ext h4).ld3]
    refine (c6.ext h4).setN (l' := [nilV, nilV, nilV]) rfl rfl (allOne3 rfl rfl rfl) fun w5 c5 f5 => ?_
    rw [c5.ld3]
    exact hno w5 (h04.tn f5 (fun x hx => by omega)) d
end Go.Proofs.YtkpgmaiklfjjgaaGreatDoor
end
section
set_option linter.unusedSimpArgs false
set_option linter.unusedVariables false
namespace Go.Proofs.YtkpgmaiklfjjgaaGreatDoor
open Go Go.G Go.RowKit
variable {X : KX} {w : World} {K : KV} {D D' D1 D2 D3 D4 D5 : Nat → Prop}
theorem whyF_one {n : Int} {k : List UInt8} (h1 : 1 ≤ n) (h4 : n ≤ 4) (hk : k.length = 32) : whyF n [k] = 0 := by
  rw [whyF, if_neg (by omega)]
  have : allKey [k] = true := allKey_of fun j hl => by
    match j, hl with
    | 0, _ => exact hk
  rw [this]; rfl
theorem IsBirth.one {v : Value} {e i : List UInt8} {l : List Ch} (h : IsBirth D w v e i l) : ∃ ve vi vc, v = .agg ⟨[ve, vi, vc]⟩ ∧ ∀ x ∈ [ve, vi, vc], G.one x = true := by
  obtain ⟨ve, vi, vc, h0, h1, h2, h3⟩ := h
  exact ⟨ve, vi, vc, h0, allOne3 (one_of_rd h1) (one_of_rd h2) (one_of_rd h3)⟩
/-- A birth is put into a box of its own and read again. -/
theorem put_birth {g : Nat} {v : Value} {e i : List UInt8} {l : List Ch} {cs : List Value} (c : Cs w g cs) (hcs : cs.length = 3) (hb : IsBirth D w v e i l) (hD : ∀ b, D b → b ≠ g) (k : ∀ w', Fr (· = g) w w' → Cs w' g (v.cells.toList) → IsBirth D w' v e i l → K undef w') : pStN 3 (.pointer (some ⟨g, 0, none⟩)) v w K := by
  obtain ⟨ve, vi, vc, rfl, ho⟩ := hb.one
  exact c.setN (l' := [ve, vi, vc]) (by rw [hcs]; rfl) rfl ho fun w' c' f => k w' f c' (hb.fr f (fun b hb e => hD b hb e))
theorem ld_birth {g : Nat} {v : Value} {e i : List UInt8} {l : List Ch} {K : KP} (hb : IsBirth D w v e i l) (c : Cs w g (v.cells.toList)) (h : K v) : pLdN (· = w) 3 (.pointer (some ⟨g, 0, none⟩)) K := by
  obtain ⟨ve, vi, vc, rfl, _⟩ := hb
  have c : Cs w g [ve, vi, vc] := c
  rw [c.ld3]; exact h
theorem EFirst_c {gs : Nat} {x1 : Value} {a : List UInt8} {n : Int} (hs : SReal w gs) (hk : KT w) (pt : PT w) (ha : Rd (.slice .byte) D w [x1] a)
    (hno : ∀ w', Ext w w' → whyF n [a] ≠ 0 → K (.tuple #[birthV nilV nilV nilV, .int .i64 (whyF n [a])]) w')
    (h : ∀ (m : Nat) v w', n = (m : Int) → whyF n [a] = 0 → Ext w w' → IsBirth (w.heap.size ≤ ·) w' v (deriveF (deriveF a joinL) exportL) (deriveF (deriveF a joinL) initL) (bornL (deriveF a joinL) m) → K (.tuple #[v, .int .i64 0]) w') : GCalls Tryz.prog 7 [.pointer (some ⟨gs, 0, none⟩), x1, .int .i64 n] K X w := by
  apply epoch_First.calls; unfold epoch_First.b
  refine boxC (cs := [nilV, nilV, nilV]) fun g6 w1 hg6 h1 c6 => ?_
  have l6 := c6.lt
  refine bslice1 (one_of_rd ha) fun g7 w2 hg7 h2 c7 => ?_
  have h02 := h1.tr h2
  have z1 := h1.size; have z2 := h2.size
  refine Why_c (row1 c7 (ha.ext h02)) ?_
  have c6 := c6.ext h2
  by_cases d : whyF n [a] = 0
  · obtain ⟨n1, n4, hk1⟩ := whyF_keys d
    have hal : a.length = 32 := hk1 a (List.mem_singleton.2 rfl)
    rw [d]
    simp only [↓eBinI, ↓eDiv, ↓eShift, ↓eBinS, ↓ePick, ↓eNot, ↓eNeg, ↓eConv, ↓eConvS, ↓eExt0, ↓eExt1, ↓eExt2, ↓eFA, ↓eIA, ↓eLenSl, ↓eCapSl, ↓eLenS, ↓eMin, ↓eMax, ↓eCondT, ↓eCondF, ↓gIf_tt, ↓gIf_ff, ↓gIf_tf, ↓gIf_ft, ↓gIf_u, ↓gIfW_u, ↓gIfW_tt, ↓gIfW_ff, ↓gIfW_tf, ↓gIfW_ft, binI, divI, shiftI, add_mk, Nat.zero_add, cond_true, cond_false, decide_true, decide_false, Bool.not_true, Bool.not_false, Bool.and_true, Bool.true_and, Bool.and_false, Bool.false_and, Int.toNat_natCast, Nat.mul_one, eq0]
    refine SDerive_c (l := ⟨#[106, 111, 105, 110]⟩) (hs.ext h02) (hk.ext h02) (ha.ext h02) (by omega) (show 4 ≤ 200 by omega) fun v3 w3 h3 r3 => ?_
    have r3 : Rd (.slice .byte) (w2.heap.size ≤ ·) w3 [v3] (deriveF a joinL) := r3
    have h03 := h02.tr h3
    have z3 := h3.size
    refine Born_c (hs.ext h03) (hk.ext h03) (pt.ext h03) r3 (fun w' e hne => absurd (whyF_one n1 n4 (deriveF_len _ _)) hne) fun m v w4 hm _ h4 hb => ?_
    have h04 := h03.tr h4
    have z4 := h4.size
    simp only [↓eBinI, ↓eDiv, ↓eShift, ↓eBinS, ↓ePick, ↓eNot, ↓eNeg, ↓eConv, ↓eConvS, ↓eExt0, ↓eExt1, ↓eExt2, ↓eFA, ↓eIA, ↓eLenSl, ↓eCapSl, ↓eLenS, ↓eMin, ↓eMax, ↓eCondT, ↓eCondF, ↓gIf_tt, ↓gIf_ff, ↓gIf_tf, ↓gIf_ft, ↓gIf_u, ↓gIfW_u, ↓gIfW_tt, ↓gIfW_ff, ↓gIfW_tf, ↓gIfW_ft, binI, divI, shiftI, add_mk, Nat.zero_add, cond_true, cond_false, decide_true, decide_false, Bool.not_true, Bool.not_false, Bool.and_true, Bool.true_and, Bool.and_false, Bool.false_and, Int.toNat_natCast, Nat.mul_one]
    refine put_birth ((c6.ext h3).ext h4) rfl hb (fun b hb => by have : w3.heap.size ≤ b := hb; omega) fun w5 f5 c5 hb5 => ?_
    have z5 := f5.size
    refine ld_birth hb5 c5 ?_
    exact h m v w5 hm d (h04.tn f5 (fun x hx => by omega)) (hb5.wide fun b hb => by have : w3.heap.size ≤ b := hb; show w.heap.size ≤ b; omega)
  · simp only [↓eBinI, ↓eDiv, ↓eShift, ↓eBinS, ↓ePick, ↓eNot, ↓eNeg, ↓eConv, ↓eConvS, ↓eExt0, ↓eExt1, ↓eExt2, ↓eFA, ↓eIA, ↓eLenSl, ↓eCapSl, ↓eLenS, ↓eMin, ↓eMax, ↓eCondT, ↓eCondF, ↓gIf_tt, ↓gIf_ff, ↓gIf_tf, ↓gIf_ft, ↓gIf_u, ↓gIfW_u, ↓gIfW_tt, ↓gIfW_ff, ↓gIfW_tf, ↓gIfW_ft, binI, divI, shiftI, add_mk, Nat.zero_add, cond_true, cond_false, decide_true, decide_false, Bool.not_true, Bool.not_false, Bool.and_true, Bool.true_and, Bool.and_false, Bool.false_and, Int.toNat_natCast, Nat.mul_one, neqW d]
    refine ⟨[nilV, nilV, nilV], rfl, ?_⟩
    refine c6.setN (l' := [nilV, nilV, nilV]) rfl rfl (allOne3 rfl rfl rfl) fun w5 c5 f5 => ?_
    rw [c5.ld3]
    exact hno w5 (h02.tn f5 (fun x hx => by omega)) d
theorem FirstNil_c {x1 n : Value} (ho : G.one x1 = true) (h : ∀ w', Ext w w' → K (.tuple #[birthV nilV nilV nilV, .int .i64 1]) w') : GCalls Tryz.prog 7 [.pointer none, x1, n] K X w := by
  apply epoch_First.calls; unfold epoch_First.b
  refine boxC (cs := [nilV, nilV, nilV]) fun g6 w1 hg6 h1 c6 => ?_
  refine bslice1 ho fun g7 w2 hg7 h2 c7 => ?_
  have z1 := h1.size; have z2 := h2.size; have l6 := c6.lt
  refine WhyNil_c ?_
  simp only [↓eBinI, ↓eDiv, ↓eShift, ↓eBinS, ↓ePick, ↓eNot, ↓eNeg, ↓eConv, ↓eConvS, ↓eExt0, ↓eExt1, ↓eExt2, ↓eFA, ↓eIA, ↓eLenSl, ↓eCapSl, ↓eLenS, ↓eMin, ↓eMax, ↓eCondT, ↓eCondF, ↓gIf_tt, ↓gIf_ff, ↓gIf_tf, ↓gIf_ft, ↓gIf_u, ↓gIfW_u, ↓gIfW_tt, ↓gIfW_ff, ↓gIfW_tf, ↓gIfW_ft, binI, divI, shiftI, add_mk, Nat.zero_add, cond_true, cond_false, decide_true, decide_false, Bool.not_true, Bool.not_false, Bool.and_true, Bool.true_and, Bool.and_false, Bool.false_and, Int.toNat_natCast, Nat.mul_one, show ((1 : Int) != 0) = true from rfl]
  refine ⟨[nilV, nilV, nilV], rfl, ?_⟩
  refine (c6.ext h2).setN (l' := [nilV, nilV, nilV]) rfl rfl (allOne3 rfl rfl rfl) fun w5 c5 f5 => ?_
  rw [c5.ld3]
  exact h w5 ((h1.tr h2).tn f5 (fun x hx => by omega))
theorem ENext_c {gs : Nat} {x1 x2 : Value} {a b : List UInt8} {n : Int} (hs : SReal w gs) (hk : KT w) (pt : PT w) (ha : Rd (.slice .byte) D w [x1] a) (hb : Rd (.slice .byte) D' w [x2] b)
    (hno : ∀ w', Ext w w' → whyF n [a, b] ≠ 0 → K (.tuple #[birthV nilV nilV nilV, .int .i64 (whyF n [a, b])]) w')
    (h : ∀ (m : Nat) v w', n = (m : Int) → whyF n [a, b] = 0 → Ext w w' → IsBirth (w.heap.size ≤ ·) w' v (deriveF (deriveF (ofF a b) joinL) exportL) (deriveF (deriveF (ofF a b) joinL) initL) (bornL (deriveF (ofF a b) joinL) m) → K (.tuple #[v, .int .i64 0]) w') : GCalls Tryz.prog 8 [.pointer (some ⟨gs, 0, none⟩), x1, x2, .int .i64 n] K X w := by
  apply epoch_Next.calls; unfold epoch_Next.b
  refine boxC (cs := [nilV, nilV, nilV]) fun g6 w1 hg6 h1 c6 => ?_
  have l6 := c6.lt
  have oa := one_of_rd ha
  have ob := one_of_rd hb
  refine Cs.bslice (cs := [x1, x2]) (by simp [rowOf, fillL, one_cells oa, one_cells ob, cutIn]) fun g7 w2 hg7 h2 c7 => ?_
  have h02 := h1.tr h2
  have z1 := h1.size; have z2 := h2.size
  refine Why_c (row2 c7 (ha.ext h02) (hb.ext h02)) ?_
  have c6 := c6.ext h2
  by_cases d : whyF n [a, b] = 0
  · obtain ⟨n1, n4, hk1⟩ := whyF_keys d
    have hal : a.length = 32 := hk1 a (by simp)
    have hbl : b.length = 32 := hk1 b (by simp)
    rw [d]
    simp only [↓eBinI, ↓eDiv, ↓eShift, ↓eBinS, ↓ePick, ↓eNot, ↓eNeg, ↓eConv, ↓eConvS, ↓eExt0, ↓eExt1, ↓eExt2, ↓eFA, ↓eIA, ↓eLenSl, ↓eCapSl, ↓eLenS, ↓eMin, ↓eMax, ↓eCondT, ↓eCondF, ↓gIf_tt, ↓gIf_ff, ↓gIf_tf, ↓gIf_ft, ↓gIf_u, ↓gIfW_u, ↓gIfW_tt, ↓gIfW_ff, ↓gIfW_tf, ↓gIfW_ft, binI, divI, shiftI, add_mk, Nat.zero_add, cond_true, cond_false, decide_true, decide_false, Bool.not_true, Bool.not_false, Bool.and_true, Bool.true_and, Bool.and_false, Bool.false_and, Int.toNat_natCast, Nat.mul_one, eq0]
    refine SMix_c (hs.ext h02) (hk.ext h02) (ha.ext h02) (hb.ext h02) (by omega) (by omega) fun v2 w2' h2' r2 => ?_
    have h02' := h02.tr h2'
    have z2' := h2'.size
    refine SDerive_c (l := ⟨#[106, 111, 105, 110]⟩) (hs.ext h02') (hk.ext h02') r2 (by rw [ofF_len]; omega) (show 4 ≤ 200 by omega) fun v3 w3 h3 r3 => ?_
    have r3 : Rd (.slice .byte) (w2'.heap.size ≤ ·) w3 [v3] (deriveF (ofF a b) joinL) := r3
    have h03 := h02'.tr h3
    have z3 := h3.size
    refine Born_c (hs.ext h03) (hk.ext h03) (pt.ext h03) r3 (fun w' e hne => absurd (whyF_one n1 n4 (deriveF_len _ _)) hne) fun m v w4 hm _ h4 hb => ?_
    have h04 := h03.tr h4
    have z4 := h4.size
    simp only [↓eBinI, ↓eDiv, ↓eShift, ↓eBinS, ↓ePick, ↓eNot, ↓eNeg, ↓eConv, ↓eConvS, ↓eExt0, ↓eExt1, ↓eExt2, ↓eFA, ↓eIA, ↓eLenSl, ↓eCapSl, ↓eLenS, ↓eMin, ↓eMax, ↓eCondT, ↓eCondF, ↓gIf_tt, ↓gIf_ff, ↓gIf_tf, ↓gIf_ft, ↓gIf_u, ↓gIfW_u, ↓gIfW_tt, ↓gIfW_ff, ↓gIfW_tf, ↓gIfW_ft, binI, divI, shiftI, add_mk, Nat.zero_add, cond_true, cond_false, decide_true, decide_false, Bool.not_true, Bool.not_false, Bool.and_true, Bool.true_and, Bool.and_false, Bool.false_and, Int.toNat_natCast, Nat.mul_one]
    refine put_birth (((c6.ext h2').ext h3).ext h4) rfl hb (fun b hb => by have : w3.heap.size ≤ b := hb; omega) fun w5 f5 c5 hb5 => ?_
    have z5 := f5.size
    refine ld_birth hb5 c5 ?_
    exact h m v w5 hm d (h04.tn f5 (fun x hx => by omega)) (hb5.wide fun b hb => by have : w3.heap.size ≤ b := hb; show w.heap.size ≤ b; omega)
  · simp only [↓eBinI, ↓eDiv, ↓eShift, ↓eBinS, ↓ePick, ↓eNot, ↓eNeg, ↓eConv, ↓eConvS, ↓eExt0, ↓eExt1, ↓eExt2, ↓eFA, ↓eIA, ↓eLenSl, ↓eCapSl, ↓eLenS, ↓eMin, ↓eMax, ↓eCondT, ↓eCondF, ↓gIf_tt, ↓gIf_ff, ↓gIf_tf, ↓gIf_ft, ↓gIf_u, ↓gIfW_u, ↓gIfW_tt, ↓gIfW_ff, ↓gIfW_tf, ↓gIfW_ft, binI, divI, shiftI, add_mk, Nat.zero_add, cond_true, cond_false, decide_true, decide_false, Bool.not_true, Bool.not_false, Bool.and_true, Bool.true_and, Bool.and_false, Bool.false_and, Int.toNat_natCast, Nat.mul_one, neqW d]
    refine ⟨[nilV, nilV, nilV], rfl, ?_⟩
    refine c6.setN (l' := [nilV, nilV, nilV]) rfl rfl (allOne3 rfl rfl rfl) fun w5 c5 f5 => ?_
    rw [c5.ld3]
    exact hno w5 (h02.tn f5 (fun x hx => by omega)) d
theorem fill02 {a b z0 z1 z2 : Value} : fillL [z0, z1, z2] [(0, 2, .agg ⟨[a, b]⟩)] = some [a, b, z2] := by simp [fillL, cutIn, Value.cells]
set_option maxHeartbeats 1000000 in
theorem refBorn_c {x0 : Value} {j : List UInt8} {m : Nat} (hm : m ≤ 4) (hj : Rd (.slice .byte) D w [x0] j) (hjl : j.length ≤ 1000)
    (h : ∀ v w', Ext w w' → IsBirth (w.heap.size ≤ ·) w' v (deriveF j exportL) (deriveF j initL) (bornL j m) → K v w') : GCalls Tryz.prog 14 [x0, .int .i64 m] K X w := by
  apply oublietteref34_Born.calls; unfold oublietteref34_Born.b
  refine boxC (cs := [nilV, nilV, nilV]) fun g4 w1 hg4 h1 c4 => ?_
  have l4 := c4.lt
  have z1 := h1.size
  refine ref_Derive_c (l := ⟨#[101, 120, 112, 111, 114, 116]⟩) (hj.ext h1) hjl (show 6 ≤ 200 by omega) fun ve w2 h2 re => ?_
  have h02 := h1.tr h2
  have z2 := h2.size
  refine ref_Derive_c (l := ⟨#[105, 110, 105, 116]⟩) (hj.ext h02) hjl (show 4 ≤ 200 by omega) fun vi w3 h3 ri => ?_
  have h03 := h02.tr h3
  have z3 := h3.size
  have re : Rd (.slice .byte) (w1.heap.size ≤ ·) w2 [ve] (deriveF j exportL) := re
  have ri : Rd (.slice .byte) (w2.heap.size ≤ ·) w3 [vi] (deriveF j initL) := ri
  have oe := one_of_rd re
  have oi := one_of_rd ri
  refine ⟨[ve, vi], fill2 oe oi, ?_⟩
  refine ⟨[ve, vi, nilV], fill02, ?_⟩
  refine boxC (cs := [nilV, nilV, nilV]) fun g5 w4 hg5 h4 c5 => ?_
  have l5 := c5.lt
  have z4 := h4.size
  have h04 := h03.tr h4
  refine c5.setN (l' := [ve, vi, nilV]) rfl rfl (allOne3 oe oi rfl) fun w7 c5 f7 => ?_
  have z7 := f7.size
  have h07 : Ext w w7 := h04.tn f7 (fun x hx => by omega)
  have c4 := (((c4.ext h2).ext h3).ext h4).fr f7 (show ¬ g4 = g5 by omega)
  have re := (((rd_bd re).ext h3).ext h4).fr f7 (fun b hb (e : b = g5) => by have := hb.1; have := hb.2; omega)
  have ri := ((rd_bd ri).ext h4).fr f7 (fun b hb (e : b = g5) => by have := hb.1; have := hb.2; omega)
  refine oublietteref34_Born.loop1 (fun x6 w' => ∃ (i : Nat) (vc : Value) (D1 : Nat → Prop), i ≤ m ∧ x6 = .int .i64 i ∧ Ext w w' ∧ w7.heap.size ≤ w'.heap.size ∧ Cs w' g5 [ve, vi, vc] ∧ Cs w' g4 [nilV, nilV, nilV] ∧
        Rd (.slice .byte) (fun b => w1.heap.size ≤ b ∧ b < w7.heap.size ∧ b ≠ g5) w' [ve] (deriveF j exportL) ∧ Rd (.slice .byte) (fun b => w1.heap.size ≤ b ∧ b < w7.heap.size ∧ b ≠ g5) w' [vi] (deriveF j initL) ∧ G.Own tCh D1 w7.heap.size w' vc (bornL j i) ∧ (∀ b, D1 b → w7.heap.size ≤ b ∧ b < w'.heap.size) ∧ (∀ b, Blk vc b → b < w'.heap.size))
      (fun x6 w' => m - (iv x6).toNat)
      ⟨0, nilV, fun _ => False, by omega, rfl, h07, Nat.le_refl _, c5, c4, re.wide (fun b hb => by have := hb.1; have := hb.2; exact ⟨by omega, by omega, by omega⟩), ri.wide (fun b hb => by have := hb.1; have := hb.2; exact ⟨by omega, by omega, by omega⟩), G.Own.nil, fun b hb => hb.elim, fun b hb => by obtain ⟨_, _, _, e, _⟩ := hb; cases e⟩ ?_
  rintro x6 gg w8 ⟨i, vc, D1, hi, rfl, h8, z8, c5, c4, re, ri, ho, hD1, hb1⟩
  unfold oublietteref34_Born.b1
  have l5' := c5.lt
  by_cases ci : (i : Int) < (m : Int)
  · simp only [↓eBinI, ↓eDiv, ↓eShift, ↓eBinS, ↓ePick, ↓eNot, ↓eNeg, ↓eConv, ↓eConvS, ↓eExt0, ↓eExt1, ↓eExt2, ↓eFA, ↓eIA, ↓eLenSl, ↓eCapSl, ↓eLenS, ↓eMin, ↓eMax, ↓eCondT, ↓eCondF, ↓gIf_tt, ↓gIf_ff, ↓gIf_tf, ↓gIf_ft, ↓gIf_u, ↓gIfW_u, ↓gIfW_tt, ↓gIfW_ff, ↓gIfW_tf, ↓gIfW_ft, binI, divI, shiftI, add_mk, Nat.zero_add, cond_true, cond_false, decide_true, decide_false, Bool.not_true, Bool.not_false, Bool.and_true, Bool.true_and, Bool.and_false, Bool.false_and, Int.toNat_natCast, Nat.mul_one, ci]
    refine draw_ fun w9 h9 => ?_
    simp only [↓eBinI, ↓eDiv, ↓eShift, ↓eBinS, ↓ePick, ↓eNot, ↓eNeg, ↓eConv, ↓eConvS, ↓eExt0, ↓eExt1, ↓eExt2, ↓eFA, ↓eIA, ↓eLenSl, ↓eCapSl, ↓eLenS, ↓eMin, ↓eMax, ↓eCondT, ↓eCondF, ↓gIf_tt, ↓gIf_ff, ↓gIf_tf, ↓gIf_ft, ↓gIf_u, ↓gIfW_u, ↓gIfW_tt, ↓gIfW_ff, ↓gIfW_tf, ↓gIfW_ft, binI, divI, shiftI, add_mk, Nat.zero_add, cond_true, cond_false, decide_true, decide_false, Bool.not_true, Bool.not_false, Bool.and_true, Bool.true_and, Bool.and_false, Bool.false_and, Int.toNat_natCast, Nat.mul_one, ↓(c5.ext h9).e2]
    have h89 := h8.tr h9
    refine ref_Print_c i i (Nat.le_refl _) (by omega) fun w10 h10 => ?_
    refine ⟨h10, ?_⟩
    have h810 := h89.tr h10
    have k10 := h9.tr h10
    have l1 := dec_len 6 i (by omega)
    have hm' : IntKind.i64.max = 9223372036854775807 := by decide
    have s1 : (⟨(Lib.decDigits i).toArray⟩ : ByteArray).size = (Lib.decDigits i).length := rfl
    have s2 : (⟨#[115, 101, 110, 100, 101, 114, 32]⟩ : ByteArray).size = 7 := rfl
    simp only [↓eBinS, binS]
    refine ⟨by rw [hm', s1, s2]; omega, ?_⟩
    have hd := send_str i
    refine ref_Derive_c (hj.ext h810) hjl (by rw [hd]; have := sendL_len i (by omega); omega) fun v2 w12 h12 r12 => ?_
    rw [hd] at r12
    refine ⟨h10.tr h12, ?_⟩
    have k12 := k10.tr h12
    have ov2 := one_of_rd r12
    refine ⟨[.int .i64 0, v2, nilV], fillMid ov2, ?_⟩
    refine Cs.bslice (cs := [.int .i64 0, v2, nilV]) (fillAgg rfl rfl) fun r w13 hr h13 b13 => ⟨(h10.tr h12).tr h13, ?_⟩
    have k13 := k12.tr h13
    have s9 := h9.size; have s10 := h10.size; have s12 := h12.size; have s13 := h13.size
    refine pushCh (A := w10.heap.size) (ho.ext k13) (by omega) (by omega) (fun b hb => by have := hD1 b hb; omega) (by omega) (fun b hb => by have := hb1 b hb; omega) b13 (r12.ext h13) (by rw [bornL_len]; omega) fun vc' w14 f14 o14 hb14 => ?_
    have s14 := f14.size
    refine anew_ ?_
    have ov : G.one vc' = true := by obtain ⟨a, c, e, _⟩ := o14.form; rw [e]; rfl
    have t6 : ¬ (Blk vc g5 ∧ w7.heap.size ≤ g5) := fun hh => by have := hh.2; omega
    try simp only [↓eBinI, ↓eDiv, ↓eShift, ↓eBinS, ↓ePick, ↓eNot, ↓eNeg, ↓eConv, ↓eConvS, ↓eExt0, ↓eExt1, ↓eExt2, ↓eFA, ↓eIA, ↓eLenSl, ↓eCapSl, ↓eLenS, ↓eMin, ↓eMax, ↓eCondT, ↓eCondF, ↓gIf_tt, ↓gIf_ff, ↓gIf_tf, ↓gIf_ft, ↓gIf_u, ↓gIfW_u, ↓gIfW_tt, ↓gIfW_ff, ↓gIfW_tf, ↓gIfW_ft, binI, divI, shiftI, add_mk, Nat.zero_add, cond_true, cond_false, decide_true, decide_false, Bool.not_true, Bool.not_false, Bool.and_true, Bool.true_and, Bool.and_false, Bool.false_and, Int.toNat_natCast, Nat.mul_one]
    refine ((c5.ext k13).fr f14 t6).set (i := 2) (by simp) ov fun w15 c5' f15 => ?_
    refine anew_ ?_
    have s15 := f15.size
    try simp only [↓eBinI, ↓eDiv, ↓eShift, ↓eBinS, ↓ePick, ↓eNot, ↓eNeg, ↓eConv, ↓eConvS, ↓eExt0, ↓eExt1, ↓eExt2, ↓eFA, ↓eIA, ↓eLenSl, ↓eCapSl, ↓eLenS, ↓eMin, ↓eMax, ↓eCondT, ↓eCondF, ↓gIf_tt, ↓gIf_ff, ↓gIf_tf, ↓gIf_ft, ↓gIf_u, ↓gIfW_u, ↓gIfW_tt, ↓gIfW_ff, ↓gIfW_tf, ↓gIfW_ft, binI, divI, shiftI, add_mk, Nat.zero_add, cond_true, cond_false, decide_true, decide_false, Bool.not_true, Bool.not_false, Bool.and_true, Bool.true_and, Bool.and_false, Bool.false_and, Int.toNat_natCast, Nat.mul_one]
    rw [wrap64 (by omega) (by omega)]
    have e14 : Ext w w14 := (h8.tr k13).tn f14 (fun x hx => by have := hx.2; omega)
    have q14 : ∀ b, b < w7.heap.size ∧ b ≠ g5 → ¬ (Blk vc b ∧ w7.heap.size ≤ b) := fun b hb hh => by have := hb.1; have := hh.2; omega
    refine oublietteref34_Born.leaf1 ⟨i + 1, vc', fun b => D1 b ∨ (w10.heap.size ≤ b ∧ b < w13.heap.size), by omega, by simp, e14.tn f15 (fun x hx => by omega), by omega, c5', ((c4.ext k13).fr f14 (fun hh => by have := hh.2; omega)).fr f15 (show ¬ g4 = g5 by omega),
        ((re.ext k13).fr f14 (fun b hb => q14 b hb.2)).fr f15 (fun b hb (e : b = g5) => hb.2.2 e), ((ri.ext k13).fr f14 (fun b hb => q14 b hb.2)).fr f15 (fun b hb (e : b = g5) => hb.2.2 e), ?_, fun b hb => ?_, fun b hb => ?_⟩ (by simp only [iv]; omega)
    · rw [bornL_succ]
      exact o14.fr f15 (fun b hb (e : b = g5) => by rcases hb with hb | hb
                                                    · have := hD1 b hb; omega
                                                    · omega) (fun b hb hB (e : b = g5) => by omega)
    · rcases hb with hb | hb
      · have := hD1 b hb; omega
      · omega
    · have := hb14 b hb; omega
  · have : i = m := by omega
    subst this
    simp only [↓eBinI, ↓eDiv, ↓eShift, ↓eBinS, ↓ePick, ↓eNot, ↓eNeg, ↓eConv, ↓eConvS, ↓eExt0, ↓eExt1, ↓eExt2, ↓eFA, ↓eIA, ↓eLenSl, ↓eCapSl, ↓eLenS, ↓eMin, ↓eMax, ↓eCondT, ↓eCondF, ↓gIf_tt, ↓gIf_ff, ↓gIf_tf, ↓gIf_ft, ↓gIf_u, ↓gIfW_u, ↓gIfW_tt, ↓gIfW_ff, ↓gIfW_tf, ↓gIfW_ft, binI, divI, shiftI, add_mk, Nat.zero_add, cond_true, cond_false, decide_true, decide_false, Bool.not_true, Bool.not_false, Bool.and_true, Bool.true_and, Bool.and_false, Bool.false_and, Int.toNat_natCast, Nat.mul_one, ci]
    rw [c5.ld3]
    have oc : G.one vc = true := by obtain ⟨a, c, e, _⟩ := ho.form; rw [e]; rfl
    refine c4.setN (l' := [ve, vi, vc]) rfl rfl (allOne3 oe oi oc) fun w9 c4' f9 => ?_
    have s9 := f9.size
    rw [c4'.ld3]
    refine h _ w9 (h8.tn f9 (fun x hx => by omega)) ⟨ve, vi, vc, rfl, (re.fr f9 (fun b hb (e : b = g4) => by have := hb.1; omega)).wide (fun b hb => by have := hb.1; show w.heap.size ≤ b; omega), (ri.fr f9 (fun b hb (e : b = g4) => by have := hb.1; omega)).wide (fun b hb => by have := hb.1; show w.heap.size ≤ b; omega), ?_⟩
    exact ((ho.fr f9 (fun b hb (e : b = g4) => by have := hD1 b hb; omega) (fun b hb hB (e : b = g4) => by omega)).rd (D' := (w.heap.size ≤ ·)) (fun b hb => by have := hD1 b hb; show w.heap.size ≤ b; omega) (fun b hb => by show w.heap.size ≤ b; omega) (by show (bornL j i).length < _; rw [bornL_len]; omega))
theorem refFirst_c {x0 : Value} {a : List UInt8} {m : Nat} (hm : m ≤ 4) (ha : Rd (.slice .byte) D w [x0] a) (hal : a.length ≤ 1000)
    (h : ∀ v w', Ext w w' → IsBirth (w.heap.size ≤ ·) w' v (deriveF (deriveF a joinL) exportL) (deriveF (deriveF a joinL) initL) (bornL (deriveF a joinL) m) → K v w') : GCalls Tryz.prog 13 [x0, .int .i64 m] K X w := by
  apply oublietteref34_First.calls; unfold oublietteref34_First.b
  refine boxC (cs := [nilV, nilV, nilV]) fun g4 w1 hg4 h1 c4 => ?_
  have z1 := h1.size; have l4 := c4.lt
  refine ref_Derive_c (l := ⟨#[106, 111, 105, 110]⟩) (ha.ext h1) hal (show 4 ≤ 200 by omega) fun v2 w2 h2 r2 => ?_
  have r2 : Rd (.slice .byte) (w1.heap.size ≤ ·) w2 [v2] (deriveF a joinL) := r2
  have z2 := h2.size
  refine refBorn_c hm r2 (by rw [deriveF_len]; omega) fun v w3 h3 hb => ?_
  have z3 := h3.size
  refine put_birth ((c4.ext h2).ext h3) rfl hb (fun b hb => by have : w2.heap.size ≤ b := hb; omega) fun w5 f5 c5 hb5 => ?_
  have z5 := f5.size
  refine ld_birth hb5 c5 ?_
  exact h v w5 (((h1.tr h2).tr h3).tn f5 (fun x hx => by omega)) (hb5.wide fun b hb => by have : w2.heap.size ≤ b := hb; show w.heap.size ≤ b; omega)
theorem refNext_c {x0 x1 : Value} {a b : List UInt8} {m : Nat} (hm : m ≤ 4) (ha : Rd (.slice .byte) D w [x0] a) (hb : Rd (.slice .byte) D' w [x1] b) (hal : a.length ≤ 900) (hbl : b.length ≤ 900)
    (h : ∀ v w', Ext w w' → IsBirth (w.heap.size ≤ ·) w' v (deriveF (deriveF (ofF a b) joinL) exportL) (deriveF (deriveF (ofF a b) joinL) initL) (bornL (deriveF (ofF a b) joinL) m) → K v w') : GCalls Tryz.prog 15 [x0, x1, .int .i64 m] K X w := by
  apply oublietteref34_Next.calls; unfold oublietteref34_Next.b
  refine boxC (cs := [nilV, nilV, nilV]) fun g4 w1 hg4 h1 c4 => ?_
  have z1 := h1.size; have l4 := c4.lt
  refine ref_Mix_c (ha.ext h1) (hb.ext h1) (by omega) hbl fun v1 w1' h1' r1 => ?_
  have z1' := h1'.size
  refine ref_Derive_c (l := ⟨#[106, 111, 105, 110]⟩) r1 (by rw [ofF_len]; omega) (show 4 ≤ 200 by omega) fun v2 w2 h2 r2 => ?_
  have r2 : Rd (.slice .byte) (w1'.heap.size ≤ ·) w2 [v2] (deriveF (ofF a b) joinL) := r2
  have z2 := h2.size
  refine refBorn_c hm r2 (by rw [deriveF_len]; omega) fun v w3 h3 hb => ?_
  have z3 := h3.size
  refine put_birth (((c4.ext h1').ext h2).ext h3) rfl hb (fun b hb => by have : w2.heap.size ≤ b := hb; omega) fun w5 f5 c5 hb5 => ?_
  have z5 := f5.size
  refine ld_birth hb5 c5 ?_
  exact h v w5 ((((h1.tr h1').tr h2).tr h3).tn f5 (fun x hx => by omega)) (hb5.wide fun b hb => by have : w2.heap.size ≤ b := hb; show w.heap.size ≤ b; omega)
end Go.Proofs.YtkpgmaiklfjjgaaGreatDoor
end
section
set_option linter.unusedSimpArgs false
set_option linter.unusedVariables false
namespace Go.Proofs.YtkpgmaiklfjjgaaGreatDoor
open Go Go.G Go.RowKit
variable {X : KX} {w : World} {K : KV} {D D' D1 D2 D3 D4 D5 : Nat → Prop}
theorem nil_dom {t : Ty} {w' : World} {v : Value} (h : Rd (.slice t) D w [v] ([] : List t.D)) : Rd (.slice t) D' w' [v] ([] : List t.D) := by
  obtain ⟨a, c, e, h1, h2, _⟩ := h
  exact ⟨a, c, e, h1, h2, fun h => absurd rfl h⟩
/-- The parts of a row of chains at a place. -/
theorem chAt {v : Value} {l : List Ch} (hv : Rd (.slice tCh) D w [v] l) {i : Nat} (hi : i < l.length) :
    ∃ ad c vc vs, v = .slice (some ad) l.length c ∧ ad.spot = none ∧ D ad.block ∧ (∀ j u, [.int .i64 l[i].1, vc, vs][j]? = some u → w.cell? (ad.add (i * 3 + j)) = some u) ∧ Rd (.slice .byte) D w [vc] l[i].2.1 ∧ Rd (.slice tSkip) D w [vs] l[i].2.2 := by
  obtain ⟨ad, c', us, e1, s1, hd, hus, q1, r1⟩ := hv.idxN hi
  obtain ⟨va, vb, rfl, hva, hvb, r2, vb1, vb2, rfl, hb1, hb2, r3, r4⟩ := r1
  obtain ⟨rfl, hp0, hp1⟩ := r2
  obtain ⟨vc, rfl⟩ := List.length_eq_one_iff.1 hb1
  obtain ⟨vs, rfl⟩ := List.length_eq_one_iff.1 hb2
  exact ⟨ad, c', vc, vs, e1, s1, hd, q1, r3, r4⟩
theorem ldCh {S : World → Prop} {ad : Addr} {i : Nat} {a b c : Value} {K : KP} (s1 : ad.spot = none) (q : ∀ w', S w' → ∀ j u, [a, b, c][j]? = some u → w'.cell? (ad.add (i * 3 + j)) = some u) (h : K (.agg ⟨[a, b, c]⟩)) : pLdN S 3 (.pointer (some (ad.add (i * 3)))) K := by
  refine ⟨ad.add (i * 3), [a, b, c], rfl, rfl, fun w' e j hj => ?_, h⟩
  rw [add_add _ _ _ s1]
  rw [List.getElem?_eq_getElem (show j < [a, b, c].length from hj)]
  exact q w' e j _ (List.getElem?_eq_getElem _)
def plain (l : List Ch) : Prop := ∀ c ∈ l, c.1 = 0 ∧ c.2.2 = []
theorem plain_born (j : List UInt8) (n : Nat) : plain (bornL j n) := by
  intro c hc
  obtain ⟨k, _, rfl⟩ := List.mem_map.1 hc
  exact ⟨rfl, rfl⟩
set_option maxHeartbeats 1000000 in
theorem Back34_c {v : Value} {e i0 : List UInt8} {l : List Ch} (hb : IsBirth D w v e i0 l) (hl : l.length ≤ 100) (hp : plain l)
    (h : ∀ v' w', Ext w w' → IsBirth (fun b => D b ∨ w.heap.size ≤ b) w' v' e i0 l → K v' w') : GCalls Tryz.prog 12 [v] K X w := by
  obtain ⟨ve, vi, vc, rfl, re, ri, rc⟩ := hb
  have oe := one_of_rd re; have oi := one_of_rd ri; have oc := one_of_rd rc
  obtain ⟨ac, cc, rfl, hcc, hlc⟩ := rc.form
  apply oubliettelaw34_Back.calls; unfold oubliettelaw34_Back.b
  refine boxC (cs := [ve, vi, .slice ac l.length cc]) fun g1 w1 hg1 h1 c1 => ?_
  refine boxC (cs := [nilV, nilV, nilV]) fun g2 w2 hg2 h2 c2 => ?_
  have z1 := h1.size; have z2 := h2.size; have l1 := c1.lt; have l2 := c2.lt
  have c1 := c1.ext h2
  simp only [↓eBinI, ↓eDiv, ↓eShift, ↓eBinS, ↓ePick, ↓eNot, ↓eNeg, ↓eConv, ↓eConvS, ↓eExt0, ↓eExt1, ↓eExt2, ↓eFA, ↓eIA, ↓eLenSl, ↓eCapSl, ↓eLenS, ↓eMin, ↓eMax, ↓eCondT, ↓eCondF, ↓gIf_tt, ↓gIf_ff, ↓gIf_tf, ↓gIf_ft, ↓gIf_u, ↓gIfW_u, ↓gIfW_tt, ↓gIfW_ff, ↓gIfW_tf, ↓gIfW_ft, binI, divI, shiftI, add_mk, Nat.zero_add, cond_true, cond_false, decide_true, decide_false, Bool.not_true, Bool.not_false, Bool.and_true, Bool.true_and, Bool.and_false, Bool.false_and, Int.toNat_natCast, Nat.mul_one, ↓c1.c0, ↓c1.c1]
  refine ⟨[ve, vi], fill2 oe oi, ?_⟩
  refine ⟨[ve, vi, nilV], fill02, ?_⟩
  refine boxC (cs := [nilV, nilV, nilV]) fun g3 w3 hg3 h3 c3 => ?_
  have z3 := h3.size; have l3 := c3.lt
  refine c3.setN (l' := [ve, vi, nilV]) rfl rfl (allOne3 oe oi rfl) fun w4 c4 f4 => ?_
  have h14 : Ext w w4 := ((h1.tr h2).tr h3).tn f4 (fun x hx => by omega)
  have z4 := f4.size
  have hv0 := rd_bd rc
  refine oubliettelaw34_Back.loop1 (fun x4 w' => ∃ (i : Nat) (vo : Value), i ≤ l.length ∧ x4 = .int .i64 (i : Int) ∧ Ext w w' ∧ w4.heap.size ≤ w'.heap.size ∧ Cs w' g1 [ve, vi, .slice ac l.length cc] ∧ Cs w' g2 [nilV, nilV, nilV] ∧ Cs w' g3 [ve, vi, vo] ∧ G.Own tCh (fun b => D b ∧ b < w.heap.size) w4.heap.size w' vo (l.take i))
    (fun x4 _ => l.length - (iv x4).toNat)
    ⟨0, _, by omega, rfl, h14, Nat.le_refl _, (c1.ext h3).fr f4 (show ¬ g1 = g3 by omega), (c2.ext h3).fr f4 (show ¬ g2 = g3 by omega), c4, G.Own.nil⟩ ?_
  rintro x4 gg w5 ⟨i, vo, hi, rfl, h5, z5, c1, c2, c3, ho⟩
  unfold oubliettelaw34_Back.b1
  have hwz := h14.size
  by_cases ci : (i : Int) < (l.length : Int)
  · obtain ⟨ad, c', vk, vs, e1, s1, hd, q0, r1, r2⟩ := chAt hv0 (i := i) (by omega)
    simp only [Value.slice.injEq] at e1
    obtain ⟨rfl, -, rfl⟩ := e1
    have hpl := hp _ (List.getElem_mem (by omega : i < l.length))
    have e0 : IntKind.i64.wrap ((i : Int) + 1) = ((i + 1 : Nat) : Int) := by rw [wrap64 (by omega) (by omega)]; omega
    simp only [↓eBinI, ↓eDiv, ↓eShift, ↓eBinS, ↓ePick, ↓eNot, ↓eNeg, ↓eConv, ↓eConvS, ↓eExt0, ↓eExt1, ↓eExt2, ↓eFA, ↓eIA, ↓eLenSl, ↓eCapSl, ↓eLenS, ↓eMin, ↓eMax, ↓eCondT, ↓eCondF, ↓gIf_tt, ↓gIf_ff, ↓gIf_tf, ↓gIf_ft, ↓gIf_u, ↓gIfW_u, ↓gIfW_tt, ↓gIfW_ff, ↓gIfW_tf, ↓gIfW_ft, binI, divI, shiftI, add_mk, Nat.zero_add, cond_true, cond_false, decide_true, decide_false, Bool.not_true, Bool.not_false, Bool.and_true, Bool.true_and, Bool.and_false, Bool.false_and, Int.toNat_natCast, Nat.mul_one, ↓c1.c2, ci]
    refine drawS (fun b => Blk vo b ∧ w4.heap.size ≤ b) fun w6 h6 => ?_
    have z6 := h6.size
    have c16 := c1.ext h6
    have c36 := c3.ext h6
    have n1 : ¬ (fun b => Blk vo b ∧ w4.heap.size ≤ b) g1 := fun hx => by have := hx.2; omega
    have n3 : ¬ (fun b => Blk vo b ∧ w4.heap.size ≤ b) g3 := fun hx => by have := hx.2; omega
    have b12 : ∀ {K : KP}, pLd (Fr (fun b => Blk vo b ∧ w4.heap.size ≤ b) w6) (.pointer (some ⟨g1, 2, none⟩)) K = K (.slice (some ad) l.length cc) := c16.f n1 rfl
    have b32 : ∀ {K : KP}, pLd (Fr (fun b => Blk vo b ∧ w4.heap.size ≤ b) w6) (.pointer (some ⟨g3, 2, none⟩)) K = K vo := c36.f n3 rfl
    have h06 := h5.tr h6
    simp only [↓eBinI, ↓eDiv, ↓eShift, ↓eBinS, ↓ePick, ↓eNot, ↓eNeg, ↓eConv, ↓eConvS, ↓eExt0, ↓eExt1, ↓eExt2, ↓eFA, ↓eIA, ↓eLenSl, ↓eCapSl, ↓eLenS, ↓eMin, ↓eMax, ↓eCondT, ↓eCondF, ↓gIf_tt, ↓gIf_ff, ↓gIf_tf, ↓gIf_ft, ↓gIf_u, ↓gIfW_u, ↓gIfW_tt, ↓gIfW_ff, ↓gIfW_tf, ↓gIfW_ft, binI, divI, shiftI, add_mk, Nat.zero_add, cond_true, cond_false, decide_true, decide_false, Bool.not_true, Bool.not_false, Bool.and_true, Bool.true_and, Bool.and_false, Bool.false_and, Int.toNat_natCast, Nat.mul_one, ↓b12, ↓b32]
    refine ⟨by omega, by omega, ?_⟩
    refine ldCh s1 (fun w' f j u hj => by
      have hq := h06.cell (q0 j u hj)
      refine f.cell hq fun hx => ?_
      have hx : Blk vo (ad.add (i * 3 + j)).block ∧ w4.heap.size ≤ (ad.add (i * 3 + j)).block := hx
      rw [add_block] at hx
      have := hd.2; have := hx.2; omega) ?_
    refine (?_ : GCalls Tryz.prog 32 [chainV l[i].1 vk vs] _ X w6)
    refine Back_c (r1.ext h06) (r2.ext h06) (by rw [hpl.2]; simp) fun vs' w7 h7 r1' r2' => ?_
    refine ⟨h7.mono (fun _ _ h => h.elim), ?_⟩
    have z7 := h7.size
    have h07 := h06.tr h7
    have ok := one_of_rd r1'
    have os := one_of_rd r2'
    refine Cs.bslice (cs := [.int .i64 l[i].1, vk, vs']) (fillAgg rfl rfl) fun r w8 hr h8 b8 => ⟨(h7.tr h8).mono (fun _ _ h => h.elim), ?_⟩
    have z8 := h8.size
    have h08 := h07.tr h8
    have hrow : Rd tCh (fun b => D b ∧ b < w.heap.size) w8 [.int .i64 l[i].1, vk, vs'] l[i] := by
      refine ⟨[.int .i64 l[i].1], [vk, vs'], rfl, rfl, rfl, ⟨rfl, by rw [hpl.1]; decide, by rw [hpl.1]; decide⟩, [vk], [vs'], rfl, rfl, rfl, r1'.ext h8, ?_⟩
      have r2' := r2'
      rw [hpl.2] at r2' ⊢
      exact nil_dom r2'
    obtain ⟨T8, b8'⟩ := b8
    refine (((ho.ext h6).ext h7).ext h8).push (by omega) (fun hd => by have := hd.2; omega) rfl rfl b8' hrow (by show (2 * ((l.take i).length + 1) + 192) * 56 ≤ _; rw [List.length_take]; omega) fun v9 w9 o9 f9 hb9 => ?_
    refine ⟨((h7.tr h8).mono (fun _ _ h => h.elim)).trans f9 (fun _ _ h => h), ?_⟩
    have z9 := f9.size
    have ov : G.one v9 = true := by obtain ⟨a, c, e, _⟩ := o9.form; rw [e]; rfl
    have h9 : Ext w w9 := h08.tn f9 (fun x hx => by have := hx.2; omega)
    have c39 : Cs w9 g3 [ve, vi, vo] := ((c36.ext h7).ext h8).fr f9 (fun hx => by have := hx.2; omega)
    try simp only [↓eBinI, ↓eDiv, ↓eShift, ↓eBinS, ↓ePick, ↓eNot, ↓eNeg, ↓eConv, ↓eConvS, ↓eExt0, ↓eExt1, ↓eExt2, ↓eFA, ↓eIA, ↓eLenSl, ↓eCapSl, ↓eLenS, ↓eMin, ↓eMax, ↓eCondT, ↓eCondF, ↓gIf_tt, ↓gIf_ff, ↓gIf_tf, ↓gIf_ft, ↓gIf_u, ↓gIfW_u, ↓gIfW_tt, ↓gIfW_ff, ↓gIfW_tf, ↓gIfW_ft, binI, divI, shiftI, add_mk, Nat.zero_add, cond_true, cond_false, decide_true, decide_false, Bool.not_true, Bool.not_false, Bool.and_true, Bool.true_and, Bool.and_false, Bool.false_and, Int.toNat_natCast, Nat.mul_one]
    refine c39.set (i := 2) (by simp) ov fun w10 c10 f10 => ?_
    refine anew_ ?_
    have z10 := f10.size
    try simp only [↓eBinI, ↓eDiv, ↓eShift, ↓eBinS, ↓ePick, ↓eNot, ↓eNeg, ↓eConv, ↓eConvS, ↓eExt0, ↓eExt1, ↓eExt2, ↓eFA, ↓eIA, ↓eLenSl, ↓eCapSl, ↓eLenS, ↓eMin, ↓eMax, ↓eCondT, ↓eCondF, ↓gIf_tt, ↓gIf_ff, ↓gIf_tf, ↓gIf_ft, ↓gIf_u, ↓gIfW_u, ↓gIfW_tt, ↓gIfW_ff, ↓gIfW_tf, ↓gIfW_ft, binI, divI, shiftI, add_mk, Nat.zero_add, cond_true, cond_false, decide_true, decide_false, Bool.not_true, Bool.not_false, Bool.and_true, Bool.true_and, Bool.and_false, Bool.false_and, Int.toNat_natCast, Nat.mul_one, e0]
    refine oubliettelaw34_Back.leaf1 ⟨i + 1, v9, by omega, by first | rfl | rw [e0], h9.tn f10 (fun x hx => by omega), by omega, (((c16.ext h7).ext h8).fr f9 (fun hx => by have := hx.2; omega)).fr f10 (show ¬ g1 = g3 by omega), ((((c2.ext h6).ext h7).ext h8).fr f9 (fun hx => by have := hx.2; omega)).fr f10 (show ¬ g2 = g3 by omega), c10, ?_⟩ (by simp only [iv]; omega)
    rw [List.take_succ_eq_append_getElem (by omega)]
    exact o9.fr f10 (fun b hb (e : b = g3) => by have := hb.2; omega) (fun b hb hB (e : b = g3) => by omega)
  · simp only [↓eBinI, ↓eDiv, ↓eShift, ↓eBinS, ↓ePick, ↓eNot, ↓eNeg, ↓eConv, ↓eConvS, ↓eExt0, ↓eExt1, ↓eExt2, ↓eFA, ↓eIA, ↓eLenSl, ↓eCapSl, ↓eLenS, ↓eMin, ↓eMax, ↓eCondT, ↓eCondF, ↓gIf_tt, ↓gIf_ff, ↓gIf_tf, ↓gIf_ft, ↓gIf_u, ↓gIfW_u, ↓gIfW_tt, ↓gIfW_ff, ↓gIfW_tf, ↓gIfW_ft, binI, divI, shiftI, add_mk, Nat.zero_add, cond_true, cond_false, decide_true, decide_false, Bool.not_true, Bool.not_false, Bool.and_true, Bool.true_and, Bool.and_false, Bool.false_and, Int.toNat_natCast, Nat.mul_one, ↓c1.c2, ci]
    have : i = l.length := by omega
    subst this
    rw [List.take_of_length_le (Nat.le_refl _)] at ho
    have oo : G.one vo = true := by obtain ⟨a, c, e, _⟩ := ho.form; rw [e]; rfl
    rw [c3.ld3]
    refine c2.setN (l' := [ve, vi, vo]) rfl rfl (allOne3 oe oi oo) fun w6 c6 f6 => ?_
    rw [c6.ld3]
    have h6 : Ext w w6 := h5.tn f6 (fun x hx => by omega)
    refine h _ w6 h6 ⟨ve, vi, vo, rfl, (re.ext h6).wide (fun b hb => .inl hb), (ri.ext h6).wide (fun b hb => .inl hb), ?_⟩
    exact (ho.fr f6 (fun b hb (e : b = g2) => by have := hb.2; omega) (fun b hb hB (e : b = g2) => by omega)).rd2 (fun b hb => .inl hb.1) (fun b _ hB _ => .inr (by omega)) (by show l.length < _; omega)
set_option maxHeartbeats 1000000 in
theorem Same34_c {v v' : Value} {e i0 : List UInt8} {l : List Ch} (hb : IsBirth D w v e i0 l) (hb' : IsBirth D' w v' e i0 l) (h : ∀ w', Ext w w' → K (.bool true) w') : GCalls Tryz.prog 11 [v, v'] K X w := by
  obtain ⟨ve, vi, vc, rfl, re, ri, rc⟩ := hb
  obtain ⟨ue, ui, uc, rfl, se, si, sc⟩ := hb'
  obtain ⟨ac, cc, rfl, hcc, hlc⟩ := rc.form
  obtain ⟨ac', cc', rfl, hcc', _⟩ := sc.form
  apply oublietteref34_Same.calls; unfold oublietteref34_Same.b
  refine boxC (cs := [ve, vi, .slice ac l.length cc]) fun g1 w1 hg1 h1 b1 => ?_
  refine boxC (cs := [ue, ui, .slice ac' l.length cc']) fun g2 w2 hg2 h2 b2 => ?_
  have h12 := h1.tr h2
  have b1 := b1.ext h2
  simp only [↓eBinI, ↓eDiv, ↓eShift, ↓eBinS, ↓ePick, ↓eNot, ↓eNeg, ↓eConv, ↓eConvS, ↓eExt0, ↓eExt1, ↓eExt2, ↓eFA, ↓eIA, ↓eLenSl, ↓eCapSl, ↓eLenS, ↓eMin, ↓eMax, ↓eCondT, ↓eCondF, ↓gIf_tt, ↓gIf_ff, ↓gIf_tf, ↓gIf_ft, ↓gIf_u, ↓gIfW_u, ↓gIfW_tt, ↓gIfW_ff, ↓gIfW_tf, ↓gIfW_ft, binI, divI, shiftI, add_mk, Nat.zero_add, cond_true, cond_false, decide_true, decide_false, Bool.not_true, Bool.not_false, Bool.and_true, Bool.true_and, Bool.and_false, Bool.false_and, Int.toNat_natCast, Nat.mul_one, ↓b1.c0, ↓b2.c0]
  refine Same_c (re.ext h12) (se.ext h12) fun w3 h3 => ?_
  have h13 := h12.tr h3
  have b1 := b1.ext h3
  have b2 := b2.ext h3
  simp only [decide_true]
  simp only [↓eBinI, ↓eDiv, ↓eShift, ↓eBinS, ↓ePick, ↓eNot, ↓eNeg, ↓eConv, ↓eConvS, ↓eExt0, ↓eExt1, ↓eExt2, ↓eFA, ↓eIA, ↓eLenSl, ↓eCapSl, ↓eLenS, ↓eMin, ↓eMax, ↓eCondT, ↓eCondF, ↓gIf_tt, ↓gIf_ff, ↓gIf_tf, ↓gIf_ft, ↓gIf_u, ↓gIfW_u, ↓gIfW_tt, ↓gIfW_ff, ↓gIfW_tf, ↓gIfW_ft, binI, divI, shiftI, add_mk, Nat.zero_add, cond_true, cond_false, decide_true, decide_false, Bool.not_true, Bool.not_false, Bool.and_true, Bool.true_and, Bool.and_false, Bool.false_and, Int.toNat_natCast, Nat.mul_one, ↓b1.c1, ↓b2.c1]
  refine Same_c (ri.ext h13) (si.ext h13) fun w4 h4 => ?_
  have h14 := h13.tr h4
  have b1 := b1.ext h4
  have b2 := b2.ext h4
  simp only [decide_true]
  simp only [↓eBinI, ↓eDiv, ↓eShift, ↓eBinS, ↓ePick, ↓eNot, ↓eNeg, ↓eConv, ↓eConvS, ↓eExt0, ↓eExt1, ↓eExt2, ↓eFA, ↓eIA, ↓eLenSl, ↓eCapSl, ↓eLenS, ↓eMin, ↓eMax, ↓eCondT, ↓eCondF, ↓gIf_tt, ↓gIf_ff, ↓gIf_tf, ↓gIf_ft, ↓gIf_u, ↓gIfW_u, ↓gIfW_tt, ↓gIfW_ff, ↓gIfW_tf, ↓gIfW_ft, binI, divI, shiftI, add_mk, Nat.zero_add, cond_true, cond_false, decide_true, decide_false, Bool.not_true, Bool.not_false, Bool.and_true, Bool.true_and, Bool.and_false, Bool.false_and, Int.toNat_natCast, Nat.mul_one, ↓b1.c2, ↓b2.c2, bne_self]
  refine oublietteref34_Same.loop1 (fun x5 w' => ∃ i : Nat, i ≤ l.length ∧ x5 = .int .i64 (i : Int) ∧ Ext w4 w') (fun x5 _ => l.length - (iv x5).toNat) ⟨0, by omega, rfl, Fr.refl _ _⟩ ?_
  rintro x5 gg w5 ⟨i, hi, rfl, h5⟩
  unfold oublietteref34_Same.b1
  have b1 := b1.ext h5
  have b2 := b2.ext h5
  by_cases ci : (i : Int) < (l.length : Int)
  · simp only [↓eBinI, ↓eDiv, ↓eShift, ↓eBinS, ↓ePick, ↓eNot, ↓eNeg, ↓eConv, ↓eConvS, ↓eExt0, ↓eExt1, ↓eExt2, ↓eFA, ↓eIA, ↓eLenSl, ↓eCapSl, ↓eLenS, ↓eMin, ↓eMax, ↓eCondT, ↓eCondF, ↓gIf_tt, ↓gIf_ff, ↓gIf_tf, ↓gIf_ft, ↓gIf_u, ↓gIfW_u, ↓gIfW_tt, ↓gIfW_ff, ↓gIfW_tf, ↓gIfW_ft, binI, divI, shiftI, add_mk, Nat.zero_add, cond_true, cond_false, decide_true, decide_false, Bool.not_true, Bool.not_false, Bool.and_true, Bool.true_and, Bool.and_false, Bool.false_and, Int.toNat_natCast, Nat.mul_one, ↓b1.c2, ci]
    refine draw_ fun w6 h6 => ?_
    have b1 := b1.ext h6
    have b2 := b2.ext h6
    have h16 := (h14.tr h5).tr h6
    obtain ⟨ad, c, vk, vs, e1, s1, _, q0, r1, r2⟩ := chAt (rc.ext h16) (i := i) (by omega)
    obtain ⟨ad', c', uk, us, e1', s1', _, q0', r1', r2'⟩ := chAt (sc.ext h16) (i := i) (by omega)
    simp only [Value.slice.injEq] at e1 e1'
    obtain ⟨rfl, -, rfl⟩ := e1
    obtain ⟨rfl, -, rfl⟩ := e1'
    have e0 : IntKind.i64.wrap ((i : Int) + 1) = ((i + 1 : Nat) : Int) := by rw [wrap64 (by omega) (by omega)]; omega
    simp only [↓eBinI, ↓eDiv, ↓eShift, ↓eBinS, ↓ePick, ↓eNot, ↓eNeg, ↓eConv, ↓eConvS, ↓eExt0, ↓eExt1, ↓eExt2, ↓eFA, ↓eIA, ↓eLenSl, ↓eCapSl, ↓eLenS, ↓eMin, ↓eMax, ↓eCondT, ↓eCondF, ↓gIf_tt, ↓gIf_ff, ↓gIf_tf, ↓gIf_ft, ↓gIf_u, ↓gIfW_u, ↓gIfW_tt, ↓gIfW_ff, ↓gIfW_tf, ↓gIfW_ft, binI, divI, shiftI, add_mk, Nat.zero_add, cond_true, cond_false, decide_true, decide_false, Bool.not_true, Bool.not_false, Bool.and_true, Bool.true_and, Bool.and_false, Bool.false_and, Int.toNat_natCast, Nat.mul_one, ↓b1.e2]
    refine ⟨by omega, by omega, ?_⟩
    refine ldCh s1 (fun w' f j u hj => f.cell (q0 j u hj)) ?_
    simp only [↓eBinI, ↓eDiv, ↓eShift, ↓eBinS, ↓ePick, ↓eNot, ↓eNeg, ↓eConv, ↓eConvS, ↓eExt0, ↓eExt1, ↓eExt2, ↓eFA, ↓eIA, ↓eLenSl, ↓eCapSl, ↓eLenS, ↓eMin, ↓eMax, ↓eCondT, ↓eCondF, ↓gIf_tt, ↓gIf_ff, ↓gIf_tf, ↓gIf_ft, ↓gIf_u, ↓gIfW_u, ↓gIfW_tt, ↓gIfW_ff, ↓gIfW_tf, ↓gIfW_ft, binI, divI, shiftI, add_mk, Nat.zero_add, cond_true, cond_false, decide_true, decide_false, Bool.not_true, Bool.not_false, Bool.and_true, Bool.true_and, Bool.and_false, Bool.false_and, Int.toNat_natCast, Nat.mul_one, ↓b2.e2]
    refine ⟨by omega, by omega, ?_⟩
    refine ldCh s1' (fun w' f j u hj => f.cell (q0' j u hj)) ?_
    refine (?_ : GCalls Tryz.prog 31 [chainV l[i].1 vk vs, chainV l[i].1 uk us] _ X w6)
    refine SameT_c r1 r2 r1' r2' fun w7 h7 => ?_
    refine ⟨h7, ?_⟩
    simp only [↓eBinI, ↓eDiv, ↓eShift, ↓eBinS, ↓ePick, ↓eNot, ↓eNeg, ↓eConv, ↓eConvS, ↓eExt0, ↓eExt1, ↓eExt2, ↓eFA, ↓eIA, ↓eLenSl, ↓eCapSl, ↓eLenS, ↓eMin, ↓eMax, ↓eCondT, ↓eCondF, ↓gIf_tt, ↓gIf_ff, ↓gIf_tf, ↓gIf_ft, ↓gIf_u, ↓gIfW_u, ↓gIfW_tt, ↓gIfW_ff, ↓gIfW_tf, ↓gIfW_ft, binI, divI, shiftI, add_mk, Nat.zero_add, cond_true, cond_false, decide_true, decide_false, Bool.not_true, Bool.not_false, Bool.and_true, Bool.true_and, Bool.and_false, Bool.false_and, Int.toNat_natCast, Nat.mul_one, e0]
    exact oublietteref34_Same.leaf1 ⟨i + 1, by omega, rfl, (h5.tr h6).tr h7⟩ (by simp only [iv]; omega)
  · simp only [↓eBinI, ↓eDiv, ↓eShift, ↓eBinS, ↓ePick, ↓eNot, ↓eNeg, ↓eConv, ↓eConvS, ↓eExt0, ↓eExt1, ↓eExt2, ↓eFA, ↓eIA, ↓eLenSl, ↓eCapSl, ↓eLenS, ↓eMin, ↓eMax, ↓eCondT, ↓eCondF, ↓gIf_tt, ↓gIf_ff, ↓gIf_tf, ↓gIf_ft, ↓gIf_u, ↓gIfW_u, ↓gIfW_tt, ↓gIfW_ff, ↓gIfW_tf, ↓gIfW_ft, binI, divI, shiftI, add_mk, Nat.zero_add, cond_true, cond_false, decide_true, decide_false, Bool.not_true, Bool.not_false, Bool.and_true, Bool.true_and, Bool.and_false, Bool.false_and, Int.toNat_natCast, Nat.mul_one, ↓b1.c2, ci]
    exact h _ (h14.tr h5)
end Go.Proofs.YtkpgmaiklfjjgaaGreatDoor
end
