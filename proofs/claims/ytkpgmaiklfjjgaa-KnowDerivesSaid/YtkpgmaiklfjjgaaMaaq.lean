/-
  What is opened: the program's and the reference's.
  The walk of KnowDerives.
-/
import Derived.Test.YtkpgmaiklfjjgaaMaap
section
set_option linter.unusedSimpArgs false
set_option linter.unusedVariables false
set_option maxRecDepth 100000
namespace Go.Proofs.Ytkpgmaiklfjjgaa
open Go Go.G
variable {X : KX} {w : World} {K : KV} {D D' : Nat → Prop} {ns : List Node} {x0 x1 : Value} {gT gK gL gS : Nat} {F FK : Nat → Prop} {ml : List (Int × Value)}
def opF (ns : List Node) (e : Int → Bool) (i : Nat) : Bool := match ns[i]? with
  | some x => x.1 == 5 && (e ((i : Int) + 1) && e x.2.1)
  | none => false
def opN (ns : List Node) (e : Int → Bool) (m : Nat) : List Int := ((List.range m).filter (opF ns e)).map fun (i : Nat) => (i : Int) + 1
theorem opN_yes {e : Int → Bool} {m : Nat} (h : opF ns e m = true) : opN ns e (m + 1) = opN ns e m ++ [((m + 1 : Nat) : Int)] := by
  unfold opN
  rw [List.range_succ, List.filter_append, List.map_append]
  simp [List.filter_cons, h]
theorem opN_no {e : Int → Bool} {m : Nat} (h : opF ns e m = false) : opN ns e (m + 1) = opN ns e m := by
  unfold opN
  rw [List.range_succ, List.filter_append, List.map_append]
  simp [List.filter_cons, h]
theorem opN_len (e : Int → Bool) (m : Nat) : (opN ns e m).length ≤ m := by
  unfold opN
  rw [List.length_map]
  have := List.length_filter_le (opF ns e) (List.range m)
  rw [List.length_range] at this; exact this
theorem opF_at {e : Int → Bool} {i : Nat} (hi : i < ns.length) : opF ns e i = (ns[i].1 == 5 && (e ((i : Int) + 1) && e ns[i].2.1)) := by
  unfold opF; rw [List.getElem?_eq_getElem hi]
theorem opN_congr (hg : GoodN ns) {e f : Int → Bool} (h : ∀ i, 1 ≤ i → i ≤ (ns.length : Int) → e i = f i) (m : Nat) : opN ns e m = opN ns f m := by
  unfold opN
  congr 1
  refine List.filter_congr fun i _ => ?_
  by_cases hi : i < ns.length
  · rw [opF_at hi, opF_at hi]
    by_cases h5 : ns[i].1 = 5
    · obtain ⟨_, q1, q2, q3, q4⟩ := parts5 hg hi h5
      rw [h _ (by omega) (by omega), h _ q1 (by omega)]
    · have : (ns[i].1 == 5) = false := by simpa using h5
      rw [this, Bool.false_and, Bool.false_and]
  · unfold opF; rw [List.getElem?_eq_none (by omega)]
theorem ints_in {e : Int → Bool} {m : Nat} (hm : m ≤ 10000) : ∀ p ∈ opN ns e m, InI p := by
  intro p hp
  obtain ⟨i, hi, rfl⟩ := List.mem_map.1 hp
  have := List.mem_range.1 (List.mem_filter.1 hi).1
  exact ⟨by omega, by omega⟩
theorem rdI {n : Int} (h : InI n) : Rd (.int .i64) D w [Value.int .i64 n] n := ⟨rfl, h.1, h.2⟩
set_option maxHeartbeats 2000000 in
theorem Opened_c (hk : Know w gK gT gL FK ns ml) (ht : Tab w gT F ns) (hd : ∀ b, FK b → ¬ F b)
    (h : ∀ v is w' FK', Fr FK w w' → (∀ b, FK' b → FK b ∨ w.heap.size ≤ b) → Know w' gK gT gL FK' ns ml → Least ns (inL ml) (bit is) → Rd (.slice (.int .i64)) (w.heap.size ≤ ·) w' [v] (opN ns (bit is) ns.length) → K v w') : GCalls Try.prog 15 [.pointer (some ⟨gK, 0, none⟩)] K X w := by
  have hlen := ht.len
  have hg := ht.good
  apply know_Know_Opened.calls; unfold know_Know_Opened.b
  simp only [↓eBinI, ↓eDiv, ↓eShift, ↓eBinS, ↓ePick, ↓eNot, ↓eNeg, ↓eConv, ↓eConvS, ↓eExt0, ↓eExt1, ↓eExt2, ↓eFA, ↓eIA, ↓eLenSl, ↓eCapSl, ↓eLenS, ↓eMin, ↓eMax, ↓eCondT, ↓eCondF, ↓gIf_tt, ↓gIf_ff, ↓gIf_tf, ↓gIf_ft, ↓gIf_u, ↓gIfW_u, ↓gIfW_tt, ↓gIfW_ff, ↓gIfW_tf, ↓gIfW_ft, binI, divI, shiftI, add_mk, Nat.zero_add, cond_true, cond_false, decide_true, decide_false, Bool.not_true, Bool.not_false, Bool.and_true, Bool.true_and, Bool.and_false, Bool.false_and, Int.toNat_natCast, Nat.mul_one, ↓ePEqS]
  refine all_c hk ht hd fun va is w2 FK' f2 g2 k2 rv il lst => ?_
  have z2 := f2.size
  have t2 := ht.fr f2 (fun b hb e => hd b e hb)
  have hc : ∃ vk vp vi, Cs w2 gK [.pointer (some ⟨gT, 0, none⟩), .map (some gL), vk, vp, vi] := by
    obtain ⟨vk, vp, vi, m, is, DP, DI, h1, _⟩ := k2; exact ⟨vk, vp, vi, h1⟩
  obtain ⟨vk, vp, vi, c2⟩ := hc
  obtain ⟨aa, ca, eaa, _, hal⟩ := rv.form
  rw [il] at eaa
  rw [eaa]
  simp only [↓eBinI, ↓eDiv, ↓eShift, ↓eBinS, ↓ePick, ↓eNot, ↓eNeg, ↓eConv, ↓eConvS, ↓eExt0, ↓eExt1, ↓eExt2, ↓eFA, ↓eIA, ↓eLenSl, ↓eCapSl, ↓eLenS, ↓eMin, ↓eMax, ↓eCondT, ↓eCondF, ↓gIf_tt, ↓gIf_ff, ↓gIf_tf, ↓gIf_ft, ↓gIf_u, ↓gIfW_u, ↓gIfW_tt, ↓gIfW_ff, ↓gIfW_tf, ↓gIfW_ft, binI, divI, shiftI, add_mk, Nat.zero_add, cond_true, cond_false, decide_true, decide_false, Bool.not_true, Bool.not_false, Bool.and_true, Bool.true_and, Bool.and_false, Bool.false_and, Int.toNat_natCast, Nat.mul_one]
  rw [← eaa]
  refine know_Know_Opened.loop1 (fun x2 x11 w' => ∃ i : Nat, i ≤ ns.length + 1 ∧ x11 = .int .i64 (i : Int) ∧ Ext w2 w' ∧ G.Own (.int .i64) NoB w2.heap.size w' x2 (opN ns (bit is) (i - 1))) (fun _ x11 _ => ns.length + 1 - (iv x11).toNat)
    ⟨0, by omega, rfl, Fr.refl _ _, G.Own.nil⟩ ?_
  rintro x2 x11 gg w3 ⟨i, hi, rfl, h3, o3⟩
  unfold know_Know_Opened.b1
  have e0 : IntKind.i64.wrap ((i : Int) + 1) = ((i + 1 : Nat) : Int) := by rw [wrap64 (by omega) (by omega)]; omega
  by_cases ci : (i : Int) < ((ns.length + 1 : Nat) : Int)
  · have hi' : i < ns.length + 1 := by omega
    have hin : InI (i : Int) := ⟨by omega, by omega⟩
    have z3 := h3.size
    obtain ⟨ad, c, ea, qa⟩ := boolRd (rv.ext h3) (i := i) (by omega)
    rw [ea]
    simp only [↓eBinI, ↓eDiv, ↓eShift, ↓eBinS, ↓ePick, ↓eNot, ↓eNeg, ↓eConv, ↓eConvS, ↓eExt0, ↓eExt1, ↓eExt2, ↓eFA, ↓eIA, ↓eLenSl, ↓eCapSl, ↓eLenS, ↓eMin, ↓eMax, ↓eCondT, ↓eCondF, ↓gIf_tt, ↓gIf_ff, ↓gIf_tf, ↓gIf_ft, ↓gIf_u, ↓gIfW_u, ↓gIfW_tt, ↓gIfW_ff, ↓gIfW_tf, ↓gIfW_ft, binI, divI, shiftI, add_mk, Nat.zero_add, cond_true, cond_false, decide_true, decide_false, Bool.not_true, Bool.not_false, Bool.and_true, Bool.true_and, Bool.and_false, Bool.false_and, Int.toNat_natCast, Nat.mul_one, ci]
    refine ⟨by omega, by first | trivial | omega, ?_⟩
    simp only [↓eLdW, Int.toNat_natCast, Nat.mul_one, qa, Option.some.injEq, exists_eq_left']
    -- what is kept where it is none
    have keep : ∀ w', Ext w3 w' → (∀ k, i = k + 1 → opF ns (bit is) k = false) → ∃ i' : Nat, i' ≤ ns.length + 1 ∧ Value.int .i64 ((i + 1 : Nat) : Int) = .int .i64 (i' : Int) ∧ Ext w2 w' ∧ G.Own (.int .i64) NoB w2.heap.size w' x2 (opN ns (bit is) (i' - 1)) := fun w' hw hno =>
      ⟨i + 1, by omega, rfl, h3.tr hw, by
        have e : opN ns (bit is) (i + 1 - 1) = opN ns (bit is) (i - 1) := by
          cases i with
          | zero => rfl
          | succ k => rw [show k + 1 + 1 - 1 = k + 1 by omega, show k + 1 - 1 = k by omega, opN_no (hno k rfl)]
        rw [e]; exact o3.ext hw⟩
    cases hb : bit is (i : Int) with
    | false =>
      simp only [↓eBinI, ↓eDiv, ↓eShift, ↓eBinS, ↓ePick, ↓eNot, ↓eNeg, ↓eConv, ↓eConvS, ↓eExt0, ↓eExt1, ↓eExt2, ↓eFA, ↓eIA, ↓eLenSl, ↓eCapSl, ↓eLenS, ↓eMin, ↓eMax, ↓eCondT, ↓eCondF, ↓gIf_tt, ↓gIf_ff, ↓gIf_tf, ↓gIf_ft, ↓gIf_u, ↓gIfW_u, ↓gIfW_tt, ↓gIfW_ff, ↓gIfW_tf, ↓gIfW_ft, binI, divI, shiftI, add_mk, Nat.zero_add, cond_true, cond_false, decide_true, decide_false, Bool.not_true, Bool.not_false, Bool.and_true, Bool.true_and, Bool.and_false, Bool.false_and, Int.toNat_natCast, Nat.mul_one]
      unfold know_Know_Opened.j1
      simp only [↓eBinI, ↓eDiv, ↓eShift, ↓eBinS, ↓ePick, ↓eNot, ↓eNeg, ↓eConv, ↓eConvS, ↓eExt0, ↓eExt1, ↓eExt2, ↓eFA, ↓eIA, ↓eLenSl, ↓eCapSl, ↓eLenS, ↓eMin, ↓eMax, ↓eCondT, ↓eCondF, ↓gIf_tt, ↓gIf_ff, ↓gIf_tf, ↓gIf_ft, ↓gIf_u, ↓gIfW_u, ↓gIfW_tt, ↓gIfW_ff, ↓gIfW_tf, ↓gIfW_ft, binI, divI, shiftI, add_mk, Nat.zero_add, cond_true, cond_false, decide_true, decide_false, Bool.not_true, Bool.not_false, Bool.and_true, Bool.true_and, Bool.and_false, Bool.false_and, Int.toNat_natCast, Nat.mul_one, e0]
      rw [← ea]
      refine know_Know_Opened.leaf1 (keep w3 (Fr.refl _ _) fun k e => ?_) (by simp only [iv]; omega)
      rw [opF_at (by omega), show (k : Int) + 1 = (i : Int) by omega, hb]; simp
    | true =>
      simp only [↓eBinI, ↓eDiv, ↓eShift, ↓eBinS, ↓ePick, ↓eNot, ↓eNeg, ↓eConv, ↓eConvS, ↓eExt0, ↓eExt1, ↓eExt2, ↓eFA, ↓eIA, ↓eLenSl, ↓eCapSl, ↓eLenS, ↓eMin, ↓eMax, ↓eCondT, ↓eCondF, ↓gIf_tt, ↓gIf_ff, ↓gIf_tf, ↓gIf_ft, ↓gIf_u, ↓gIfW_u, ↓gIfW_tt, ↓gIfW_ff, ↓gIfW_tf, ↓gIfW_ft, binI, divI, shiftI, add_mk, Nat.zero_add, cond_true, cond_false, decide_true, decide_false, Bool.not_true, Bool.not_false, Bool.and_true, Bool.true_and, Bool.and_false, Bool.false_and, Int.toNat_natCast, Nat.mul_one, ↓ePNil, ↓(c2.ext h3).c0]
      refine Kind_c (t2.ext h3) hin fun w4 h4 => ?_
      by_cases k5 : kindN ns (i : Int) = 5
      · have hth : thereN ns (i : Int) = true := by
          cases hh : thereN ns (i : Int) with
          | true => rfl
          | false => rw [(thereNot hh).1] at k5; cases k5
        obtain ⟨k, hk', ek0, ek, ep⟩ := thereAt hth
        obtain rfl : i = k + 1 := by omega
        have h5 : ns[k].1 = 5 := by rw [← ek]; exact k5
        obtain ⟨hp5, q1, q2, q3, q4⟩ := parts5 hg hk' h5
        have en : (kindN ns ((k + 1 : Nat) : Int) == 5) = true := by rw [k5]; rfl
        simp only [↓eBinI, ↓eDiv, ↓eShift, ↓eBinS, ↓ePick, ↓eNot, ↓eNeg, ↓eConv, ↓eConvS, ↓eExt0, ↓eExt1, ↓eExt2, ↓eFA, ↓eIA, ↓eLenSl, ↓eCapSl, ↓eLenS, ↓eMin, ↓eMax, ↓eCondT, ↓eCondF, ↓gIf_tt, ↓gIf_ff, ↓gIf_tf, ↓gIf_ft, ↓gIf_u, ↓gIfW_u, ↓gIfW_tt, ↓gIfW_ff, ↓gIfW_tf, ↓gIfW_ft, binI, divI, shiftI, add_mk, Nat.zero_add, cond_true, cond_false, decide_true, decide_false, Bool.not_true, Bool.not_false, Bool.and_true, Bool.true_and, Bool.and_false, Bool.false_and, Int.toNat_natCast, Nat.mul_one, en, ↓ePNil, ↓((c2.ext h3).ext h4).c0]
        refine Parts_c ((t2.ext h3).ext h4) hin fun vp' w5 h5' rp => ?_
        rw [ep, hp5] at rp
        have h35 := h4.tr h5'
        obtain ⟨adx, cx, u0, eup, sx, _, r0, t0⟩ := rp.idx rfl (i := 0) (by simp)
        have v0 := t0.1
        simp only [List.getElem_cons_zero, List.cons.injEq, and_true] at v0
        subst v0
        have eup : vp' = .slice (some adx) 2 cx := eup
        obtain ⟨pa, hpa⟩ : ∃ pa : Nat, ns[k].2.1 = (pa : Int) := ⟨ns[k].2.1.toNat, by omega⟩
        obtain ⟨ad2, cd2, ed2, qd2⟩ := boolRd (rv.ext (h3.tr h35)) (i := pa) (by omega)
        rw [ea] at ed2
        simp only [Value.slice.injEq, Option.some.injEq, true_and] at ed2
        obtain ⟨rfl, rfl⟩ := ed2
        rw [eup]
        simp only [↓eBinI, ↓eDiv, ↓eShift, ↓eBinS, ↓ePick, ↓eNot, ↓eNeg, ↓eConv, ↓eConvS, ↓eExt0, ↓eExt1, ↓eExt2, ↓eFA, ↓eIA, ↓eLenSl, ↓eCapSl, ↓eLenS, ↓eMin, ↓eMax, ↓eCondT, ↓eCondF, ↓gIf_tt, ↓gIf_ff, ↓gIf_tf, ↓gIf_ft, ↓gIf_u, ↓gIfW_u, ↓gIfW_tt, ↓gIfW_ff, ↓gIfW_tf, ↓gIfW_ft, binI, divI, shiftI, add_mk, Nat.zero_add, cond_true, cond_false, decide_true, decide_false, Bool.not_true, Bool.not_false, Bool.and_true, Bool.true_and, Bool.and_false, Bool.false_and, Int.toNat_natCast, Nat.mul_one]
        refine ⟨by omega, by first | trivial | omega, ?_⟩
        simp only [↓eLdW, Int.toNat_zero, Nat.mul_one, Nat.zero_mul, r0, Option.some.injEq, exists_eq_left']
        rw [hpa]
        try simp only [↓eBinI, ↓eDiv, ↓eShift, ↓eBinS, ↓ePick, ↓eNot, ↓eNeg, ↓eConv, ↓eConvS, ↓eExt0, ↓eExt1, ↓eExt2, ↓eFA, ↓eIA, ↓eLenSl, ↓eCapSl, ↓eLenS, ↓eMin, ↓eMax, ↓eCondT, ↓eCondF, ↓gIf_tt, ↓gIf_ff, ↓gIf_tf, ↓gIf_ft, ↓gIf_u, ↓gIfW_u, ↓gIfW_tt, ↓gIfW_ff, ↓gIfW_tf, ↓gIfW_ft, binI, divI, shiftI, add_mk, Nat.zero_add, cond_true, cond_false, decide_true, decide_false, Bool.not_true, Bool.not_false, Bool.and_true, Bool.true_and, Bool.and_false, Bool.false_and, Int.toNat_natCast, Nat.mul_one]
        refine ⟨by omega, by first | trivial | omega, ?_⟩
        simp only [↓eLdW, Int.toNat_natCast, Nat.mul_one, qd2, Option.some.injEq, exists_eq_left']
        have hop : opF ns (bit is) k = bit is (pa : Int) := by
          rw [opF_at hk', h5, hpa, show (k : Int) + 1 = ((k + 1 : Nat) : Int) by omega, hb]; simp
        have z4 := h4.size; have z5 := h5'.size
        cases hb2 : bit is (pa : Int) with
        | false =>
          simp only [↓eBinI, ↓eDiv, ↓eShift, ↓eBinS, ↓ePick, ↓eNot, ↓eNeg, ↓eConv, ↓eConvS, ↓eExt0, ↓eExt1, ↓eExt2, ↓eFA, ↓eIA, ↓eLenSl, ↓eCapSl, ↓eLenS, ↓eMin, ↓eMax, ↓eCondT, ↓eCondF, ↓gIf_tt, ↓gIf_ff, ↓gIf_tf, ↓gIf_ft, ↓gIf_u, ↓gIfW_u, ↓gIfW_tt, ↓gIfW_ff, ↓gIfW_tf, ↓gIfW_ft, binI, divI, shiftI, add_mk, Nat.zero_add, cond_true, cond_false, decide_true, decide_false, Bool.not_true, Bool.not_false, Bool.and_true, Bool.true_and, Bool.and_false, Bool.false_and, Int.toNat_natCast, Nat.mul_one]
          unfold know_Know_Opened.j1
          simp only [↓eBinI, ↓eDiv, ↓eShift, ↓eBinS, ↓ePick, ↓eNot, ↓eNeg, ↓eConv, ↓eConvS, ↓eExt0, ↓eExt1, ↓eExt2, ↓eFA, ↓eIA, ↓eLenSl, ↓eCapSl, ↓eLenS, ↓eMin, ↓eMax, ↓eCondT, ↓eCondF, ↓gIf_tt, ↓gIf_ff, ↓gIf_tf, ↓gIf_ft, ↓gIf_u, ↓gIfW_u, ↓gIfW_tt, ↓gIfW_ff, ↓gIfW_tf, ↓gIfW_ft, binI, divI, shiftI, add_mk, Nat.zero_add, cond_true, cond_false, decide_true, decide_false, Bool.not_true, Bool.not_false, Bool.and_true, Bool.true_and, Bool.and_false, Bool.false_and, Int.toNat_natCast, Nat.mul_one, e0]
          rw [← ea]
          refine know_Know_Opened.leaf1 (keep w5 h35 fun k' e => ?_) (by simp only [iv]; omega)
          obtain rfl : k' = k := by omega
          rw [hop, hb2]
        | true =>
          simp only [↓eBinI, ↓eDiv, ↓eShift, ↓eBinS, ↓ePick, ↓eNot, ↓eNeg, ↓eConv, ↓eConvS, ↓eExt0, ↓eExt1, ↓eExt2, ↓eFA, ↓eIA, ↓eLenSl, ↓eCapSl, ↓eLenS, ↓eMin, ↓eMax, ↓eCondT, ↓eCondF, ↓gIf_tt, ↓gIf_ff, ↓gIf_tf, ↓gIf_ft, ↓gIf_u, ↓gIfW_u, ↓gIfW_tt, ↓gIfW_ff, ↓gIfW_tf, ↓gIfW_ft, binI, divI, shiftI, add_mk, Nat.zero_add, cond_true, cond_false, decide_true, decide_false, Bool.not_true, Bool.not_false, Bool.and_true, Bool.true_and, Bool.and_false, Bool.false_and, Int.toNat_natCast, Nat.mul_one]
          refine bslice1 rfl fun g6 w6 hg6 h6 c6 => ?_
          have hri : Rd (.int .i64) NoB w6 [Value.int .i64 ((k + 1 : Nat) : Int)] ((k + 1 : Nat) : Int) := rdI hin
          have z6 := h6.size
          have hl := opN_len (ns := ns) (bit is) (k + 1 - 1)
          refine (o3.ext (h35.tr h6)).push1 c6 (x := ((k + 1 : Nat) : Int)) hri (by omega) (fun h => h) rfl (by show (2 * ((opN ns (bit is) (k + 1 - 1)).length + 1) + 192) * 8 ≤ _; omega) fun v w7 hv hf hbv => ?_
          unfold know_Know_Opened.j1
          simp only [↓eBinI, ↓eDiv, ↓eShift, ↓eBinS, ↓ePick, ↓eNot, ↓eNeg, ↓eConv, ↓eConvS, ↓eExt0, ↓eExt1, ↓eExt2, ↓eFA, ↓eIA, ↓eLenSl, ↓eCapSl, ↓eLenS, ↓eMin, ↓eMax, ↓eCondT, ↓eCondF, ↓gIf_tt, ↓gIf_ff, ↓gIf_tf, ↓gIf_ft, ↓gIf_u, ↓gIfW_u, ↓gIfW_tt, ↓gIfW_ff, ↓gIfW_tf, ↓gIfW_ft, binI, divI, shiftI, add_mk, Nat.zero_add, cond_true, cond_false, decide_true, decide_false, Bool.not_true, Bool.not_false, Bool.and_true, Bool.true_and, Bool.and_false, Bool.false_and, Int.toNat_natCast, Nat.mul_one, e0]
          rw [← ea]
          refine know_Know_Opened.leaf1 ⟨k + 1 + 1, by omega, rfl, (h3.tr (h35.tr h6)).tn hf (fun x hx => hx.2), ?_⟩ (by simp only [iv]; omega)
          rw [show k + 1 + 1 - 1 = k + 1 by omega, opN_yes (by rw [hop, hb2])]
          exact hv
      · have en : (kindN ns (i : Int) == 5) = false := by simpa using k5
        simp only [↓eBinI, ↓eDiv, ↓eShift, ↓eBinS, ↓ePick, ↓eNot, ↓eNeg, ↓eConv, ↓eConvS, ↓eExt0, ↓eExt1, ↓eExt2, ↓eFA, ↓eIA, ↓eLenSl, ↓eCapSl, ↓eLenS, ↓eMin, ↓eMax, ↓eCondT, ↓eCondF, ↓gIf_tt, ↓gIf_ff, ↓gIf_tf, ↓gIf_ft, ↓gIf_u, ↓gIfW_u, ↓gIfW_tt, ↓gIfW_ff, ↓gIfW_tf, ↓gIfW_ft, binI, divI, shiftI, add_mk, Nat.zero_add, cond_true, cond_false, decide_true, decide_false, Bool.not_true, Bool.not_false, Bool.and_true, Bool.true_and, Bool.and_false, Bool.false_and, Int.toNat_natCast, Nat.mul_one, en]
        unfold know_Know_Opened.j1
        simp only [↓eBinI, ↓eDiv, ↓eShift, ↓eBinS, ↓ePick, ↓eNot, ↓eNeg, ↓eConv, ↓eConvS, ↓eExt0, ↓eExt1, ↓eExt2, ↓eFA, ↓eIA, ↓eLenSl, ↓eCapSl, ↓eLenS, ↓eMin, ↓eMax, ↓eCondT, ↓eCondF, ↓gIf_tt, ↓gIf_ff, ↓gIf_tf, ↓gIf_ft, ↓gIf_u, ↓gIfW_u, ↓gIfW_tt, ↓gIfW_ff, ↓gIfW_tf, ↓gIfW_ft, binI, divI, shiftI, add_mk, Nat.zero_add, cond_true, cond_false, decide_true, decide_false, Bool.not_true, Bool.not_false, Bool.and_true, Bool.true_and, Bool.and_false, Bool.false_and, Int.toNat_natCast, Nat.mul_one, e0]
        rw [← ea]
        refine know_Know_Opened.leaf1 (keep w4 h4 fun k e => ?_) (by simp only [iv]; omega)
        have hth : thereN ns (i : Int) = true := thereN_iff.2 ⟨by omega, by omega⟩
        obtain ⟨k', hk', ek0, ek, _⟩ := thereAt hth
        obtain rfl : k' = k := by omega
        rw [opF_at hk']
        have : ¬ ns[k'].1 = 5 := by rw [← ek]; exact k5
        simp [this]
  · have hi' : i = ns.length + 1 := by omega
    subst hi'
    rw [Nat.add_sub_cancel] at o3
    have hl := opN_len (ns := ns) (bit is) ns.length
    simp only [↓eBinI, ↓eDiv, ↓eShift, ↓eBinS, ↓ePick, ↓eNot, ↓eNeg, ↓eConv, ↓eConvS, ↓eExt0, ↓eExt1, ↓eExt2, ↓eFA, ↓eIA, ↓eLenSl, ↓eCapSl, ↓eLenS, ↓eMin, ↓eMax, ↓eCondT, ↓eCondF, ↓gIf_tt, ↓gIf_ff, ↓gIf_tf, ↓gIf_ft, ↓gIf_u, ↓gIfW_u, ↓gIfW_tt, ↓gIfW_ff, ↓gIfW_tf, ↓gIfW_ft, binI, divI, shiftI, add_mk, Nat.zero_add, cond_true, cond_false, decide_true, decide_false, Bool.not_true, Bool.not_false, Bool.and_true, Bool.true_and, Bool.and_false, Bool.false_and, Int.toNat_natCast, Nat.mul_one, ci]
    exact h x2 is w3 FK' (f2.trans h3 (fun _ _ h => h.elim)) g2 (k2.ext h3) lst (o3.rd (fun _ h => h.elim) (fun b hb => by omega) (by show (opN ns (bit is) ns.length).length < _; omega))
set_option maxHeartbeats 2000000 in
theorem ROpened_c {d : List Bool} (hx : Rd (.slice tNode) D w [x0] ns) (hd : Rd (.slice .bool) D' w [x1] d) (hl : d.length = ns.length + 1) (hg : GoodN ns) (hlen : ns.length ≤ 10000)
    (h : ∀ v w', Ext w w' → Rd (.slice (.int .i64)) (w.heap.size ≤ ·) w' [v] (opN ns (bit d) ns.length) → K v w') : GCalls Try.prog 16 [x0, x1] K X w := by
  have hx := rd_bd hx
  have hd := rd_bd hd
  apply oublietteref16_Opened.calls; unfold oublietteref16_Opened.b
  obtain ⟨a0, cx0, e00, _, hnl⟩ := hx.form
  refine oublietteref16_Opened.loop1 (fun x5 x6 w' => ∃ i : Nat, i ≤ ns.length ∧ x6 = .int .i64 ((i + 1 : Nat) : Int) ∧ Ext w w' ∧ G.Own (.int .i64) NoB w.heap.size w' x5 (opN ns (bit d) i)) (fun _ x6 _ => ns.length + 1 - (iv x6).toNat)
    ⟨0, by omega, rfl, Fr.refl _ _, G.Own.nil⟩ ?_
  rintro x5 x6 gg w3 ⟨i, hi, rfl, h3, o3⟩
  unfold oublietteref16_Opened.b1
  rw [e00]
  have e0 : IntKind.i64.wrap (((i + 1 : Nat) : Int) + 1) = ((i + 1 + 1 : Nat) : Int) := by rw [wrap64 (by omega) (by omega)]; omega
  by_cases ci : ((i + 1 : Nat) : Int) ≤ (ns.length : Int)
  · have hi' : i < ns.length := by omega
    have hin : InI ((i + 1 : Nat) : Int) := ⟨by omega, by omega⟩
    have z3 := h3.size
    have hth : thereN ns ((i + 1 : Nat) : Int) = true := thereN_iff.2 ⟨by omega, by omega⟩
    obtain ⟨i', hi2, ei, ek, ep⟩ := thereAt hth
    obtain rfl : i' = i := by omega
    have keep : ∀ w', Ext w3 w' → opF ns (bit d) i' = false → ∃ i : Nat, i ≤ ns.length ∧ Value.int .i64 ((i' + 1 + 1 : Nat) : Int) = .int .i64 ((i + 1 : Nat) : Int) ∧ Ext w w' ∧ G.Own (.int .i64) NoB w.heap.size w' x5 (opN ns (bit d) i) := fun w' hw hno =>
      ⟨i' + 1, by omega, rfl, h3.tr hw, by rw [opN_no hno]; exact o3.ext hw⟩
    simp only [↓eBinI, ↓eDiv, ↓eShift, ↓eBinS, ↓ePick, ↓eNot, ↓eNeg, ↓eConv, ↓eConvS, ↓eExt0, ↓eExt1, ↓eExt2, ↓eFA, ↓eIA, ↓eLenSl, ↓eCapSl, ↓eLenS, ↓eMin, ↓eMax, ↓eCondT, ↓eCondF, ↓gIf_tt, ↓gIf_ff, ↓gIf_tf, ↓gIf_ft, ↓gIf_u, ↓gIfW_u, ↓gIfW_tt, ↓gIfW_ff, ↓gIfW_tf, ↓gIfW_ft, binI, divI, shiftI, add_mk, Nat.zero_add, cond_true, cond_false, decide_true, decide_false, Bool.not_true, Bool.not_false, Bool.and_true, Bool.true_and, Bool.and_false, Bool.false_and, Int.toNat_natCast, Nat.mul_one, ci]
    rw [← e00]
    refine RKind_c (hx.ext h3) hin ?_
    rw [ek]
    by_cases h5 : ns[i'].1 = 5
    · have en : (ns[i'].1 == 5) = true := by simp [h5]
      obtain ⟨hp5, q1, q2, q3, q4⟩ := parts5 hg hi2 h5
      obtain ⟨ad1, cd1, ed1, qd1⟩ := boolRd (hd.ext h3) (i := i' + 1) (by omega)
      rw [ed1]
      simp only [↓eBinI, ↓eDiv, ↓eShift, ↓eBinS, ↓ePick, ↓eNot, ↓eNeg, ↓eConv, ↓eConvS, ↓eExt0, ↓eExt1, ↓eExt2, ↓eFA, ↓eIA, ↓eLenSl, ↓eCapSl, ↓eLenS, ↓eMin, ↓eMax, ↓eCondT, ↓eCondF, ↓gIf_tt, ↓gIf_ff, ↓gIf_tf, ↓gIf_ft, ↓gIf_u, ↓gIfW_u, ↓gIfW_tt, ↓gIfW_ff, ↓gIfW_tf, ↓gIfW_ft, binI, divI, shiftI, add_mk, Nat.zero_add, cond_true, cond_false, decide_true, decide_false, Bool.not_true, Bool.not_false, Bool.and_true, Bool.true_and, Bool.and_false, Bool.false_and, Int.toNat_natCast, Nat.mul_one, en]
      refine ⟨by omega, by first | trivial | omega, ?_⟩
      simp only [↓eLdW, Int.toNat_natCast, Nat.mul_one, qd1, Option.some.injEq, exists_eq_left']
      cases hb : bit d ((i' + 1 : Nat) : Int) with
      | false =>
        simp only [↓eBinI, ↓eDiv, ↓eShift, ↓eBinS, ↓ePick, ↓eNot, ↓eNeg, ↓eConv, ↓eConvS, ↓eExt0, ↓eExt1, ↓eExt2, ↓eFA, ↓eIA, ↓eLenSl, ↓eCapSl, ↓eLenS, ↓eMin, ↓eMax, ↓eCondT, ↓eCondF, ↓gIf_tt, ↓gIf_ff, ↓gIf_tf, ↓gIf_ft, ↓gIf_u, ↓gIfW_u, ↓gIfW_tt, ↓gIfW_ff, ↓gIfW_tf, ↓gIfW_ft, binI, divI, shiftI, add_mk, Nat.zero_add, cond_true, cond_false, decide_true, decide_false, Bool.not_true, Bool.not_false, Bool.and_true, Bool.true_and, Bool.and_false, Bool.false_and, Int.toNat_natCast, Nat.mul_one]
        unfold oublietteref16_Opened.j1
        simp only [↓eBinI, ↓eDiv, ↓eShift, ↓eBinS, ↓ePick, ↓eNot, ↓eNeg, ↓eConv, ↓eConvS, ↓eExt0, ↓eExt1, ↓eExt2, ↓eFA, ↓eIA, ↓eLenSl, ↓eCapSl, ↓eLenS, ↓eMin, ↓eMax, ↓eCondT, ↓eCondF, ↓gIf_tt, ↓gIf_ff, ↓gIf_tf, ↓gIf_ft, ↓gIf_u, ↓gIfW_u, ↓gIfW_tt, ↓gIfW_ff, ↓gIfW_tf, ↓gIfW_ft, binI, divI, shiftI, add_mk, Nat.zero_add, cond_true, cond_false, decide_true, decide_false, Bool.not_true, Bool.not_false, Bool.and_true, Bool.true_and, Bool.and_false, Bool.false_and, Int.toNat_natCast, Nat.mul_one, e0]
        rw [← ed1]
        refine oublietteref16_Opened.leaf1 (keep w3 (Fr.refl _ _) ?_) (by simp only [iv]; omega)
        rw [opF_at hi2, show (i' : Int) + 1 = ((i' + 1 : Nat) : Int) by omega, hb]; simp
      | true =>
        simp only [↓eBinI, ↓eDiv, ↓eShift, ↓eBinS, ↓ePick, ↓eNot, ↓eNeg, ↓eConv, ↓eConvS, ↓eExt0, ↓eExt1, ↓eExt2, ↓eFA, ↓eIA, ↓eLenSl, ↓eCapSl, ↓eLenS, ↓eMin, ↓eMax, ↓eCondT, ↓eCondF, ↓gIf_tt, ↓gIf_ff, ↓gIf_tf, ↓gIf_ft, ↓gIf_u, ↓gIfW_u, ↓gIfW_tt, ↓gIfW_ff, ↓gIfW_tf, ↓gIfW_ft, binI, divI, shiftI, add_mk, Nat.zero_add, cond_true, cond_false, decide_true, decide_false, Bool.not_true, Bool.not_false, Bool.and_true, Bool.true_and, Bool.and_false, Bool.false_and, Int.toNat_natCast, Nat.mul_one]
        refine RParts_c (hx.ext h3) hg hin fun vp' w5 h35 rp => ?_
        rw [ep, hp5] at rp
        obtain ⟨adx, cx, u0, eup, sx, _, r0, t0⟩ := rp.idx rfl (i := 0) (by simp)
        have v0 := t0.1
        simp only [List.getElem_cons_zero, List.cons.injEq, and_true] at v0
        subst v0
        have eup : vp' = .slice (some adx) 2 cx := eup
        obtain ⟨pa, hpa⟩ : ∃ pa : Nat, ns[i'].2.1 = (pa : Int) := ⟨ns[i'].2.1.toNat, by omega⟩
        obtain ⟨ad2, cd2, ed2, qd2⟩ := boolRd (hd.ext (h3.tr h35)) (i := pa) (by omega)
        rw [ed1] at ed2
        simp only [Value.slice.injEq, Option.some.injEq, true_and] at ed2
        obtain ⟨rfl, rfl⟩ := ed2
        rw [eup]
        simp only [↓eBinI, ↓eDiv, ↓eShift, ↓eBinS, ↓ePick, ↓eNot, ↓eNeg, ↓eConv, ↓eConvS, ↓eExt0, ↓eExt1, ↓eExt2, ↓eFA, ↓eIA, ↓eLenSl, ↓eCapSl, ↓eLenS, ↓eMin, ↓eMax, ↓eCondT, ↓eCondF, ↓gIf_tt, ↓gIf_ff, ↓gIf_tf, ↓gIf_ft, ↓gIf_u, ↓gIfW_u, ↓gIfW_tt, ↓gIfW_ff, ↓gIfW_tf, ↓gIfW_ft, binI, divI, shiftI, add_mk, Nat.zero_add, cond_true, cond_false, decide_true, decide_false, Bool.not_true, Bool.not_false, Bool.and_true, Bool.true_and, Bool.and_false, Bool.false_and, Int.toNat_natCast, Nat.mul_one]
        refine ⟨by omega, by first | trivial | omega, ?_⟩
        simp only [↓eLdW, Int.toNat_zero, Nat.mul_one, Nat.zero_mul, r0, Option.some.injEq, exists_eq_left']
        rw [hpa]
        try simp only [↓eBinI, ↓eDiv, ↓eShift, ↓eBinS, ↓ePick, ↓eNot, ↓eNeg, ↓eConv, ↓eConvS, ↓eExt0, ↓eExt1, ↓eExt2, ↓eFA, ↓eIA, ↓eLenSl, ↓eCapSl, ↓eLenS, ↓eMin, ↓eMax, ↓eCondT, ↓eCondF, ↓gIf_tt, ↓gIf_ff, ↓gIf_tf, ↓gIf_ft, ↓gIf_u, ↓gIfW_u, ↓gIfW_tt, ↓gIfW_ff, ↓gIfW_tf, ↓gIfW_ft, binI, divI, shiftI, add_mk, Nat.zero_add, cond_true, cond_false, decide_true, decide_false, Bool.not_true, Bool.not_false, Bool.and_true, Bool.true_and, Bool.and_false, Bool.false_and, Int.toNat_natCast, Nat.mul_one]
        refine ⟨by omega, by first | trivial | omega, ?_⟩
        simp only [↓eLdW, Int.toNat_natCast, Nat.mul_one, qd2, Option.some.injEq, exists_eq_left']
        have hop : opF ns (bit d) i' = bit d (pa : Int) := by
          rw [opF_at hi2, h5, hpa, show (i' : Int) + 1 = ((i' + 1 : Nat) : Int) by omega, hb]; simp
        have z5 := h35.size
        cases hb2 : bit d (pa : Int) with
        | false =>
          simp only [↓eBinI, ↓eDiv, ↓eShift, ↓eBinS, ↓ePick, ↓eNot, ↓eNeg, ↓eConv, ↓eConvS, ↓eExt0, ↓eExt1, ↓eExt2, ↓eFA, ↓eIA, ↓eLenSl, ↓eCapSl, ↓eLenS, ↓eMin, ↓eMax, ↓eCondT, ↓eCondF, ↓gIf_tt, ↓gIf_ff, ↓gIf_tf, ↓gIf_ft, ↓gIf_u, ↓gIfW_u, ↓gIfW_tt, ↓gIfW_ff, ↓gIfW_tf, ↓gIfW_ft, binI, divI, shiftI, add_mk, Nat.zero_add, cond_true, cond_false, decide_true, decide_false, Bool.not_true, Bool.not_false, Bool.and_true, Bool.true_and, Bool.and_false, Bool.false_and, Int.toNat_natCast, Nat.mul_one]
          unfold oublietteref16_Opened.j1
          simp only [↓eBinI, ↓eDiv, ↓eShift, ↓eBinS, ↓ePick, ↓eNot, ↓eNeg, ↓eConv, ↓eConvS, ↓eExt0, ↓eExt1, ↓eExt2, ↓eFA, ↓eIA, ↓eLenSl, ↓eCapSl, ↓eLenS, ↓eMin, ↓eMax, ↓eCondT, ↓eCondF, ↓gIf_tt, ↓gIf_ff, ↓gIf_tf, ↓gIf_ft, ↓gIf_u, ↓gIfW_u, ↓gIfW_tt, ↓gIfW_ff, ↓gIfW_tf, ↓gIfW_ft, binI, divI, shiftI, add_mk, Nat.zero_add, cond_true, cond_false, decide_true, decide_false, Bool.not_true, Bool.not_false, Bool.and_true, Bool.true_and, Bool.and_false, Bool.false_and, Int.toNat_natCast, Nat.mul_one, e0]
          rw [← ed1]
          exact oublietteref16_Opened.leaf1 (keep w5 h35 (by rw [hop, hb2])) (by simp only [iv]; omega)
        | true =>
          simp only [↓eBinI, ↓eDiv, ↓eShift, ↓eBinS, ↓ePick, ↓eNot, ↓eNeg, ↓eConv, ↓eConvS, ↓eExt0, ↓eExt1, ↓eExt2, ↓eFA, ↓eIA, ↓eLenSl, ↓eCapSl, ↓eLenS, ↓eMin, ↓eMax, ↓eCondT, ↓eCondF, ↓gIf_tt, ↓gIf_ff, ↓gIf_tf, ↓gIf_ft, ↓gIf_u, ↓gIfW_u, ↓gIfW_tt, ↓gIfW_ff, ↓gIfW_tf, ↓gIfW_ft, binI, divI, shiftI, add_mk, Nat.zero_add, cond_true, cond_false, decide_true, decide_false, Bool.not_true, Bool.not_false, Bool.and_true, Bool.true_and, Bool.and_false, Bool.false_and, Int.toNat_natCast, Nat.mul_one]
          refine bslice1 rfl fun g6 w6 hg6 h6 c6 => ?_
          have z6 := h6.size
          have hl := opN_len (ns := ns) (bit d) i'
          have hri : Rd (.int .i64) NoB w6 [Value.int .i64 ((i' + 1 : Nat) : Int)] ((i' + 1 : Nat) : Int) := rdI hin
          refine (o3.ext (h35.tr h6)).push1 c6 (x := ((i' + 1 : Nat) : Int)) hri (by omega) (fun h => h) rfl (by show (2 * ((opN ns (bit d) i').length + 1) + 192) * 8 ≤ _; omega) fun v w7 hv hf hbv => ?_
          unfold oublietteref16_Opened.j1
          simp only [↓eBinI, ↓eDiv, ↓eShift, ↓eBinS, ↓ePick, ↓eNot, ↓eNeg, ↓eConv, ↓eConvS, ↓eExt0, ↓eExt1, ↓eExt2, ↓eFA, ↓eIA, ↓eLenSl, ↓eCapSl, ↓eLenS, ↓eMin, ↓eMax, ↓eCondT, ↓eCondF, ↓gIf_tt, ↓gIf_ff, ↓gIf_tf, ↓gIf_ft, ↓gIf_u, ↓gIfW_u, ↓gIfW_tt, ↓gIfW_ff, ↓gIfW_tf, ↓gIfW_ft, binI, divI, shiftI, add_mk, Nat.zero_add, cond_true, cond_false, decide_true, decide_false, Bool.not_true, Bool.not_false, Bool.and_true, Bool.true_and, Bool.and_false, Bool.false_and, Int.toNat_natCast, Nat.mul_one, e0]
          rw [← ed1]
          refine oublietteref16_Opened.leaf1 ⟨i' + 1, by omega, rfl, (h3.tr (h35.tr h6)).tn hf (fun x hx => hx.2), ?_⟩ (by simp only [iv]; omega)
          rw [opN_yes (by rw [hop, hb2])]
          exact hv
    · have en : (ns[i'].1 == 5) = false := by simpa using h5
      simp only [↓eBinI, ↓eDiv, ↓eShift, ↓eBinS, ↓ePick, ↓eNot, ↓eNeg, ↓eConv, ↓eConvS, ↓eExt0, ↓eExt1, ↓eExt2, ↓eFA, ↓eIA, ↓eLenSl, ↓eCapSl, ↓eLenS, ↓eMin, ↓eMax, ↓eCondT, ↓eCondF, ↓gIf_tt, ↓gIf_ff, ↓gIf_tf, ↓gIf_ft, ↓gIf_u, ↓gIfW_u, ↓gIfW_tt, ↓gIfW_ff, ↓gIfW_tf, ↓gIfW_ft, binI, divI, shiftI, add_mk, Nat.zero_add, cond_true, cond_false, decide_true, decide_false, Bool.not_true, Bool.not_false, Bool.and_true, Bool.true_and, Bool.and_false, Bool.false_and, Int.toNat_natCast, Nat.mul_one, en]
      unfold oublietteref16_Opened.j1
      simp only [↓eBinI, ↓eDiv, ↓eShift, ↓eBinS, ↓ePick, ↓eNot, ↓eNeg, ↓eConv, ↓eConvS, ↓eExt0, ↓eExt1, ↓eExt2, ↓eFA, ↓eIA, ↓eLenSl, ↓eCapSl, ↓eLenS, ↓eMin, ↓eMax, ↓eCondT, ↓eCondF, ↓gIf_tt, ↓gIf_ff, ↓gIf_tf, ↓gIf_ft, ↓gIf_u, ↓gIfW_u, ↓gIfW_tt, ↓gIfW_ff, ↓gIfW_tf, ↓gIfW_ft, binI, divI, shiftI, add_mk, Nat.zero_add, cond_true, cond_false, decide_true, decide_false, Bool.not_true, Bool.not_false, Bool.and_true, Bool.true_and, Bool.and_false, Bool.false_and, Int.toNat_natCast, Nat.mul_one, e0]
      refine oublietteref16_Opened.leaf1 (keep w3 (Fr.refl _ _) ?_) (by simp only [iv]; omega)
      rw [opF_at hi2, en]; rfl
  · have hi' : i = ns.length := by omega
    subst hi'
    have hl := opN_len (ns := ns) (bit d) ns.length
    simp only [↓eBinI, ↓eDiv, ↓eShift, ↓eBinS, ↓ePick, ↓eNot, ↓eNeg, ↓eConv, ↓eConvS, ↓eExt0, ↓eExt1, ↓eExt2, ↓eFA, ↓eIA, ↓eLenSl, ↓eCapSl, ↓eLenS, ↓eMin, ↓eMax, ↓eCondT, ↓eCondF, ↓gIf_tt, ↓gIf_ff, ↓gIf_tf, ↓gIf_ft, ↓gIf_u, ↓gIfW_u, ↓gIfW_tt, ↓gIfW_ff, ↓gIfW_tf, ↓gIfW_ft, binI, divI, shiftI, add_mk, Nat.zero_add, cond_true, cond_false, decide_true, decide_false, Bool.not_true, Bool.not_false, Bool.and_true, Bool.true_and, Bool.and_false, Bool.false_and, Int.toNat_natCast, Nat.mul_one, ci]
    exact h x5 w3 h3 (o3.rd (fun _ h => h.elim) (fun b hb => hb) (by show (opN ns (bit d) ns.length).length < _; omega))
end Go.Proofs.Ytkpgmaiklfjjgaa
end
section
set_option linter.unusedSimpArgs false
set_option linter.unusedVariables false
set_option maxRecDepth 100000
namespace Go.Proofs.Ytkpgmaiklfjjgaa
open Go Go.G
variable {X : KX} {w : World} {K : KV} {D D' : Nat → Prop} {ns : List Node} {x0 x1 : Value} {gT gK gL gS : Nat} {F FK : Nat → Prop} {ml : List (Int × Value)}
theorem Ints_c {D D' : Nat → Prop} {x y : Value} {xs ys : List Int} (hx : Rd (.slice (.int .i64)) D w [x] xs) (hy : Rd (.slice (.int .i64)) D' w [y] ys) (h : ∀ w', Ext w w' → K (.bool (decide (xs = ys))) w') : GCalls Try.prog 14 [x, y] K X w := by
  obtain ⟨a1, c1, rfl, hc1, hl1⟩ := hx.form
  obtain ⟨a2, c2, rfl, hc2, hl2⟩ := hy.form
  apply oublietteref01_Ints.calls; unfold oublietteref01_Ints.b
  simp only [↓eBinI, ↓eDiv, ↓eShift, ↓eBinS, ↓ePick, ↓eNot, ↓eNeg, ↓eConv, ↓eConvS, ↓eExt0, ↓eExt1, ↓eExt2, ↓eFA, ↓eIA, ↓eLenSl, ↓eCapSl, ↓eLenS, ↓eMin, ↓eMax, ↓eCondT, ↓eCondF, ↓gIf_tt, ↓gIf_ff, ↓gIf_tf, ↓gIf_ft, ↓gIf_u, ↓gIfW_u, ↓gIfW_tt, ↓gIfW_ff, ↓gIfW_tf, ↓gIfW_ft, binI, divI, shiftI, add_mk, Nat.zero_add, cond_true, cond_false, decide_true, decide_false, Bool.not_true, Bool.not_false, Bool.and_true, Bool.true_and, Bool.and_false, Bool.false_and, Int.toNat_natCast, Nat.mul_one]
  by_cases c : xs.length = ys.length
  · have e : (((xs.length : Nat) : Int) != ((ys.length : Nat) : Int)) = false := by rw [bne_eq_false_iff_eq]; omega
    simp only [↓eBinI, ↓eDiv, ↓eShift, ↓eBinS, ↓ePick, ↓eNot, ↓eNeg, ↓eConv, ↓eConvS, ↓eExt0, ↓eExt1, ↓eExt2, ↓eFA, ↓eIA, ↓eLenSl, ↓eCapSl, ↓eLenS, ↓eMin, ↓eMax, ↓eCondT, ↓eCondF, ↓gIf_tt, ↓gIf_ff, ↓gIf_tf, ↓gIf_ft, ↓gIf_u, ↓gIfW_u, ↓gIfW_tt, ↓gIfW_ff, ↓gIfW_tf, ↓gIfW_ft, binI, divI, shiftI, add_mk, Nat.zero_add, cond_true, cond_false, decide_true, decide_false, Bool.not_true, Bool.not_false, Bool.and_true, Bool.true_and, Bool.and_false, Bool.false_and, Int.toNat_natCast, Nat.mul_one, e]
    refine oublietteref01_Ints.loop1 (fun x5 w' => ∃ i : Nat, i ≤ xs.length ∧ x5 = .int .i64 i ∧ xs.take i = ys.take i ∧ Ext w w') (fun x5 _ => xs.length - (iv x5).toNat) ⟨0, by omega, rfl, rfl, Fr.refl _ _⟩ ?_
    rintro x5 gg w1 ⟨i, hi, rfl, ht, h1⟩
    unfold oublietteref01_Ints.b1
    simp only [↓eBinI, ↓eDiv, ↓eShift, ↓eBinS, ↓ePick, ↓eNot, ↓eNeg, ↓eConv, ↓eConvS, ↓eExt0, ↓eExt1, ↓eExt2, ↓eFA, ↓eIA, ↓eLenSl, ↓eCapSl, ↓eLenS, ↓eMin, ↓eMax, ↓eCondT, ↓eCondF, ↓gIf_tt, ↓gIf_ff, ↓gIf_tf, ↓gIf_ft, ↓gIf_u, ↓gIfW_u, ↓gIfW_tt, ↓gIfW_ff, ↓gIfW_tf, ↓gIfW_ft, binI, divI, shiftI, add_mk, Nat.zero_add, cond_true, cond_false, decide_true, decide_false, Bool.not_true, Bool.not_false, Bool.and_true, Bool.true_and, Bool.and_false, Bool.false_and, Int.toNat_natCast, Nat.mul_one]
    by_cases ci : (i : Int) < (xs.length : Int)
    · simp only [↓eBinI, ↓eDiv, ↓eShift, ↓eBinS, ↓ePick, ↓eNot, ↓eNeg, ↓eConv, ↓eConvS, ↓eExt0, ↓eExt1, ↓eExt2, ↓eFA, ↓eIA, ↓eLenSl, ↓eCapSl, ↓eLenS, ↓eMin, ↓eMax, ↓eCondT, ↓eCondF, ↓gIf_tt, ↓gIf_ff, ↓gIf_tf, ↓gIf_ft, ↓gIf_u, ↓gIfW_u, ↓gIfW_tt, ↓gIfW_ff, ↓gIfW_tf, ↓gIfW_ft, binI, divI, shiftI, add_mk, Nat.zero_add, cond_true, cond_false, decide_true, decide_false, Bool.not_true, Bool.not_false, Bool.and_true, Bool.true_and, Bool.and_false, Bool.false_and, Int.toNat_natCast, Nat.mul_one, ci]
      refine draw_ fun w2 h2 => ?_
      have hx2 := (hx.ext h1).ext h2
      have hy2 := (hy.ext h1).ext h2
      obtain ⟨b1, k1, u1, e1, s1, -, q1, r1⟩ := hx2.idx rfl (i := i) (by omega)
      obtain ⟨b2, k2, u2, e2, s2, -, q2, r2⟩ := hy2.idx rfl (i := i) (by omega)
      simp only [Value.slice.injEq] at e1 e2
      obtain ⟨rfl, -, rfl⟩ := e1
      obtain ⟨rfl, -, rfl⟩ := e2
      have v1 := r1.1; have v2 := r2.1
      simp only [List.cons.injEq, and_true] at v1 v2
      subst v1; subst v2
      simp only [↓eBinI, ↓eDiv, ↓eShift, ↓eBinS, ↓ePick, ↓eNot, ↓eNeg, ↓eConv, ↓eConvS, ↓eExt0, ↓eExt1, ↓eExt2, ↓eFA, ↓eIA, ↓eLenSl, ↓eCapSl, ↓eLenS, ↓eMin, ↓eMax, ↓eCondT, ↓eCondF, ↓gIf_tt, ↓gIf_ff, ↓gIf_tf, ↓gIf_ft, ↓gIf_u, ↓gIfW_u, ↓gIfW_tt, ↓gIfW_ff, ↓gIfW_tf, ↓gIfW_ft, binI, divI, shiftI, add_mk, Nat.zero_add, cond_true, cond_false, decide_true, decide_false, Bool.not_true, Bool.not_false, Bool.and_true, Bool.true_and, Bool.and_false, Bool.false_and, Int.toNat_natCast, Nat.mul_one, ↓eLdE q1, ↓eLdE q2]
      refine ⟨by omega, by omega, by omega, by omega, ?_⟩
      by_cases cx : xs[i] = ys[i]
      · have e : (xs[i] != ys[i]) = false := by simpa using cx
        simp only [↓eBinI, ↓eDiv, ↓eShift, ↓eBinS, ↓ePick, ↓eNot, ↓eNeg, ↓eConv, ↓eConvS, ↓eExt0, ↓eExt1, ↓eExt2, ↓eFA, ↓eIA, ↓eLenSl, ↓eCapSl, ↓eLenS, ↓eMin, ↓eMax, ↓eCondT, ↓eCondF, ↓gIf_tt, ↓gIf_ff, ↓gIf_tf, ↓gIf_ft, ↓gIf_u, ↓gIfW_u, ↓gIfW_tt, ↓gIfW_ff, ↓gIfW_tf, ↓gIfW_ft, binI, divI, shiftI, add_mk, Nat.zero_add, cond_true, cond_false, decide_true, decide_false, Bool.not_true, Bool.not_false, Bool.and_true, Bool.true_and, Bool.and_false, Bool.false_and, Int.toNat_natCast, Nat.mul_one, e]
        rw [wrap64 (by omega) (by omega)]
        refine oublietteref01_Ints.leaf1 ⟨i + 1, by omega, by simp, ?_, h1.tr h2⟩ (by simp only [iv]; omega)
        rw [List.take_succ_eq_append_getElem (by omega), List.take_succ_eq_append_getElem (by omega), ht, cx]
      · have e : (xs[i] != ys[i]) = true := by simpa using cx
        simp only [↓eBinI, ↓eDiv, ↓eShift, ↓eBinS, ↓ePick, ↓eNot, ↓eNeg, ↓eConv, ↓eConvS, ↓eExt0, ↓eExt1, ↓eExt2, ↓eFA, ↓eIA, ↓eLenSl, ↓eCapSl, ↓eLenS, ↓eMin, ↓eMax, ↓eCondT, ↓eCondF, ↓gIf_tt, ↓gIf_ff, ↓gIf_tf, ↓gIf_ft, ↓gIf_u, ↓gIfW_u, ↓gIfW_tt, ↓gIfW_ff, ↓gIfW_tf, ↓gIfW_ft, binI, divI, shiftI, add_mk, Nat.zero_add, cond_true, cond_false, decide_true, decide_false, Bool.not_true, Bool.not_false, Bool.and_true, Bool.true_and, Bool.and_false, Bool.false_and, Int.toNat_natCast, Nat.mul_one, e]
        have hk := h w2 (h1.tr h2)
        rw [decide_eq_false (fun e => cx (by subst e; rfl))] at hk
        exact hk
    · simp only [↓eBinI, ↓eDiv, ↓eShift, ↓eBinS, ↓ePick, ↓eNot, ↓eNeg, ↓eConv, ↓eConvS, ↓eExt0, ↓eExt1, ↓eExt2, ↓eFA, ↓eIA, ↓eLenSl, ↓eCapSl, ↓eLenS, ↓eMin, ↓eMax, ↓eCondT, ↓eCondF, ↓gIf_tt, ↓gIf_ff, ↓gIf_tf, ↓gIf_ft, ↓gIf_u, ↓gIfW_u, ↓gIfW_tt, ↓gIfW_ff, ↓gIfW_tf, ↓gIfW_ft, binI, divI, shiftI, add_mk, Nat.zero_add, cond_true, cond_false, decide_true, decide_false, Bool.not_true, Bool.not_false, Bool.and_true, Bool.true_and, Bool.and_false, Bool.false_and, Int.toNat_natCast, Nat.mul_one, ci]
      have hk := h w1 h1
      have : i = xs.length := by omega
      subst this
      rw [decide_eq_true (by rw [List.take_length] at ht; rw [ht, c, List.take_length])] at hk
      exact hk
  · have e : (((xs.length : Nat) : Int) != ((ys.length : Nat) : Int)) = true := by rw [bne_iff_ne]; omega
    simp only [↓eBinI, ↓eDiv, ↓eShift, ↓eBinS, ↓ePick, ↓eNot, ↓eNeg, ↓eConv, ↓eConvS, ↓eExt0, ↓eExt1, ↓eExt2, ↓eFA, ↓eIA, ↓eLenSl, ↓eCapSl, ↓eLenS, ↓eMin, ↓eMax, ↓eCondT, ↓eCondF, ↓gIf_tt, ↓gIf_ff, ↓gIf_tf, ↓gIf_ft, ↓gIf_u, ↓gIfW_u, ↓gIfW_tt, ↓gIfW_ff, ↓gIfW_tf, ↓gIfW_ft, binI, divI, shiftI, add_mk, Nat.zero_add, cond_true, cond_false, decide_true, decide_false, Bool.not_true, Bool.not_false, Bool.and_true, Bool.true_and, Bool.and_false, Bool.false_and, Int.toNat_natCast, Nat.mul_one, e]
    have hk := h w (Fr.refl _ _)
    rw [decide_eq_false (fun e => c (by rw [e]))] at hk
    exact hk
abbrev nsA : List Node := [(1, 0, 0, [], 0), (1, 0, 0, [], 1), (5, 1, 2, [], 0)]
theorem alive_shut {e : Int → Bool} (h : Least nsA (inL (learnN nsA [] [3])) e) : e 2 = false := by
  cases he : e 2 with
  | false => rfl
  | true =>
    have := h.2.2 (fun i => i == 3) (fun i hi => ⟨fun hw => ?_, fun j hj => ?_⟩) (fun i i1 i2 hs => ?_) 2 (by omega) (by simp) he
    · simp at this
    · simp only [List.length_cons, List.length_nil] at hi
      match i, hi with
      | 0, _ => exact absurd hw (by decide)
      | 1, _ => exact absurd hw (by decide)
      | 2, _ => rfl
    · simp only [List.length_cons, List.length_nil] at hi
      match i, hi with
      | 0, _ => simp [openB] at hj
      | 1, _ => simp [openB] at hj
      | 2, _ => simp [openB] at hj
    · rw [inL_learn] at hs
      simp only [inL, List.map_nil, List.not_mem_nil, decide_false, Bool.false_or, Bool.and_eq_true, decide_eq_true_eq, List.mem_singleton] at hs
      rw [hs.2]; rfl
theorem alive_open {e : Int → Bool} (h : Least nsA (inL (learnN nsA (learnN nsA [] [3]) [1])) e) : e 2 = true := by
  have h3 : e 3 = true := h.2.1 3 (by omega) (by simp) (by rw [inL_learn, inL_learn]; decide)
  have h1 : e 1 = true := h.2.1 1 (by omega) (by simp) (by rw [inL_learn, inL_learn]; decide)
  refine (h.1 2 (by simp)).2 2 ?_
  simp [openB, h3, h1]
set_option maxHeartbeats 2000000 in
theorem alive16_c (h : ∀ w', Ext w w' → K (.bool true) w') : GCalls Try.prog 7 [] K X w := by
  apply oubliettelaw16_alive.calls; unfold oubliettelaw16_alive.b
  refine TNew_c fun gT F0 w1 h1 hF0 t1 => ?_
  have z1 := h1.size
  try simp only [↓eBinI, ↓eDiv, ↓eShift, ↓eBinS, ↓ePick, ↓eNot, ↓eNeg, ↓eConv, ↓eConvS, ↓eExt0, ↓eExt1, ↓eExt2, ↓eFA, ↓eIA, ↓eLenSl, ↓eCapSl, ↓eLenS, ↓eMin, ↓eMax, ↓eCondT, ↓eCondF, ↓gIf_tt, ↓gIf_ff, ↓gIf_tf, ↓gIf_ft, ↓gIf_u, ↓gIfW_u, ↓gIfW_tt, ↓gIfW_ff, ↓gIfW_tf, ↓gIfW_ft, binI, divI, shiftI, add_mk, Nat.zero_add, cond_true, cond_false, decide_true, decide_false, Bool.not_true, Bool.not_false, Bool.and_true, Bool.true_and, Bool.and_false, Bool.false_and, Int.toNat_natCast, Nat.mul_one]
  refine TAtom_c t1 (by simp) fun w2 F1 f2 hF1 t2 => ?_
  have z2 := f2.size
  try simp only [↓eBinI, ↓eDiv, ↓eShift, ↓eBinS, ↓ePick, ↓eNot, ↓eNeg, ↓eConv, ↓eConvS, ↓eExt0, ↓eExt1, ↓eExt2, ↓eFA, ↓eIA, ↓eLenSl, ↓eCapSl, ↓eLenS, ↓eMin, ↓eMax, ↓eCondT, ↓eCondF, ↓gIf_tt, ↓gIf_ff, ↓gIf_tf, ↓gIf_ft, ↓gIf_u, ↓gIfW_u, ↓gIfW_tt, ↓gIfW_ff, ↓gIfW_tf, ↓gIfW_ft, binI, divI, shiftI, add_mk, Nat.zero_add, cond_true, cond_false, decide_true, decide_false, Bool.not_true, Bool.not_false, Bool.and_true, Bool.true_and, Bool.and_false, Bool.false_and, Int.toNat_natCast, Nat.mul_one]
  refine TAtom_c t2 (by simp) fun w3 F2 f3 hF2 t3 => ?_
  have z3 := f3.size
  try simp only [↓eBinI, ↓eDiv, ↓eShift, ↓eBinS, ↓ePick, ↓eNot, ↓eNeg, ↓eConv, ↓eConvS, ↓eExt0, ↓eExt1, ↓eExt2, ↓eFA, ↓eIA, ↓eLenSl, ↓eCapSl, ↓eLenS, ↓eMin, ↓eMax, ↓eCondT, ↓eCondF, ↓gIf_tt, ↓gIf_ff, ↓gIf_tf, ↓gIf_ft, ↓gIf_u, ↓gIfW_u, ↓gIfW_tt, ↓gIfW_ff, ↓gIfW_tf, ↓gIfW_ft, binI, divI, shiftI, add_mk, Nat.zero_add, cond_true, cond_false, decide_true, decide_false, Bool.not_true, Bool.not_false, Bool.and_true, Bool.true_and, Bool.and_false, Bool.false_and, Int.toNat_natCast, Nat.mul_one]
  refine TEnc_c t3 ⟨by simp, by simp⟩ ⟨by simp, by simp⟩ (by simp) fun w4 F f4 hF t4 => ?_
  have z4 := f4.size
  have e4 : putN (([] ++ [atomOf []]) ++ [atomOf ([] ++ [atomOf []])]) (5, ((([] : List Node).length : Int) + 1), ((([] ++ [atomOf []] : List Node).length : Int) + 1), [], 0) = nsA := by decide
  have e5 : putId (([] ++ [atomOf []]) ++ [atomOf ([] ++ [atomOf []])]) (5, ((([] : List Node).length : Int) + 1), ((([] ++ [atomOf []] : List Node).length : Int) + 1), [], 0) = 3 := by decide
  rw [e4] at t4
  rw [e5]
  have g1 : ∀ b, F1 b → w.heap.size ≤ b := fun b hb => (hF1 b hb).elim (hF0 b) (fun h => by omega)
  have g2 : ∀ b, F2 b → w.heap.size ≤ b := fun b hb => (hF2 b hb).elim (g1 b) (fun h => by omega)
  have x4 : Ext w w4 := ((h1.tn f2 hF0).tn f3 g1).tn f4 g2
  try simp only [↓eBinI, ↓eDiv, ↓eShift, ↓eBinS, ↓ePick, ↓eNot, ↓eNeg, ↓eConv, ↓eConvS, ↓eExt0, ↓eExt1, ↓eExt2, ↓eFA, ↓eIA, ↓eLenSl, ↓eCapSl, ↓eLenS, ↓eMin, ↓eMax, ↓eCondT, ↓eCondF, ↓gIf_tt, ↓gIf_ff, ↓gIf_tf, ↓gIf_ft, ↓gIf_u, ↓gIfW_u, ↓gIfW_tt, ↓gIfW_ff, ↓gIfW_tf, ↓gIfW_ft, binI, divI, shiftI, add_mk, Nat.zero_add, cond_true, cond_false, decide_true, decide_false, Bool.not_true, Bool.not_false, Bool.and_true, Bool.true_and, Bool.and_false, Bool.false_and, Int.toNat_natCast, Nat.mul_one]
  refine KNew_c (ns := nsA) fun gK gL FK w5 h5 hFK k5 => ?_
  have hFl := t4.fp
  have z5 := h5.size
  have d5 : ∀ b, FK b → ¬ F b := fun b hb hf => by have := hFK b hb; have := hFl b hf; omega
  have t5 := t4.ext h5
  refine bslice1 rfl fun g6 w6 hg6 h6 c6 => ?_
  have z6 := h6.size
  have hFK5 := k5.fp
  refine Learn_c (k5.ext h6) (t5.ext h6) (ints1 c6 ⟨by omega, by omega⟩) (fun b hb => ⟨d5 b hb, fun e => by have := hFK5 b hb; omega⟩) fun w7 f7 k7 => ?_
  have z7 := f7.size
  have t7 := (t5.ext h6).fr f7 (fun b hb e => d5 b e hb)
  refine Derives_c (id := 2) k7 t7 d5 ⟨by omega, by omega⟩ fun w8 FK8 r8 f8 hF8 k8 _ l8 => ?_
  have z8 := f8.size
  have t8 := t7.fr f8 (fun b hb e => d5 b e hb)
  obtain ⟨is8, le8, er8⟩ := l8 (by decide)
  rw [alive_shut le8] at er8
  subst er8
  have x5 := x4.tr h5
  have x8 : Ext w w8 := ((x5.tr h6).tn f7 (fun b hb => by have := hFK b hb; have := x4.size; omega)).tn f8 (fun b hb => by have := hFK b hb; have := x4.size; omega)
  have d8 : ∀ b, FK8 b → ¬ F b := fun b hb hf => by
    have := hFl b hf
    rcases hF8 b hb with h | h
    · exact d5 b h hf
    · omega
  have g8 : ∀ b, FK8 b → w.heap.size ≤ b := fun b hb => by
    have := x4.size
    rcases hF8 b hb with h | h
    · have := hFK b h; omega
    · omega
  have hFK8 := k8.fp
  refine bslice1 rfl fun g9 w9 hg9 h9 c9 => ?_
  have z9 := h9.size
  refine Learn_c (k8.ext h9) (t8.ext h9) (ints1 c9 ⟨by simp, by simp⟩) (fun b hb => ⟨d8 b hb, fun e => by have := hFK8 b hb; omega⟩) fun w10 f10 k10 => ?_
  have t10 := (t8.ext h9).fr f10 (fun b hb e => d8 b e hb)
  try simp only [↓eBinI, ↓eDiv, ↓eShift, ↓eBinS, ↓ePick, ↓eNot, ↓eNeg, ↓eConv, ↓eConvS, ↓eExt0, ↓eExt1, ↓eExt2, ↓eFA, ↓eIA, ↓eLenSl, ↓eCapSl, ↓eLenS, ↓eMin, ↓eMax, ↓eCondT, ↓eCondF, ↓gIf_tt, ↓gIf_ff, ↓gIf_tf, ↓gIf_ft, ↓gIf_u, ↓gIfW_u, ↓gIfW_tt, ↓gIfW_ff, ↓gIfW_tf, ↓gIfW_ft, binI, divI, shiftI, add_mk, Nat.zero_add, cond_true, cond_false, decide_true, decide_false, Bool.not_true, Bool.not_false, Bool.and_true, Bool.true_and, Bool.and_false, Bool.false_and, Int.toNat_natCast, Nat.mul_one]
  refine Derives_c (id := 2) k10 t10 d8 ⟨by omega, by omega⟩ fun w11 FK11 r11 f11 hF11 k11 _ l11 => ?_
  obtain ⟨is11, le11, er11⟩ := l11 (by decide)
  have hop : bit is11 2 = true := alive_open le11
  rw [hop] at er11
  subst er11
  try simp only [↓eBinI, ↓eDiv, ↓eShift, ↓eBinS, ↓ePick, ↓eNot, ↓eNeg, ↓eConv, ↓eConvS, ↓eExt0, ↓eExt1, ↓eExt2, ↓eFA, ↓eIA, ↓eLenSl, ↓eCapSl, ↓eLenS, ↓eMin, ↓eMax, ↓eCondT, ↓eCondF, ↓gIf_tt, ↓gIf_ff, ↓gIf_tf, ↓gIf_ft, ↓gIf_u, ↓gIfW_u, ↓gIfW_tt, ↓gIfW_ff, ↓gIfW_tf, ↓gIfW_ft, binI, divI, shiftI, add_mk, Nat.zero_add, cond_true, cond_false, decide_true, decide_false, Bool.not_true, Bool.not_false, Bool.and_true, Bool.true_and, Bool.and_false, Bool.false_and, Int.toNat_natCast, Nat.mul_one]
  exact h w11 (((x8.tr h9).tn f10 g8).tn f11 g8)
/-- Two who know alike, apart from one another, in blocks of R. -/
structure Two (R : Nat → Prop) (w : World) (gT : Nat) (ns : List Node) (ml : List (Int × Value)) (gA gA' gB gB' : Nat) (FA FB : Nat → Prop) : Prop where
  a : Know w gA gT gA' FA ns ml
  b : Know w gB gT gB' FB ns ml
  ra : ∀ b, FA b → R b
  rb : ∀ b, FB b → R b
  d : ∀ b, FA b → ¬ FB b
theorem Two.swap {R FA FB : Nat → Prop} {gA gA' gB gB' : Nat} (h : Two R w gT ns ml gA gA' gB gB' FA FB) : Two R w gT ns ml gB gB' gA gA' FB FA := ⟨h.b, h.a, h.rb, h.ra, fun b hb hc => h.d b hc hb⟩
theorem Two.derives {R FA FB : Nat → Prop} {gA gA' gB gB' s : Nat} {id : Int} (h : Two R w gT ns ml gA gA' gB gB' FA FB) (ht : Tab w gT F ns) (hR : ∀ b, R b → ¬ F b) (hs : ∀ b, s ≤ b → R b) (hw : s ≤ w.heap.size) (hid : InI id)
    (k : ∀ w' FA' r, Fr R w w' → Two R w' gT ns ml gA gA' gB gB' FA' FB → (thereN ns id = false → r = false) → (thereN ns id = true → ∃ is, Least ns (inL ml) (bit is) ∧ r = bit is id) → K (.bool r) w') : GCalls Try.prog 13 [.pointer (some ⟨gA, 0, none⟩), .int .i64 id] K X w := by
  refine Derives_c h.a ht (fun b hb => hR b (h.ra b hb)) hid fun w' FK' r f g k' a b => ?_
  have hB := h.b.fp
  refine k w' FK' r (f.mono (fun b _ hb => h.ra b hb)) ⟨k', h.b.fr f (fun b hb e => h.d b e hb), fun b hb => ?_, h.rb, fun b hb hb' => ?_⟩ a b
  · rcases g b hb with h' | h'
    · exact h.ra b h'
    · exact hs b (by omega)
  · rcases g b hb with h' | h'
    · exact h.d b h' hb'
    · have := hB b hb'; omega
theorem Two.ext {R FA FB : Nat → Prop} {gA gA' gB gB' : Nat} {w' : World} (h : Two R w gT ns ml gA gA' gB gB' FA FB) (e : Ext w w') : Two R w' gT ns ml gA gA' gB gB' FA FB := ⟨h.a.ext e, h.b.ext e, h.ra, h.rb, h.d⟩
end Go.Proofs.Ytkpgmaiklfjjgaa
end
