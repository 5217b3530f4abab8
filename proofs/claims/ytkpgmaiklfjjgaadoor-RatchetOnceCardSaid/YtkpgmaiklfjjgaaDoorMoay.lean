/-
  Chains, light ones, turned from one side's type to the other's, and compared.
  Two chains that are the same; the steps of a chain.
-/
import Derived.Test.YtkpgmaiklfjjgaaDoorMoax
section
set_option linter.unusedSimpArgs false
set_option linter.unusedVariables false
namespace Go.Proofs.YtkpgmaiklfjjgaaDoor
open Go Go.G Go.RowKit
variable {X : KX} {w : World} {K : KV} {D D' : Nat → Prop}
def lightF (cur : List UInt8) (sk : List (Int × List UInt8)) : Bool := decide (cur.length ≤ 100) && decide (sk.length ≤ 20) && sk.all (fun x => decide (x.2.length ≤ 100))
/-- The parts of a row of skips at a place. -/
theorem skipAt {v : Value} {sk : List (Int × List UInt8)} (hv : Rd (.slice tSkip) D w [v] sk) {i : Nat} (hi : i < sk.length) :
    ∃ ad c vk, v = .slice (some ad) sk.length c ∧ ad.spot = none ∧ D ad.block ∧ w.cell? (ad.add (i * 2)) = some (.int .i64 sk[i].1) ∧ w.cell? ((ad.add (i * 2)).add 1) = some vk ∧ Rd (.slice .byte) D w [vk] sk[i].2 ∧ -9223372036854775808 ≤ sk[i].1 ∧ sk[i].1 ≤ 9223372036854775807 := by
  obtain ⟨ad, c', us, e1, s1, hd, hus, q1, r1⟩ := hv.idxN hi
  obtain ⟨va, vb, rfl, hva, hvb, r2, r3⟩ := r1
  obtain ⟨rfl, hp0, hp1⟩ := r2
  obtain ⟨vk, rfl⟩ : ∃ vk, vb = [vk] := by
    match vb, hvb with
    | [vk], _ => exact ⟨vk, rfl⟩
  refine ⟨ad, c', vk, e1, s1, hd, q1 0 _ rfl, ?_, r3, hp0, hp1⟩
  rw [add_add _ _ _ s1]
  exact q1 1 _ rfl
theorem Light_c {gen : Int} {vc vs : Value} {cur : List UInt8} {sk : List (Int × List UInt8)} (hc : Rd (.slice .byte) D w [vc] cur) (hv : Rd (.slice tSkip) D' w [vs] sk) (h : ∀ w', Ext w w' → K (.bool (lightF cur sk)) w') : GCalls Tryd.prog 10 [chainV gen vc vs] K X w := by
  obtain ⟨ac, cc, rfl, _, _⟩ := hc.form
  obtain ⟨av, cv, rfl, hcv, hlv⟩ := hv.form
  apply oubliettelaw22_Light.calls; unfold oubliettelaw22_Light.b
  refine boxC (cs := [.int .i64 gen, .slice ac cur.length cc, .slice av sk.length cv]) fun g1 w1 hg h1 c1 => ?_
  simp only [↓eBinI, ↓eDiv, ↓eShift, ↓eBinS, ↓ePick, ↓eNot, ↓eNeg, ↓eConv, ↓eConvS, ↓eExt0, ↓eExt1, ↓eExt2, ↓eFA, ↓eIA, ↓eLenSl, ↓eCapSl, ↓eLenS, ↓eMin, ↓eMax, ↓eCondT, ↓eCondF, ↓gIf_tt, ↓gIf_ff, ↓gIf_tf, ↓gIf_ft, ↓gIf_u, ↓gIfW_u, ↓gIfW_tt, ↓gIfW_ff, ↓gIfW_tf, ↓gIfW_ft, binI, divI, shiftI, add_mk, Nat.zero_add, cond_true, cond_false, decide_true, decide_false, Bool.not_true, Bool.not_false, Bool.and_true, Bool.true_and, Bool.and_false, Bool.false_and, Int.toNat_natCast, Nat.mul_one, ↓c1.c1, ↓c1.c2]
  by_cases d1 : (cur.length : Int) > 100
  · simp only [↓eBinI, ↓eDiv, ↓eShift, ↓eBinS, ↓ePick, ↓eNot, ↓eNeg, ↓eConv, ↓eConvS, ↓eExt0, ↓eExt1, ↓eExt2, ↓eFA, ↓eIA, ↓eLenSl, ↓eCapSl, ↓eLenS, ↓eMin, ↓eMax, ↓eCondT, ↓eCondF, ↓gIf_tt, ↓gIf_ff, ↓gIf_tf, ↓gIf_ft, ↓gIf_u, ↓gIfW_u, ↓gIfW_tt, ↓gIfW_ff, ↓gIfW_tf, ↓gIfW_ft, binI, divI, shiftI, add_mk, Nat.zero_add, cond_true, cond_false, decide_true, decide_false, Bool.not_true, Bool.not_false, Bool.and_true, Bool.true_and, Bool.and_false, Bool.false_and, Int.toNat_natCast, Nat.mul_one, d1]
    have := h w1 h1
    rw [lightF, decide_eq_false (by omega), Bool.false_and, Bool.false_and] at this
    exact this
  by_cases d2 : (sk.length : Int) > 20
  · simp only [↓eBinI, ↓eDiv, ↓eShift, ↓eBinS, ↓ePick, ↓eNot, ↓eNeg, ↓eConv, ↓eConvS, ↓eExt0, ↓eExt1, ↓eExt2, ↓eFA, ↓eIA, ↓eLenSl, ↓eCapSl, ↓eLenS, ↓eMin, ↓eMax, ↓eCondT, ↓eCondF, ↓gIf_tt, ↓gIf_ff, ↓gIf_tf, ↓gIf_ft, ↓gIf_u, ↓gIfW_u, ↓gIfW_tt, ↓gIfW_ff, ↓gIfW_tf, ↓gIfW_ft, binI, divI, shiftI, add_mk, Nat.zero_add, cond_true, cond_false, decide_true, decide_false, Bool.not_true, Bool.not_false, Bool.and_true, Bool.true_and, Bool.and_false, Bool.false_and, Int.toNat_natCast, Nat.mul_one, d1, d2, ↓c1.c2]
    have := h w1 h1
    rw [lightF, decide_eq_true (by omega), decide_eq_false (by omega), Bool.true_and, Bool.false_and] at this
    exact this
  simp only [↓eBinI, ↓eDiv, ↓eShift, ↓eBinS, ↓ePick, ↓eNot, ↓eNeg, ↓eConv, ↓eConvS, ↓eExt0, ↓eExt1, ↓eExt2, ↓eFA, ↓eIA, ↓eLenSl, ↓eCapSl, ↓eLenS, ↓eMin, ↓eMax, ↓eCondT, ↓eCondF, ↓gIf_tt, ↓gIf_ff, ↓gIf_tf, ↓gIf_ft, ↓gIf_u, ↓gIfW_u, ↓gIfW_tt, ↓gIfW_ff, ↓gIfW_tf, ↓gIfW_ft, binI, divI, shiftI, add_mk, Nat.zero_add, cond_true, cond_false, decide_true, decide_false, Bool.not_true, Bool.not_false, Bool.and_true, Bool.true_and, Bool.and_false, Bool.false_and, Int.toNat_natCast, Nat.mul_one, d1, d2, ↓c1.c2]
  refine oubliettelaw22_Light.loop1 (fun x3 w' => ∃ i : Nat, i ≤ sk.length ∧ x3 = .int .i64 (i : Int) ∧ w' = w1 ∧ ∀ j (hj : j < i) (hl : j < sk.length), sk[j].2.length ≤ 100) (fun x3 _ => sk.length - (iv x3).toNat) ⟨0, by omega, rfl, rfl, fun j hj => by omega⟩ ?_
  rintro x3 gg w2 ⟨i, hi, rfl, rfl, hn⟩
  unfold oubliettelaw22_Light.b1
  by_cases ci : (i : Int) < (sk.length : Int)
  · obtain ⟨ad, c', vk, e1, s1, _, q0, q1, r1, _, _⟩ := skipAt (hv.ext h1) (i := i) (by omega)
    simp only [Value.slice.injEq] at e1
    obtain ⟨rfl, -, rfl⟩ := e1
    obtain ⟨ak, ck, rfl, _, _⟩ := r1.form
    have e0 : IntKind.i64.wrap ((i : Int) + 1) = ((i + 1 : Nat) : Int) := by rw [wrap64 (by omega) (by omega)]; omega
    have q2 : w2.cell? ⟨g1, 2, none⟩ = some (.slice (some ad) sk.length cv) := by rw [c1.c]; rfl
    simp only [↓eBinI, ↓eDiv, ↓eShift, ↓eBinS, ↓ePick, ↓eNot, ↓eNeg, ↓eConv, ↓eConvS, ↓eExt0, ↓eExt1, ↓eExt2, ↓eFA, ↓eIA, ↓eLenSl, ↓eCapSl, ↓eLenS, ↓eMin, ↓eMax, ↓eCondT, ↓eCondF, ↓gIf_tt, ↓gIf_ff, ↓gIf_tf, ↓gIf_ft, ↓gIf_u, ↓gIfW_u, ↓gIfW_tt, ↓gIfW_ff, ↓gIfW_tf, ↓gIfW_ft, binI, divI, shiftI, add_mk, Nat.zero_add, cond_true, cond_false, decide_true, decide_false, Bool.not_true, Bool.not_false, Bool.and_true, Bool.true_and, Bool.and_false, Bool.false_and, Int.toNat_natCast, Nat.mul_one, ci, ↓eLdW, q1, q2, Option.some.injEq, exists_eq_left']
    repeat ((with_reducible refine And.intro ?_ ?_); · first | omega | exact True.intro)
    by_cases ck' : (sk[i].2.length : Int) > 100
    · simp only [↓eBinI, ↓eDiv, ↓eShift, ↓eBinS, ↓ePick, ↓eNot, ↓eNeg, ↓eConv, ↓eConvS, ↓eExt0, ↓eExt1, ↓eExt2, ↓eFA, ↓eIA, ↓eLenSl, ↓eCapSl, ↓eLenS, ↓eMin, ↓eMax, ↓eCondT, ↓eCondF, ↓gIf_tt, ↓gIf_ff, ↓gIf_tf, ↓gIf_ft, ↓gIf_u, ↓gIfW_u, ↓gIfW_tt, ↓gIfW_ff, ↓gIfW_tf, ↓gIfW_ft, binI, divI, shiftI, add_mk, Nat.zero_add, cond_true, cond_false, decide_true, decide_false, Bool.not_true, Bool.not_false, Bool.and_true, Bool.true_and, Bool.and_false, Bool.false_and, Int.toNat_natCast, Nat.mul_one, ck']
      have := h w2 h1
      have hall : sk.all (fun x => decide (x.2.length ≤ 100)) = false := by
        rw [List.all_eq_false]
        exact ⟨sk[i], List.getElem_mem _, by simp; omega⟩
      rw [lightF, decide_eq_true (by omega), decide_eq_true (by omega), hall] at this
      exact this
    · simp only [↓eBinI, ↓eDiv, ↓eShift, ↓eBinS, ↓ePick, ↓eNot, ↓eNeg, ↓eConv, ↓eConvS, ↓eExt0, ↓eExt1, ↓eExt2, ↓eFA, ↓eIA, ↓eLenSl, ↓eCapSl, ↓eLenS, ↓eMin, ↓eMax, ↓eCondT, ↓eCondF, ↓gIf_tt, ↓gIf_ff, ↓gIf_tf, ↓gIf_ft, ↓gIf_u, ↓gIfW_u, ↓gIfW_tt, ↓gIfW_ff, ↓gIfW_tf, ↓gIfW_ft, binI, divI, shiftI, add_mk, Nat.zero_add, cond_true, cond_false, decide_true, decide_false, Bool.not_true, Bool.not_false, Bool.and_true, Bool.true_and, Bool.and_false, Bool.false_and, Int.toNat_natCast, Nat.mul_one, ck', e0]
      refine oubliettelaw22_Light.leaf1 ⟨i + 1, by omega, rfl, rfl, fun j hj hl => ?_⟩ (by simp only [iv]; omega)
      by_cases hji : j = i
      · subst hji; omega
      · exact hn j (by omega) hl
  · simp only [↓eBinI, ↓eDiv, ↓eShift, ↓eBinS, ↓ePick, ↓eNot, ↓eNeg, ↓eConv, ↓eConvS, ↓eExt0, ↓eExt1, ↓eExt2, ↓eFA, ↓eIA, ↓eLenSl, ↓eCapSl, ↓eLenS, ↓eMin, ↓eMax, ↓eCondT, ↓eCondF, ↓gIf_tt, ↓gIf_ff, ↓gIf_tf, ↓gIf_ft, ↓gIf_u, ↓gIfW_u, ↓gIfW_tt, ↓gIfW_ff, ↓gIfW_tf, ↓gIfW_ft, binI, divI, shiftI, add_mk, Nat.zero_add, cond_true, cond_false, decide_true, decide_false, Bool.not_true, Bool.not_false, Bool.and_true, Bool.true_and, Bool.and_false, Bool.false_and, Int.toNat_natCast, Nat.mul_one, ↓c1.c2, ci]
    have := h w2 h1
    have hall : sk.all (fun x => decide (x.2.length ≤ 100)) = true := by
      rw [List.all_eq_true]
      intro x hx
      obtain ⟨j, hj, rfl⟩ := List.mem_iff_getElem.1 hx
      exact decide_eq_true (hn j (by omega) hj)
    rw [lightF, decide_eq_true (by omega), decide_eq_true (by omega), hall] at this
    exact this
theorem fill21 {z0 z1 z2 a b : Value} (ha : one a = true) (hb : one b = true) : fillL [z0, z1, z2] [(0, 1, a), (1, 1, b)] = some [a, b, z2] := by simp [fillL, one_cells ha, one_cells hb, cutIn]
set_option maxHeartbeats 1000000 in
theorem LOf_c {gen : Int} {vc vs : Value} {cur : List UInt8} {sk : List (Int × List UInt8)} (hc : Rd (.slice .byte) D w [vc] cur) (hv : Rd (.slice tSkip) D' w [vs] sk) (hsl : sk.length ≤ 1000)
    (h : ∀ vs' w', Ext w w' → Rd (.slice .byte) D w' [vc] cur → Rd (.slice tSkip) (fun b => D' b ∨ w.heap.size ≤ b) w' [vs'] sk → K (chainV gen vc vs') w') : GCalls Tryd.prog 14 [chainV gen vc vs] K X w := by
  have oc := one_of_rd hc
  obtain ⟨av, cv, rfl, hcv, hlv⟩ := hv.form
  apply oubliettelaw22_Of.calls; unfold oubliettelaw22_Of.b
  refine boxC (cs := [.int .i64 gen, vc, .slice av sk.length cv]) fun g1 w1 hg1 h1 c1 => ?_
  refine boxC (cs := [.int .i64 0, .slice none 0 0, .slice none 0 0]) fun g2 w2 hg2 h2 c2 => ?_
  have z1 := h1.size; have z2 := h2.size; have l1 := c1.lt; have l2 := c2.lt
  have c1 := c1.ext h2
  simp only [↓eBinI, ↓eDiv, ↓eShift, ↓eBinS, ↓ePick, ↓eNot, ↓eNeg, ↓eConv, ↓eConvS, ↓eExt0, ↓eExt1, ↓eExt2, ↓eFA, ↓eIA, ↓eLenSl, ↓eCapSl, ↓eLenS, ↓eMin, ↓eMax, ↓eCondT, ↓eCondF, ↓gIf_tt, ↓gIf_ff, ↓gIf_tf, ↓gIf_ft, ↓gIf_u, ↓gIfW_u, ↓gIfW_tt, ↓gIfW_ff, ↓gIfW_tf, ↓gIfW_ft, binI, divI, shiftI, add_mk, Nat.zero_add, cond_true, cond_false, decide_true, decide_false, Bool.not_true, Bool.not_false, Bool.and_true, Bool.true_and, Bool.and_false, Bool.false_and, Int.toNat_natCast, Nat.mul_one, ↓c1.c0, ↓c1.c1]
  refine ⟨[.int .i64 gen, vc, .slice none 0 0], fill21 rfl oc, ?_⟩
  refine boxC (cs := [.int .i64 0, .slice none 0 0, .slice none 0 0]) fun g3 w3 hg3 h3 c3 => ?_
  have z3 := h3.size; have l3 := c3.lt
  refine c3.setN (l' := [.int .i64 gen, vc, .slice none 0 0]) rfl rfl (allOne3 rfl oc rfl) fun w4 c4 f4 => ?_
  have h14 : Ext w w4 := ((h1.tr h2).tr h3).tn f4 (fun x hx => by omega)
  have z4 := f4.size
  have hv0 := rd_bd hv
  refine oubliettelaw22_Of.loop1 (fun x4 w' => ∃ (i : Nat) (vo : Value), i ≤ sk.length ∧ x4 = .int .i64 (i : Int) ∧ Ext w w' ∧ w4.heap.size ≤ w'.heap.size ∧ Cs w' g1 [.int .i64 gen, vc, .slice av sk.length cv] ∧ Cs w' g2 [.int .i64 0, .slice none 0 0, .slice none 0 0] ∧ Cs w' g3 [.int .i64 gen, vc, vo] ∧ G.Own tSkip (fun b => D' b ∧ b < w.heap.size) w4.heap.size w' vo (sk.take i)) (fun x4 _ => sk.length - (iv x4).toNat)
    ⟨0, _, by omega, rfl, h14, Nat.le_refl _, (c1.ext h3).fr f4 (by omega), (c2.ext h3).fr f4 (by omega), c4, G.Own.nil⟩ ?_
  rintro x4 gg w5 ⟨i, vo, hi, rfl, h5, z5, c1, c2, c3, ho⟩
  unfold oubliettelaw22_Of.b1
  by_cases ci : (i : Int) < (sk.length : Int)
  · obtain ⟨ad, c', vk, e1, s1, hd, q0, q1, r1, p0, p1⟩ := skipAt hv0 (i := i) (by omega)
    simp only [Value.slice.injEq] at e1
    obtain ⟨rfl, -, rfl⟩ := e1
    have ok := one_of_rd r1
    have oo : one vo = true := by obtain ⟨a, c, e, _⟩ := ho.form; rw [e]; rfl
    have e0 : IntKind.i64.wrap ((i : Int) + 1) = ((i + 1 : Nat) : Int) := by rw [wrap64 (by omega) (by omega)]; omega
    simp only [↓eBinI, ↓eDiv, ↓eShift, ↓eBinS, ↓ePick, ↓eNot, ↓eNeg, ↓eConv, ↓eConvS, ↓eExt0, ↓eExt1, ↓eExt2, ↓eFA, ↓eIA, ↓eLenSl, ↓eCapSl, ↓eLenS, ↓eMin, ↓eMax, ↓eCondT, ↓eCondF, ↓gIf_tt, ↓gIf_ff, ↓gIf_tf, ↓gIf_ft, ↓gIf_u, ↓gIfW_u, ↓gIfW_tt, ↓gIfW_ff, ↓gIfW_tf, ↓gIfW_ft, binI, divI, shiftI, add_mk, Nat.zero_add, cond_true, cond_false, decide_true, decide_false, Bool.not_true, Bool.not_false, Bool.and_true, Bool.true_and, Bool.and_false, Bool.false_and, Int.toNat_natCast, Nat.mul_one, ↓c1.c2, ci]
    refine drawS (fun b => Blk vo b ∧ w4.heap.size ≤ b) fun w6 h6 => ?_
    have z6 := h6.size
    have c16 := c1.ext h6
    have c36 := c3.ext h6
    have t0 : ¬ (fun b => Blk vo b ∧ w4.heap.size ≤ b) (ad.add (i * 2)).block := fun hx => by have := cell_lt q0; have := hx.2; omega
    have t1 : ¬ (fun b => Blk vo b ∧ w4.heap.size ≤ b) ((ad.add (i * 2)).add 1).block := fun hx => by have := cell_lt q1; have := hx.2; omega
    have q06 := (h5.tr h6).cell q0
    have q16 := (h5.tr h6).cell q1
    have n1 : ¬ (fun b => Blk vo b ∧ w4.heap.size ≤ b) g1 := fun hx => by have := hx.2; omega
    have n3 : ¬ (fun b => Blk vo b ∧ w4.heap.size ≤ b) g3 := fun hx => by have := hx.2; omega
    have b12 : ∀ {K : KP}, pLd (Fr (fun b => Blk vo b ∧ w4.heap.size ≤ b) w6) (.pointer (some ⟨g1, 2, none⟩)) K = K (.slice (some ad) sk.length cv) := c16.f n1 rfl
    have b32 : ∀ {K : KP}, pLd (Fr (fun b => Blk vo b ∧ w4.heap.size ≤ b) w6) (.pointer (some ⟨g3, 2, none⟩)) K = K vo := c36.f n3 rfl
    have ad0 : (ad.add (i * 2)).add 0 = ad.add (i * 2) := by rw [add_add _ _ _ s1]; rfl
    simp only [↓eBinI, ↓eDiv, ↓eShift, ↓eBinS, ↓ePick, ↓eNot, ↓eNeg, ↓eConv, ↓eConvS, ↓eExt0, ↓eExt1, ↓eExt2, ↓eFA, ↓eIA, ↓eLenSl, ↓eCapSl, ↓eLenS, ↓eMin, ↓eMax, ↓eCondT, ↓eCondF, ↓gIf_tt, ↓gIf_ff, ↓gIf_tf, ↓gIf_ft, ↓gIf_u, ↓gIfW_u, ↓gIfW_tt, ↓gIfW_ff, ↓gIfW_tf, ↓gIfW_ft, binI, divI, shiftI, add_mk, Nat.zero_add, cond_true, cond_false, decide_true, decide_false, Bool.not_true, Bool.not_false, Bool.and_true, Bool.true_and, Bool.and_false, Bool.false_and, Int.toNat_natCast, Nat.mul_one, ↓b12, ↓b32, ad0, ↓eLdT (T := fun b => Blk vo b ∧ w4.heap.size ≤ b) t0 q06, ↓eLdT (T := fun b => Blk vo b ∧ w4.heap.size ≤ b) t1 q16]
    repeat ((with_reducible refine And.intro ?_ ?_); · first | omega | exact True.intro)
    refine ⟨[.int .i64 sk[i].1, vk], fill2 rfl ok, ?_⟩
    refine Cs.bslice (cs := [.int .i64 sk[i].1, vk]) (fillAgg rfl rfl) fun r w7 hr h7 b7 => ⟨h7.mono (fun _ _ h => h.elim), ?_⟩
    have z7 := h7.size
    have h07 := (h5.tr h6).tr h7
    have hrow : Rd tSkip (fun b => D' b ∧ b < w.heap.size) w7 [.int .i64 sk[i].1, vk] sk[i] := ⟨[.int .i64 sk[i].1], [vk], rfl, rfl, rfl, ⟨rfl, p0, p1⟩, r1.ext h07⟩
    obtain ⟨T7, b7'⟩ := b7
    have hwz := h14.size
    refine ((ho.ext h6).ext h7).push (by omega) (fun hd => by have := hd.2; omega) rfl rfl b7' hrow (by show (2 * ((sk.take i).length + 1) + 192) * 32 ≤ _; rw [List.length_take]; omega) fun v8 w8 o8 f8 hb8 => ?_
    refine ⟨(h7.mono (fun _ _ h => h.elim)).trans f8 (fun _ _ h => h), ?_⟩
    have z8 := f8.size
    have ov : one v8 = true := by obtain ⟨a, c, e, _⟩ := o8.form; rw [e]; rfl
    have h8 : Ext w w8 := h07.tn f8 (fun x hx => by have := hx.2; omega)
    have c38 : Cs w8 g3 [.int .i64 gen, vc, vo] := (c36.ext h7).fr f8 (fun hx => by have := hx.2; omega)
    try simp only [↓eBinI, ↓eDiv, ↓eShift, ↓eBinS, ↓ePick, ↓eNot, ↓eNeg, ↓eConv, ↓eConvS, ↓eExt0, ↓eExt1, ↓eExt2, ↓eFA, ↓eIA, ↓eLenSl, ↓eCapSl, ↓eLenS, ↓eMin, ↓eMax, ↓eCondT, ↓eCondF, ↓gIf_tt, ↓gIf_ff, ↓gIf_tf, ↓gIf_ft, ↓gIf_u, ↓gIfW_u, ↓gIfW_tt, ↓gIfW_ff, ↓gIfW_tf, ↓gIfW_ft, binI, divI, shiftI, add_mk, Nat.zero_add, cond_true, cond_false, decide_true, decide_false, Bool.not_true, Bool.not_false, Bool.and_true, Bool.true_and, Bool.and_false, Bool.false_and, Int.toNat_natCast, Nat.mul_one]
    refine c38.set (i := 2) (by simp) ov fun w9 c9 f9 => ?_
    refine anew_ ?_
    have z9 := f9.size
    try simp only [↓eBinI, ↓eDiv, ↓eShift, ↓eBinS, ↓ePick, ↓eNot, ↓eNeg, ↓eConv, ↓eConvS, ↓eExt0, ↓eExt1, ↓eExt2, ↓eFA, ↓eIA, ↓eLenSl, ↓eCapSl, ↓eLenS, ↓eMin, ↓eMax, ↓eCondT, ↓eCondF, ↓gIf_tt, ↓gIf_ff, ↓gIf_tf, ↓gIf_ft, ↓gIf_u, ↓gIfW_u, ↓gIfW_tt, ↓gIfW_ff, ↓gIfW_tf, ↓gIfW_ft, binI, divI, shiftI, add_mk, Nat.zero_add, cond_true, cond_false, decide_true, decide_false, Bool.not_true, Bool.not_false, Bool.and_true, Bool.true_and, Bool.and_false, Bool.false_and, Int.toNat_natCast, Nat.mul_one, e0]
    refine oubliettelaw22_Of.leaf1 ⟨i + 1, v8, by omega, by first | rfl | rw [e0], h8.tn f9 (fun x hx => by omega), by omega, ((c16.ext h7).fr f8 (fun hx => by have := hx.2; omega)).fr f9 (by omega), (((c2.ext h6).ext h7).fr f8 (fun hx => by have := hx.2; omega)).fr f9 (by omega), c9, ?_⟩ (by first | rw [e0] | skip; simp only [iv]; omega)
    rw [List.take_succ_eq_append_getElem (by omega)]
    exact o8.fr f9 (fun b hb => by have := hb.2; omega) (fun b hb hB => by omega)
  · simp only [↓eBinI, ↓eDiv, ↓eShift, ↓eBinS, ↓ePick, ↓eNot, ↓eNeg, ↓eConv, ↓eConvS, ↓eExt0, ↓eExt1, ↓eExt2, ↓eFA, ↓eIA, ↓eLenSl, ↓eCapSl, ↓eLenS, ↓eMin, ↓eMax, ↓eCondT, ↓eCondF, ↓gIf_tt, ↓gIf_ff, ↓gIf_tf, ↓gIf_ft, ↓gIf_u, ↓gIfW_u, ↓gIfW_tt, ↓gIfW_ff, ↓gIfW_tf, ↓gIfW_ft, binI, divI, shiftI, add_mk, Nat.zero_add, cond_true, cond_false, decide_true, decide_false, Bool.not_true, Bool.not_false, Bool.and_true, Bool.true_and, Bool.and_false, Bool.false_and, Int.toNat_natCast, Nat.mul_one, ↓c1.c2, ci]
    have : i = sk.length := by omega
    subst this
    rw [List.take_of_length_le (Nat.le_refl _)] at ho
    have oo : one vo = true := by obtain ⟨a, c, e, _⟩ := ho.form; rw [e]; rfl
    rw [c3.ld3]
    refine c2.setN (l' := [.int .i64 gen, vc, vo]) rfl rfl (allOne3 rfl oc oo) fun w6 c6 f6 => ?_
    rw [c6.ld3]
    have hwz := h14.size
    have h6 : Ext w w6 := h5.tn f6 (fun x hx => by omega)
    refine h vo w6 h6 (hc.ext h6) ?_
    exact (ho.fr f6 (fun b hb => by have := hb.2; omega) (fun b hb hB => by omega)).rd2 (fun b hb => .inl hb.1) (fun b _ hB _ => .inr (by omega)) (by show sk.length < _; omega)
set_option maxHeartbeats 1000000 in
theorem Back_c {gen : Int} {vc vs : Value} {cur : List UInt8} {sk : List (Int × List UInt8)} (hc : Rd (.slice .byte) D w [vc] cur) (hv : Rd (.slice tSkip) D' w [vs] sk) (hsl : sk.length ≤ 1000)
    (h : ∀ vs' w', Ext w w' → Rd (.slice .byte) D w' [vc] cur → Rd (.slice tSkip) (fun b => D' b ∨ w.heap.size ≤ b) w' [vs'] sk → K (chainV gen vc vs') w') : GCalls Tryd.prog 18 [chainV gen vc vs] K X w := by
  have oc := one_of_rd hc
  obtain ⟨av, cv, rfl, hcv, hlv⟩ := hv.form
  apply oubliettelaw22_Back.calls; unfold oubliettelaw22_Back.b
  refine boxC (cs := [.int .i64 gen, vc, .slice av sk.length cv]) fun g1 w1 hg1 h1 c1 => ?_
  refine boxC (cs := [.int .i64 0, .slice none 0 0, .slice none 0 0]) fun g2 w2 hg2 h2 c2 => ?_
  have z1 := h1.size; have z2 := h2.size; have l1 := c1.lt; have l2 := c2.lt
  have c1 := c1.ext h2
  simp only [↓eBinI, ↓eDiv, ↓eShift, ↓eBinS, ↓ePick, ↓eNot, ↓eNeg, ↓eConv, ↓eConvS, ↓eExt0, ↓eExt1, ↓eExt2, ↓eFA, ↓eIA, ↓eLenSl, ↓eCapSl, ↓eLenS, ↓eMin, ↓eMax, ↓eCondT, ↓eCondF, ↓gIf_tt, ↓gIf_ff, ↓gIf_tf, ↓gIf_ft, ↓gIf_u, ↓gIfW_u, ↓gIfW_tt, ↓gIfW_ff, ↓gIfW_tf, ↓gIfW_ft, binI, divI, shiftI, add_mk, Nat.zero_add, cond_true, cond_false, decide_true, decide_false, Bool.not_true, Bool.not_false, Bool.and_true, Bool.true_and, Bool.and_false, Bool.false_and, Int.toNat_natCast, Nat.mul_one, ↓c1.c0, ↓c1.c1]
  refine ⟨[.int .i64 gen, vc, .slice none 0 0], fill21 rfl oc, ?_⟩
  refine boxC (cs := [.int .i64 0, .slice none 0 0, .slice none 0 0]) fun g3 w3 hg3 h3 c3 => ?_
  have z3 := h3.size; have l3 := c3.lt
  refine c3.setN (l' := [.int .i64 gen, vc, .slice none 0 0]) rfl rfl (allOne3 rfl oc rfl) fun w4 c4 f4 => ?_
  have h14 : Ext w w4 := ((h1.tr h2).tr h3).tn f4 (fun x hx => by omega)
  have z4 := f4.size
  have hv0 := rd_bd hv
  refine oubliettelaw22_Back.loop1 (fun x4 w' => ∃ (i : Nat) (vo : Value), i ≤ sk.length ∧ x4 = .int .i64 (i : Int) ∧ Ext w w' ∧ w4.heap.size ≤ w'.heap.size ∧ Cs w' g1 [.int .i64 gen, vc, .slice av sk.length cv] ∧ Cs w' g2 [.int .i64 0, .slice none 0 0, .slice none 0 0] ∧ Cs w' g3 [.int .i64 gen, vc, vo] ∧ G.Own tSkip (fun b => D' b ∧ b < w.heap.size) w4.heap.size w' vo (sk.take i)) (fun x4 _ => sk.length - (iv x4).toNat)
    ⟨0, _, by omega, rfl, h14, Nat.le_refl _, (c1.ext h3).fr f4 (by omega), (c2.ext h3).fr f4 (by omega), c4, G.Own.nil⟩ ?_
  rintro x4 gg w5 ⟨i, vo, hi, rfl, h5, z5, c1, c2, c3, ho⟩
  unfold oubliettelaw22_Back.b1
  by_cases ci : (i : Int) < (sk.length : Int)
  · obtain ⟨ad, c', vk, e1, s1, hd, q0, q1, r1, p0, p1⟩ := skipAt hv0 (i := i) (by omega)
    simp only [Value.slice.injEq] at e1
    obtain ⟨rfl, -, rfl⟩ := e1
    have ok := one_of_rd r1
    have oo : one vo = true := by obtain ⟨a, c, e, _⟩ := ho.form; rw [e]; rfl
    have e0 : IntKind.i64.wrap ((i : Int) + 1) = ((i + 1 : Nat) : Int) := by rw [wrap64 (by omega) (by omega)]; omega
    simp only [↓eBinI, ↓eDiv, ↓eShift, ↓eBinS, ↓ePick, ↓eNot, ↓eNeg, ↓eConv, ↓eConvS, ↓eExt0, ↓eExt1, ↓eExt2, ↓eFA, ↓eIA, ↓eLenSl, ↓eCapSl, ↓eLenS, ↓eMin, ↓eMax, ↓eCondT, ↓eCondF, ↓gIf_tt, ↓gIf_ff, ↓gIf_tf, ↓gIf_ft, ↓gIf_u, ↓gIfW_u, ↓gIfW_tt, ↓gIfW_ff, ↓gIfW_tf, ↓gIfW_ft, binI, divI, shiftI, add_mk, Nat.zero_add, cond_true, cond_false, decide_true, decide_false, Bool.not_true, Bool.not_false, Bool.and_true, Bool.true_and, Bool.and_false, Bool.false_and, Int.toNat_natCast, Nat.mul_one, ↓c1.c2, ci]
    refine drawS (fun b => Blk vo b ∧ w4.heap.size ≤ b) fun w6 h6 => ?_
    have z6 := h6.size
    have c16 := c1.ext h6
    have c36 := c3.ext h6
    have t0 : ¬ (fun b => Blk vo b ∧ w4.heap.size ≤ b) (ad.add (i * 2)).block := fun hx => by have := cell_lt q0; have := hx.2; omega
    have t1 : ¬ (fun b => Blk vo b ∧ w4.heap.size ≤ b) ((ad.add (i * 2)).add 1).block := fun hx => by have := cell_lt q1; have := hx.2; omega
    have q06 := (h5.tr h6).cell q0
    have q16 := (h5.tr h6).cell q1
    have n1 : ¬ (fun b => Blk vo b ∧ w4.heap.size ≤ b) g1 := fun hx => by have := hx.2; omega
    have n3 : ¬ (fun b => Blk vo b ∧ w4.heap.size ≤ b) g3 := fun hx => by have := hx.2; omega
    have b12 : ∀ {K : KP}, pLd (Fr (fun b => Blk vo b ∧ w4.heap.size ≤ b) w6) (.pointer (some ⟨g1, 2, none⟩)) K = K (.slice (some ad) sk.length cv) := c16.f n1 rfl
    have b32 : ∀ {K : KP}, pLd (Fr (fun b => Blk vo b ∧ w4.heap.size ≤ b) w6) (.pointer (some ⟨g3, 2, none⟩)) K = K vo := c36.f n3 rfl
    have ad0 : (ad.add (i * 2)).add 0 = ad.add (i * 2) := by rw [add_add _ _ _ s1]; rfl
    simp only [↓eBinI, ↓eDiv, ↓eShift, ↓eBinS, ↓ePick, ↓eNot, ↓eNeg, ↓eConv, ↓eConvS, ↓eExt0, ↓eExt1, ↓eExt2, ↓eFA, ↓eIA, ↓eLenSl, ↓eCapSl, ↓eLenS, ↓eMin, ↓eMax, ↓eCondT, ↓eCondF, ↓gIf_tt, ↓gIf_ff, ↓gIf_tf, ↓gIf_ft, ↓gIf_u, ↓gIfW_u, ↓gIfW_tt, ↓gIfW_ff, ↓gIfW_tf, ↓gIfW_ft, binI, divI, shiftI, add_mk, Nat.zero_add, cond_true, cond_false, decide_true, decide_false, Bool.not_true, Bool.not_false, Bool.and_true, Bool.true_and, Bool.and_false, Bool.false_and, Int.toNat_natCast, Nat.mul_one, ↓b12, ↓b32, ad0, ↓eLdT (T := fun b => Blk vo b ∧ w4.heap.size ≤ b) t0 q06, ↓eLdT (T := fun b => Blk vo b ∧ w4.heap.size ≤ b) t1 q16]
    repeat ((with_reducible refine And.intro ?_ ?_); · first | omega | exact True.intro)
    refine ⟨[.int .i64 sk[i].1, vk], fill2 rfl ok, ?_⟩
    refine Cs.bslice (cs := [.int .i64 sk[i].1, vk]) (fillAgg rfl rfl) fun r w7 hr h7 b7 => ⟨h7.mono (fun _ _ h => h.elim), ?_⟩
    have z7 := h7.size
    have h07 := (h5.tr h6).tr h7
    have hrow : Rd tSkip (fun b => D' b ∧ b < w.heap.size) w7 [.int .i64 sk[i].1, vk] sk[i] := ⟨[.int .i64 sk[i].1], [vk], rfl, rfl, rfl, ⟨rfl, p0, p1⟩, r1.ext h07⟩
    obtain ⟨T7, b7'⟩ := b7
    have hwz := h14.size
    refine ((ho.ext h6).ext h7).push (by omega) (fun hd => by have := hd.2; omega) rfl rfl b7' hrow (by show (2 * ((sk.take i).length + 1) + 192) * 32 ≤ _; rw [List.length_take]; omega) fun v8 w8 o8 f8 hb8 => ?_
    refine ⟨(h7.mono (fun _ _ h => h.elim)).trans f8 (fun _ _ h => h), ?_⟩
    have z8 := f8.size
    have ov : one v8 = true := by obtain ⟨a, c, e, _⟩ := o8.form; rw [e]; rfl
    have h8 : Ext w w8 := h07.tn f8 (fun x hx => by have := hx.2; omega)
    have c38 : Cs w8 g3 [.int .i64 gen, vc, vo] := (c36.ext h7).fr f8 (fun hx => by have := hx.2; omega)
    try simp only [↓eBinI, ↓eDiv, ↓eShift, ↓eBinS, ↓ePick, ↓eNot, ↓eNeg, ↓eConv, ↓eConvS, ↓eExt0, ↓eExt1, ↓eExt2, ↓eFA, ↓eIA, ↓eLenSl, ↓eCapSl, ↓eLenS, ↓eMin, ↓eMax, ↓eCondT, ↓eCondF, ↓gIf_tt, ↓gIf_ff, ↓gIf_tf, ↓gIf_ft, ↓gIf_u, ↓gIfW_u, ↓gIfW_tt, ↓gIfW_ff, ↓gIfW_tf, ↓gIfW_ft, binI, divI, shiftI, add_mk, Nat.zero_add, cond_true, cond_false, decide_true, decide_false, Bool.not_true, Bool.not_false, Bool.and_true, Bool.true_and, Bool.and_false, Bool.false_and, Int.toNat_natCast, Nat.mul_one]
    refine c38.set (i := 2) (by simp) ov fun w9 c9 f9 => ?_
    refine anew_ ?_
    have z9 := f9.size
    try simp only [↓eBinI, ↓eDiv, ↓eShift, ↓eBinS, ↓ePick, ↓eNot, ↓eNeg, ↓eConv, ↓eConvS, ↓eExt0, ↓eExt1, ↓eExt2, ↓eFA, ↓eIA, ↓eLenSl, ↓eCapSl, ↓eLenS, ↓eMin, ↓eMax, ↓eCondT, ↓eCondF, ↓gIf_tt, ↓gIf_ff, ↓gIf_tf, ↓gIf_ft, ↓gIf_u, ↓gIfW_u, ↓gIfW_tt, ↓gIfW_ff, ↓gIfW_tf, ↓gIfW_ft, binI, divI, shiftI, add_mk, Nat.zero_add, cond_true, cond_false, decide_true, decide_false, Bool.not_true, Bool.not_false, Bool.and_true, Bool.true_and, Bool.and_false, Bool.false_and, Int.toNat_natCast, Nat.mul_one, e0]
    refine oubliettelaw22_Back.leaf1 ⟨i + 1, v8, by omega, by first | rfl | rw [e0], h8.tn f9 (fun x hx => by omega), by omega, ((c16.ext h7).fr f8 (fun hx => by have := hx.2; omega)).fr f9 (by omega), (((c2.ext h6).ext h7).fr f8 (fun hx => by have := hx.2; omega)).fr f9 (by omega), c9, ?_⟩ (by first | rw [e0] | skip; simp only [iv]; omega)
    rw [List.take_succ_eq_append_getElem (by omega)]
    exact o8.fr f9 (fun b hb => by have := hb.2; omega) (fun b hb hB => by omega)
  · simp only [↓eBinI, ↓eDiv, ↓eShift, ↓eBinS, ↓ePick, ↓eNot, ↓eNeg, ↓eConv, ↓eConvS, ↓eExt0, ↓eExt1, ↓eExt2, ↓eFA, ↓eIA, ↓eLenSl, ↓eCapSl, ↓eLenS, ↓eMin, ↓eMax, ↓eCondT, ↓eCondF, ↓gIf_tt, ↓gIf_ff, ↓gIf_tf, ↓gIf_ft, ↓gIf_u, ↓gIfW_u, ↓gIfW_tt, ↓gIfW_ff, ↓gIfW_tf, ↓gIfW_ft, binI, divI, shiftI, add_mk, Nat.zero_add, cond_true, cond_false, decide_true, decide_false, Bool.not_true, Bool.not_false, Bool.and_true, Bool.true_and, Bool.and_false, Bool.false_and, Int.toNat_natCast, Nat.mul_one, ↓c1.c2, ci]
    have : i = sk.length := by omega
    subst this
    rw [List.take_of_length_le (Nat.le_refl _)] at ho
    have oo : one vo = true := by obtain ⟨a, c, e, _⟩ := ho.form; rw [e]; rfl
    rw [c3.ld3]
    refine c2.setN (l' := [.int .i64 gen, vc, vo]) rfl rfl (allOne3 rfl oc oo) fun w6 c6 f6 => ?_
    rw [c6.ld3]
    have hwz := h14.size
    have h6 : Ext w w6 := h5.tn f6 (fun x hx => by omega)
    refine h vo w6 h6 (hc.ext h6) ?_
    exact (ho.fr f6 (fun b hb => by have := hb.2; omega) (fun b hb hB => by omega)).rd2 (fun b hb => .inl hb.1) (fun b _ hB _ => .inr (by omega)) (by show sk.length < _; omega)
end Go.Proofs.YtkpgmaiklfjjgaaDoor
end
section
set_option linter.unusedSimpArgs false
set_option linter.unusedVariables false
namespace Go.Proofs.YtkpgmaiklfjjgaaDoor
open Go Go.G Go.RowKit
variable {X : KX} {w : World} {K : KV} {D D' D2 D3 : Nat → Prop}
theorem bne_self (n : Int) : (n != n) = false := by simp
theorem SameT_c {gen : Int} {vc vs uc us : Value} {cur : List UInt8} {sk : List (Int × List UInt8)} (hc : Rd (.slice .byte) D w [vc] cur) (hv : Rd (.slice tSkip) D' w [vs] sk) (gc : Rd (.slice .byte) D2 w [uc] cur) (gv : Rd (.slice tSkip) D3 w [us] sk)
    (h : ∀ w', Ext w w' → K (.bool true) w') : GCalls Tryd.prog 17 [chainV gen vc vs, chainV gen uc us] K X w := by
  obtain ⟨a1, c1, rfl, _, _⟩ := hc.form
  obtain ⟨a2, c2, rfl, _, _⟩ := gc.form
  obtain ⟨a3, c3, rfl, _, _⟩ := hv.form
  obtain ⟨a4, c4, rfl, _, _⟩ := gv.form
  apply oublietteref22_SameChain.calls; unfold oublietteref22_SameChain.b
  refine boxC (cs := [.int .i64 gen, .slice a1 cur.length c1, .slice a3 sk.length c3]) fun g1 w1 hg1 h1 b1 => ?_
  refine boxC (cs := [.int .i64 gen, .slice a2 cur.length c2, .slice a4 sk.length c4]) fun g2 w2 hg2 h2 b2 => ?_
  have h12 := h1.tr h2
  have b1 := b1.ext h2
  simp only [↓eBinI, ↓eDiv, ↓eShift, ↓eBinS, ↓ePick, ↓eNot, ↓eNeg, ↓eConv, ↓eConvS, ↓eExt0, ↓eExt1, ↓eExt2, ↓eFA, ↓eIA, ↓eLenSl, ↓eCapSl, ↓eLenS, ↓eMin, ↓eMax, ↓eCondT, ↓eCondF, ↓gIf_tt, ↓gIf_ff, ↓gIf_tf, ↓gIf_ft, ↓gIf_u, ↓gIfW_u, ↓gIfW_tt, ↓gIfW_ff, ↓gIfW_tf, ↓gIfW_ft, binI, divI, shiftI, add_mk, Nat.zero_add, cond_true, cond_false, decide_true, decide_false, Bool.not_true, Bool.not_false, Bool.and_true, Bool.true_and, Bool.and_false, Bool.false_and, Int.toNat_natCast, Nat.mul_one, ↓b1.c0, ↓b2.c0, bne_self, ↓b1.c1, ↓b2.c1]
  refine Same_c (hc.ext h12) (gc.ext h12) fun w3 h3 => ?_
  have h13 := h12.tr h3
  have b1 := b1.ext h3
  have b2 := b2.ext h3
  simp only [decide_true]
  simp only [↓eBinI, ↓eDiv, ↓eShift, ↓eBinS, ↓ePick, ↓eNot, ↓eNeg, ↓eConv, ↓eConvS, ↓eExt0, ↓eExt1, ↓eExt2, ↓eFA, ↓eIA, ↓eLenSl, ↓eCapSl, ↓eLenS, ↓eMin, ↓eMax, ↓eCondT, ↓eCondF, ↓gIf_tt, ↓gIf_ff, ↓gIf_tf, ↓gIf_ft, ↓gIf_u, ↓gIfW_u, ↓gIfW_tt, ↓gIfW_ff, ↓gIfW_tf, ↓gIfW_ft, binI, divI, shiftI, add_mk, Nat.zero_add, cond_true, cond_false, decide_true, decide_false, Bool.not_true, Bool.not_false, Bool.and_true, Bool.true_and, Bool.and_false, Bool.false_and, Int.toNat_natCast, Nat.mul_one, ↓b1.c2, ↓b2.c2, bne_self]
  refine oublietteref22_SameChain.loop1 (fun x5 w' => ∃ i : Nat, i ≤ sk.length ∧ x5 = .int .i64 (i : Int) ∧ Ext w3 w') (fun x5 _ => sk.length - (iv x5).toNat) ⟨0, by omega, rfl, Fr.refl _ _⟩ ?_
  rintro x5 gg w4 ⟨i, hi, rfl, h4⟩
  unfold oublietteref22_SameChain.b1
  have b1 := b1.ext h4
  have b2 := b2.ext h4
  by_cases ci : (i : Int) < (sk.length : Int)
  · simp only [↓eBinI, ↓eDiv, ↓eShift, ↓eBinS, ↓ePick, ↓eNot, ↓eNeg, ↓eConv, ↓eConvS, ↓eExt0, ↓eExt1, ↓eExt2, ↓eFA, ↓eIA, ↓eLenSl, ↓eCapSl, ↓eLenS, ↓eMin, ↓eMax, ↓eCondT, ↓eCondF, ↓gIf_tt, ↓gIf_ff, ↓gIf_tf, ↓gIf_ft, ↓gIf_u, ↓gIfW_u, ↓gIfW_tt, ↓gIfW_ff, ↓gIfW_tf, ↓gIfW_ft, binI, divI, shiftI, add_mk, Nat.zero_add, cond_true, cond_false, decide_true, decide_false, Bool.not_true, Bool.not_false, Bool.and_true, Bool.true_and, Bool.and_false, Bool.false_and, Int.toNat_natCast, Nat.mul_one, ↓b1.c2, ci]
    refine draw_ fun w5 h5 => ?_
    have b1 := b1.ext h5
    have b2 := b2.ext h5
    have h15 := (h13.tr h4).tr h5
    obtain ⟨ad, cc, vk, e1, s1, _, q0, q1, r1, _, _⟩ := skipAt (hv.ext h15) (i := i) (by omega)
    obtain ⟨ad', cc', vk', e1', s1', _, q0', q1', r1', _, _⟩ := skipAt (gv.ext h15) (i := i) (by omega)
    simp only [Value.slice.injEq] at e1 e1'
    obtain ⟨rfl, -, rfl⟩ := e1
    obtain ⟨rfl, -, rfl⟩ := e1'
    have ad0 : (ad.add (i * 2)).add 0 = ad.add (i * 2) := by rw [add_add _ _ _ s1]; rfl
    have ad0' : (ad'.add (i * 2)).add 0 = ad'.add (i * 2) := by rw [add_add _ _ _ s1']; rfl
    have e0 : IntKind.i64.wrap ((i : Int) + 1) = ((i + 1 : Nat) : Int) := by rw [wrap64 (by omega) (by omega)]; omega
    simp only [↓eBinI, ↓eDiv, ↓eShift, ↓eBinS, ↓ePick, ↓eNot, ↓eNeg, ↓eConv, ↓eConvS, ↓eExt0, ↓eExt1, ↓eExt2, ↓eFA, ↓eIA, ↓eLenSl, ↓eCapSl, ↓eLenS, ↓eMin, ↓eMax, ↓eCondT, ↓eCondF, ↓gIf_tt, ↓gIf_ff, ↓gIf_tf, ↓gIf_ft, ↓gIf_u, ↓gIfW_u, ↓gIfW_tt, ↓gIfW_ff, ↓gIfW_tf, ↓gIfW_ft, binI, divI, shiftI, add_mk, Nat.zero_add, cond_true, cond_false, decide_true, decide_false, Bool.not_true, Bool.not_false, Bool.and_true, Bool.true_and, Bool.and_false, Bool.false_and, Int.toNat_natCast, Nat.mul_one, ↓b1.e2, ↓b2.e2, ad0, ad0', ↓eLdE q0, ↓eLdE q0', ↓eLdE q1, ↓eLdE q1', bne_self]
    repeat ((with_reducible refine And.intro ?_ ?_); · first | omega | exact True.intro)
    refine Same_c r1 r1' fun w6 h6 => ?_
    refine ⟨h6, ?_⟩
    simp only [decide_true]
    simp only [↓eBinI, ↓eDiv, ↓eShift, ↓eBinS, ↓ePick, ↓eNot, ↓eNeg, ↓eConv, ↓eConvS, ↓eExt0, ↓eExt1, ↓eExt2, ↓eFA, ↓eIA, ↓eLenSl, ↓eCapSl, ↓eLenS, ↓eMin, ↓eMax, ↓eCondT, ↓eCondF, ↓gIf_tt, ↓gIf_ff, ↓gIf_tf, ↓gIf_ft, ↓gIf_u, ↓gIfW_u, ↓gIfW_tt, ↓gIfW_ff, ↓gIfW_tf, ↓gIfW_ft, binI, divI, shiftI, add_mk, Nat.zero_add, cond_true, cond_false, decide_true, decide_false, Bool.not_true, Bool.not_false, Bool.and_true, Bool.true_and, Bool.and_false, Bool.false_and, Int.toNat_natCast, Nat.mul_one, e0]
    exact oublietteref22_SameChain.leaf1 ⟨i + 1, by omega, rfl, (h4.tr h5).tr h6⟩ (by simp only [iv]; omega)
  · simp only [↓eBinI, ↓eDiv, ↓eShift, ↓eBinS, ↓ePick, ↓eNot, ↓eNeg, ↓eConv, ↓eConvS, ↓eExt0, ↓eExt1, ↓eExt2, ↓eFA, ↓eIA, ↓eLenSl, ↓eCapSl, ↓eLenS, ↓eMin, ↓eMax, ↓eCondT, ↓eCondF, ↓gIf_tt, ↓gIf_ff, ↓gIf_tf, ↓gIf_ft, ↓gIf_u, ↓gIfW_u, ↓gIfW_tt, ↓gIfW_ff, ↓gIfW_tf, ↓gIfW_ft, binI, divI, shiftI, add_mk, Nat.zero_add, cond_true, cond_false, decide_true, decide_false, Bool.not_true, Bool.not_false, Bool.and_true, Bool.true_and, Bool.and_false, Bool.false_and, Int.toNat_natCast, Nat.mul_one, ↓b1.c2, ci]
    exact h _ (h13.tr h4)
end Go.Proofs.YtkpgmaiklfjjgaaDoor
end
