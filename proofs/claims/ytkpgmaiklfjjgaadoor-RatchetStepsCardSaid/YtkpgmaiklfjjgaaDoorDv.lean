/-
  Places, what is dropped, and gens that are stepped to.
-/
import Derived.Test.YtkpgmaiklfjjgaaDoorDu
set_option linter.unusedSimpArgs false
set_option linter.unusedVariables false
namespace Go.Proofs.YtkpgmaiklfjjgaaDoor
open Go Go.G Go.RowKit
variable {X : KX} {w : World} {K : KV} {D D' : Nat → Prop}
theorem rd_bd : ∀ {t : Ty} {D : Nat → Prop} {w : World} {vs : List Value} {x : t.D}, Rd t D w vs x → Rd t (fun b => D b ∧ b < w.heap.size) w vs x
  | .int _, _, _, _, _, h => h
  | .byte, _, _, _, _, h => h
  | .bool, _, _, _, _, h => h
  | .str, _, _, _, _, h => h
  | .slice t, D, w, vs, xs, h => by
    obtain ⟨a, c, e, hc, hl, hne⟩ := h
    refine ⟨a, c, e, hc, hl, fun hn => ?_⟩
    obtain ⟨ad, e1, e2, e3, e4⟩ := hne hn
    have hp : 0 < xs.length := List.length_pos_iff.2 hn
    have hlt : ad.block < w.heap.size := by
      obtain ⟨cs, f1, f2, _⟩ := e4 0 hp
      have hn0 := t.n_pos
      have := cell_lt (f2 0 (cs[0]'(by omega)) (List.getElem?_eq_getElem _))
      rwa [add_block] at this
    refine ⟨ad, e1, e2, ⟨e3, hlt⟩, fun i hi => ?_⟩
    obtain ⟨cs, f1, f2, f3⟩ := e4 i hi
    exact ⟨cs, f1, f2, rd_bd f3⟩
  | .pair a b, D, w, vs, x, h => by
    obtain ⟨va, vb, e, ha, hb, h1, h2⟩ := h
    exact ⟨va, vb, e, ha, hb, rd_bd h1, rd_bd h2⟩
theorem placeF_some {sk : List (Int × List UInt8)} {gen : Int} {i : Nat} (h : i < sk.length) (he : sk[i].1 = gen) (hn : ∀ j (hj : j < i), (sk[j]'(by omega)).1 ≠ gen) : placeF sk gen = (i : Int) := by
  have : sk.findIdx? (fun x => x.1 == gen) = some i := by
    rw [List.findIdx?_eq_some_iff_getElem]
    exact ⟨h, by simpa using he, fun j hj => by simpa using hn j hj⟩
  unfold placeF; rw [this]
theorem placeF_none {sk : List (Int × List UInt8)} {gen : Int} (hn : ∀ j (hj : j < sk.length), sk[j].1 ≠ gen) : placeF sk gen = -1 := by
  have : sk.findIdx? (fun x => x.1 == gen) = none := by
    rw [List.findIdx?_eq_none_iff]
    intro x hx
    obtain ⟨j, hj, rfl⟩ := List.mem_iff_getElem.1 hx
    simpa using hn j hj
  unfold placeF; rw [this]
/-- The row of a skip, loaded whole. -/
theorem ldSkip {ad : Addr} {i : Nat} {us : List Value} {K : KP} (s1 : ad.spot = none) (hus : us.length = 2) (q1 : ∀ j u, us[j]? = some u → w.cell? (ad.add (i * 2 + j)) = some u) (h : K (.agg ⟨us⟩)) : pLdN (· = w) 2 (.pointer (some (ad.add (i * 2)))) K := by
  refine ⟨ad.add (i * 2), us, rfl, hus, fun w' e j hj => ?_, h⟩
  subst e
  rw [add_add _ _ _ s1]
  rw [List.getElem?_eq_getElem (by omega)]
  exact q1 j _ (List.getElem?_eq_getElem _)
theorem IndexFunc_c {v : Value} {g : Nat} {gen : Int} {sk : List (Int × List UInt8)} (hv : Rd (.slice tSkip) D w [v] sk) (hc : Cs w g [.int .i64 gen]) (h : ∀ w', Ext w w' → K (.int .i64 (placeF sk gen)) w') : GCalls Tryd.prog 76 [v, .func (.func 77) #[] #[.pointer (some ⟨g, 0, none⟩)]] K X w := by
  obtain ⟨a1, c1, rfl, hc1, hl1⟩ := hv.form
  apply slices_IndexFunc_record_Skip_record_Skip.calls; unfold slices_IndexFunc_record_Skip_record_Skip.b
  simp only [↓eBinI, ↓eDiv, ↓eShift, ↓eBinS, ↓ePick, ↓eNot, ↓eNeg, ↓eConv, ↓eConvS, ↓eExt0, ↓eExt1, ↓eExt2, ↓eFA, ↓eIA, ↓eLenSl, ↓eCapSl, ↓eLenS, ↓eMin, ↓eMax, ↓eCondT, ↓eCondF, ↓gIf_tt, ↓gIf_ff, ↓gIf_tf, ↓gIf_ft, ↓gIf_u, ↓gIfW_u, ↓gIfW_tt, ↓gIfW_ff, ↓gIfW_tf, ↓gIfW_ft, binI, divI, shiftI, add_mk, Nat.zero_add, cond_true, cond_false, decide_true, decide_false, Bool.not_true, Bool.not_false, Bool.and_true, Bool.true_and, Bool.and_false, Bool.false_and, Int.toNat_natCast, Nat.mul_one]
  refine slices_IndexFunc_record_Skip_record_Skip.loop1 (fun x8 w' => ∃ i : Nat, i ≤ sk.length ∧ x8 = .int .i64 (i : Int) ∧ Ext w w' ∧ ∀ j (hj : j < i) (hl : j < sk.length), sk[j].1 ≠ gen) (fun x8 _ => sk.length - (iv x8).toNat) ⟨0, by omega, rfl, Fr.refl _ _, fun j hj => by omega⟩ ?_
  rintro x8 gg w1 ⟨i, hi, rfl, h1, hn⟩
  unfold slices_IndexFunc_record_Skip_record_Skip.b1
  by_cases ci : (i : Int) < (sk.length : Int)
  · obtain ⟨ad, c', us, e1, s1, _, hus, q1, r1⟩ := (hv.ext h1).idxN (i := i) (by omega)
    simp only [Value.slice.injEq] at e1
    obtain ⟨rfl, -, rfl⟩ := e1
    obtain ⟨va, vb, rfl, hva, hvb, r2, r3⟩ := r1
    obtain ⟨rfl, hp0, hp1⟩ := r2
    obtain ⟨a2, c2', rfl, hc2, hl2, hr3⟩ := r3
    simp only [↓eBinI, ↓eDiv, ↓eShift, ↓eBinS, ↓ePick, ↓eNot, ↓eNeg, ↓eConv, ↓eConvS, ↓eExt0, ↓eExt1, ↓eExt2, ↓eFA, ↓eIA, ↓eLenSl, ↓eCapSl, ↓eLenS, ↓eMin, ↓eMax, ↓eCondT, ↓eCondF, ↓gIf_tt, ↓gIf_ff, ↓gIf_tf, ↓gIf_ft, ↓gIf_u, ↓gIfW_u, ↓gIfW_tt, ↓gIfW_ff, ↓gIfW_tf, ↓gIfW_ft, binI, divI, shiftI, add_mk, Nat.zero_add, cond_true, cond_false, decide_true, decide_false, Bool.not_true, Bool.not_false, Bool.and_true, Bool.true_and, Bool.and_false, Bool.false_and, Int.toNat_natCast, Nat.mul_one, ci]
    repeat ((with_reducible refine And.intro ?_ ?_); · first | omega | exact True.intro)
    refine ldSkip s1 hus q1 ?_
    refine (?_ : GCalls Tryd.prog 77 [.agg ⟨[.int .i64 sk[i].1, .slice a2 sk[i].2.length c2']⟩, .pointer (some ⟨g, 0, none⟩)] _ X w1)
    refine place1_c rfl (hc.ext h1) fun w2 h2 => ?_
    by_cases ce : sk[i].1 = gen
    · have : (sk[i].1 == gen) = true := by simpa using ce
      simp only [↓eBinI, ↓eDiv, ↓eShift, ↓eBinS, ↓ePick, ↓eNot, ↓eNeg, ↓eConv, ↓eConvS, ↓eExt0, ↓eExt1, ↓eExt2, ↓eFA, ↓eIA, ↓eLenSl, ↓eCapSl, ↓eLenS, ↓eMin, ↓eMax, ↓eCondT, ↓eCondF, ↓gIf_tt, ↓gIf_ff, ↓gIf_tf, ↓gIf_ft, ↓gIf_u, ↓gIfW_u, ↓gIfW_tt, ↓gIfW_ff, ↓gIfW_tf, ↓gIfW_ft, binI, divI, shiftI, add_mk, Nat.zero_add, cond_true, cond_false, decide_true, decide_false, Bool.not_true, Bool.not_false, Bool.and_true, Bool.true_and, Bool.and_false, Bool.false_and, Int.toNat_natCast, Nat.mul_one, this]
      rw [← placeF_some (by omega) ce (fun j hj => hn j hj (by omega))]
      exact h _ (h1.tr h2)
    · have : (sk[i].1 == gen) = false := by simpa using ce
      have e0 : IntKind.i64.wrap ((i : Int) + 1) = ((i + 1 : Nat) : Int) := by rw [wrap64 (by omega) (by omega)]; omega
      simp only [↓eBinI, ↓eDiv, ↓eShift, ↓eBinS, ↓ePick, ↓eNot, ↓eNeg, ↓eConv, ↓eConvS, ↓eExt0, ↓eExt1, ↓eExt2, ↓eFA, ↓eIA, ↓eLenSl, ↓eCapSl, ↓eLenS, ↓eMin, ↓eMax, ↓eCondT, ↓eCondF, ↓gIf_tt, ↓gIf_ff, ↓gIf_tf, ↓gIf_ft, ↓gIf_u, ↓gIfW_u, ↓gIfW_tt, ↓gIfW_ff, ↓gIfW_tf, ↓gIfW_ft, binI, divI, shiftI, add_mk, Nat.zero_add, cond_true, cond_false, decide_true, decide_false, Bool.not_true, Bool.not_false, Bool.and_true, Bool.true_and, Bool.and_false, Bool.false_and, Int.toNat_natCast, Nat.mul_one, this, e0]
      refine slices_IndexFunc_record_Skip_record_Skip.leaf1 ⟨i + 1, by omega, rfl, h1.tr h2, fun j hj hl => ?_⟩ (by simp only [iv]; omega)
      by_cases hji : j = i
      · subst hji; exact ce
      · exact hn j (by omega) hl
  · simp only [↓eBinI, ↓eDiv, ↓eShift, ↓eBinS, ↓ePick, ↓eNot, ↓eNeg, ↓eConv, ↓eConvS, ↓eExt0, ↓eExt1, ↓eExt2, ↓eFA, ↓eIA, ↓eLenSl, ↓eCapSl, ↓eLenS, ↓eMin, ↓eMax, ↓eCondT, ↓eCondF, ↓gIf_tt, ↓gIf_ff, ↓gIf_tf, ↓gIf_ft, ↓gIf_u, ↓gIfW_u, ↓gIfW_tt, ↓gIfW_ff, ↓gIfW_tf, ↓gIfW_ft, binI, divI, shiftI, add_mk, Nat.zero_add, cond_true, cond_false, decide_true, decide_false, Bool.not_true, Bool.not_false, Bool.and_true, Bool.true_and, Bool.and_false, Bool.false_and, Int.toNat_natCast, Nat.mul_one, ci]
    have : i = sk.length := by omega
    subst this
    rw [← placeF_none (fun j hj => hn j hj hj)]
    exact h _ h1
theorem place_c {gen g : Int} {vc vs : Value} {sk : List (Int × List UInt8)} (hv : Rd (.slice tSkip) D w [vs] sk) (h : ∀ w', Ext w w' → K (.int .i64 (placeF sk g)) w') : GCalls Tryd.prog 49 [chainV gen vc vs, .int .i64 g] K X w := by
  apply ratchet_place.calls; unfold ratchet_place.b
  refine boxC (cs := [.int .i64 gen, vc, vs]) fun g2 w1 hg h1 c1 => ?_
  refine boxV rfl fun g3 w2 hg3 h2 c2 => ?_
  simp only [↓eBinI, ↓eDiv, ↓eShift, ↓eBinS, ↓ePick, ↓eNot, ↓eNeg, ↓eConv, ↓eConvS, ↓eExt0, ↓eExt1, ↓eExt2, ↓eFA, ↓eIA, ↓eLenSl, ↓eCapSl, ↓eLenS, ↓eMin, ↓eMax, ↓eCondT, ↓eCondF, ↓gIf_tt, ↓gIf_ff, ↓gIf_tf, ↓gIf_ft, ↓gIf_u, ↓gIfW_u, ↓gIfW_tt, ↓gIfW_ff, ↓gIfW_tf, ↓gIfW_ft, binI, divI, shiftI, add_mk, Nat.zero_add, cond_true, cond_false, decide_true, decide_false, Bool.not_true, Bool.not_false, Bool.and_true, Bool.true_and, Bool.and_false, Bool.false_and, Int.toNat_natCast, Nat.mul_one, ↓(c1.ext h2).c2]
  exact IndexFunc_c (hv.ext (h1.tr h2)) c2 fun w3 h3 => h _ ((h1.tr h2).tr h3)
def hasF (g0 : Int) (sk : List (Int × List UInt8)) (g : Int) : Bool := decide (g ≥ g0) || decide (placeF sk g ≥ 0)
theorem Has_c {gen g : Int} {vc vs : Value} {sk : List (Int × List UInt8)} (hv : Rd (.slice tSkip) D w [vs] sk) (h : ∀ w', Ext w w' → K (.bool (hasF gen sk g)) w') : GCalls Tryd.prog 20 [chainV gen vc vs, .int .i64 g] K X w := by
  apply ratchet_Has.calls; unfold ratchet_Has.b
  refine boxC (cs := [.int .i64 gen, vc, vs]) fun g2 w1 hg h1 c1 => ?_
  by_cases cg : g ≥ gen
  · simp only [↓eBinI, ↓eDiv, ↓eShift, ↓eBinS, ↓ePick, ↓eNot, ↓eNeg, ↓eConv, ↓eConvS, ↓eExt0, ↓eExt1, ↓eExt2, ↓eFA, ↓eIA, ↓eLenSl, ↓eCapSl, ↓eLenS, ↓eMin, ↓eMax, ↓eCondT, ↓eCondF, ↓gIf_tt, ↓gIf_ff, ↓gIf_tf, ↓gIf_ft, ↓gIf_u, ↓gIfW_u, ↓gIfW_tt, ↓gIfW_ff, ↓gIfW_tf, ↓gIfW_ft, binI, divI, shiftI, add_mk, Nat.zero_add, cond_true, cond_false, decide_true, decide_false, Bool.not_true, Bool.not_false, Bool.and_true, Bool.true_and, Bool.and_false, Bool.false_and, Int.toNat_natCast, Nat.mul_one, ↓c1.c0, cg]
    have := h w1 h1
    rw [hasF, decide_eq_true cg, Bool.true_or] at this
    exact this
  · simp only [↓eBinI, ↓eDiv, ↓eShift, ↓eBinS, ↓ePick, ↓eNot, ↓eNeg, ↓eConv, ↓eConvS, ↓eExt0, ↓eExt1, ↓eExt2, ↓eFA, ↓eIA, ↓eLenSl, ↓eCapSl, ↓eLenS, ↓eMin, ↓eMax, ↓eCondT, ↓eCondF, ↓gIf_tt, ↓gIf_ff, ↓gIf_tf, ↓gIf_ft, ↓gIf_u, ↓gIfW_u, ↓gIfW_tt, ↓gIfW_ff, ↓gIfW_tf, ↓gIfW_ft, binI, divI, shiftI, add_mk, Nat.zero_add, cond_true, cond_false, decide_true, decide_false, Bool.not_true, Bool.not_false, Bool.and_true, Bool.true_and, Bool.and_false, Bool.false_and, Int.toNat_natCast, Nat.mul_one, ↓c1.c0, cg, ↓c1.ld3]
    refine (?_ : GCalls Tryd.prog 49 [chainV gen vc vs, .int .i64 g] _ X w1)
    refine place_c (hv.ext h1) fun w2 h2 => ?_
    simp only [↓eBinI, ↓eDiv, ↓eShift, ↓eBinS, ↓ePick, ↓eNot, ↓eNeg, ↓eConv, ↓eConvS, ↓eExt0, ↓eExt1, ↓eExt2, ↓eFA, ↓eIA, ↓eLenSl, ↓eCapSl, ↓eLenS, ↓eMin, ↓eMax, ↓eCondT, ↓eCondF, ↓gIf_tt, ↓gIf_ff, ↓gIf_tf, ↓gIf_ft, ↓gIf_u, ↓gIfW_u, ↓gIfW_tt, ↓gIfW_ff, ↓gIfW_tf, ↓gIfW_ft, binI, divI, shiftI, add_mk, Nat.zero_add, cond_true, cond_false, decide_true, decide_false, Bool.not_true, Bool.not_false, Bool.and_true, Bool.true_and, Bool.and_false, Bool.false_and, Int.toNat_natCast, Nat.mul_one]
    have := h w2 (h1.tr h2)
    rw [hasF, decide_eq_false cg, Bool.false_or] at this
    exact this
theorem Drop_c {gen n : Int} {vc vs : Value} {cur : List UInt8} {sk : List (Int × List UInt8)} (hc : Rd (.slice .byte) D w [vc] cur) (hv : Rd (.slice tSkip) D' w [vs] sk) (hcl : cur.length ≤ 1000) (hsl : sk.length ≤ 1000) (hse : ∀ i (h : i < sk.length), sk[i].2.length ≤ 1000) (hn0 : -1000 ≤ n) (hn1 : n ≤ 1000)
    (h : ∀ vc' vs' w', Ext w w' → Rd (.slice .byte) (w.heap.size ≤ ·) w' [vc'] cur → Rd (.slice tSkip) (w.heap.size ≤ ·) w' [vs'] (sk.drop (sk.length - n.toNat)) → K (chainV gen vc' vs') w') : GCalls Tryd.prog 50 [chainV gen vc vs, .int .i64 n] K X w := by
  obtain ⟨av, cv, rfl, hcv, hlv⟩ := hv.form
  have oc := one_of_rd hc
  apply ratchet_Drop.calls; unfold ratchet_Drop.b
  refine boxC (cs := [.int .i64 gen, vc, .slice av sk.length cv]) fun g2 w1 hg2 h1 c1 => ?_
  refine boxC (cs := [.int .i64 0, .slice none 0 0, .slice none 0 0]) fun g4 w2 hg4 h2 c2 => ?_
  have z1 := h1.size; have z2 := h2.size; have l1 := c1.lt; have l2 := c2.lt
  have h12 := h1.tr h2
  have c1 := c1.ext h2
  have e1 : (if n < 0 then (0 : Int) else n) = ((n.toNat : Nat) : Int) := by split <;> omega
  have e2 : IntKind.i64.wrap ((sk.length : Int) - ((n.toNat : Nat) : Int)) = (sk.length : Int) - ((n.toNat : Nat) : Int) := wrap64 (by omega) (by omega)
  have e3 : (if (0 : Int) < (sk.length : Int) - ((n.toNat : Nat) : Int) then (sk.length : Int) - ((n.toNat : Nat) : Int) else 0) = ((sk.length - n.toNat : Nat) : Int) := by split <;> omega
  simp only [↓eBinI, ↓eDiv, ↓eShift, ↓eBinS, ↓ePick, ↓eNot, ↓eNeg, ↓eConv, ↓eConvS, ↓eExt0, ↓eExt1, ↓eExt2, ↓eFA, ↓eIA, ↓eLenSl, ↓eCapSl, ↓eLenS, ↓eMin, ↓eMax, ↓eCondT, ↓eCondF, ↓gIf_tt, ↓gIf_ff, ↓gIf_tf, ↓gIf_ft, ↓gIf_u, ↓gIfW_u, ↓gIfW_tt, ↓gIfW_ff, ↓gIfW_tf, ↓gIfW_ft, binI, divI, shiftI, add_mk, Nat.zero_add, cond_true, cond_false, decide_true, decide_false, Bool.not_true, Bool.not_false, Bool.and_true, Bool.true_and, Bool.and_false, Bool.false_and, Int.toNat_natCast, Nat.mul_one, ↓c1.c2, e1, e2, e3]
  refine draw_ fun w3 h3 => ?_
  have c3 := c1.ext h3
  simp only [↓eBinI, ↓eDiv, ↓eShift, ↓eBinS, ↓ePick, ↓eNot, ↓eNeg, ↓eConv, ↓eConvS, ↓eExt0, ↓eExt1, ↓eExt2, ↓eFA, ↓eIA, ↓eLenSl, ↓eCapSl, ↓eLenS, ↓eMin, ↓eMax, ↓eCondT, ↓eCondF, ↓gIf_tt, ↓gIf_ff, ↓gIf_tf, ↓gIf_ft, ↓gIf_u, ↓gIfW_u, ↓gIfW_tt, ↓gIfW_ff, ↓gIfW_tf, ↓gIfW_ft, binI, divI, shiftI, add_mk, Nat.zero_add, cond_true, cond_false, decide_true, decide_false, Bool.not_true, Bool.not_false, Bool.and_true, Bool.true_and, Bool.and_false, Bool.false_and, Int.toNat_natCast, Nat.mul_one, ↓c3.e1]
  refine eSl (l := sk.length - n.toNat) (h := sk.length) (m := sk.length) (bnd_int (by omega)) (bnd_int (by omega)) (bnd_int (by omega)) (by omega) (by omega) (by omega) (by simp) ?_
  have h13 := h12.tr h3
  have z3 := h3.size
  have hcut := (hv.ext h13).cut (l := sk.length - n.toNat) (e := sk.length) (m := sk.length) (by omega) (by omega) (by omega) (by omega)
  rw [List.take_of_length_le (Nat.le_refl _)] at hcut
  refine Clone_c (hc.ext h13) (by omega) fun v4 w4 h4 o4 hv4 => ?_
  refine anew_ ?_
  try simp only [↓eBinI, ↓eDiv, ↓eShift, ↓eBinS, ↓ePick, ↓eNot, ↓eNeg, ↓eConv, ↓eConvS, ↓eExt0, ↓eExt1, ↓eExt2, ↓eFA, ↓eIA, ↓eLenSl, ↓eCapSl, ↓eLenS, ↓eMin, ↓eMax, ↓eCondT, ↓eCondF, ↓gIf_tt, ↓gIf_ff, ↓gIf_tf, ↓gIf_ft, ↓gIf_u, ↓gIfW_u, ↓gIfW_tt, ↓gIfW_ff, ↓gIfW_tf, ↓gIfW_ft, binI, divI, shiftI, add_mk, Nat.zero_add, cond_true, cond_false, decide_true, decide_false, Bool.not_true, Bool.not_false, Bool.and_true, Bool.true_and, Bool.and_false, Bool.false_and, Int.toNat_natCast, Nat.mul_one]
  have z4 := h4.size
  refine ratchet_copied_c (hcut.ext h4) (by rw [List.length_drop]; omega) (fun i hi => by rw [List.getElem_drop]; exact hse _ (by rw [List.length_drop] at hi; omega)) fun vs' w5 D2 h5 o5 hD2 hb5 => ?_
  refine ⟨h5, ?_⟩
  have z5 := h5.size
  have c5 := (c3.ext h4).ext h5
  have os' : one vs' = true := by obtain ⟨a, c, e, _⟩ := o5.form; rw [e]; rfl
  try simp only [↓eBinI, ↓eDiv, ↓eShift, ↓eBinS, ↓ePick, ↓eNot, ↓eNeg, ↓eConv, ↓eConvS, ↓eExt0, ↓eExt1, ↓eExt2, ↓eFA, ↓eIA, ↓eLenSl, ↓eCapSl, ↓eLenS, ↓eMin, ↓eMax, ↓eCondT, ↓eCondF, ↓gIf_tt, ↓gIf_ff, ↓gIf_tf, ↓gIf_ft, ↓gIf_u, ↓gIfW_u, ↓gIfW_tt, ↓gIfW_ff, ↓gIfW_tf, ↓gIfW_ft, binI, divI, shiftI, add_mk, Nat.zero_add, cond_true, cond_false, decide_true, decide_false, Bool.not_true, Bool.not_false, Bool.and_true, Bool.true_and, Bool.and_false, Bool.false_and, Int.toNat_natCast, Nat.mul_one]
  refine c5.set (i := 1) (by simp) hv4 fun w6 c6 f6 => ?_
  refine anew_ ?_
  try simp only [↓eBinI, ↓eDiv, ↓eShift, ↓eBinS, ↓ePick, ↓eNot, ↓eNeg, ↓eConv, ↓eConvS, ↓eExt0, ↓eExt1, ↓eExt2, ↓eFA, ↓eIA, ↓eLenSl, ↓eCapSl, ↓eLenS, ↓eMin, ↓eMax, ↓eCondT, ↓eCondF, ↓gIf_tt, ↓gIf_ff, ↓gIf_tf, ↓gIf_ft, ↓gIf_u, ↓gIfW_u, ↓gIfW_tt, ↓gIfW_ff, ↓gIfW_tf, ↓gIfW_ft, binI, divI, shiftI, add_mk, Nat.zero_add, cond_true, cond_false, decide_true, decide_false, Bool.not_true, Bool.not_false, Bool.and_true, Bool.true_and, Bool.and_false, Bool.false_and, Int.toNat_natCast, Nat.mul_one]
  refine c6.set (i := 2) (by simp) os' fun w7 c7 f7 => ?_
  have c7 : Cs w7 g2 [.int .i64 gen, v4, vs'] := c7
  refine anew_ ?_
  rw [c7.ld3]
  have f57 : Fr (· = g2) w5 w7 := f6.trans f7 (fun _ _ h => h)
  have cz : Cs w7 g4 [.int .i64 0, .slice none 0 0, .slice none 0 0] := (((c2.ext h3).ext h4).ext h5).fr f57 (by omega)
  refine cz.setN (l' := [.int .i64 gen, v4, vs']) rfl rfl (allOne3 rfl hv4 os') fun w8 c8 f8 => ?_
  rw [c8.ld3]
  have f58 : Fr (fun b => b = g2 ∨ b = g4) w5 w8 := (f57.mono (fun _ _ h => .inl h)).trans f8 (fun _ _ h => .inr h)
  have h15 := (h13.tr h4).tr h5
  have hll : (sk.drop (sk.length - n.toNat)).length < 9223372036854775808 := by rw [List.length_drop]; omega
  refine h v4 vs' w8 (h15.tn f58 (fun x hx => by omega)) ?_ ?_
  · exact (((own_rd o4 (by show cur.length < _; omega)).ext h5).fr f58 (fun b hb => by omega)).wide (fun b hb => by omega)
  · exact ((o5.rd2 (D' := fun b => w4.heap.size ≤ b) (fun b hb => (hD2 b hb).1) (fun b hb hB _ => hB) hll).fr f58 (fun b hb => by omega)).wide (fun b hb => by omega)
end Go.Proofs.YtkpgmaiklfjjgaaDoor
