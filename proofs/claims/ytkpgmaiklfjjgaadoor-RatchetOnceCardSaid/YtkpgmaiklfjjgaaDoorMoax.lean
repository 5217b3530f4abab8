/-
  At a gen that is still to come.
  Alive: a chain that is stepped.
-/
import Derived.Test.YtkpgmaiklfjjgaaDoorMoaw
section
set_option linter.unusedSimpArgs false
set_option linter.unusedVariables false
namespace Go.Proofs.YtkpgmaiklfjjgaaDoor
open Go Go.G Go.RowKit
variable {X : KX} {w : World} {K : KV} {D D' : Nat → Prop}
def curF (cur : List UInt8) : Nat → List UInt8
  | 0 => cur
  | n + 1 => deriveF (curF cur n) nextL
theorem curF_len {cur : List UInt8} (h : cur.length ≤ 1000) : ∀ n, (curF cur n).length ≤ 1000
  | 0 => h
  | n + 1 => by rw [curF, deriveF_len]; omega
def skF (g0 : Int) (cur : List UInt8) (n : Nat) : List (Int × List UInt8) := (List.range n).map fun (i : Nat) => (g0 + (i : Int), deriveF (curF cur i) keyL)
theorem skF_succ (g0 : Int) (cur : List UInt8) (n : Nat) : skF g0 cur (n + 1) = skF g0 cur n ++ [(g0 + (n : Int), deriveF (curF cur n) keyL)] := by simp [skF, List.range_succ]
theorem skF_len (g0 : Int) (cur : List UInt8) (n : Nat) : (skF g0 cur n).length = n := by simp [skF]
theorem sk_le {sk : List (Int × List UInt8)} {g0 : Int} {cur : List UInt8} {n : Nat} (h : ∀ i (h : i < sk.length), sk[i].2.length ≤ 1000) : ∀ i (h : i < (sk ++ skF g0 cur n).length), (sk ++ skF g0 cur n)[i].2.length ≤ 1000 := by
  intro i hi
  by_cases c : i < sk.length
  · rw [List.getElem_append_left c]; exact h i c
  · rw [List.getElem_append_right (by omega)]
    simp [skF, deriveF_len]
def cellG (w : World) (g : Nat) : Int := match w.cell? ⟨g, 0, none⟩ with | some v => iv v | none => 0
set_option maxHeartbeats 1000000 in
set_option maxRecDepth 100000 in
theorem AtGo_c {gs : Nat} {g0 gen win : Int} {vc vs : Value} {cur : List UInt8} {sk : List (Int × List UInt8)} (hs : SReal w gs) (hk : KT w) (hc : Rd (.slice .byte) D w [vc] cur) (hv : Rd (.slice tSkip) D' w [vs] sk)
    (hcl : cur.length ≤ 1000) (hsl : sk.length ≤ 100) (hse : ∀ i (h : i < sk.length), sk[i].2.length ≤ 1000) (hw1 : 1 ≤ win) (hw8 : win ≤ 8) (hg0 : 0 ≤ g0) (hge : g0 ≤ gen) (hgm : gen < 1073741824) (hgw : gen - g0 ≤ win)
    (h : ∀ vk vc' vs' w', Ext w w' → Rd (.slice .byte) (w.heap.size ≤ ·) w' [vk] (deriveF (curF cur (gen - g0).toNat) keyL) → Rd (.slice .byte) (w.heap.size ≤ ·) w' [vc'] (curF cur ((gen - g0).toNat + 1)) →
      Rd (.slice tSkip) (w.heap.size ≤ ·) w' [vs'] ((sk ++ skF g0 cur (gen - g0).toNat).drop ((sk ++ skF g0 cur (gen - g0).toNat).length - win.toNat)) → K (.tuple #[vk, chainV (gen + 1) vc' vs', .int .i64 0]) w') :
    GCalls Tryd.prog 21 [.pointer (some ⟨gs, 0, none⟩), chainV g0 vc vs, .int .i64 gen, .int .i64 win] K X w := by
  have oc := one_of_rd hc
  have os := one_of_rd hv
  apply ratchet_At.calls; unfold ratchet_At.b
  refine boxC (cs := [.int .i64 g0, vc, vs]) fun g5 w1 hg5 h1 c1 => ?_
  refine boxC (cs := [.int .i64 0, .slice none 0 0, .slice none 0 0]) fun g9 w2 hg9 h2 c2 => ?_
  have z1 := h1.size; have z2 := h2.size; have l1 := c1.lt; have l2 := c2.lt
  have h12 := h1.tr h2
  have c1 := c1.ext h2
  rw [c1.ld3]
  refine (?_ : GCalls Tryd.prog 49 [chainV g0 vc vs, .int .i64 gen] _ X w2)
  refine place_c (hv.ext h12) fun w3 h3 => ?_
  have z3 := h3.size
  have h13 := h12.tr h3
  have c1 := c1.ext h3
  have d1 : ¬ (win < 1) := by omega
  have d2 : ¬ (win > 8) := by omega
  have d3 : ¬ (gen < 0) := by omega
  have d4 : ¬ (gen ≥ 1073741824) := by omega
  have d5 : ¬ (g0 < 0) := by omega
  have d6 : ¬ (gen < g0) := by omega
  have e1 : IntKind.i64.wrap (gen - g0) = gen - g0 := wrap64 (by omega) (by omega)
  have d7 : ¬ (gen - g0 > win) := by omega
  simp only [↓eBinI, ↓eDiv, ↓eShift, ↓eBinS, ↓ePick, ↓eNot, ↓eNeg, ↓eConv, ↓eConvS, ↓eExt0, ↓eExt1, ↓eExt2, ↓eFA, ↓eIA, ↓eLenSl, ↓eCapSl, ↓eLenS, ↓eMin, ↓eMax, ↓eCondT, ↓eCondF, ↓gIf_tt, ↓gIf_ff, ↓gIf_tf, ↓gIf_ft, ↓gIf_u, ↓gIfW_u, ↓gIfW_tt, ↓gIfW_ff, ↓gIfW_tf, ↓gIfW_ft, binI, divI, shiftI, add_mk, Nat.zero_add, cond_true, cond_false, decide_true, decide_false, Bool.not_true, Bool.not_false, Bool.and_true, Bool.true_and, Bool.and_false, Bool.false_and, Int.toNat_natCast, Nat.mul_one, d1, d2, d3, d4, ↓c1.c0, d5, d6, e1, d7]
  obtain ⟨n, hn⟩ : ∃ n : Nat, gen = g0 + (n : Int) := ⟨(gen - g0).toNat, by omega⟩
  have hnn : (gen - g0).toNat = n := by omega
  rw [hnn] at h
  refine ratchet_At.loop1 (fun w' => ∃ (j : Nat) (vc vs : Value), j ≤ n ∧ Ext w w' ∧ Cs w' g5 [.int .i64 (g0 + (j : Int)), vc, vs] ∧ Cs w' g9 [.int .i64 0, .slice none 0 0, .slice none 0 0] ∧ Rd (.slice .byte) (fun b => b ≠ g5 ∧ b ≠ g9) w' [vc] (curF cur j) ∧ Rd (.slice tSkip) (fun b => b ≠ g5 ∧ b ≠ g9) w' [vs] (sk ++ skF g0 cur j)) (fun w' => (gen - cellG w' g5).toNat)
    ⟨0, vc, vs, by omega, h13, by simpa using c1, c2.ext h3, ((rd_bd hc).ext h13).wide (fun b hb => by omega), by simpa [skF] using ((rd_bd hv).ext h13).wide (fun b hb => by omega)⟩ ?_
  rintro gg w4 ⟨j, vc, vs, hj, h4, c4, c9, rc, rs⟩
  unfold ratchet_At.b1
  have z4 := h4.size
  have l4 := c4.lt; have l9 := c9.lt
  rw [c4.ld3]
  have hsl2 : (sk ++ skF g0 cur j).length ≤ 1000 := by rw [List.length_append, skF_len]; omega
  refine (?_ : GCalls Tryd.prog 12 [.pointer (some ⟨gs, 0, none⟩), chainV (g0 + (j : Int)) vc vs] _ X w4)
  refine Step_c (hs.ext h4) (hk.ext h4) rc rs (by omega) (by omega) (curF_len hcl j) hsl2 (sk_le hse) fun vk vn vs' w5 D2 B h5 hB hBle rk rn o5 hD2 hb5 => ?_
  have z5 := h5.size
  have on := one_of_rd rn
  have os' : one vs' = true := by obtain ⟨a, c, e, _⟩ := o5.form; rw [e]; rfl
  simp only [↓eBinI, ↓eDiv, ↓eShift, ↓eBinS, ↓ePick, ↓eNot, ↓eNeg, ↓eConv, ↓eConvS, ↓eExt0, ↓eExt1, ↓eExt2, ↓eFA, ↓eIA, ↓eLenSl, ↓eCapSl, ↓eLenS, ↓eMin, ↓eMax, ↓eCondT, ↓eCondF, ↓gIf_tt, ↓gIf_ff, ↓gIf_tf, ↓gIf_ft, ↓gIf_u, ↓gIfW_u, ↓gIfW_tt, ↓gIfW_ff, ↓gIfW_tf, ↓gIfW_ft, binI, divI, shiftI, add_mk, Nat.zero_add, cond_true, cond_false, decide_true, decide_false, Bool.not_true, Bool.not_false, Bool.and_true, Bool.true_and, Bool.and_false, Bool.false_and, Int.toNat_natCast, Nat.mul_one, chainV]
  refine boxC (cs := [.int .i64 0, .slice none 0 0, .slice none 0 0]) fun g14 w6 hg14 h6 c14 => ?_
  have z6 := h6.size; have l14 := c14.lt
  refine c14.setN (l' := [.int .i64 (g0 + (j : Int) + 1), vn, vs']) rfl rfl (allOne3 rfl on os') fun w7 c7 f7 => ?_
  have z7 := f7.size
  have h57 : Ext w5 w7 := h6.tn f7 (fun x hx => by omega)
  have h47 := h5.tr h57
  have c57 := c4.ext h47
  have c97 := c9.ext h47
  simp only [↓eBinI, ↓eDiv, ↓eShift, ↓eBinS, ↓ePick, ↓eNot, ↓eNeg, ↓eConv, ↓eConvS, ↓eExt0, ↓eExt1, ↓eExt2, ↓eFA, ↓eIA, ↓eLenSl, ↓eCapSl, ↓eLenS, ↓eMin, ↓eMax, ↓eCondT, ↓eCondF, ↓gIf_tt, ↓gIf_ff, ↓gIf_tf, ↓gIf_ft, ↓gIf_u, ↓gIfW_u, ↓gIfW_tt, ↓gIfW_ff, ↓gIfW_tf, ↓gIfW_ft, binI, divI, shiftI, add_mk, Nat.zero_add, cond_true, cond_false, decide_true, decide_false, Bool.not_true, Bool.not_false, Bool.and_true, Bool.true_and, Bool.and_false, Bool.false_and, Int.toNat_natCast, Nat.mul_one, ↓c57.c0]
  by_cases cj : g0 + (j : Int) = gen
  · have hjn : j = n := by omega
    subst hjn
    have : (g0 + (j : Int) == gen) = true := by simpa using cj
    simp only [↓eBinI, ↓eDiv, ↓eShift, ↓eBinS, ↓ePick, ↓eNot, ↓eNeg, ↓eConv, ↓eConvS, ↓eExt0, ↓eExt1, ↓eExt2, ↓eFA, ↓eIA, ↓eLenSl, ↓eCapSl, ↓eLenS, ↓eMin, ↓eMax, ↓eCondT, ↓eCondF, ↓gIf_tt, ↓gIf_ff, ↓gIf_tf, ↓gIf_ft, ↓gIf_u, ↓gIfW_u, ↓gIfW_tt, ↓gIfW_ff, ↓gIfW_tf, ↓gIfW_ft, binI, divI, shiftI, add_mk, Nat.zero_add, cond_true, cond_false, decide_true, decide_false, Bool.not_true, Bool.not_false, Bool.and_true, Bool.true_and, Bool.and_false, Bool.false_and, Int.toNat_natCast, Nat.mul_one, this]
    rw [c7.ld3]
    refine (?_ : GCalls Tryd.prog 50 [chainV (g0 + (j : Int) + 1) vn vs', .int .i64 win] _ X w7)
    have hrs : Rd (.slice tSkip) (w4.heap.size ≤ ·) w5 [vs'] (sk ++ skF g0 cur j) := o5.rd2 (fun b hb => by have := hD2 b hb; omega) (fun b _ hB' _ => by omega) (by show (sk ++ skF g0 cur j).length < _; omega)
    refine Drop_c (rn.ext h57) (hrs.ext h57) (by rw [deriveF_len]; omega) hsl2 (sk_le hse) (by omega) (by omega) fun vc8 vs8 w8 h8 r8 q8 => ?_
    have z8 := h8.size
    have ov8 := one_of_rd r8
    have os8 := one_of_rd q8
    refine (c97.ext h8).setN (l' := [.int .i64 (g0 + (j : Int) + 1), vc8, vs8]) rfl rfl (allOne3 rfl ov8 os8) fun w9 c99 f9 => ?_
    rw [c99.ld3]
    have z9 := f9.size
    rw [← cj] at h
    refine h vk vc8 vs8 w9 (((h4.tr h47).tr h8).tn f9 (fun x hx => by omega)) ?_ ?_ ?_
    · exact (((rk.ext h57).ext h8).fr f9 (fun b hb => by omega)).wide (fun b hb => by omega)
    · exact (r8.fr f9 (fun b hb => by omega)).wide (fun b hb => by omega)
    · exact (q8.fr f9 (fun b hb => by omega)).wide (fun b hb => by omega)
  · have : (g0 + (j : Int) == gen) = false := by simpa using cj
    simp only [↓eBinI, ↓eDiv, ↓eShift, ↓eBinS, ↓ePick, ↓eNot, ↓eNeg, ↓eConv, ↓eConvS, ↓eExt0, ↓eExt1, ↓eExt2, ↓eFA, ↓eIA, ↓eLenSl, ↓eCapSl, ↓eLenS, ↓eMin, ↓eMax, ↓eCondT, ↓eCondF, ↓gIf_tt, ↓gIf_ff, ↓gIf_tf, ↓gIf_ft, ↓gIf_u, ↓gIfW_u, ↓gIfW_tt, ↓gIfW_ff, ↓gIfW_tf, ↓gIfW_ft, binI, divI, shiftI, add_mk, Nat.zero_add, cond_true, cond_false, decide_true, decide_false, Bool.not_true, Bool.not_false, Bool.and_true, Bool.true_and, Bool.and_false, Bool.false_and, Int.toNat_natCast, Nat.mul_one, this, ↓c7.c2, ↓c57.c0]
    have ok := one_of_rd rk
    refine ⟨[.int .i64 (g0 + (j : Int)), vk], fill2 rfl ok, ?_⟩
    refine Cs.bslice (cs := [.int .i64 (g0 + (j : Int)), vk]) (fillAgg rfl rfl) fun r w8 hr h8 b8 => ?_
    have z8 := h8.size
    have h58 := h57.tr h8
    have oW : G.Own tSkip (fun b => D2 b ∨ (w4.heap.size ≤ b ∧ b < B)) B w8 vs' (sk ++ skF g0 cur j) := (o5.ext h58).wide2 (fun b hb => .inl hb) (fun b hb hB' hnD => by
      rintro (hd | hd)
      · exact hnD hd
      · omega)
    have hrow : Rd tSkip (fun b => D2 b ∨ (w4.heap.size ≤ b ∧ b < B)) w8 [.int .i64 (g0 + (j : Int)), vk] (g0 + (j : Int), deriveF (curF cur j) keyL) :=
      ⟨[.int .i64 (g0 + (j : Int))], [vk], rfl, rfl, rfl, ⟨rfl, by show -9223372036854775808 ≤ g0 + (j : Int); omega, by show g0 + (j : Int) ≤ 9223372036854775807; omega⟩, (rk.ext h58).wide (fun b hb => .inr hb)⟩
    obtain ⟨T8, b8'⟩ := b8
    refine oW.push (by omega) (fun hd => hd.elim (fun hd => by have := hD2 _ hd; omega) (fun hd => by omega)) rfl rfl b8' hrow (by show (2 * ((sk ++ skF g0 cur j).length + 1) + 192) * 32 ≤ _; omega) fun v9 w9 o9 f9 hb9 => ?_
    rw [List.append_assoc, ← skF_succ] at o9
    have z9 := f9.size
    have c79 : Cs w9 g14 [.int .i64 (g0 + (j : Int) + 1), vn, vs'] := (c7.ext h8).fr f9 (fun hx => by have := hb5 _ hx.1; omega)
    have ov9 : one v9 = true := by obtain ⟨a, c, e, _⟩ := o9.form; rw [e]; rfl
    try simp only [↓eBinI, ↓eDiv, ↓eShift, ↓eBinS, ↓ePick, ↓eNot, ↓eNeg, ↓eConv, ↓eConvS, ↓eExt0, ↓eExt1, ↓eExt2, ↓eFA, ↓eIA, ↓eLenSl, ↓eCapSl, ↓eLenS, ↓eMin, ↓eMax, ↓eCondT, ↓eCondF, ↓gIf_tt, ↓gIf_ff, ↓gIf_tf, ↓gIf_ft, ↓gIf_u, ↓gIfW_u, ↓gIfW_tt, ↓gIfW_ff, ↓gIfW_tf, ↓gIfW_ft, binI, divI, shiftI, add_mk, Nat.zero_add, cond_true, cond_false, decide_true, decide_false, Bool.not_true, Bool.not_false, Bool.and_true, Bool.true_and, Bool.and_false, Bool.false_and, Int.toNat_natCast, Nat.mul_one]
    refine c79.set (i := 2) (by simp) ov9 fun w10 c10 f10 => ?_
    have c10 : Cs w10 g14 [.int .i64 (g0 + (j : Int) + 1), vn, v9] := c10
    have z10 := f10.size
    rw [c10.ld3]
    have h410 : Ext w4 w10 := ((h47.tr h8).tn f9 (fun x hx => by have := hx.2; omega)).tn f10 (fun x hx => by omega)
    have c510 : Cs w10 g5 [.int .i64 (g0 + (j : Int)), vc, vs] := c4.ext h410
    refine c510.setN (l' := [.int .i64 (g0 + (j : Int) + 1), vn, v9]) rfl rfl (allOne3 rfl on ov9) fun w11 c11 f11 => ?_
    have z11 := f11.size
    have hll : (sk ++ skF g0 cur (j + 1)).length < 9223372036854775808 := by rw [List.length_append, skF_len]; omega
    refine ratchet_At.leaf1 ⟨j + 1, vn, v9, by omega, (h4.tr h410).tn f11 (fun x hx => by omega), ?_, (c9.ext h410).fr f11 (by omega), ?_, ?_⟩ ?_
    · have : g0 + ((j + 1 : Nat) : Int) = g0 + (j : Int) + 1 := by omega
      rw [this]; exact c11
    · exact ((((rn.ext h58).fr f9 (fun b hb hx => by have := hx.2; omega)).fr f10 (fun b hb => by omega)).fr f11 (fun b hb => by omega)).wide (fun b hb => by omega)
    · have o10 := o9.fr f10 (fun b hb => hb.elim (fun hb => by have := hD2 _ hb; omega) (fun hb => by omega)) (fun b hb hB' => (hb9 b hb).elim (fun hx => by have := hb5 _ hx; omega) (fun hx => by omega))
      have o11 := o10.fr f11 (fun b hb => hb.elim (fun hb => by have := hD2 _ hb; omega) (fun hb => by omega)) (fun b hb hB' => by omega)
      exact o11.rd2 (fun b hb => hb.elim (fun hb => by have := hD2 _ hb; omega) (fun hb => by omega)) (fun b _ hB' _ => by omega) hll
    · have q1 : cellG w4 g5 = g0 + (j : Int) := by unfold cellG; rw [c4.c]; rfl
      have q2 : cellG w11 g5 = g0 + (j : Int) + 1 := by unfold cellG; rw [c11.c]; rfl
      rw [q1, q2]; omega
end Go.Proofs.YtkpgmaiklfjjgaaDoor
end
section
set_option linter.unusedSimpArgs false
set_option linter.unusedVariables false
namespace Go.Proofs.YtkpgmaiklfjjgaaDoor
open Go Go.G Go.RowKit
variable {X : KX} {w : World} {K : KV} {D D' : Nat → Prop}
theorem has0 (cur : List UInt8) : hasF 3 (skF 0 cur 2) 0 = true := by simp [hasF, placeF, skF, List.range_succ, List.findIdx?_cons]
theorem has2 (cur : List UInt8) : hasF 3 (skF 0 cur 2) 2 = false := by simp [hasF, placeF, skF, List.range_succ, List.findIdx?_cons]
theorem alive_end {g2 : Nat} {vc vs : Value} {cur : List UInt8} (c : Cs w g2 [.int .i64 3, vc, vs]) (hv : Rd (.slice tSkip) D w [vs] (skF 0 cur 2)) (h : ∀ w', Ext w w' → K (.bool true) w') :
  (pBinI .eql .i64 (.int .i64 0) (.int .i64 0) fun t13 =>
    gIf t13 true (fun K => pFA 0 (.pointer (some ⟨g2, 0, none⟩)) K) fun t15 =>
    gIf t13 true (fun K => pLd (· = w) t15 K) fun t16 =>
    gIf t13 true (fun K => pBinI .eql .i64 t16 (.int .i64 3) K) fun t17 =>
    pPick t13 t17 (.bool false) fun t18 =>
    gIf t18 true (fun K => pFA 2 (.pointer (some ⟨g2, 0, none⟩)) K) fun t20 =>
    gIf t18 true (fun K => pLd (· = w) t20 K) fun t21 =>
    gIf t18 true (fun K => pLenSl t21 K) fun t22 =>
    gIf t18 true (fun K => pBinI .eql .i64 t22 (.int .i64 2) K) fun t23 =>
    pPick t18 t23 (.bool false) fun t24 =>
    gIf t24 true (fun K => pLdN (· = w) 3 (.pointer (some ⟨g2, 0, none⟩)) K) fun t26 =>
    gIfW t24 true (fun w K => pCall Tryd.prog 20 [t26, (.int .i64 0)] X w K) w fun t27 w =>
    pPick t24 t27 (.bool false) fun t28 =>
    gIf t28 true (fun K => pLdN (· = w) 3 (.pointer (some ⟨g2, 0, none⟩)) K) fun t30 =>
    gIfW t28 true (fun w K => pCall Tryd.prog 20 [t30, (.int .i64 2)] X w K) w fun t31 w =>
    gIf t28 true (fun K => pNot t31 K) fun t32 =>
    pPick t28 t32 (.bool false) fun t33 =>
    K t33 w) := by
  obtain ⟨a, cc, rfl, _, _⟩ := hv.form
  have hl := skF_len 0 cur 2
  simp only [↓eBinI, ↓eDiv, ↓eShift, ↓eBinS, ↓ePick, ↓eNot, ↓eNeg, ↓eConv, ↓eConvS, ↓eExt0, ↓eExt1, ↓eExt2, ↓eFA, ↓eIA, ↓eLenSl, ↓eCapSl, ↓eLenS, ↓eMin, ↓eMax, ↓eCondT, ↓eCondF, ↓gIf_tt, ↓gIf_ff, ↓gIf_tf, ↓gIf_ft, ↓gIf_u, ↓gIfW_u, ↓gIfW_tt, ↓gIfW_ff, ↓gIfW_tf, ↓gIfW_ft, binI, divI, shiftI, add_mk, Nat.zero_add, cond_true, cond_false, decide_true, decide_false, Bool.not_true, Bool.not_false, Bool.and_true, Bool.true_and, Bool.and_false, Bool.false_and, Int.toNat_natCast, Nat.mul_one, show ((0 : Int) == 0) = true from by decide, ↓c.c0, ↓c.c2, show ((3 : Int) == 3) = true from by decide, hl, show ((((2 : Nat)) : Int) == 2) = true from by decide, ↓c.ld3]
  rw [hl] at hv
  refine (?_ : GCalls Tryd.prog 20 [chainV 3 vc (.slice a 2 cc), .int .i64 0] _ X w)
  refine Has_c hv fun w1 h1 => ?_
  rw [hl] at c
  simp only [has0]
  simp only [↓eBinI, ↓eDiv, ↓eShift, ↓eBinS, ↓ePick, ↓eNot, ↓eNeg, ↓eConv, ↓eConvS, ↓eExt0, ↓eExt1, ↓eExt2, ↓eFA, ↓eIA, ↓eLenSl, ↓eCapSl, ↓eLenS, ↓eMin, ↓eMax, ↓eCondT, ↓eCondF, ↓gIf_tt, ↓gIf_ff, ↓gIf_tf, ↓gIf_ft, ↓gIf_u, ↓gIfW_u, ↓gIfW_tt, ↓gIfW_ff, ↓gIfW_tf, ↓gIfW_ft, binI, divI, shiftI, add_mk, Nat.zero_add, cond_true, cond_false, decide_true, decide_false, Bool.not_true, Bool.not_false, Bool.and_true, Bool.true_and, Bool.and_false, Bool.false_and, Int.toNat_natCast, Nat.mul_one, ↓(c.ext h1).ld3]
  refine (?_ : GCalls Tryd.prog 20 [chainV 3 vc (.slice a 2 cc), .int .i64 2] _ X w1)
  refine Has_c (hv.ext h1) fun w2 h2 => ?_
  simp only [has2]
  simp only [↓eBinI, ↓eDiv, ↓eShift, ↓eBinS, ↓ePick, ↓eNot, ↓eNeg, ↓eConv, ↓eConvS, ↓eExt0, ↓eExt1, ↓eExt2, ↓eFA, ↓eIA, ↓eLenSl, ↓eCapSl, ↓eLenS, ↓eMin, ↓eMax, ↓eCondT, ↓eCondF, ↓gIf_tt, ↓gIf_ff, ↓gIf_tf, ↓gIf_ft, ↓gIf_u, ↓gIfW_u, ↓gIfW_tt, ↓gIfW_ff, ↓gIfW_tf, ↓gIfW_ft, binI, divI, shiftI, add_mk, Nat.zero_add, cond_true, cond_false, decide_true, decide_false, Bool.not_true, Bool.not_false, Bool.and_true, Bool.true_and, Bool.and_false, Bool.false_and, Int.toNat_natCast, Nat.mul_one]
  exact h _ (h1.tr h2)
theorem nilSk (D : Nat → Prop) (w : World) : Rd (.slice tSkip) D w [.slice none 0 0] ([] : List (Int × List UInt8)) := ⟨none, 0, rfl, Nat.le_refl _, by show 0 < _; omega, fun h => absurd rfl h⟩
set_option maxHeartbeats 1000000 in
theorem alive33_c (hk : KT w) (h : ∀ w', Ext w w' → K (.bool true) w') : GCalls Tryd.prog 11 [] K X w := by
  have hk2 := hk.two
  apply oubliettelaw33_alive.calls; unfold oubliettelaw33_alive.b
  refine draw_ fun w1 h1 => ?_
  have z1 := h1.size
  have k1 : Ext w1 w1 := Fr.refl _ _
  refine ⟨?_, ?_, ?_⟩
  · skip
    refine Real_c (by omega) fun gs w2 h2 qs hs => ?_
    have z2 := h2.size
    refine ⟨(k1.tr h2), ?_⟩
    refine ⟨?_, ?_⟩
    · skip
      refine makeB (n := 32) (by omega) fun gm w3 hgm h3 cm => ?_
      have zt := (k1.tr h2).size
      have rm := own_rd (Cs.own (B := w1.heap.size) (D := NoB) (xs := List.replicate 32 0) (rest := []) (n := 32) (c := 32) (by simpa using cm) (by omega) (fun h => h) (by simp) rfl) (by simp)
      have z3 := h3.size
      refine ⟨((k1.tr h2).tr h3), ?_⟩
      refine ⟨?_, ?_⟩
      · skip
        refine Start_c rm (by simp) fun vc w4 h4 rc => ?_
        have z4 := h4.size
        refine ⟨(((k1.tr h2).tr h3).tr h4), ?_⟩
        refine ⟨?_, ?_⟩
        · skip
          refine AtGo_c (g0 := 0) (gen := 2) (win := 4) (sk := []) ((hs.ext h3).ext h4) (hk.ext (h1.tr (((k1.tr h2).tr h3).tr h4))) rc (nilSk NoB _) (by simp) (by simp) (fun i hi => by simp at hi) (by omega) (by omega) (by omega) (by omega) (by omega) (by omega) fun vk vc2 vs2 w5 h5 rk rc2 rs2 => ?_
          have z5 := h5.size
          refine ⟨((((k1.tr h2).tr h3).tr h4).tr h5), ?_⟩
          have e2 : ((2 : Int) - 0).toNat = 2 := by decide
          rw [e2] at rs2
          have rs2 : Rd (.slice tSkip) _ w5 [vs2] (skF 0 (List.replicate 32 0) 2) := rs2
          have rs2 := rd_bd rs2
          have ov := one_of_rd rc2; have os := one_of_rd rs2
          simp only [↓eExt0, ↓eExt1, ↓eExt2, chainV]
          refine boxC (cs := [.int .i64 0, .slice none 0 0, .slice none 0 0]) fun g2 w6 hg2 h6 c2 => ?_
          have z6 := h6.size; have l2 := c2.lt
          refine ⟨(((((k1.tr h2).tr h3).tr h4).tr h5).tr h6), ?_⟩
          refine c2.setN (l' := [.int .i64 3, vc2, vs2]) rfl rfl (allOne3 rfl ov os) fun we ce fe => ?_
          have ke : Ext w1 we := (((((k1.tr h2).tr h3).tr h4).tr h5).tr h6).tn fe (fun x hx => by omega)
          refine ⟨ke, ?_⟩
          exact alive_end ce ((rs2.ext h6).fr fe (fun b hb => by omega)) fun w' e => h _ ((h1.tr ke).tr e)
        · skip
          refine boxC (cs := [.int .i64 0, .slice none 0 0, .slice none 0 0]) fun g2 w5 hg2 h5 c2 => ?_
          have z5 := h5.size; have l2 := c2.lt
          refine ⟨((((k1.tr h2).tr h3).tr h4).tr h5), ?_⟩
          refine AtGo_c (g0 := 0) (gen := 2) (win := 4) (sk := []) (((hs.ext h3).ext h4).ext h5) (hk.ext (h1.tr ((((k1.tr h2).tr h3).tr h4).tr h5))) (rc.ext h5) (nilSk NoB _) (by simp) (by simp) (fun i hi => by simp at hi) (by omega) (by omega) (by omega) (by omega) (by omega) (by omega) fun vk vc2 vs2 w6 h6 rk rc2 rs2 => ?_
          have z6 := h6.size
          refine ⟨(((((k1.tr h2).tr h3).tr h4).tr h5).tr h6), ?_⟩
          have e2 : ((2 : Int) - 0).toNat = 2 := by decide
          rw [e2] at rs2
          have rs2 : Rd (.slice tSkip) _ w6 [vs2] (skF 0 (List.replicate 32 0) 2) := rs2
          have rs2 := rd_bd rs2
          have ov := one_of_rd rc2; have os := one_of_rd rs2
          simp only [↓eExt0, ↓eExt1, ↓eExt2, chainV]
          refine (c2.ext h6).setN (l' := [.int .i64 3, vc2, vs2]) rfl rfl (allOne3 rfl ov os) fun we ce fe => ?_
          have ke : Ext w1 we := (((((k1.tr h2).tr h3).tr h4).tr h5).tr h6).tn fe (fun x hx => by omega)
          refine ⟨ke, ?_⟩
          exact alive_end ce (rs2.fr fe (fun b hb => by omega)) fun w' e => h _ ((h1.tr ke).tr e)
      · skip
        refine boxC (cs := [.int .i64 0, .slice none 0 0, .slice none 0 0]) fun g2 w4 hg2 h4 c2 => ?_
        have z4 := h4.size; have l2 := c2.lt
        refine ⟨(((k1.tr h2).tr h3).tr h4), ?_⟩
        refine Start_c (rm.ext h4) (by simp) fun vc w5 h5 rc => ?_
        have z5 := h5.size
        refine ⟨((((k1.tr h2).tr h3).tr h4).tr h5), ?_⟩
        refine AtGo_c (g0 := 0) (gen := 2) (win := 4) (sk := []) (((hs.ext h3).ext h4).ext h5) (hk.ext (h1.tr ((((k1.tr h2).tr h3).tr h4).tr h5))) rc (nilSk NoB _) (by simp) (by simp) (fun i hi => by simp at hi) (by omega) (by omega) (by omega) (by omega) (by omega) (by omega) fun vk vc2 vs2 w6 h6 rk rc2 rs2 => ?_
        have z6 := h6.size
        refine ⟨(((((k1.tr h2).tr h3).tr h4).tr h5).tr h6), ?_⟩
        have e2 : ((2 : Int) - 0).toNat = 2 := by decide
        rw [e2] at rs2
        have rs2 : Rd (.slice tSkip) _ w6 [vs2] (skF 0 (List.replicate 32 0) 2) := rs2
        have rs2 := rd_bd rs2
        have ov := one_of_rd rc2; have os := one_of_rd rs2
        simp only [↓eExt0, ↓eExt1, ↓eExt2, chainV]
        refine ((c2.ext h5).ext h6).setN (l' := [.int .i64 3, vc2, vs2]) rfl rfl (allOne3 rfl ov os) fun we ce fe => ?_
        have ke : Ext w1 we := (((((k1.tr h2).tr h3).tr h4).tr h5).tr h6).tn fe (fun x hx => by omega)
        refine ⟨ke, ?_⟩
        exact alive_end ce (rs2.fr fe (fun b hb => by omega)) fun w' e => h _ ((h1.tr ke).tr e)
    · skip
      refine boxC (cs := [.int .i64 0, .slice none 0 0, .slice none 0 0]) fun g2 w3 hg2 h3 c2 => ?_
      have z3 := h3.size; have l2 := c2.lt
      refine ⟨((k1.tr h2).tr h3), ?_⟩
      refine makeB (n := 32) (by omega) fun gm w4 hgm h4 cm => ?_
      have zt := ((k1.tr h2).tr h3).size
      have rm := own_rd (Cs.own (B := w1.heap.size) (D := NoB) (xs := List.replicate 32 0) (rest := []) (n := 32) (c := 32) (by simpa using cm) (by omega) (fun h => h) (by simp) rfl) (by simp)
      have z4 := h4.size
      refine ⟨(((k1.tr h2).tr h3).tr h4), ?_⟩
      refine Start_c rm (by simp) fun vc w5 h5 rc => ?_
      have z5 := h5.size
      refine ⟨((((k1.tr h2).tr h3).tr h4).tr h5), ?_⟩
      refine AtGo_c (g0 := 0) (gen := 2) (win := 4) (sk := []) (((hs.ext h3).ext h4).ext h5) (hk.ext (h1.tr ((((k1.tr h2).tr h3).tr h4).tr h5))) rc (nilSk NoB _) (by simp) (by simp) (fun i hi => by simp at hi) (by omega) (by omega) (by omega) (by omega) (by omega) (by omega) fun vk vc2 vs2 w6 h6 rk rc2 rs2 => ?_
      have z6 := h6.size
      refine ⟨(((((k1.tr h2).tr h3).tr h4).tr h5).tr h6), ?_⟩
      have e2 : ((2 : Int) - 0).toNat = 2 := by decide
      rw [e2] at rs2
      have rs2 : Rd (.slice tSkip) _ w6 [vs2] (skF 0 (List.replicate 32 0) 2) := rs2
      have rs2 := rd_bd rs2
      have ov := one_of_rd rc2; have os := one_of_rd rs2
      simp only [↓eExt0, ↓eExt1, ↓eExt2, chainV]
      refine (((c2.ext h4).ext h5).ext h6).setN (l' := [.int .i64 3, vc2, vs2]) rfl rfl (allOne3 rfl ov os) fun we ce fe => ?_
      have ke : Ext w1 we := (((((k1.tr h2).tr h3).tr h4).tr h5).tr h6).tn fe (fun x hx => by omega)
      refine ⟨ke, ?_⟩
      exact alive_end ce (rs2.fr fe (fun b hb => by omega)) fun w' e => h _ ((h1.tr ke).tr e)
  · skip
    refine makeB (n := 32) (by omega) fun gm w2 hgm h2 cm => ?_
    have zt := k1.size
    have rm := own_rd (Cs.own (B := w1.heap.size) (D := NoB) (xs := List.replicate 32 0) (rest := []) (n := 32) (c := 32) (by simpa using cm) (by omega) (fun h => h) (by simp) rfl) (by simp)
    have z2 := h2.size
    refine ⟨(k1.tr h2), ?_⟩
    refine ⟨?_, ?_⟩
    · skip
      refine Real_c (by omega) fun gs w3 h3 qs hs => ?_
      have z3 := h3.size
      refine ⟨((k1.tr h2).tr h3), ?_⟩
      refine ⟨?_, ?_⟩
      · skip
        refine Start_c (rm.ext h3) (by simp) fun vc w4 h4 rc => ?_
        have z4 := h4.size
        refine ⟨(((k1.tr h2).tr h3).tr h4), ?_⟩
        refine ⟨?_, ?_⟩
        · skip
          refine AtGo_c (g0 := 0) (gen := 2) (win := 4) (sk := []) (hs.ext h4) (hk.ext (h1.tr (((k1.tr h2).tr h3).tr h4))) rc (nilSk NoB _) (by simp) (by simp) (fun i hi => by simp at hi) (by omega) (by omega) (by omega) (by omega) (by omega) (by omega) fun vk vc2 vs2 w5 h5 rk rc2 rs2 => ?_
          have z5 := h5.size
          refine ⟨((((k1.tr h2).tr h3).tr h4).tr h5), ?_⟩
          have e2 : ((2 : Int) - 0).toNat = 2 := by decide
          rw [e2] at rs2
          have rs2 : Rd (.slice tSkip) _ w5 [vs2] (skF 0 (List.replicate 32 0) 2) := rs2
          have rs2 := rd_bd rs2
          have ov := one_of_rd rc2; have os := one_of_rd rs2
          simp only [↓eExt0, ↓eExt1, ↓eExt2, chainV]
          refine boxC (cs := [.int .i64 0, .slice none 0 0, .slice none 0 0]) fun g2 w6 hg2 h6 c2 => ?_
          have z6 := h6.size; have l2 := c2.lt
          refine ⟨(((((k1.tr h2).tr h3).tr h4).tr h5).tr h6), ?_⟩
          refine c2.setN (l' := [.int .i64 3, vc2, vs2]) rfl rfl (allOne3 rfl ov os) fun we ce fe => ?_
          have ke : Ext w1 we := (((((k1.tr h2).tr h3).tr h4).tr h5).tr h6).tn fe (fun x hx => by omega)
          refine ⟨ke, ?_⟩
          exact alive_end ce ((rs2.ext h6).fr fe (fun b hb => by omega)) fun w' e => h _ ((h1.tr ke).tr e)
        · skip
          refine boxC (cs := [.int .i64 0, .slice none 0 0, .slice none 0 0]) fun g2 w5 hg2 h5 c2 => ?_
          have z5 := h5.size; have l2 := c2.lt
          refine ⟨((((k1.tr h2).tr h3).tr h4).tr h5), ?_⟩
          refine AtGo_c (g0 := 0) (gen := 2) (win := 4) (sk := []) ((hs.ext h4).ext h5) (hk.ext (h1.tr ((((k1.tr h2).tr h3).tr h4).tr h5))) (rc.ext h5) (nilSk NoB _) (by simp) (by simp) (fun i hi => by simp at hi) (by omega) (by omega) (by omega) (by omega) (by omega) (by omega) fun vk vc2 vs2 w6 h6 rk rc2 rs2 => ?_
          have z6 := h6.size
          refine ⟨(((((k1.tr h2).tr h3).tr h4).tr h5).tr h6), ?_⟩
          have e2 : ((2 : Int) - 0).toNat = 2 := by decide
          rw [e2] at rs2
          have rs2 : Rd (.slice tSkip) _ w6 [vs2] (skF 0 (List.replicate 32 0) 2) := rs2
          have rs2 := rd_bd rs2
          have ov := one_of_rd rc2; have os := one_of_rd rs2
          simp only [↓eExt0, ↓eExt1, ↓eExt2, chainV]
          refine (c2.ext h6).setN (l' := [.int .i64 3, vc2, vs2]) rfl rfl (allOne3 rfl ov os) fun we ce fe => ?_
          have ke : Ext w1 we := (((((k1.tr h2).tr h3).tr h4).tr h5).tr h6).tn fe (fun x hx => by omega)
          refine ⟨ke, ?_⟩
          exact alive_end ce (rs2.fr fe (fun b hb => by omega)) fun w' e => h _ ((h1.tr ke).tr e)
      · skip
        refine boxC (cs := [.int .i64 0, .slice none 0 0, .slice none 0 0]) fun g2 w4 hg2 h4 c2 => ?_
        have z4 := h4.size; have l2 := c2.lt
        refine ⟨(((k1.tr h2).tr h3).tr h4), ?_⟩
        refine Start_c ((rm.ext h3).ext h4) (by simp) fun vc w5 h5 rc => ?_
        have z5 := h5.size
        refine ⟨((((k1.tr h2).tr h3).tr h4).tr h5), ?_⟩
        refine AtGo_c (g0 := 0) (gen := 2) (win := 4) (sk := []) ((hs.ext h4).ext h5) (hk.ext (h1.tr ((((k1.tr h2).tr h3).tr h4).tr h5))) rc (nilSk NoB _) (by simp) (by simp) (fun i hi => by simp at hi) (by omega) (by omega) (by omega) (by omega) (by omega) (by omega) fun vk vc2 vs2 w6 h6 rk rc2 rs2 => ?_
        have z6 := h6.size
        refine ⟨(((((k1.tr h2).tr h3).tr h4).tr h5).tr h6), ?_⟩
        have e2 : ((2 : Int) - 0).toNat = 2 := by decide
        rw [e2] at rs2
        have rs2 : Rd (.slice tSkip) _ w6 [vs2] (skF 0 (List.replicate 32 0) 2) := rs2
        have rs2 := rd_bd rs2
        have ov := one_of_rd rc2; have os := one_of_rd rs2
        simp only [↓eExt0, ↓eExt1, ↓eExt2, chainV]
        refine ((c2.ext h5).ext h6).setN (l' := [.int .i64 3, vc2, vs2]) rfl rfl (allOne3 rfl ov os) fun we ce fe => ?_
        have ke : Ext w1 we := (((((k1.tr h2).tr h3).tr h4).tr h5).tr h6).tn fe (fun x hx => by omega)
        refine ⟨ke, ?_⟩
        exact alive_end ce (rs2.fr fe (fun b hb => by omega)) fun w' e => h _ ((h1.tr ke).tr e)
    · skip
      refine boxC (cs := [.int .i64 0, .slice none 0 0, .slice none 0 0]) fun g2 w3 hg2 h3 c2 => ?_
      have z3 := h3.size; have l2 := c2.lt
      refine ⟨((k1.tr h2).tr h3), ?_⟩
      refine Real_c (by omega) fun gs w4 h4 qs hs => ?_
      have z4 := h4.size
      refine ⟨(((k1.tr h2).tr h3).tr h4), ?_⟩
      refine Start_c ((rm.ext h3).ext h4) (by simp) fun vc w5 h5 rc => ?_
      have z5 := h5.size
      refine ⟨((((k1.tr h2).tr h3).tr h4).tr h5), ?_⟩
      refine AtGo_c (g0 := 0) (gen := 2) (win := 4) (sk := []) (hs.ext h5) (hk.ext (h1.tr ((((k1.tr h2).tr h3).tr h4).tr h5))) rc (nilSk NoB _) (by simp) (by simp) (fun i hi => by simp at hi) (by omega) (by omega) (by omega) (by omega) (by omega) (by omega) fun vk vc2 vs2 w6 h6 rk rc2 rs2 => ?_
      have z6 := h6.size
      refine ⟨(((((k1.tr h2).tr h3).tr h4).tr h5).tr h6), ?_⟩
      have e2 : ((2 : Int) - 0).toNat = 2 := by decide
      rw [e2] at rs2
      have rs2 : Rd (.slice tSkip) _ w6 [vs2] (skF 0 (List.replicate 32 0) 2) := rs2
      have rs2 := rd_bd rs2
      have ov := one_of_rd rc2; have os := one_of_rd rs2
      simp only [↓eExt0, ↓eExt1, ↓eExt2, chainV]
      refine (((c2.ext h4).ext h5).ext h6).setN (l' := [.int .i64 3, vc2, vs2]) rfl rfl (allOne3 rfl ov os) fun we ce fe => ?_
      have ke : Ext w1 we := (((((k1.tr h2).tr h3).tr h4).tr h5).tr h6).tn fe (fun x hx => by omega)
      refine ⟨ke, ?_⟩
      exact alive_end ce (rs2.fr fe (fun b hb => by omega)) fun w' e => h _ ((h1.tr ke).tr e)
  · skip
    refine boxC (cs := [.int .i64 0, .slice none 0 0, .slice none 0 0]) fun g2 w2 hg2 h2 c2 => ?_
    have z2 := h2.size; have l2 := c2.lt
    refine ⟨(k1.tr h2), ?_⟩
    refine ⟨?_, ?_⟩
    · skip
      refine Real_c (by omega) fun gs w3 h3 qs hs => ?_
      have z3 := h3.size
      refine ⟨((k1.tr h2).tr h3), ?_⟩
      refine makeB (n := 32) (by omega) fun gm w4 hgm h4 cm => ?_
      have zt := ((k1.tr h2).tr h3).size
      have rm := own_rd (Cs.own (B := w1.heap.size) (D := NoB) (xs := List.replicate 32 0) (rest := []) (n := 32) (c := 32) (by simpa using cm) (by omega) (fun h => h) (by simp) rfl) (by simp)
      have z4 := h4.size
      refine ⟨(((k1.tr h2).tr h3).tr h4), ?_⟩
      refine Start_c rm (by simp) fun vc w5 h5 rc => ?_
      have z5 := h5.size
      refine ⟨((((k1.tr h2).tr h3).tr h4).tr h5), ?_⟩
      refine AtGo_c (g0 := 0) (gen := 2) (win := 4) (sk := []) ((hs.ext h4).ext h5) (hk.ext (h1.tr ((((k1.tr h2).tr h3).tr h4).tr h5))) rc (nilSk NoB _) (by simp) (by simp) (fun i hi => by simp at hi) (by omega) (by omega) (by omega) (by omega) (by omega) (by omega) fun vk vc2 vs2 w6 h6 rk rc2 rs2 => ?_
      have z6 := h6.size
      refine ⟨(((((k1.tr h2).tr h3).tr h4).tr h5).tr h6), ?_⟩
      have e2 : ((2 : Int) - 0).toNat = 2 := by decide
      rw [e2] at rs2
      have rs2 : Rd (.slice tSkip) _ w6 [vs2] (skF 0 (List.replicate 32 0) 2) := rs2
      have rs2 := rd_bd rs2
      have ov := one_of_rd rc2; have os := one_of_rd rs2
      simp only [↓eExt0, ↓eExt1, ↓eExt2, chainV]
      refine ((((c2.ext h3).ext h4).ext h5).ext h6).setN (l' := [.int .i64 3, vc2, vs2]) rfl rfl (allOne3 rfl ov os) fun we ce fe => ?_
      have ke : Ext w1 we := (((((k1.tr h2).tr h3).tr h4).tr h5).tr h6).tn fe (fun x hx => by omega)
      refine ⟨ke, ?_⟩
      exact alive_end ce (rs2.fr fe (fun b hb => by omega)) fun w' e => h _ ((h1.tr ke).tr e)
    · skip
      refine makeB (n := 32) (by omega) fun gm w3 hgm h3 cm => ?_
      have zt := (k1.tr h2).size
      have rm := own_rd (Cs.own (B := w1.heap.size) (D := NoB) (xs := List.replicate 32 0) (rest := []) (n := 32) (c := 32) (by simpa using cm) (by omega) (fun h => h) (by simp) rfl) (by simp)
      have z3 := h3.size
      refine ⟨((k1.tr h2).tr h3), ?_⟩
      refine Real_c (by omega) fun gs w4 h4 qs hs => ?_
      have z4 := h4.size
      refine ⟨(((k1.tr h2).tr h3).tr h4), ?_⟩
      refine Start_c (rm.ext h4) (by simp) fun vc w5 h5 rc => ?_
      have z5 := h5.size
      refine ⟨((((k1.tr h2).tr h3).tr h4).tr h5), ?_⟩
      refine AtGo_c (g0 := 0) (gen := 2) (win := 4) (sk := []) (hs.ext h5) (hk.ext (h1.tr ((((k1.tr h2).tr h3).tr h4).tr h5))) rc (nilSk NoB _) (by simp) (by simp) (fun i hi => by simp at hi) (by omega) (by omega) (by omega) (by omega) (by omega) (by omega) fun vk vc2 vs2 w6 h6 rk rc2 rs2 => ?_
      have z6 := h6.size
      refine ⟨(((((k1.tr h2).tr h3).tr h4).tr h5).tr h6), ?_⟩
      have e2 : ((2 : Int) - 0).toNat = 2 := by decide
      rw [e2] at rs2
      have rs2 : Rd (.slice tSkip) _ w6 [vs2] (skF 0 (List.replicate 32 0) 2) := rs2
      have rs2 := rd_bd rs2
      have ov := one_of_rd rc2; have os := one_of_rd rs2
      simp only [↓eExt0, ↓eExt1, ↓eExt2, chainV]
      refine ((((c2.ext h3).ext h4).ext h5).ext h6).setN (l' := [.int .i64 3, vc2, vs2]) rfl rfl (allOne3 rfl ov os) fun we ce fe => ?_
      have ke : Ext w1 we := (((((k1.tr h2).tr h3).tr h4).tr h5).tr h6).tn fe (fun x hx => by omega)
      refine ⟨ke, ?_⟩
      exact alive_end ce (rs2.fr fe (fun b hb => by omega)) fun w' e => h _ ((h1.tr ke).tr e)
end Go.Proofs.YtkpgmaiklfjjgaaDoor
end
