/-
  At a gen that is still to come.
-/
import Derived.Test.YtkpgmaiklfjjgaaDoorDv
set_option linter.unusedSimpArgs false
set_option linter.unusedVariables false
namespace Go.Proofs.YtkpgmaiklfjjgaaDoor
open Go Go.G Go.RowKit
variable {X : KX} {w : World} {K : KV} {D D' : Nat → Prop}
def curF (cur : List UInt8) : Nat → List UInt8
  | 0 => cur
  | n + 1 => deriveF (curF cur n) nextL
theorem curF_len {cur : List UInt8} (h : cur.length ≤ 1000) : ∀ n, (curF cur n).length ≤ 1000
  | 0 => h
  | n + 1 => by rw [curF, deriveF_len]; omega
def skF (g0 : Int) (cur : List UInt8) (n : Nat) : List (Int × List UInt8) := (List.range n).map fun (i : Nat) => (g0 + (i : Int), deriveF (curF cur i) keyL)
theorem skF_succ (g0 : Int) (cur : List UInt8) (n : Nat) : skF g0 cur (n + 1) = skF g0 cur n ++ [(g0 + (n : Int), deriveF (curF cur n) keyL)] := by simp [skF, List.range_succ]
theorem skF_len (g0 : Int) (cur : List UInt8) (n : Nat) : (skF g0 cur n).length = n := by simp [skF]
theorem sk_le {sk : List (Int × List UInt8)} {g0 : Int} {cur : List UInt8} {n : Nat} (h : ∀ i (h : i < sk.length), sk[i].2.length ≤ 1000) : ∀ i (h : i < (sk ++ skF g0 cur n).length), (sk ++ skF g0 cur n)[i].2.length ≤ 1000 := by
  intro i hi
  by_cases c : i < sk.length
  · rw [List.getElem_append_left c]; exact h i c
  · rw [List.getElem_append_right (by omega)]
    simp [skF, deriveF_len]
def cellG (w : World) (g : Nat) : Int := match w.cell? ⟨g, 0, none⟩ with | some v => iv v | none => 0
set_option maxHeartbeats 1000000 in
set_option maxRecDepth 100000 in
theorem AtGo_c {gs : Nat} {g0 gen win : Int} {vc vs : Value} {cur : List UInt8} {sk : List (Int × List UInt8)} (hs : SReal w gs) (hk : KT w) (hc : Rd (.slice .byte) D w [vc] cur) (hv : Rd (.slice tSkip) D' w [vs] sk)
    (hcl : cur.length ≤ 1000) (hsl : sk.length ≤ 100) (hse : ∀ i (h : i < sk.length), sk[i].2.length ≤ 1000) (hw1 : 1 ≤ win) (hw8 : win ≤ 8) (hg0 : 0 ≤ g0) (hge : g0 ≤ gen) (hgm : gen < 1073741824) (hgw : gen - g0 ≤ win)
    (h : ∀ vk vc' vs' w', Ext w w' → Rd (.slice .byte) (w.heap.size ≤ ·) w' [vk] (deriveF (curF cur (gen - g0).toNat) keyL) → Rd (.slice .byte) (w.heap.size ≤ ·) w' [vc'] (curF cur ((gen - g0).toNat + 1)) →
      Rd (.slice tSkip) (w.heap.size ≤ ·) w' [vs'] ((sk ++ skF g0 cur (gen - g0).toNat).drop ((sk ++ skF g0 cur (gen - g0).toNat).length - win.toNat)) → K (.tuple #[vk, chainV (gen + 1) vc' vs', .int .i64 0]) w') :
    GCalls Tryd.prog 21 [.pointer (some ⟨gs, 0, none⟩), chainV g0 vc vs, .int .i64 gen, .int .i64 win] K X w := by
  have oc := one_of_rd hc
  have os := one_of_rd hv
  apply ratchet_At.calls; unfold ratchet_At.b
  refine boxC (cs := [.int .i64 g0, vc, vs]) fun g5 w1 hg5 h1 c1 => ?_
  refine boxC (cs := [.int .i64 0, .slice none 0 0, .slice none 0 0]) fun g9 w2 hg9 h2 c2 => ?_
  have z1 := h1.size; have z2 := h2.size; have l1 := c1.lt; have l2 := c2.lt
  have h12 := h1.tr h2
  have c1 := c1.ext h2
  rw [c1.ld3]
  refine (?_ : GCalls Tryd.prog 49 [chainV g0 vc vs, .int .i64 gen] _ X w2)
  refine place_c (hv.ext h12) fun w3 h3 => ?_
  have z3 := h3.size
  have h13 := h12.tr h3
  have c1 := c1.ext h3
  have d1 : ¬ (win < 1) := by omega
  have d2 : ¬ (win > 8) := by omega
  have d3 : ¬ (gen < 0) := by omega
  have d4 : ¬ (gen ≥ 1073741824) := by omega
  have d5 : ¬ (g0 < 0) := by omega
  have d6 : ¬ (gen < g0) := by omega
  have e1 : IntKind.i64.wrap (gen - g0) = gen - g0 := wrap64 (by omega) (by omega)
  have d7 : ¬ (gen - g0 > win) := by omega
  simp only [↓eBinI, ↓eDiv, ↓eShift, ↓eBinS, ↓ePick, ↓eNot, ↓eNeg, ↓eConv, ↓eConvS, ↓eExt0, ↓eExt1, ↓eExt2, ↓eFA, ↓eIA, ↓eLenSl, ↓eCapSl, ↓eLenS, ↓eMin, ↓eMax, ↓eCondT, ↓eCondF, ↓gIf_tt, ↓gIf_ff, ↓gIf_tf, ↓gIf_ft, ↓gIf_u, ↓gIfW_u, ↓gIfW_tt, ↓gIfW_ff, ↓gIfW_tf, ↓gIfW_ft, binI, divI, shiftI, add_mk, Nat.zero_add, cond_true, cond_false, decide_true, decide_false, Bool.not_true, Bool.not_false, Bool.and_true, Bool.true_and, Bool.and_false, Bool.false_and, Int.toNat_natCast, Nat.mul_one, d1, d2, d3, d4, ↓c1.c0, d5, d6, e1, d7]
  obtain ⟨n, hn⟩ : ∃ n : Nat, gen = g0 + (n : Int) := ⟨(gen - g0).toNat, by omega⟩
  have hnn : (gen - g0).toNat = n := by omega
  rw [hnn] at h
  refine ratchet_At.loop1 (fun w' => ∃ (j : Nat) (vc vs : Value), j ≤ n ∧ Ext w w' ∧ Cs w' g5 [.int .i64 (g0 + (j : Int)), vc, vs] ∧ Cs w' g9 [.int .i64 0, .slice none 0 0, .slice none 0 0] ∧ Rd (.slice .byte) (fun b => b ≠ g5 ∧ b ≠ g9) w' [vc] (curF cur j) ∧ Rd (.slice tSkip) (fun b => b ≠ g5 ∧ b ≠ g9) w' [vs] (sk ++ skF g0 cur j)) (fun w' => (gen - cellG w' g5).toNat)
    ⟨0, vc, vs, by omega, h13, by simpa using c1, c2.ext h3, ((rd_bd hc).ext h13).wide (fun b hb => by omega), by simpa [skF] using ((rd_bd hv).ext h13).wide (fun b hb => by omega)⟩ ?_
  rintro gg w4 ⟨j, vc, vs, hj, h4, c4, c9, rc, rs⟩
  unfold ratchet_At.b1
  have z4 := h4.size
  have l4 := c4.lt; have l9 := c9.lt
  rw [c4.ld3]
  have hsl2 : (sk ++ skF g0 cur j).length ≤ 1000 := by rw [List.length_append, skF_len]; omega
  refine (?_ : GCalls Tryd.prog 12 [.pointer (some ⟨gs, 0, none⟩), chainV (g0 + (j : Int)) vc vs] _ X w4)
  refine Step_c (hs.ext h4) (hk.ext h4) rc rs (by omega) (by omega) (curF_len hcl j) hsl2 (sk_le hse) fun vk vn vs' w5 D2 B h5 hB hBle rk rn o5 hD2 hb5 => ?_
  have z5 := h5.size
  have on := one_of_rd rn
  have os' : one vs' = true := by obtain ⟨a, c, e, _⟩ := o5.form; rw [e]; rfl
  simp only [↓eBinI, ↓eDiv, ↓eShift, ↓eBinS, ↓ePick, ↓eNot, ↓eNeg, ↓eConv, ↓eConvS, ↓eExt0, ↓eExt1, ↓eExt2, ↓eFA, ↓eIA, ↓eLenSl, ↓eCapSl, ↓eLenS, ↓eMin, ↓eMax, ↓eCondT, ↓eCondF, ↓gIf_tt, ↓gIf_ff, ↓gIf_tf, ↓gIf_ft, ↓gIf_u, ↓gIfW_u, ↓gIfW_tt, ↓gIfW_ff, ↓gIfW_tf, ↓gIfW_ft, binI, divI, shiftI, add_mk, Nat.zero_add, cond_true, cond_false, decide_true, decide_false, Bool.not_true, Bool.not_false, Bool.and_true, Bool.true_and, Bool.and_false, Bool.false_and, Int.toNat_natCast, Nat.mul_one, chainV]
  refine boxC (cs := [.int .i64 0, .slice none 0 0, .slice none 0 0]) fun g14 w6 hg14 h6 c14 => ?_
  have z6 := h6.size; have l14 := c14.lt
  refine c14.setN (l' := [.int .i64 (g0 + (j : Int) + 1), vn, vs']) rfl rfl (allOne3 rfl on os') fun w7 c7 f7 => ?_
  have z7 := f7.size
  have h57 : Ext w5 w7 := h6.tn f7 (fun x hx => by omega)
  have h47 := h5.tr h57
  have c57 := c4.ext h47
  have c97 := c9.ext h47
  simp only [↓eBinI, ↓eDiv, ↓eShift, ↓eBinS, ↓ePick, ↓eNot, ↓eNeg, ↓eConv, ↓eConvS, ↓eExt0, ↓eExt1, ↓eExt2, ↓eFA, ↓eIA, ↓eLenSl, ↓eCapSl, ↓eLenS, ↓eMin, ↓eMax, ↓eCondT, ↓eCondF, ↓gIf_tt, ↓gIf_ff, ↓gIf_tf, ↓gIf_ft, ↓gIf_u, ↓gIfW_u, ↓gIfW_tt, ↓gIfW_ff, ↓gIfW_tf, ↓gIfW_ft, binI, divI, shiftI, add_mk, Nat.zero_add, cond_true, cond_false, decide_true, decide_false, Bool.not_true, Bool.not_false, Bool.and_true, Bool.true_and, Bool.and_false, Bool.false_and, Int.toNat_natCast, Nat.mul_one, ↓c57.c0]
  by_cases cj : g0 + (j : Int) = gen
  · have hjn : j = n := by omega
    subst hjn
    have : (g0 + (j : Int) == gen) = true := by simpa using cj
    simp only [↓eBinI, ↓eDiv, ↓eShift, ↓eBinS, ↓ePick, ↓eNot, ↓eNeg, ↓eConv, ↓eConvS, ↓eExt0, ↓eExt1, ↓eExt2, ↓eFA, ↓eIA, ↓eLenSl, ↓eCapSl, ↓eLenS, ↓eMin, ↓eMax, ↓eCondT, ↓eCondF, ↓gIf_tt, ↓gIf_ff, ↓gIf_tf, ↓gIf_ft, ↓gIf_u, ↓gIfW_u, ↓gIfW_tt, ↓gIfW_ff, ↓gIfW_tf, ↓gIfW_ft, binI, divI, shiftI, add_mk, Nat.zero_add, cond_true, cond_false, decide_true, decide_false, Bool.not_true, Bool.not_false, Bool.and_true, Bool.true_and, Bool.and_false, Bool.false_and, Int.toNat_natCast, Nat.mul_one, this]
    rw [c7.ld3]
    refine (?_ : GCalls Tryd.prog 50 [chainV (g0 + (j : Int) + 1) vn vs', .int .i64 win] _ X w7)
    have hrs : Rd (.slice tSkip) (w4.heap.size ≤ ·) w5 [vs'] (sk ++ skF g0 cur j) := o5.rd2 (fun b hb => by have := hD2 b hb; omega) (fun b _ hB' _ => by omega) (by show (sk ++ skF g0 cur j).length < _; omega)
    refine Drop_c (rn.ext h57) (hrs.ext h57) (by rw [deriveF_len]; omega) hsl2 (sk_le hse) (by omega) (by omega) fun vc8 vs8 w8 h8 r8 q8 => ?_
    have z8 := h8.size
    have ov8 := one_of_rd r8
    have os8 := one_of_rd q8
    refine (c97.ext h8).setN (l' := [.int .i64 (g0 + (j : Int) + 1), vc8, vs8]) rfl rfl (allOne3 rfl ov8 os8) fun w9 c99 f9 => ?_
    rw [c99.ld3]
    have z9 := f9.size
    rw [← cj] at h
    refine h vk vc8 vs8 w9 (((h4.tr h47).tr h8).tn f9 (fun x hx => by omega)) ?_ ?_ ?_
    · exact (((rk.ext h57).ext h8).fr f9 (fun b hb => by omega)).wide (fun b hb => by omega)
    · exact (r8.fr f9 (fun b hb => by omega)).wide (fun b hb => by omega)
    · exact (q8.fr f9 (fun b hb => by omega)).wide (fun b hb => by omega)
  · have : (g0 + (j : Int) == gen) = false := by simpa using cj
    simp only [↓eBinI, ↓eDiv, ↓eShift, ↓eBinS, ↓ePick, ↓eNot, ↓eNeg, ↓eConv, ↓eConvS, ↓eExt0, ↓eExt1, ↓eExt2, ↓eFA, ↓eIA, ↓eLenSl, ↓eCapSl, ↓eLenS, ↓eMin, ↓eMax, ↓eCondT, ↓eCondF, ↓gIf_tt, ↓gIf_ff, ↓gIf_tf, ↓gIf_ft, ↓gIf_u, ↓gIfW_u, ↓gIfW_tt, ↓gIfW_ff, ↓gIfW_tf, ↓gIfW_ft, binI, divI, shiftI, add_mk, Nat.zero_add, cond_true, cond_false, decide_true, decide_false, Bool.not_true, Bool.not_false, Bool.and_true, Bool.true_and, Bool.and_false, Bool.false_and, Int.toNat_natCast, Nat.mul_one, this, ↓c7.c2, ↓c57.c0]
    have ok := one_of_rd rk
    refine ⟨[.int .i64 (g0 + (j : Int)), vk], fill2 rfl ok, ?_⟩
    refine Cs.bslice (cs := [.int .i64 (g0 + (j : Int)), vk]) (fillAgg rfl rfl) fun r w8 hr h8 b8 => ?_
    have z8 := h8.size
    have h58 := h57.tr h8
    have oW : G.Own tSkip (fun b => D2 b ∨ (w4.heap.size ≤ b ∧ b < B)) B w8 vs' (sk ++ skF g0 cur j) := (o5.ext h58).wide2 (fun b hb => .inl hb) (fun b hb hB' hnD => by
      rintro (hd | hd)
      · exact hnD hd
      · omega)
    have hrow : Rd tSkip (fun b => D2 b ∨ (w4.heap.size ≤ b ∧ b < B)) w8 [.int .i64 (g0 + (j : Int)), vk] (g0 + (j : Int), deriveF (curF cur j) keyL) :=
      ⟨[.int .i64 (g0 + (j : Int))], [vk], rfl, rfl, rfl, ⟨rfl, by show -9223372036854775808 ≤ g0 + (j : Int); omega, by show g0 + (j : Int) ≤ 9223372036854775807; omega⟩, (rk.ext h58).wide (fun b hb => .inr hb)⟩
    obtain ⟨T8, b8'⟩ := b8
    refine oW.push (by omega) (fun hd => hd.elim (fun hd => by have := hD2 _ hd; omega) (fun hd => by omega)) rfl rfl b8' hrow (by show (2 * ((sk ++ skF g0 cur j).length + 1) + 192) * 32 ≤ _; omega) fun v9 w9 o9 f9 hb9 => ?_
    rw [List.append_assoc, ← skF_succ] at o9
    have z9 := f9.size
    have c79 : Cs w9 g14 [.int .i64 (g0 + (j : Int) + 1), vn, vs'] := (c7.ext h8).fr f9 (fun hx => by have := hb5 _ hx.1; omega)
    have ov9 : one v9 = true := by obtain ⟨a, c, e, _⟩ := o9.form; rw [e]; rfl
    try simp only [↓eBinI, ↓eDiv, ↓eShift, ↓eBinS, ↓ePick, ↓eNot, ↓eNeg, ↓eConv, ↓eConvS, ↓eExt0, ↓eExt1, ↓eExt2, ↓eFA, ↓eIA, ↓eLenSl, ↓eCapSl, ↓eLenS, ↓eMin, ↓eMax, ↓eCondT, ↓eCondF, ↓gIf_tt, ↓gIf_ff, ↓gIf_tf, ↓gIf_ft, ↓gIf_u, ↓gIfW_u, ↓gIfW_tt, ↓gIfW_ff, ↓gIfW_tf, ↓gIfW_ft, binI, divI, shiftI, add_mk, Nat.zero_add, cond_true, cond_false, decide_true, decide_false, Bool.not_true, Bool.not_false, Bool.and_true, Bool.true_and, Bool.and_false, Bool.false_and, Int.toNat_natCast, Nat.mul_one]
    refine c79.set (i := 2) (by simp) ov9 fun w10 c10 f10 => ?_
    have c10 : Cs w10 g14 [.int .i64 (g0 + (j : Int) + 1), vn, v9] := c10
    have z10 := f10.size
    rw [c10.ld3]
    have h410 : Ext w4 w10 := ((h47.tr h8).tn f9 (fun x hx => by have := hx.2; omega)).tn f10 (fun x hx => by omega)
    have c510 : Cs w10 g5 [.int .i64 (g0 + (j : Int)), vc, vs] := c4.ext h410
    refine c510.setN (l' := [.int .i64 (g0 + (j : Int) + 1), vn, v9]) rfl rfl (allOne3 rfl on ov9) fun w11 c11 f11 => ?_
    have z11 := f11.size
    have hll : (sk ++ skF g0 cur (j + 1)).length < 9223372036854775808 := by rw [List.length_append, skF_len]; omega
    refine ratchet_At.leaf1 ⟨j + 1, vn, v9, by omega, (h4.tr h410).tn f11 (fun x hx => by omega), ?_, (c9.ext h410).fr f11 (by omega), ?_, ?_⟩ ?_
    · have : g0 + ((j + 1 : Nat) : Int) = g0 + (j : Int) + 1 := by omega
      rw [this]; exact c11
    · exact ((((rn.ext h58).fr f9 (fun b hb hx => by have := hx.2; omega)).fr f10 (fun b hb => by omega)).fr f11 (fun b hb => by omega)).wide (fun b hb => by omega)
    · have o10 := o9.fr f10 (fun b hb => hb.elim (fun hb => by have := hD2 _ hb; omega) (fun hb => by omega)) (fun b hb hB' => (hb9 b hb).elim (fun hx => by have := hb5 _ hx; omega) (fun hx => by omega))
      have o11 := o10.fr f11 (fun b hb => hb.elim (fun hb => by have := hD2 _ hb; omega) (fun hb => by omega)) (fun b hb hB' => by omega)
      exact o11.rd2 (fun b hb => hb.elim (fun hb => by have := hD2 _ hb; omega) (fun hb => by omega)) (fun b _ hB' _ => by omega) hll
    · have q1 : cellG w4 g5 = g0 + (j : Int) := by unfold cellG; rw [c4.c]; rfl
      have q2 : cellG w11 g5 = g0 + (j : Int) + 1 := by unfold cellG; rw [c11.c]; rfl
      rw [q1, q2]; omega
end Go.Proofs.YtkpgmaiklfjjgaaDoor
