/-
  Keyed sums and keys that are derived, of both sides.
-/
import Derived.Test.YtkpgmaiklfjjgaaDoorDk
import Derived.Test.YtkpgmaiklfjjgaaDoorDc
set_option linter.unusedSimpArgs false
set_option linter.unusedVariables false
namespace Go.Proofs.YtkpgmaiklfjjgaaDoor
open Go Go.G Go.RowKit
variable {X : KX} {w : World} {K : KV} {D D' : Nat → Prop}
abbrev NoB : Nat → Prop := fun _ => False
abbrev Any1 : Nat → Prop := fun _ => True
theorem own_rd {B : Nat} {v : Value} {xs : List UInt8} (h : G.Own .byte NoB B w v xs) (hl : xs.length < 9223372036854775808) : Rd (.slice .byte) (B ≤ ·) w [v] xs := h.rd (fun _ h => h.elim) (fun _ h => h) hl
/-- append(s, text...) of a text. -/
theorem catStr {B E : Nat} {v : Value} {xs : List UInt8} {s : ByteArray} (h : G.Own .byte NoB B w v xs) (hB : B ≤ w.heap.size) (hb : xs.length + s.data.toList.length ≤ 1000000)
    (k : ∀ v' w', G.Own .byte NoB B w' v' (xs ++ s.data.toList) → Fr (fun b => Blk v b ∧ B ≤ b) w w' → K v' w') : pApp E 1 1 [.int .u8 0] v (.string s) w K := by
  refine G.Own.app (t := .byte) h hB (fun h => h) rfl rfl (x := .string s) (ys := s.data.toList) (ds := bv s.data.toList) rfl ?_ (bv_rows _ _ _) (by show (2 * (xs.length + s.data.toList.length) + 192) * 1 ≤ _; omega) fun v' w' h1 h2 _ => k v' w' h1 h2
  show bv s.data.toList = (s.data.toList.take s.data.toList.length).map fun b => Value.int .u8 b.toNat
  rw [List.take_length]; rfl
theorem bytesOf {E : Nat} {s : ByteArray} (hs : s.data.toList.length < 9223372036854775808) (k : ∀ v w', Ext w w' → Rd (.slice .byte) (w.heap.size ≤ ·) w' [v] s.data.toList → K v w') : pBytesOf E (.string s) w K := by
  refine ⟨s, rfl, fun cap hc => ?_⟩
  refine k _ _ ((Ext.drew w).tr (Ext.alloc _ _)) ?_
  have hz : s.size = s.data.toList.length := rfl
  rw [hz]
  refine Rd.of_rows (bv_rows (w.heap.size ≤ ·) _ _) (fun _ h => h) (by rw [← hz]; exact hc) hs fun i u hi => ⟨_, rfl, rfl, Nat.le_refl _, ?_⟩
  rw [add_mk, Nat.zero_add, cell_mk (b := w.heap.size) (alloc_new w.drew _)]
  have hlt := (List.getElem?_eq_some_iff.1 hi).1
  rw [bv_len] at hlt
  rw [bv_get hlt] at hi
  cases hi
  have hlt' : i < s.data.size := hlt
  rw [Array.getElem?_append_left (by simpa using hlt')]
  simp [hlt']
  exact ⟨_, Array.getElem?_eq_getElem hlt', rfl⟩
def keyF (k : List UInt8) : List UInt8 := padF (if k.length > 64 then sumF k else k) 64
theorem keyF_len (k : List UInt8) : (keyF k).length = 64 := padF_len _ _
def overF (k : List UInt8) (c : UInt8) : List UInt8 := xorF (keyF k) (List.replicate 64 c)
theorem overF_len (k : List UInt8) (c : UInt8) : (overF k c).length = 64 := by simp [overF, xorF, keyF_len]
def ofF (k t : List UInt8) : List UInt8 := sumF (overF k 92 ++ sumF (overF k 54 ++ t))
theorem ofF_len (k t : List UInt8) : (ofF k t).length = 32 := sumF_len _
theorem Key_c {x : Value} {k : List UInt8} (hk : KT w) (hx : Rd (.slice .byte) D w [x] k) (hl : k.length ≤ 1000) (h : ∀ v w', Ext w w' → G.Own .byte NoB w.heap.size w' v (keyF k) → K v w') : GCalls Tryd.prog 119 [x] K X w := by
  obtain ⟨a, c, rfl, hc, _⟩ := hx.form
  apply mac_Key.calls; unfold mac_Key.b
  by_cases c6 : (k.length : Int) > 64
  · simp only [↓eBinI, ↓eDiv, ↓eShift, ↓eBinS, ↓ePick, ↓eNot, ↓eNeg, ↓eConv, ↓eConvS, ↓eExt0, ↓eExt1, ↓eExt2, ↓eFA, ↓eIA, ↓eLenSl, ↓eCapSl, ↓eLenS, ↓eMin, ↓eMax, ↓eCondT, ↓eCondF, ↓gIf_tt, ↓gIf_ff, ↓gIf_tf, ↓gIf_ft, ↓gIf_u, ↓gIfW_u, ↓gIfW_tt, ↓gIfW_ff, ↓gIfW_tf, ↓gIfW_ft, binI, divI, shiftI, add_mk, Nat.zero_add, cond_true, cond_false, decide_true, decide_false, Bool.not_true, Bool.not_false, Bool.and_true, Bool.true_and, Bool.and_false, Bool.false_and, Int.toNat_natCast, Nat.mul_one, c6]
    refine Sum_c hk hx hl fun v w1 h1 o1 => ?_
    unfold mac_Key.j1
    have hs := sumF_len k
    refine num_Pad_c (n := 64) (own_rd o1 (by show (sumF k).length < _; omega)) (by omega) (by omega) fun v2 w2 h2 o2 => ?_
    refine h _ _ (h1.tr h2) ?_
    rw [keyF, if_pos (by omega)]
    exact o2.low h1.size
  · simp only [↓eBinI, ↓eDiv, ↓eShift, ↓eBinS, ↓ePick, ↓eNot, ↓eNeg, ↓eConv, ↓eConvS, ↓eExt0, ↓eExt1, ↓eExt2, ↓eFA, ↓eIA, ↓eLenSl, ↓eCapSl, ↓eLenS, ↓eMin, ↓eMax, ↓eCondT, ↓eCondF, ↓gIf_tt, ↓gIf_ff, ↓gIf_tf, ↓gIf_ft, ↓gIf_u, ↓gIfW_u, ↓gIfW_tt, ↓gIfW_ff, ↓gIfW_tf, ↓gIfW_ft, binI, divI, shiftI, add_mk, Nat.zero_add, cond_true, cond_false, decide_true, decide_false, Bool.not_true, Bool.not_false, Bool.and_true, Bool.true_and, Bool.and_false, Bool.false_and, Int.toNat_natCast, Nat.mul_one, c6]
    unfold mac_Key.j1
    refine num_Pad_c (n := 64) hx (by omega) (by omega) fun v2 w2 h2 o2 => ?_
    refine h _ _ h2 ?_
    rw [keyF, if_neg (by omega)]
    exact o2
theorem ref_Key_c {x : Value} {k : List UInt8} (hx : Rd (.slice .byte) D w [x] k) (hl : k.length ≤ 1000) (h : ∀ v w', Ext w w' → G.Own .byte NoB w.heap.size w' v (keyF k) → K v w') : GCalls Tryd.prog 109 [x] K X w := by
  obtain ⟨a, c, rfl, hc, _⟩ := hx.form
  apply oublietteref08_Key.calls; unfold oublietteref08_Key.b
  by_cases c6 : (k.length : Int) > 64
  · simp only [↓eBinI, ↓eDiv, ↓eShift, ↓eBinS, ↓ePick, ↓eNot, ↓eNeg, ↓eConv, ↓eConvS, ↓eExt0, ↓eExt1, ↓eExt2, ↓eFA, ↓eIA, ↓eLenSl, ↓eCapSl, ↓eLenS, ↓eMin, ↓eMax, ↓eCondT, ↓eCondF, ↓gIf_tt, ↓gIf_ff, ↓gIf_tf, ↓gIf_ft, ↓gIf_u, ↓gIfW_u, ↓gIfW_tt, ↓gIfW_ff, ↓gIfW_tf, ↓gIfW_ft, binI, divI, shiftI, add_mk, Nat.zero_add, cond_true, cond_false, decide_true, decide_false, Bool.not_true, Bool.not_false, Bool.and_true, Bool.true_and, Bool.and_false, Bool.false_and, Int.toNat_natCast, Nat.mul_one, c6]
    refine ref_Sum_c hx (by omega) fun v w1 h1 o1 => ?_
    unfold oublietteref08_Key.j1
    have hs := sumF_len k
    refine ref_Pad_c (n := 64) (own_rd o1 (by show (sumF k).length < _; omega)) (by omega) (by omega) fun v2 w2 h2 o2 => ?_
    refine h _ _ (h1.tr h2) ?_
    rw [keyF, if_pos (by omega)]
    exact o2.low h1.size
  · simp only [↓eBinI, ↓eDiv, ↓eShift, ↓eBinS, ↓ePick, ↓eNot, ↓eNeg, ↓eConv, ↓eConvS, ↓eExt0, ↓eExt1, ↓eExt2, ↓eFA, ↓eIA, ↓eLenSl, ↓eCapSl, ↓eLenS, ↓eMin, ↓eMax, ↓eCondT, ↓eCondF, ↓gIf_tt, ↓gIf_ff, ↓gIf_tf, ↓gIf_ft, ↓gIf_u, ↓gIfW_u, ↓gIfW_tt, ↓gIfW_ff, ↓gIfW_tf, ↓gIfW_ft, binI, divI, shiftI, add_mk, Nat.zero_add, cond_true, cond_false, decide_true, decide_false, Bool.not_true, Bool.not_false, Bool.and_true, Bool.true_and, Bool.and_false, Bool.false_and, Int.toNat_natCast, Nat.mul_one, c6]
    unfold oublietteref08_Key.j1
    refine ref_Pad_c (n := 64) hx (by omega) (by omega) fun v2 w2 h2 o2 => ?_
    refine h _ _ h2 ?_
    rw [keyF, if_neg (by omega)]
    exact o2
theorem over_c {g : Nat} {v : Value} {k : List UInt8} {c : UInt8} (hc : Cs w g [v]) (hv : Rd (.slice .byte) D w [v] (keyF k)) (h : ∀ v w', Ext w w' → G.Own .byte NoB w.heap.size w' v (overF k c) → K v w') : GCalls Tryd.prog 120 [.int .u8 (c.toNat : Int), .pointer (some ⟨g, 0, none⟩)] K X w := by
  apply mac_tag_c1.calls; unfold mac_tag_c1.b
  refine draw_ fun w1 h1 => ?_
  rw [(hc.ext h1).e0]
  refine bslice1 rfl fun r w2 hr h2 c2 => ?_
  refine ⟨h2, ?_⟩
  have hrd : Rd (.slice .byte) Any1 w2 [.slice (some ⟨r, 0, none⟩) 1 1] [c] := Rd.of_rows (bv_rows Any1 w2 [c]) (fun _ h => h) (by simp) (by simp) fun i u hi => ⟨_, rfl, rfl, trivial, by rw [add_mk, Nat.zero_add, c2.c]; exact hi⟩
  refine Repeat_c hrd fun v3 w3 h3 r3 => ?_
  refine ⟨h2.tr h3, ?_⟩
  have h13 := (h1.tr h2).tr h3
  refine num_Xor_c (n := 64) (hv.ext h13) r3 (keyF_len k) (by simp) (by omega) fun v4 w4 h4 o4 => ?_
  refine anew_ ?_
  exact h _ _ (h13.tr h4) (o4.low h13.size)
theorem ref_over_c {x : Value} {k : List UInt8} {c : UInt8} (hx : Rd (.slice .byte) D w [x] k) (hl : k.length ≤ 1000) (h : ∀ v w', Ext w w' → G.Own .byte NoB w.heap.size w' v (overF k c) → K v w') : GCalls Tryd.prog 94 [x, .int .u8 (c.toNat : Int)] K X w := by
  apply oublietteref08_over.calls; unfold oublietteref08_over.b
  refine ref_Key_c hx hl fun v w1 h1 o1 => ?_
  have hkl := keyF_len k
  have r1 := own_rd o1 (by show (keyF k).length < _; omega)
  have hol := overF_len k c
  refine oublietteref08_over.loop1 (fun x5 x7 w' => ∃ i : Nat, i ≤ 64 ∧ x7 = .int .i64 i ∧ Ext w1 w' ∧ G.Own .byte NoB w1.heap.size w' x5 ((overF k c).take i)) (fun _ x7 _ => 64 - (iv x7).toNat) ⟨0, by omega, rfl, Fr.refl _ _, G.Own.nil⟩ ?_
  rintro x5 x7 gg w2 ⟨i, hi, rfl, h2, o2⟩
  unfold oublietteref08_over.b1
  by_cases ci : (i : Int) < 64
  · obtain ⟨b1, k1, e1, q1⟩ := idxByte (r1.ext h2) (i := i) (by omega)
    subst e1
    simp only [↓eBinI, ↓eDiv, ↓eShift, ↓eBinS, ↓ePick, ↓eNot, ↓eNeg, ↓eConv, ↓eConvS, ↓eExt0, ↓eExt1, ↓eExt2, ↓eFA, ↓eIA, ↓eLenSl, ↓eCapSl, ↓eLenS, ↓eMin, ↓eMax, ↓eCondT, ↓eCondF, ↓gIf_tt, ↓gIf_ff, ↓gIf_tf, ↓gIf_ft, ↓gIf_u, ↓gIfW_u, ↓gIfW_tt, ↓gIfW_ff, ↓gIfW_tf, ↓gIfW_ft, binI, divI, shiftI, add_mk, Nat.zero_add, cond_true, cond_false, decide_true, decide_false, Bool.not_true, Bool.not_false, Bool.and_true, Bool.true_and, Bool.and_false, Bool.false_and, Int.toNat_natCast, Nat.mul_one, ci, hkl, ↓eLdW, q1, Option.some.injEq, exists_eq_left', wXor8]
    repeat ((with_reducible refine And.intro ?_ ?_); · first | omega | exact True.intro)
    refine bslice1 rfl fun r w3 hr h3 c3 => ?_
    refine (o2.ext h3).push1 c3 (x := (keyF k)[i]'(by omega) ^^^ c) (show [_] = [_] from rfl) (h2.tr h3).size (fun h => h) rfl (by show (2 * (((overF k c).take i).length + 1) + 192) * 1 ≤ _; rw [List.length_take]; omega) fun v w4 hv hf _ => ?_
    rw [wrap64 (by omega) (by omega)]
    refine oublietteref08_over.leaf1 ⟨i + 1, by omega, by simp, (h2.tr h3).tn hf (fun x hx => hx.2), ?_⟩ (by simp only [iv]; omega)
    rw [List.take_succ_eq_append_getElem (by omega)]
    have : (overF k c)[i]'(by omega) = (keyF k)[i]'(by omega) ^^^ c := by simp only [overF, xorF, List.getElem_zipWith, List.getElem_replicate]
    rw [this]; exact hv
  · simp only [↓eBinI, ↓eDiv, ↓eShift, ↓eBinS, ↓ePick, ↓eNot, ↓eNeg, ↓eConv, ↓eConvS, ↓eExt0, ↓eExt1, ↓eExt2, ↓eFA, ↓eIA, ↓eLenSl, ↓eCapSl, ↓eLenS, ↓eMin, ↓eMax, ↓eCondT, ↓eCondF, ↓gIf_tt, ↓gIf_ff, ↓gIf_tf, ↓gIf_ft, ↓gIf_u, ↓gIfW_u, ↓gIfW_tt, ↓gIfW_ff, ↓gIfW_tf, ↓gIfW_ft, binI, divI, shiftI, add_mk, Nat.zero_add, cond_true, cond_false, decide_true, decide_false, Bool.not_true, Bool.not_false, Bool.and_true, Bool.true_and, Bool.and_false, Bool.false_and, Int.toNat_natCast, Nat.mul_one, ci]
    have : i = 64 := by omega
    subst this
    rw [List.take_of_length_le (by omega)] at o2
    exact h _ _ (h1.tr h2) (o2.low h1.size)
theorem ref_Of_c {x y : Value} {k t : List UInt8} (hx : Rd (.slice .byte) D w [x] k) (hl : k.length ≤ 1000) (hy : Rd (.slice .byte) D' w [y] t) (ht : t.length ≤ 900) (h : ∀ v w', Ext w w' → G.Own .byte NoB w.heap.size w' v (ofF k t) → K v w') : GCalls Tryd.prog 75 [x, y] K X w := by
  apply oublietteref08_Of.calls; unfold oublietteref08_Of.b
  have l5 := overF_len k 54; have l9 := overF_len k 92
  have ls := sumF_len (overF k 54 ++ t)
  refine ref_over_c (c := 54) hx hl fun v1 w1 h1 o1 => ?_
  refine ref01_Join_c (own_rd o1 (by show (overF k 54).length < _; omega)) (hy.ext h1) (by rw [l5]; omega) fun v2 w2 h2 o2 => ?_
  refine ref_Sum_c (own_rd o2 (by show (overF k 54 ++ t).length < _; rw [List.length_append, l5]; omega)) (by rw [List.length_append, l5]; omega) fun v3 w3 h3 o3 => ?_
  have h13 := (h1.tr h2).tr h3
  refine ref_over_c (c := 92) (hx.ext h13) hl fun v4 w4 h4 o4 => ?_
  refine ref01_Join_c (own_rd o4 (by show (overF k 92).length < _; omega)) (own_rd (o3.ext h4) (by show (sumF _).length < _; omega)) (by rw [l9, ls]; omega) fun v5 w5 h5 o5 => ?_
  refine ref_Sum_c (own_rd o5 (by show (overF k 92 ++ sumF (overF k 54 ++ t)).length < _; rw [List.length_append, l9, ls]; omega)) (by rw [List.length_append, l9, ls]; omega) fun v6 w6 h6 o6 => ?_
  have h15 := (h13.tr h4).tr h5
  exact h _ _ (h15.tr h6) (o6.low h15.size)
theorem Of_c {x y : Value} {k t : List UInt8} (hk : KT w) (hx : Rd (.slice .byte) D w [x] k) (hl : k.length ≤ 1000) (hy : Rd (.slice .byte) D' w [y] t) (ht : t.length ≤ 900) (h : ∀ v w', Ext w w' → G.Own .byte NoB w.heap.size w' v (ofF k t) → K v w') : GCalls Tryd.prog 96 [x, y] K X w := by
  apply mac_Of.calls; unfold mac_Of.b
  obtain ⟨ay, cy, ey, _, _⟩ := hy.form
  refine bslice1 (by rw [ey]; rfl) fun g0 w0 hg0 h0 c0 => ?_
  refine (?_ : GCalls Tryd.prog 110 _ _ X w0)
  apply mac_tag.calls; unfold mac_tag.b
  have l5 := overF_len k 54; have l9 := overF_len k 92; have lk := keyF_len k
  have ls := sumF_len (overF k 54 ++ t)
  refine Key_c (hk.ext h0) (hx.ext h0) hl fun v1 w1 h1 o1 => ?_
  refine boxC (cs := [.slice none 0 0]) fun g w2 hg h2 c2 => ?_
  have lg := c2.lt
  obtain ⟨a1, cc1, e1, _⟩ := o1.form
  refine c2.set (i := 0) (by simp) (by rw [e1]; rfl) fun w3 c3 f3 => ?_
  have c3 : Cs w3 g [v1] := c3
  have z0 := h0.size; have z1 := h1.size; have z2 := h2.size; have z3 := f3.size
  have h23 : Ext w1 w3 := h2.tn f3 (fun x hx => by omega)
  have r1 := own_rd (o1.ext h23) (by show (keyF k).length < _; omega)
  refine (?_ : GCalls Tryd.prog 120 [.int .u8 (((54 : UInt8).toNat : Nat) : Int), .pointer (some ⟨g, 0, none⟩)] _ X w3)
  refine over_c c3 r1 fun v4 w4 h4 o4 => ?_
  have h04 := ((h1.tr h23).tr h4)
  have hrd4 : Rd (.slice (.slice .byte)) Any1 w4 [.slice (some ⟨g0, 0, none⟩) 1 1] [t] := by
    have hr : RdL (.slice .byte) Any1 w4 [y] [t] := ⟨[y], [], rfl, ((hy.ext h0).ext h04).wide (fun _ _ => trivial), rfl⟩
    have hc5 := c0.ext h04
    exact Rd.of_rows hr (fun _ h => h) (show 1 ≤ 1 by omega) (show 1 < _ by omega) fun i u hi => ⟨_, rfl, rfl, trivial, by rw [add_mk, Nat.zero_add, hc5.c]; exact hi⟩
  refine Concat_c hrd4 (show 1 ≤ _ by omega) (fun i hi => by
    match i, hi with
    | 0, _ => show t.length ≤ 1000; omega) fun v5 w5 h5 o5 => ?_
  have hfl : [t].flatten = t := by simp
  rw [hfl] at o5
  refine (o4.ext h5).cat (h4.tr h5).size (fun h => h) rfl rfl (own_rd o5 (by show t.length < _; omega)) (fun cs h => h.flat rfl) (by show (2 * ((overF k 54).length + t.length) + 192) * 1 ≤ _; omega) fun v6 w6 o6 f6 _ => ?_
  have h36 : Ext w3 w6 := (h4.tr h5).tn f6 (fun x hx => hx.2)
  have h06 := (h1.tr h23).tr h36
  refine Sum_c ((hk.ext h0).ext h06) (own_rd o6 (by show (overF k 54 ++ t).length < _; rw [List.length_append, l5]; omega)) (by rw [List.length_append, l5]; omega) fun v7 w7 h7 o7 => ?_
  refine (?_ : GCalls Tryd.prog 120 [.int .u8 (((92 : UInt8).toNat : Nat) : Int), .pointer (some ⟨g, 0, none⟩)] _ X w7)
  refine over_c (c3.ext (h36.tr h7)) (r1.ext (h36.tr h7)) fun v8 w8 h8 o8 => ?_
  refine o8.cat h8.size (fun h => h) rfl rfl (own_rd (o7.ext h8) (by show (sumF _).length < _; omega)) (fun cs h => h.flat rfl) (by show (2 * ((overF k 92).length + (sumF _).length) + 192) * 1 ≤ _; omega) fun v9 w9 o9 f9 _ => ?_
  have h79 : Ext w7 w9 := h8.tn f9 (fun x hx => hx.2)
  have h09 := (h06.tr h7).tr h79
  refine Sum_c ((hk.ext h0).ext h09) (own_rd o9 (by show (overF k 92 ++ sumF _).length < _; rw [List.length_append, l9, ls]; omega)) (by rw [List.length_append, l9, ls]; omega) fun v10 w10 h10 o10 => ?_
  exact h _ _ ((h0.tr h09).tr h10) (o10.low (h0.tr h09).size)
end Go.Proofs.YtkpgmaiklfjjgaaDoor
