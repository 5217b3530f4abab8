/-
  A byte, 64 times.
  Keyed sums and keys that are derived, of both sides.
  Keys that are derived, of both sides.
  Derive of both sides.
  The library's contracts, laid at this program.
-/
import Derived.Test.YtkpgmaiklfjjgaaGreatDoorMoal
import Derived.Shelf.Strconv.Itoa3
import Derived.Test.YtkpgmaiklfjjgaaGreatDoorProg
section
set_option linter.unusedSimpArgs false
set_option linter.unusedVariables false
namespace Go.Proofs.YtkpgmaiklfjjgaaGreatDoor
open Go Go.G
variable {X : KX} {w : World} {K : KV} {D D' : Nat → Prop}
theorem Mul64_c (h : K (.tuple #[.int .u64 0, .int .u64 64]) w) : GCalls Tryz.prog 122 [.int .u64 1, .int .u64 64] K X w := by
  apply bits_Mul64.calls; unfold bits_Mul64.b
  have e1 : IntKind.u64.wrap (((BitVec.ofInt IntKind.u64.bits 1 &&& BitVec.ofInt IntKind.u64.bits 4294967295).toNat : Nat) : Int) = 1 := by decide
  have e2 : IntKind.u64.wrap (((BitVec.ofInt IntKind.u64.bits 64 &&& BitVec.ofInt IntKind.u64.bits 4294967295).toNat : Nat) : Int) = 64 := by decide
  have e3 : (1 : Int).fdiv (2 ^ min (32 : Int).toNat IntKind.u64.bits) = 0 := by decide
  have e4 : (64 : Int).fdiv (2 ^ min (32 : Int).toNat IntKind.u64.bits) = 0 := by decide
  have e5 : IntKind.u64.wrap (1 * 64) = 64 := by decide
  have e6 : IntKind.u64.wrap (0 * 64) = 0 := by decide
  have e7 : IntKind.u64.wrap (0 + 0) = 0 := by decide
  have e8 : IntKind.u64.wrap (((BitVec.ofInt IntKind.u64.bits 0 &&& BitVec.ofInt IntKind.u64.bits 4294967295).toNat : Nat) : Int) = 0 := by decide
  have e9 : (0 : Int).fdiv (2 ^ min (32 : Int).toNat IntKind.u64.bits) = 0 := by decide
  have e10 : IntKind.u64.wrap (1 * 0) = 0 := by decide
  have e11 : IntKind.u64.wrap (0 * 0) = 0 := by decide
  have e0 : (0 : Int) ≤ 32 := by decide
  simp only [↓eBinI, ↓eShift, binI, shiftI, e0, e1, e2, e3, e4, e5, e6, e7, e8, e9, e10, e11, true_and]
  exact h
theorem Mul_c (h : K (.tuple #[.int .u64 0, .int .u64 64]) w) : GCalls Tryz.prog 113 [.int .u64 1, .int .u64 64] K X w := by
  apply bits_Mul.calls; unfold bits_Mul.b
  simp only [↓eBinI, ↓eDiv, ↓eShift, ↓eBinS, ↓ePick, ↓eNot, ↓eNeg, ↓eConv, ↓eConvS, ↓eExt0, ↓eExt1, ↓eExt2, ↓eFA, ↓eIA, ↓eLenSl, ↓eCapSl, ↓eLenS, ↓eMin, ↓eMax, ↓eCondT, ↓eCondF, ↓gIf_tt, ↓gIf_ff, ↓gIf_tf, ↓gIf_ft, ↓gIf_u, ↓gIfW_u, ↓gIfW_tt, ↓gIfW_ff, ↓gIfW_tf, ↓gIfW_ft, binI, divI, shiftI, add_mk, Nat.zero_add, cond_true, cond_false, decide_true, decide_false, Bool.not_true, Bool.not_false, Bool.and_true, Bool.true_and, Bool.and_false, Bool.false_and, Int.toNat_natCast, Nat.mul_one]
  refine Mul64_c ?_
  simp only [↓eBinI, ↓eDiv, ↓eShift, ↓eBinS, ↓ePick, ↓eNot, ↓eNeg, ↓eConv, ↓eConvS, ↓eExt0, ↓eExt1, ↓eExt2, ↓eFA, ↓eIA, ↓eLenSl, ↓eCapSl, ↓eLenS, ↓eMin, ↓eMax, ↓eCondT, ↓eCondF, ↓gIf_tt, ↓gIf_ff, ↓gIf_tf, ↓gIf_ft, ↓gIf_u, ↓gIfW_u, ↓gIfW_tt, ↓gIfW_ff, ↓gIfW_tf, ↓gIfW_ft, binI, divI, shiftI, add_mk, Nat.zero_add, cond_true, cond_false, decide_true, decide_false, Bool.not_true, Bool.not_false, Bool.and_true, Bool.true_and, Bool.and_false, Bool.false_and, Int.toNat_natCast, Nat.mul_one]
  exact h
/-- A row of bytes that nobody wrote yet. -/
theorem MakeNoZero_c {K : KV} (h : ∀ g w' l, w.heap.size = g → Ext w w' → Cs w' g l → 64 ≤ l.length → K (.slice (some ⟨g, 0, none⟩) 64 l.length) w') : pCall Tryz.prog 114 [.int .i64 64] X w K := by
  refine .inr ?_
  obtain ⟨cs, hr, h1, h2, _⟩ := Lib.run_makeNoZero_cap (P := Tryz.prog) w #[3] 22 5 (by kernel_rfl) 64 (by omega)
  refine ⟨_, _, ?_, h w.heap.size (w.drew.drew.alloc (.cells cs 5)) cs.toList rfl (((Ext.drew w).tr (Ext.drew _)).tr (Ext.alloc _ _)) ⟨5, alloc_new w.drew.drew _⟩ (by simpa using h1)⟩
  rw [run_callFunc_extern Tryz.func114 (by kernel_rfl) (by kernel_rfl) (by kernel_rfl) (e := Extern.BytealgMakeNoZero.makeNoZero #[3] #[22]) (by kernel_rfl)]
  have : (#[Value.int IntKind.i64 64] : Array Value) = #[.int .i64 ((64 : Nat) : Int)] := rfl
  rw [show ([Value.int IntKind.i64 64] : List Value).toArray = #[.int .i64 ((64 : Nat) : Int)] from rfl, hr]
  rfl
theorem Repeat_c {x : Value} {c : UInt8} (hx : Rd (.slice .byte) D w [x] [c]) (h : ∀ v w', Ext w w' → Rd (.slice .byte) (fun _ => True) w' [v] (List.replicate 64 c) → K v w') : GCalls Tryz.prog 105 [x, .int .i64 64] K X w := by
  obtain ⟨a, cp, rfl, hc, hl⟩ := hx.form
  apply bytes_Repeat.calls; unfold bytes_Repeat.b
  have e1 : IntKind.u64.wrap ((1 : Nat) : Int) = 1 := by decide
  have e2 : IntKind.u64.wrap 64 = 64 := by decide
  have e3 : IntKind.i64.wrap 64 = 64 := by decide
  simp only [↓eBinI, ↓eDiv, ↓eShift, ↓eBinS, ↓ePick, ↓eNot, ↓eNeg, ↓eConv, ↓eConvS, ↓eExt0, ↓eExt1, ↓eExt2, ↓eFA, ↓eIA, ↓eLenSl, ↓eCapSl, ↓eLenS, ↓eMin, ↓eMax, ↓eCondT, ↓eCondF, ↓gIf_tt, ↓gIf_ff, ↓gIf_tf, ↓gIf_ft, ↓gIf_u, ↓gIfW_u, ↓gIfW_tt, ↓gIfW_ff, ↓gIfW_tf, ↓gIfW_ft, binI, divI, shiftI, add_mk, Nat.zero_add, cond_true, cond_false, decide_true, decide_false, Bool.not_true, Bool.not_false, Bool.and_true, Bool.true_and, Bool.and_false, Bool.false_and, Int.toNat_natCast, Nat.mul_one, show ([c] : List UInt8).length = 1 from rfl, e1, e2, show ((64 : Int) == 0) = false from by decide, show decide ((64 : Int) < 0) = false from by decide]
  refine Mul_c ?_
  simp only [↓eBinI, ↓eDiv, ↓eShift, ↓eBinS, ↓ePick, ↓eNot, ↓eNeg, ↓eConv, ↓eConvS, ↓eExt0, ↓eExt1, ↓eExt2, ↓eFA, ↓eIA, ↓eLenSl, ↓eCapSl, ↓eLenS, ↓eMin, ↓eMax, ↓eCondT, ↓eCondF, ↓gIf_tt, ↓gIf_ff, ↓gIf_tf, ↓gIf_ft, ↓gIf_u, ↓gIfW_u, ↓gIfW_tt, ↓gIfW_ff, ↓gIfW_tf, ↓gIfW_ft, binI, divI, shiftI, add_mk, Nat.zero_add, cond_true, cond_false, decide_true, decide_false, Bool.not_true, Bool.not_false, Bool.and_true, Bool.true_and, Bool.and_false, Bool.false_and, Int.toNat_natCast, Nat.mul_one, e3, show decide ((0 : Int) > 0) = false from by decide, show decide ((64 : Int) > 9223372036854775807) = false from by decide, show ((((1 : Nat) : Int)) == 0) = false from by decide, show decide ((64 : Int) > 8192) = false from by decide]
  unfold bytes_Repeat.j1
  refine MakeNoZero_c fun g w1 l hg h1 hcs hll => ?_
  refine eSl (l := 0) (h := 64) (m := 64) bnd_none (bnd_int (by omega)) (bnd_int (by omega)) (by omega) (by omega) hll (by simp) ?_
  rw [if_neg (by omega)]
  simp only [Option.map_some, Nat.zero_mul, add_zero, Nat.sub_zero]
  refine hcs.copy (k := 1) (by show min 1 64 = 1; decide) (reads_bv (hx.ext h1) (by simp)) (by simp [bv]) (by omega) (bv_one _) fun w2 hc2 hf2 => ?_
  refine bytes_Repeat.loop1 (fun x10 w' => ∃ i : Nat, 1 ≤ i ∧ i ≤ 64 ∧ x10 = .int .i64 i ∧ Ext w w' ∧ ∃ rest, Cs w' g (bv (List.replicate i c) ++ rest) ∧ i + rest.length = l.length) (fun x10 _ => 64 - (iv x10).toNat)
    ⟨1, by omega, by omega, rfl, h1.tn hf2 (fun x hx => by omega), l.drop 1, by simpa [bv] using hc2, by rw [List.length_drop]; omega⟩ ?_
  rintro x10 gg w3 ⟨i, hi1, hi64, rfl, h3, rest, hc3, hr⟩
  unfold bytes_Repeat.b1
  by_cases ci : (i : Int) < 64
  · have e5 : (if (64 : Int) < (i : Int) then (64 : Int) else (i : Int)) = (i : Int) := by rw [if_neg (by omega)]
    simp only [↓eBinI, ↓eDiv, ↓eShift, ↓eBinS, ↓ePick, ↓eNot, ↓eNeg, ↓eConv, ↓eConvS, ↓eExt0, ↓eExt1, ↓eExt2, ↓eFA, ↓eIA, ↓eLenSl, ↓eCapSl, ↓eLenS, ↓eMin, ↓eMax, ↓eCondT, ↓eCondF, ↓gIf_tt, ↓gIf_ff, ↓gIf_tf, ↓gIf_ft, ↓gIf_u, ↓gIfW_u, ↓gIfW_tt, ↓gIfW_ff, ↓gIfW_tf, ↓gIfW_ft, binI, divI, shiftI, add_mk, Nat.zero_add, cond_true, cond_false, decide_true, decide_false, Bool.not_true, Bool.not_false, Bool.and_true, Bool.true_and, Bool.and_false, Bool.false_and, Int.toNat_natCast, Nat.mul_one, ci, e5]
    refine drawS (· = g) fun w4 h4 => ?_
    refine eSl (l := i) (h := 64) (m := 64) (bnd_int (by omega)) bnd_none bnd_none (by omega) (by omega) (by omega) (by simp) ?_
    rw [if_neg (by omega)]
    refine eSl (l := 0) (h := i) (m := 64) bnd_none (bnd_int (by omega)) bnd_none (by omega) (by omega) (by omega) (by simp) ?_
    rw [if_neg (by omega)]
    simp only [Option.map_some, Nat.zero_mul, add_zero, Nat.sub_zero, add_mk, Nat.zero_add, Nat.mul_one]
    have hlen : (bv (List.replicate i c) ++ rest).length = l.length := by rw [List.length_append, bv_len, List.length_replicate]; omega
    have hk : min i (64 - i) ≤ i := Nat.min_le_left _ _
    have hk2 : min i (64 - i) ≤ 64 - i := Nat.min_le_right _ _
    have hk3 : 1 ≤ min i (64 - i) := Nat.le_min.2 ⟨hi1, by omega⟩
    generalize hkk : min i (64 - i) = k at hk hk2 hk3
    have er : ((bv (List.replicate i c) ++ rest).drop 0).take k = bv (List.replicate k c) := by
      rw [List.drop_zero, List.take_append_of_le_length (by rw [bv_len, List.length_replicate]; exact hk)]
      simp only [bv, ← List.map_take, List.take_replicate]
      rw [Nat.min_eq_left hk]
    have hrd := (hc3.ext h4).reads (n := i) (c := 64) (k := k) (o := 0) (by rw [hlen]; omega)
    rw [er] at hrd
    refine (hc3.ext h4).copy (k := k) hkk hrd (by rw [bv_len, List.length_replicate]) (by rw [hlen]; omega) (bv_one _) fun w5 hc5 hf5 => ?_
    have h5 : Ext w w5 := (h3.tr h4).tn hf5 (fun x hx => by omega)
    have e6 : (bv (List.replicate i c) ++ rest).take i ++ bv (List.replicate k c) ++ (bv (List.replicate i c) ++ rest).drop (i + k) = bv (List.replicate (i + k) c) ++ rest.drop k := by
      rw [List.take_append_of_le_length (by rw [bv_len, List.length_replicate]; exact Nat.le_refl _), List.take_of_length_le (by rw [bv_len, List.length_replicate]; exact Nat.le_refl _), List.drop_append,
        List.drop_of_length_le (by rw [bv_len, List.length_replicate]; omega), bv_len, List.length_replicate, List.nil_append, Nat.add_sub_cancel_left]
      simp [bv, ← List.replicate_append_replicate]
    rw [e6] at hc5
    refine ⟨hf5, ?_⟩
    simp only [↓eBinI, ↓eDiv, ↓eShift, ↓eBinS, ↓ePick, ↓eNot, ↓eNeg, ↓eConv, ↓eConvS, ↓eExt0, ↓eExt1, ↓eExt2, ↓eFA, ↓eIA, ↓eLenSl, ↓eCapSl, ↓eLenS, ↓eMin, ↓eMax, ↓eCondT, ↓eCondF, ↓gIf_tt, ↓gIf_ff, ↓gIf_tf, ↓gIf_ft, ↓gIf_u, ↓gIfW_u, ↓gIfW_tt, ↓gIfW_ff, ↓gIfW_tf, ↓gIfW_ft, binI, divI, shiftI, add_mk, Nat.zero_add, cond_true, cond_false, decide_true, decide_false, Bool.not_true, Bool.not_false, Bool.and_true, Bool.true_and, Bool.and_false, Bool.false_and, Int.toNat_natCast, Nat.mul_one]
    rw [wrap64 (by omega) (by omega)]
    refine bytes_Repeat.leaf1 ⟨i + k, by omega, by omega, by simp, h5, rest.drop k, hc5, by rw [List.length_drop]; omega⟩ (by simp only [iv]; omega)
  · simp only [↓eBinI, ↓eDiv, ↓eShift, ↓eBinS, ↓ePick, ↓eNot, ↓eNeg, ↓eConv, ↓eConvS, ↓eExt0, ↓eExt1, ↓eExt2, ↓eFA, ↓eIA, ↓eLenSl, ↓eCapSl, ↓eLenS, ↓eMin, ↓eMax, ↓eCondT, ↓eCondF, ↓gIf_tt, ↓gIf_ff, ↓gIf_tf, ↓gIf_ft, ↓gIf_u, ↓gIfW_u, ↓gIfW_tt, ↓gIfW_ff, ↓gIfW_tf, ↓gIfW_ft, binI, divI, shiftI, add_mk, Nat.zero_add, cond_true, cond_false, decide_true, decide_false, Bool.not_true, Bool.not_false, Bool.and_true, Bool.true_and, Bool.and_false, Bool.false_and, Int.toNat_natCast, Nat.mul_one, ci]
    have : i = 64 := by omega
    subst this
    refine h _ _ h3 ?_
    have hn : (List.replicate 64 c).length = 64 := by simp
    have := Rd.of_rows (t := .byte) (D := fun _ => True) (D' := fun _ => True) (w := w3) (xs := List.replicate 64 c) (cs := bv (List.replicate 64 c)) (a := some ⟨g, 0, none⟩) (c := 64) (bv_rows _ _ _) (fun _ h => h) (by rw [hn]; omega) (by rw [hn]; omega) fun j u hj => ⟨_, rfl, rfl, trivial, by
      rw [add_mk, Nat.zero_add, hc3.c, List.getElem?_append_left (List.getElem?_eq_some_iff.1 hj).1]; exact hj⟩
    rw [hn] at this
    exact this
end Go.Proofs.YtkpgmaiklfjjgaaGreatDoor
end
section
set_option linter.unusedSimpArgs false
set_option linter.unusedVariables false
namespace Go.Proofs.YtkpgmaiklfjjgaaGreatDoor
open Go Go.G Go.RowKit
variable {X : KX} {w : World} {K : KV} {D D' : Nat → Prop}
abbrev NoB : Nat → Prop := fun _ => False
abbrev Any1 : Nat → Prop := fun _ => True
theorem own_rd {B : Nat} {v : Value} {xs : List UInt8} (h : G.Own .byte NoB B w v xs) (hl : xs.length < 9223372036854775808) : Rd (.slice .byte) (B ≤ ·) w [v] xs := h.rd (fun _ h => h.elim) (fun _ h => h) hl
/-- append(s, text...) of a text. -/
theorem catStr {B E : Nat} {v : Value} {xs : List UInt8} {s : ByteArray} (h : G.Own .byte NoB B w v xs) (hB : B ≤ w.heap.size) (hb : xs.length + s.data.toList.length ≤ 1000000)
    (k : ∀ v' w', G.Own .byte NoB B w' v' (xs ++ s.data.toList) → Fr (fun b => Blk v b ∧ B ≤ b) w w' → K v' w') : pApp E 1 1 [.int .u8 0] v (.string s) w K := by
  refine G.Own.app (t := .byte) h hB (fun h => h) rfl rfl (x := .string s) (ys := s.data.toList) (ds := bv s.data.toList) rfl ?_ (bv_rows _ _ _) (by show (2 * (xs.length + s.data.toList.length) + 192) * 1 ≤ _; omega) fun v' w' h1 h2 _ => k v' w' h1 h2
  show bv s.data.toList = (s.data.toList.take s.data.toList.length).map fun b => Value.int .u8 b.toNat
  rw [List.take_length]; rfl
theorem bytesOf {E : Nat} {s : ByteArray} (hs : s.data.toList.length < 9223372036854775808) (k : ∀ v w', Ext w w' → Rd (.slice .byte) (w.heap.size ≤ ·) w' [v] s.data.toList → K v w') : pBytesOf E (.string s) w K := by
  refine ⟨s, rfl, fun cap hc => ?_⟩
  refine k _ _ ((Ext.drew w).tr (Ext.alloc _ _)) ?_
  have hz : s.size = s.data.toList.length := rfl
  rw [hz]
  refine Rd.of_rows (bv_rows (w.heap.size ≤ ·) _ _) (fun _ h => h) (by rw [← hz]; exact hc) hs fun i u hi => ⟨_, rfl, rfl, Nat.le_refl _, ?_⟩
  rw [add_mk, Nat.zero_add, cell_mk (b := w.heap.size) (alloc_new w.drew _)]
  have hlt := (List.getElem?_eq_some_iff.1 hi).1
  rw [bv_len] at hlt
  rw [bv_get hlt] at hi
  cases hi
  have hlt' : i < s.data.size := hlt
  rw [Array.getElem?_append_left (by simpa using hlt')]
  simp [hlt']
  exact ⟨_, Array.getElem?_eq_getElem hlt', rfl⟩
def keyF (k : List UInt8) : List UInt8 := padF (if k.length > 64 then sumF k else k) 64
theorem keyF_len (k : List UInt8) : (keyF k).length = 64 := padF_len _ _
def overF (k : List UInt8) (c : UInt8) : List UInt8 := xorF (keyF k) (List.replicate 64 c)
theorem overF_len (k : List UInt8) (c : UInt8) : (overF k c).length = 64 := by simp [overF, xorF, keyF_len]
def ofF (k t : List UInt8) : List UInt8 := sumF (overF k 92 ++ sumF (overF k 54 ++ t))
theorem ofF_len (k t : List UInt8) : (ofF k t).length = 32 := sumF_len _
theorem Key_c {x : Value} {k : List UInt8} (hk : KT w) (hx : Rd (.slice .byte) D w [x] k) (hl : k.length ≤ 1000) (h : ∀ v w', Ext w w' → G.Own .byte NoB w.heap.size w' v (keyF k) → K v w') : GCalls Tryz.prog 102 [x] K X w := by
  obtain ⟨a, c, rfl, hc, _⟩ := hx.form
  apply mac_Key.calls; unfold mac_Key.b
  by_cases c6 : (k.length : Int) > 64
  · simp only [↓eBinI, ↓eDiv, ↓eShift, ↓eBinS, ↓ePick, ↓eNot, ↓eNeg, ↓eConv, ↓eConvS, ↓eExt0, ↓eExt1, ↓eExt2, ↓eFA, ↓eIA, ↓eLenSl, ↓eCapSl, ↓eLenS, ↓eMin, ↓eMax, ↓eCondT, ↓eCondF, ↓gIf_tt, ↓gIf_ff, ↓gIf_tf, ↓gIf_ft, ↓gIf_u, ↓gIfW_u, ↓gIfW_tt, ↓gIfW_ff, ↓gIfW_tf, ↓gIfW_ft, binI, divI, shiftI, add_mk, Nat.zero_add, cond_true, cond_false, decide_true, decide_false, Bool.not_true, Bool.not_false, Bool.and_true, Bool.true_and, Bool.and_false, Bool.false_and, Int.toNat_natCast, Nat.mul_one, c6]
    refine Sum_c hk hx hl fun v w1 h1 o1 => ?_
    unfold mac_Key.j1
    have hs := sumF_len k
    refine num_Pad_c (n := 64) (own_rd o1 (by show (sumF k).length < _; omega)) (by omega) (by omega) fun v2 w2 h2 o2 => ?_
    refine h _ _ (h1.tr h2) ?_
    rw [keyF, if_pos (by omega)]
    exact o2.low h1.size
  · simp only [↓eBinI, ↓eDiv, ↓eShift, ↓eBinS, ↓ePick, ↓eNot, ↓eNeg, ↓eConv, ↓eConvS, ↓eExt0, ↓eExt1, ↓eExt2, ↓eFA, ↓eIA, ↓eLenSl, ↓eCapSl, ↓eLenS, ↓eMin, ↓eMax, ↓eCondT, ↓eCondF, ↓gIf_tt, ↓gIf_ff, ↓gIf_tf, ↓gIf_ft, ↓gIf_u, ↓gIfW_u, ↓gIfW_tt, ↓gIfW_ff, ↓gIfW_tf, ↓gIfW_ft, binI, divI, shiftI, add_mk, Nat.zero_add, cond_true, cond_false, decide_true, decide_false, Bool.not_true, Bool.not_false, Bool.and_true, Bool.true_and, Bool.and_false, Bool.false_and, Int.toNat_natCast, Nat.mul_one, c6]
    unfold mac_Key.j1
    refine num_Pad_c (n := 64) hx (by omega) (by omega) fun v2 w2 h2 o2 => ?_
    refine h _ _ h2 ?_
    rw [keyF, if_neg (by omega)]
    exact o2
theorem ref_Key_c {x : Value} {k : List UInt8} (hx : Rd (.slice .byte) D w [x] k) (hl : k.length ≤ 1000) (h : ∀ v w', Ext w w' → G.Own .byte NoB w.heap.size w' v (keyF k) → K v w') : GCalls Tryz.prog 88 [x] K X w := by
  obtain ⟨a, c, rfl, hc, _⟩ := hx.form
  apply oublietteref08_Key.calls; unfold oublietteref08_Key.b
  by_cases c6 : (k.length : Int) > 64
  · simp only [↓eBinI, ↓eDiv, ↓eShift, ↓eBinS, ↓ePick, ↓eNot, ↓eNeg, ↓eConv, ↓eConvS, ↓eExt0, ↓eExt1, ↓eExt2, ↓eFA, ↓eIA, ↓eLenSl, ↓eCapSl, ↓eLenS, ↓eMin, ↓eMax, ↓eCondT, ↓eCondF, ↓gIf_tt, ↓gIf_ff, ↓gIf_tf, ↓gIf_ft, ↓gIf_u, ↓gIfW_u, ↓gIfW_tt, ↓gIfW_ff, ↓gIfW_tf, ↓gIfW_ft, binI, divI, shiftI, add_mk, Nat.zero_add, cond_true, cond_false, decide_true, decide_false, Bool.not_true, Bool.not_false, Bool.and_true, Bool.true_and, Bool.and_false, Bool.false_and, Int.toNat_natCast, Nat.mul_one, c6]
    refine ref_Sum_c hx (by omega) fun v w1 h1 o1 => ?_
    unfold oublietteref08_Key.j1
    have hs := sumF_len k
    refine ref_Pad_c (n := 64) (own_rd o1 (by show (sumF k).length < _; omega)) (by omega) (by omega) fun v2 w2 h2 o2 => ?_
    refine h _ _ (h1.tr h2) ?_
    rw [keyF, if_pos (by omega)]
    exact o2.low h1.size
  · simp only [↓eBinI, ↓eDiv, ↓eShift, ↓eBinS, ↓ePick, ↓eNot, ↓eNeg, ↓eConv, ↓eConvS, ↓eExt0, ↓eExt1, ↓eExt2, ↓eFA, ↓eIA, ↓eLenSl, ↓eCapSl, ↓eLenS, ↓eMin, ↓eMax, ↓eCondT, ↓eCondF, ↓gIf_tt, ↓gIf_ff, ↓gIf_tf, ↓gIf_ft, ↓gIf_u, ↓gIfW_u, ↓gIfW_tt, ↓gIfW_ff, ↓gIfW_tf, ↓gIfW_ft, binI, divI, shiftI, add_mk, Nat.zero_add, cond_true, cond_false, decide_true, decide_false, Bool.not_true, Bool.not_false, Bool.and_true, Bool.true_and, Bool.and_false, Bool.false_and, Int.toNat_natCast, Nat.mul_one, c6]
    unfold oublietteref08_Key.j1
    refine ref_Pad_c (n := 64) hx (by omega) (by omega) fun v2 w2 h2 o2 => ?_
    refine h _ _ h2 ?_
    rw [keyF, if_neg (by omega)]
    exact o2
theorem over_c {g : Nat} {v : Value} {k : List UInt8} {c : UInt8} (hc : Cs w g [v]) (hv : Rd (.slice .byte) D w [v] (keyF k)) (h : ∀ v w', Ext w w' → G.Own .byte NoB w.heap.size w' v (overF k c) → K v w') : GCalls Tryz.prog 103 [.int .u8 (c.toNat : Int), .pointer (some ⟨g, 0, none⟩)] K X w := by
  apply mac_tag_c1.calls; unfold mac_tag_c1.b
  refine draw_ fun w1 h1 => ?_
  rw [(hc.ext h1).e0]
  refine bslice1 rfl fun r w2 hr h2 c2 => ?_
  refine ⟨h2, ?_⟩
  have hrd : Rd (.slice .byte) Any1 w2 [.slice (some ⟨r, 0, none⟩) 1 1] [c] := Rd.of_rows (bv_rows Any1 w2 [c]) (fun _ h => h) (by simp) (by simp) fun i u hi => ⟨_, rfl, rfl, trivial, by rw [add_mk, Nat.zero_add, c2.c]; exact hi⟩
  refine Repeat_c hrd fun v3 w3 h3 r3 => ?_
  refine ⟨h2.tr h3, ?_⟩
  have h13 := (h1.tr h2).tr h3
  refine num_Xor_c (n := 64) (hv.ext h13) r3 (keyF_len k) (by simp) (by omega) fun v4 w4 h4 o4 => ?_
  refine anew_ ?_
  exact h _ _ (h13.tr h4) (o4.low h13.size)
theorem ref_over_c {x : Value} {k : List UInt8} {c : UInt8} (hx : Rd (.slice .byte) D w [x] k) (hl : k.length ≤ 1000) (h : ∀ v w', Ext w w' → G.Own .byte NoB w.heap.size w' v (overF k c) → K v w') : GCalls Tryz.prog 75 [x, .int .u8 (c.toNat : Int)] K X w := by
  apply oublietteref08_over.calls; unfold oublietteref08_over.b
  refine ref_Key_c hx hl fun v w1 h1 o1 => ?_
  have hkl := keyF_len k
  have r1 := own_rd o1 (by show (keyF k).length < _; omega)
  have hol := overF_len k c
  refine oublietteref08_over.loop1 (fun x5 x7 w' => ∃ i : Nat, i ≤ 64 ∧ x7 = .int .i64 i ∧ Ext w1 w' ∧ G.Own .byte NoB w1.heap.size w' x5 ((overF k c).take i)) (fun _ x7 _ => 64 - (iv x7).toNat) ⟨0, by omega, rfl, Fr.refl _ _, G.Own.nil⟩ ?_
  rintro x5 x7 gg w2 ⟨i, hi, rfl, h2, o2⟩
  unfold oublietteref08_over.b1
  by_cases ci : (i : Int) < 64
  · obtain ⟨b1, k1, e1, q1⟩ := idxByte (r1.ext h2) (i := i) (by omega)
    subst e1
    simp only [↓eBinI, ↓eDiv, ↓eShift, ↓eBinS, ↓ePick, ↓eNot, ↓eNeg, ↓eConv, ↓eConvS, ↓eExt0, ↓eExt1, ↓eExt2, ↓eFA, ↓eIA, ↓eLenSl, ↓eCapSl, ↓eLenS, ↓eMin, ↓eMax, ↓eCondT, ↓eCondF, ↓gIf_tt, ↓gIf_ff, ↓gIf_tf, ↓gIf_ft, ↓gIf_u, ↓gIfW_u, ↓gIfW_tt, ↓gIfW_ff, ↓gIfW_tf, ↓gIfW_ft, binI, divI, shiftI, add_mk, Nat.zero_add, cond_true, cond_false, decide_true, decide_false, Bool.not_true, Bool.not_false, Bool.and_true, Bool.true_and, Bool.and_false, Bool.false_and, Int.toNat_natCast, Nat.mul_one, ci, hkl, ↓eLdW, q1, Option.some.injEq, exists_eq_left', wXor8]
    repeat ((with_reducible refine And.intro ?_ ?_); · first | omega | exact True.intro)
    refine bslice1 rfl fun r w3 hr h3 c3 => ?_
    refine (o2.ext h3).push1 c3 (x := (keyF k)[i]'(by omega) ^^^ c) (show [_] = [_] from rfl) (h2.tr h3).size (fun h => h) rfl (by show (2 * (((overF k c).take i).length + 1) + 192) * 1 ≤ _; rw [List.length_take]; omega) fun v w4 hv hf _ => ?_
    rw [wrap64 (by omega) (by omega)]
    refine oublietteref08_over.leaf1 ⟨i + 1, by omega, by simp, (h2.tr h3).tn hf (fun x hx => hx.2), ?_⟩ (by simp only [iv]; omega)
    rw [List.take_succ_eq_append_getElem (by omega)]
    have : (overF k c)[i]'(by omega) = (keyF k)[i]'(by omega) ^^^ c := by simp only [overF, xorF, List.getElem_zipWith, List.getElem_replicate]
    rw [this]; exact hv
  · simp only [↓eBinI, ↓eDiv, ↓eShift, ↓eBinS, ↓ePick, ↓eNot, ↓eNeg, ↓eConv, ↓eConvS, ↓eExt0, ↓eExt1, ↓eExt2, ↓eFA, ↓eIA, ↓eLenSl, ↓eCapSl, ↓eLenS, ↓eMin, ↓eMax, ↓eCondT, ↓eCondF, ↓gIf_tt, ↓gIf_ff, ↓gIf_tf, ↓gIf_ft, ↓gIf_u, ↓gIfW_u, ↓gIfW_tt, ↓gIfW_ff, ↓gIfW_tf, ↓gIfW_ft, binI, divI, shiftI, add_mk, Nat.zero_add, cond_true, cond_false, decide_true, decide_false, Bool.not_true, Bool.not_false, Bool.and_true, Bool.true_and, Bool.and_false, Bool.false_and, Int.toNat_natCast, Nat.mul_one, ci]
    have : i = 64 := by omega
    subst this
    rw [List.take_of_length_le (by omega)] at o2
    exact h _ _ (h1.tr h2) (o2.low h1.size)
theorem ref_Of_c {x y : Value} {k t : List UInt8} (hx : Rd (.slice .byte) D w [x] k) (hl : k.length ≤ 1000) (hy : Rd (.slice .byte) D' w [y] t) (ht : t.length ≤ 900) (h : ∀ v w', Ext w w' → G.Own .byte NoB w.heap.size w' v (ofF k t) → K v w') : GCalls Tryz.prog 60 [x, y] K X w := by
  apply oublietteref08_Of.calls; unfold oublietteref08_Of.b
  have l5 := overF_len k 54; have l9 := overF_len k 92
  have ls := sumF_len (overF k 54 ++ t)
  refine ref_over_c (c := 54) hx hl fun v1 w1 h1 o1 => ?_
  refine ref01_Join_c (own_rd o1 (by show (overF k 54).length < _; omega)) (hy.ext h1) (by rw [l5]; omega) fun v2 w2 h2 o2 => ?_
  refine ref_Sum_c (own_rd o2 (by show (overF k 54 ++ t).length < _; rw [List.length_append, l5]; omega)) (by rw [List.length_append, l5]; omega) fun v3 w3 h3 o3 => ?_
  have h13 := (h1.tr h2).tr h3
  refine ref_over_c (c := 92) (hx.ext h13) hl fun v4 w4 h4 o4 => ?_
  refine ref01_Join_c (own_rd o4 (by show (overF k 92).length < _; omega)) (own_rd (o3.ext h4) (by show (sumF _).length < _; omega)) (by rw [l9, ls]; omega) fun v5 w5 h5 o5 => ?_
  refine ref_Sum_c (own_rd o5 (by show (overF k 92 ++ sumF (overF k 54 ++ t)).length < _; rw [List.length_append, l9, ls]; omega)) (by rw [List.length_append, l9, ls]; omega) fun v6 w6 h6 o6 => ?_
  have h15 := (h13.tr h4).tr h5
  exact h _ _ (h15.tr h6) (o6.low h15.size)
theorem Of_c {x y : Value} {k t : List UInt8} (hk : KT w) (hx : Rd (.slice .byte) D w [x] k) (hl : k.length ≤ 1000) (hy : Rd (.slice .byte) D' w [y] t) (ht : t.length ≤ 900) (h : ∀ v w', Ext w w' → G.Own .byte NoB w.heap.size w' v (ofF k t) → K v w') : GCalls Tryz.prog 82 [x, y] K X w := by
  apply mac_Of.calls; unfold mac_Of.b
  obtain ⟨ay, cy, ey, _, _⟩ := hy.form
  refine bslice1 (by rw [ey]; rfl) fun g0 w0 hg0 h0 c0 => ?_
  refine (?_ : GCalls Tryz.prog 93 _ _ X w0)
  apply mac_tag.calls; unfold mac_tag.b
  have l5 := overF_len k 54; have l9 := overF_len k 92; have lk := keyF_len k
  have ls := sumF_len (overF k 54 ++ t)
  refine Key_c (hk.ext h0) (hx.ext h0) hl fun v1 w1 h1 o1 => ?_
  refine boxC (cs := [.slice none 0 0]) fun g w2 hg h2 c2 => ?_
  have lg := c2.lt
  obtain ⟨a1, cc1, e1, _⟩ := o1.form
  refine c2.set (i := 0) (by simp) (by rw [e1]; rfl) fun w3 c3 f3 => ?_
  have c3 : Cs w3 g [v1] := c3
  have z0 := h0.size; have z1 := h1.size; have z2 := h2.size; have z3 := f3.size
  have h23 : Ext w1 w3 := h2.tn f3 (fun x hx => by omega)
  have r1 := own_rd (o1.ext h23) (by show (keyF k).length < _; omega)
  refine (?_ : GCalls Tryz.prog 103 [.int .u8 (((54 : UInt8).toNat : Nat) : Int), .pointer (some ⟨g, 0, none⟩)] _ X w3)
  refine over_c c3 r1 fun v4 w4 h4 o4 => ?_
  have h04 := ((h1.tr h23).tr h4)
  have hrd4 : Rd (.slice (.slice .byte)) Any1 w4 [.slice (some ⟨g0, 0, none⟩) 1 1] [t] := by
    have hr : RdL (.slice .byte) Any1 w4 [y] [t] := ⟨[y], [], rfl, ((hy.ext h0).ext h04).wide (fun _ _ => trivial), rfl⟩
    have hc5 := c0.ext h04
    exact Rd.of_rows hr (fun _ h => h) (show 1 ≤ 1 by omega) (show 1 < _ by omega) fun i u hi => ⟨_, rfl, rfl, trivial, by rw [add_mk, Nat.zero_add, hc5.c]; exact hi⟩
  refine Concat_c hrd4 (show 1 ≤ _ by omega) (fun i hi => by
    match i, hi with
    | 0, _ => show t.length ≤ 1000; omega) fun v5 w5 h5 o5 => ?_
  have hfl : [t].flatten = t := by simp
  rw [hfl] at o5
  refine (o4.ext h5).cat (h4.tr h5).size (fun h => h) rfl rfl (own_rd o5 (by show t.length < _; omega)) (fun cs h => h.flat rfl) (by show (2 * ((overF k 54).length + t.length) + 192) * 1 ≤ _; omega) fun v6 w6 o6 f6 _ => ?_
  have h36 : Ext w3 w6 := (h4.tr h5).tn f6 (fun x hx => hx.2)
  have h06 := (h1.tr h23).tr h36
  refine Sum_c ((hk.ext h0).ext h06) (own_rd o6 (by show (overF k 54 ++ t).length < _; rw [List.length_append, l5]; omega)) (by rw [List.length_append, l5]; omega) fun v7 w7 h7 o7 => ?_
  refine (?_ : GCalls Tryz.prog 103 [.int .u8 (((92 : UInt8).toNat : Nat) : Int), .pointer (some ⟨g, 0, none⟩)] _ X w7)
  refine over_c (c3.ext (h36.tr h7)) (r1.ext (h36.tr h7)) fun v8 w8 h8 o8 => ?_
  refine o8.cat h8.size (fun h => h) rfl rfl (own_rd (o7.ext h8) (by show (sumF _).length < _; omega)) (fun cs h => h.flat rfl) (by show (2 * ((overF k 92).length + (sumF _).length) + 192) * 1 ≤ _; omega) fun v9 w9 o9 f9 _ => ?_
  have h79 : Ext w7 w9 := h8.tn f9 (fun x hx => hx.2)
  have h09 := (h06.tr h7).tr h79
  refine Sum_c ((hk.ext h0).ext h09) (own_rd o9 (by show (overF k 92 ++ sumF _).length < _; rw [List.length_append, l9, ls]; omega)) (by rw [List.length_append, l9, ls]; omega) fun v10 w10 h10 o10 => ?_
  exact h _ _ ((h0.tr h09).tr h10) (o10.low (h0.tr h09).size)
end Go.Proofs.YtkpgmaiklfjjgaaGreatDoor
end
section
set_option linter.unusedSimpArgs false
set_option linter.unusedVariables false
namespace Go.Proofs.YtkpgmaiklfjjgaaGreatDoor
open Go Go.G Go.RowKit
variable {X : KX} {w : World} {K : KV} {D D' : Nat → Prop}
theorem KT.fr {T : Nat → Prop} {w w' : World} (h : KT w) (e : Fr T w w') (hT : ¬ T 2) : KT w' := fun i hi => e.cell (h i hi) hT
theorem next_tail {w1 w2 : World} {v k : Value} {key info : List UInt8} {r : Nat} (h12 : Ext w1 w2) (o : G.Own .byte NoB w1.heap.size w2 v info) (c : Cs w2 r [.int .u8 1]) (hk : KT w1) (hkey : Rd (.slice .byte) D w1 [k] key) (hkl : key.length ≤ 1000) (hil : info.length ≤ 800)
    (h : ∀ v w', Ext w1 w' → G.Own .byte NoB w1.heap.size w' v (ofF key (info ++ [1])) → K v w') : pApp 5 1 1 [.int .u8 0] v (.slice (some ⟨r, 0, none⟩) 1 1) w2 fun t14 w => Ext w1 w ∧ pCall Tryz.prog 82 [k, t14] X w fun t15 w => Ext w1 w ∧ K t15 w := by
  refine o.push1 c (x := (1 : UInt8)) (show [_] = [_] from rfl) h12.size (fun h => h) rfl (by show (2 * (info.length + 1) + 192) * 1 ≤ _; omega) fun v' w' o' f' _ => ?_
  have h1 : Ext w1 w' := h12.tn f' (fun x hx => hx.2)
  refine ⟨h1, ?_⟩
  refine Of_c (hk.ext h1) (hkey.ext h1) hkl (own_rd o' (by show (info ++ [1]).length < _; simp; omega)) (by simp; omega) fun v2 w2 h2 o2 => ?_
  exact ⟨h1.tr h2, h _ _ (h1.tr h2) (o2.low h1.size)⟩
theorem two_rd {g : Nat} {v1 v2 : Value} {xs ys : List UInt8} (c : Cs w g [v1, v2]) (h1 : Rd (.slice .byte) D w [v1] xs) (h2 : Rd (.slice .byte) D' w [v2] ys) : Rd (.slice (.slice .byte)) Any1 w [.slice (some ⟨g, 0, none⟩) 2 2] [xs, ys] := by
  have hr : RdL (.slice .byte) Any1 w [v1, v2] [xs, ys] := ⟨[v1], [v2], rfl, h1.wide (fun _ _ => trivial), [v2], [], rfl, h2.wide (fun _ _ => trivial), rfl⟩
  exact Rd.of_rows hr (fun _ h => h) (show 2 ≤ 2 by omega) (show 2 < _ by omega) fun i u hi => ⟨_, rfl, rfl, trivial, by rw [add_mk, Nat.zero_add, c.c]; exact hi⟩
theorem nil_rd (D : Nat → Prop) (w : World) : Rd (.slice .byte) D w [.slice none 0 0] ([] : List UInt8) := ⟨none, 0, rfl, Nat.le_refl _, by show 0 < _; omega, fun h => absurd rfl h⟩
theorem next_c {g3 g8 g4 : Nat} {vk vi : Value} {key info : List UInt8} (c3 : Cs w g3 [vk]) (c8 : Cs w g8 [.slice none 0 0]) (c4 : Cs w g4 [vi]) (hk : KT w) (hvk : Rd (.slice .byte) D w [vk] key) (hvi : Rd (.slice .byte) D' w [vi] info) (hkl : key.length ≤ 1000) (hil : info.length ≤ 800)
    (h : ∀ v w', Ext w w' → G.Own .byte NoB w.heap.size w' v (ofF key (info ++ [1])) → K v w') : GCalls Tryz.prog 81 [.int .i64 1, .pointer (some ⟨g3, 0, none⟩), .pointer (some ⟨g8, 0, none⟩), .pointer (some ⟨g4, 0, none⟩)] K X w := by
  apply kdf_Expand_c1.calls; unfold kdf_Expand_c1.b
  refine draw_ fun w1 h1 => ?_
  rw [(c3.ext h1).e0, (c8.ext h1).e0, (c4.ext h1).e0]
  have e1 : IntKind.u8.wrap 1 = 1 := by decide
  simp only [↓eBinI, ↓eDiv, ↓eShift, ↓eBinS, ↓ePick, ↓eNot, ↓eNeg, ↓eConv, ↓eConvS, ↓eExt0, ↓eExt1, ↓eExt2, ↓eFA, ↓eIA, ↓eLenSl, ↓eCapSl, ↓eLenS, ↓eMin, ↓eMax, ↓eCondT, ↓eCondF, ↓gIf_tt, ↓gIf_ff, ↓gIf_tf, ↓gIf_ft, ↓gIf_u, ↓gIfW_u, ↓gIfW_tt, ↓gIfW_ff, ↓gIfW_tf, ↓gIfW_ft, binI, divI, shiftI, add_mk, Nat.zero_add, cond_true, cond_false, decide_true, decide_false, Bool.not_true, Bool.not_false, Bool.and_true, Bool.true_and, Bool.and_false, Bool.false_and, Int.toNat_natCast, Nat.mul_one, e1]
  have hk1 := hk.ext h1
  have r1 := hvk.ext h1
  have r2 := hvi.ext h1
  obtain ⟨ai, ci, ei, _, _⟩ := hvi.form
  have hfin : ∀ v w', Ext w1 w' → G.Own .byte NoB w1.heap.size w' v (ofF key (info ++ [1])) → K v w' := fun v w' a b => h v w' (h1.tr a) (b.low h1.size)
  have hfl : [([] : List UInt8), info].flatten = info := by simp
  have conc : ∀ {g : Nat} {w2 : World} {K2 : KV}, Ext w1 w2 → Cs w2 g [.slice none 0 0, vi] → (∀ v w3, Ext w2 w3 → G.Own .byte NoB w1.heap.size w3 v info → K2 v w3) → pCall Tryz.prog 83 [.slice (some ⟨g, 0, none⟩) 2 2] X w2 K2 := by
    intro g w2 K2 h12 c hk2
    refine Concat_c (two_rd c (nil_rd D w2) (r2.ext h12)) (show 2 ≤ _ by omega) (fun i hi => by
      match i, hi with
      | 0, _ => show 0 ≤ 1000; omega
      | 1, _ => show info.length ≤ 1000; omega) fun v w3 h3 o3 => ?_
    rw [hfl] at o3
    exact hk2 _ _ h3 (o3.low h12.size)
  have f2 : fillL (rowOf [.slice none 0 0] 2) [(0, 1, (.slice none 0 0)), (1, 1, vi)] = some [.slice none 0 0, vi] := fill2 rfl (by rw [ei]; rfl)
  refine ⟨?_, ?_⟩
  · refine Cs.bslice f2 fun g w2 hg h2 c2 => ?_
    refine ⟨h2, ?_, ?_⟩
    · refine conc h2 c2 fun v w3 h3 o3 => ?_
      refine ⟨h2.tr h3, ?_⟩
      refine bslice1 rfl fun r w4 hr h4 c4' => ?_
      exact ⟨(h2.tr h3).tr h4, next_tail ((h2.tr h3).tr h4) (o3.ext h4) c4' hk1 r1 hkl hil hfin⟩
    · refine bslice1 rfl fun r w3 hr h3 c3' => ?_
      refine ⟨h2.tr h3, ?_⟩
      refine conc (h2.tr h3) (c2.ext h3) fun v w4 h4 o4 => ?_
      exact ⟨(h2.tr h3).tr h4, next_tail ((h2.tr h3).tr h4) o4 (c3'.ext h4) hk1 r1 hkl hil hfin⟩
  · refine bslice1 rfl fun r w2 hr h2 c2' => ?_
    refine ⟨h2, ?_⟩
    refine Cs.bslice f2 fun g w3 hg h3 c3' => ?_
    refine ⟨h2.tr h3, ?_⟩
    refine conc (h2.tr h3) c3' fun v w4 h4 o4 => ?_
    exact ⟨(h2.tr h3).tr h4, next_tail ((h2.tr h3).tr h4) o4 ((c2'.ext h3).ext h4) hk1 r1 hkl hil hfin⟩
theorem Expand_c {xk xi : Value} {key info : List UInt8} (hk : KT w) (hvk : Rd (.slice .byte) D w [xk] key) (hvi : Rd (.slice .byte) D' w [xi] info) (hkl : key.length ≤ 1000) (hil : info.length ≤ 800)
    (h : ∀ v w', Ext w w' → Rd (.slice .byte) (w.heap.size ≤ ·) w' [v] (ofF key (info ++ [1])) → K (.tuple #[v, .int .i64 0]) w') : GCalls Tryz.prog 70 [xk, xi, .int .i64 32] K X w := by
  obtain ⟨ak, ck, ek, _, _⟩ := hvk.form
  obtain ⟨ai, ci, ei, _, _⟩ := hvi.form
  apply kdf_Expand.calls; unfold kdf_Expand.b
  refine boxV (by rw [ek]; rfl) fun g3 w1 hg1 h1 c1 => ?_
  refine boxV (by rw [ei]; rfl) fun g4 w2 hg2 h2 c2 => ?_
  simp only [↓eBinI, ↓eDiv, ↓eShift, ↓eBinS, ↓ePick, ↓eNot, ↓eNeg, ↓eConv, ↓eConvS, ↓eExt0, ↓eExt1, ↓eExt2, ↓eFA, ↓eIA, ↓eLenSl, ↓eCapSl, ↓eLenS, ↓eMin, ↓eMax, ↓eCondT, ↓eCondF, ↓gIf_tt, ↓gIf_ff, ↓gIf_tf, ↓gIf_ft, ↓gIf_u, ↓gIfW_u, ↓gIfW_tt, ↓gIfW_ff, ↓gIfW_tf, ↓gIfW_ft, binI, divI, shiftI, add_mk, Nat.zero_add, cond_true, cond_false, decide_true, decide_false, Bool.not_true, Bool.not_false, Bool.and_true, Bool.true_and, Bool.and_false, Bool.false_and, Int.toNat_natCast, Nat.mul_one, show decide ((32 : Int) < 1) = false from by decide, show decide ((32 : Int) > 8160) = false from by decide]
  refine boxC (cs := [.slice none 0 0]) fun g8 w3 hg3 h3 c3 => ?_
  have l1 := c1.lt; have l2 := c2.lt; have l3 := c3.lt
  have h13 := (h1.tr h2).tr h3
  refine kdf_Expand.loop1 (fun x6 x10 w' => x6 = .slice none 0 0 ∧ x10 = .int .i64 1 ∧ w' = w3) (fun _ _ _ => 0) ⟨rfl, rfl, rfl⟩ ?_
  rintro x6 x10 gg w' ⟨rfl, rfl, rfl⟩
  unfold kdf_Expand.b1
  refine (?_ : GCalls Tryz.prog 81 [.int .i64 1, .pointer (some ⟨g3, 0, none⟩), .pointer (some ⟨g8, 0, none⟩), .pointer (some ⟨g4, 0, none⟩)] _ X w')
  refine next_c ((c1.ext h2).ext h3) c3 (c2.ext h3) (hk.ext h13) (hvk.ext h13) (hvi.ext h13) hkl hil fun v w4 h4 o4 => ?_
  have hlen := ofF_len key (info ++ [1])
  obtain ⟨a4, cc4, e4, _⟩ := o4.form
  refine (c3.ext h4).set (i := 0) (by simp) (by rw [e4]; rfl) fun w5 c5 f5 => ?_
  have c5 : Cs w5 g8 [v] := c5
  rw [c5.c0]
  have z1 := h1.size; have z2 := h2.size; have z3 := h3.size; have z4 := h4.size
  have o5 : G.Own .byte NoB w'.heap.size w5 v (ofF key (info ++ [1])) := o4.fr f5 (fun _ h => h.elim) (fun b hb hB => by show ¬ b = g8; omega)
  have h05 : Ext w w5 := (h13.tr h4).tn f5 (fun x hx => by omega)
  refine (G.Own.nil (t := .byte) (D := NoB) (B := w.heap.size) (w := w5)).cat h05.size (fun h => h) rfl rfl (own_rd o5 (by show (ofF _ _).length < _; omega)) (fun cs h => h.flat rfl) (by show (2 * (0 + (ofF _ _).length) + 192) * 1 ≤ _; omega) fun v6 w6 o6 f6 _ => ?_
  have h06 : Ext w w6 := h05.tn f6 (fun x hx => hx.2)
  rw [List.nil_append] at o6
  have r6 := own_rd o6 (by show (ofF _ _).length < _; omega)
  obtain ⟨a6, c6, rfl, hc6⟩ := o6.form
  rw [hlen] at r6 hc6 ⊢
  simp only [↓eBinI, ↓eDiv, ↓eShift, ↓eBinS, ↓ePick, ↓eNot, ↓eNeg, ↓eConv, ↓eConvS, ↓eExt0, ↓eExt1, ↓eExt2, ↓eFA, ↓eIA, ↓eLenSl, ↓eCapSl, ↓eLenS, ↓eMin, ↓eMax, ↓eCondT, ↓eCondF, ↓gIf_tt, ↓gIf_ff, ↓gIf_tf, ↓gIf_ft, ↓gIf_u, ↓gIfW_u, ↓gIfW_tt, ↓gIfW_ff, ↓gIfW_tf, ↓gIfW_ft, binI, divI, shiftI, add_mk, Nat.zero_add, cond_true, cond_false, decide_true, decide_false, Bool.not_true, Bool.not_false, Bool.and_true, Bool.true_and, Bool.and_false, Bool.false_and, Int.toNat_natCast, Nat.mul_one, show decide (((32 : Nat) : Int) ≥ 32) = true from by decide]
  refine eSl (l := 0) (h := 32) (m := 32) bnd_none (bnd_int (by omega)) (bnd_int (by omega)) (by omega) (by omega) hc6 (by simp) ?_
  have hcut := r6.cut (l := 0) (e := 32) (m := 32) (by omega) (by omega) (by omega) hc6
  rw [List.drop_zero, List.take_of_length_le (by omega)] at hcut
  exact h _ _ h06 hcut
theorem ref_Expand_c {xk xi : Value} {key info : List UInt8} (hvk : Rd (.slice .byte) D w [xk] key) (hvi : Rd (.slice .byte) D' w [xi] info) (hkl : key.length ≤ 1000) (hil : info.length ≤ 800)
    (h : ∀ v w', Ext w w' → Rd (.slice .byte) (w.heap.size ≤ ·) w' [v] (ofF key (info ++ [1])) → K (.tuple #[v, .int .i64 0]) w') : GCalls Tryz.prog 59 [xk, xi, .int .i64 32] K X w := by
  apply oublietteref09_Expand.calls; unfold oublietteref09_Expand.b
  have hlen := ofF_len key (info ++ [1])
  simp only [↓eBinI, ↓eDiv, ↓eShift, ↓eBinS, ↓ePick, ↓eNot, ↓eNeg, ↓eConv, ↓eConvS, ↓eExt0, ↓eExt1, ↓eExt2, ↓eFA, ↓eIA, ↓eLenSl, ↓eCapSl, ↓eLenS, ↓eMin, ↓eMax, ↓eCondT, ↓eCondF, ↓gIf_tt, ↓gIf_ff, ↓gIf_tf, ↓gIf_ft, ↓gIf_u, ↓gIfW_u, ↓gIfW_tt, ↓gIfW_ff, ↓gIfW_tf, ↓gIfW_ft, binI, divI, shiftI, add_mk, Nat.zero_add, cond_true, cond_false, decide_true, decide_false, Bool.not_true, Bool.not_false, Bool.and_true, Bool.true_and, Bool.and_false, Bool.false_and, Int.toNat_natCast, Nat.mul_one, show decide ((32 : Int) < 1) = false from by decide, show decide ((32 : Int) > 8160) = false from by decide]
  refine oublietteref09_Expand.loop1 (fun x8 x9 x10 w' => Ext w w' ∧ ((x8 = .slice none 0 0 ∧ x9 = .slice none 0 0 ∧ x10 = .int .i64 1) ∨ (G.Own .byte NoB w.heap.size w' x8 (ofF key (info ++ [1])) ∧ x10 = .int .i64 2))) (fun _ _ x10 _ => (2 - iv x10).toNat) ⟨Fr.refl _ _, .inl ⟨rfl, rfl, rfl⟩⟩ ?_
  rintro x8 x9 x10 gg w1 ⟨h1, hc⟩
  unfold oublietteref09_Expand.b1
  rcases hc with ⟨rfl, rfl, rfl⟩ | ⟨ho, rfl⟩
  · have e1 : IntKind.u8.wrap 1 = 1 := by decide
    simp only [↓eBinI, ↓eDiv, ↓eShift, ↓eBinS, ↓ePick, ↓eNot, ↓eNeg, ↓eConv, ↓eConvS, ↓eExt0, ↓eExt1, ↓eExt2, ↓eFA, ↓eIA, ↓eLenSl, ↓eCapSl, ↓eLenS, ↓eMin, ↓eMax, ↓eCondT, ↓eCondF, ↓gIf_tt, ↓gIf_ff, ↓gIf_tf, ↓gIf_ft, ↓gIf_u, ↓gIfW_u, ↓gIfW_tt, ↓gIfW_ff, ↓gIfW_tf, ↓gIfW_ft, binI, divI, shiftI, add_mk, Nat.zero_add, cond_true, cond_false, decide_true, decide_false, Bool.not_true, Bool.not_false, Bool.and_true, Bool.true_and, Bool.and_false, Bool.false_and, Int.toNat_natCast, Nat.mul_one, show decide (((0 : Nat) : Int) < 32) = true from by decide, e1]
    refine ref01_Join_c (nil_rd D w1) (hvi.ext h1) (by show 0 + info.length ≤ _; omega) fun v2 w2 h2 o2 => ?_
    rw [List.nil_append] at o2
    refine bslice1 rfl fun r w3 hr h3 c3 => ?_
    have hrd : Rd (.slice .byte) Any1 w3 [.slice (some ⟨r, 0, none⟩) 1 1] [(1 : UInt8)] := Rd.of_rows (bv_rows Any1 w3 [1]) (fun _ h => h) (by simp) (by simp) fun i u hi => ⟨_, rfl, rfl, trivial, by rw [add_mk, Nat.zero_add, c3.c]; exact hi⟩
    refine ref01_Join_c (own_rd (o2.ext h3) (by show info.length < _; omega)) hrd (by show info.length + 1 ≤ _; omega) fun v4 w4 h4 o4 => ?_
    have h14 := ((h1.tr h2).tr h3).tr h4
    refine ref_Of_c (hvk.ext h14) hkl (own_rd o4 (by show (info ++ [1]).length < _; simp; omega)) (by simp; omega) fun v5 w5 h5 o5 => ?_
    refine (G.Own.nil (t := .byte) (D := NoB) (B := w.heap.size) (w := w5)).cat (h14.tr h5).size (fun h => h) rfl rfl (own_rd o5 (by show (ofF _ _).length < _; omega)) (fun cs h => h.flat rfl) (by show (2 * (0 + (ofF _ _).length) + 192) * 1 ≤ _; omega) fun v6 w6 o6 f6 _ => ?_
    rw [List.nil_append] at o6
    have e2 : IntKind.i64.wrap (1 + 1) = 2 := by decide
    rw [e2]
    exact oublietteref09_Expand.leaf1 ⟨(h14.tr h5).tn f6 (fun x hx => hx.2), .inr ⟨o6, rfl⟩⟩ (by simp [iv])
  · have r6 := own_rd ho (by show (ofF _ _).length < _; omega)
    obtain ⟨a6, c6, rfl, hc6⟩ := ho.form
    rw [hlen] at r6 hc6 ⊢
    simp only [↓eBinI, ↓eDiv, ↓eShift, ↓eBinS, ↓ePick, ↓eNot, ↓eNeg, ↓eConv, ↓eConvS, ↓eExt0, ↓eExt1, ↓eExt2, ↓eFA, ↓eIA, ↓eLenSl, ↓eCapSl, ↓eLenS, ↓eMin, ↓eMax, ↓eCondT, ↓eCondF, ↓gIf_tt, ↓gIf_ff, ↓gIf_tf, ↓gIf_ft, ↓gIf_u, ↓gIfW_u, ↓gIfW_tt, ↓gIfW_ff, ↓gIfW_tf, ↓gIfW_ft, binI, divI, shiftI, add_mk, Nat.zero_add, cond_true, cond_false, decide_true, decide_false, Bool.not_true, Bool.not_false, Bool.and_true, Bool.true_and, Bool.and_false, Bool.false_and, Int.toNat_natCast, Nat.mul_one, show decide (((32 : Nat) : Int) < 32) = false from by decide]
    refine eSl (l := 0) (h := 32) (m := c6) bnd_none (bnd_int (by omega)) bnd_none (by omega) (by omega) (by omega) (by simp) ?_
    have hcut := r6.cut (l := 0) (e := 32) (m := c6) (by omega) (by omega) (by omega) (by omega)
    rw [List.drop_zero, List.take_of_length_le (by omega)] at hcut
    exact h _ _ h1 hcut
end Go.Proofs.YtkpgmaiklfjjgaaGreatDoor
end
section
set_option linter.unusedSimpArgs false
set_option linter.unusedVariables false
namespace Go.Proofs.YtkpgmaiklfjjgaaGreatDoor
open Go Go.G Go.RowKit
variable {X : KX} {w : World} {K : KV} {D D' : Nat → Prop}
def preF : List UInt8 := [111, 117, 98, 108, 105, 101, 116, 116, 101, 32]
def infoF (l : List UInt8) : List UInt8 := putF 32 2 ++ [UInt8.ofNat (10 + l.length)] ++ (preF ++ l)
def deriveF (key l : List UInt8) : List UInt8 := ofF key (infoF l ++ [1])
theorem deriveF_len (key l : List UInt8) : (deriveF key l).length = 32 := ofF_len _ _
theorem infoF_len (l : List UInt8) : (infoF l).length = 13 + l.length := by simp [infoF, putF_len, preF]; omega
theorem ba_list (a b : ByteArray) : (a ++ b).data.toList = a.data.toList ++ b.data.toList := by simp
theorem ba_size (a : ByteArray) : a.size = a.data.toList.length := rfl
theorem Derive_c {xk : Value} {key : List UInt8} {l : ByteArray} (hk : KT w) (hvk : Rd (.slice .byte) D w [xk] key) (hkl : key.length ≤ 1000) (hll : l.data.toList.length ≤ 200)
    (h : ∀ v w', Ext w w' → Rd (.slice .byte) (w.heap.size ≤ ·) w' [v] (deriveF key l.data.toList) → K v w') : GCalls Tryz.prog 53 [xk, .string l] K X w := by
  apply kdf_Derive.calls; unfold kdf_Derive.b
  have hs : l.size = l.data.toList.length := rfl
  have ht : ((⟨#[111, 117, 98, 108, 105, 101, 116, 116, 101, 32]⟩ : ByteArray) ++ l).data.toList = preF ++ l.data.toList := by rw [ba_list]; rfl
  have hsz : ((⟨#[111, 117, 98, 108, 105, 101, 116, 116, 101, 32]⟩ : ByteArray) ++ l).size = 10 + l.data.toList.length := by rw [ba_size, ht, List.length_append]; rfl
  have hm : IntKind.i64.max = 9223372036854775807 := by decide
  simp only [↓eBinS, binS]
  refine ⟨by rw [hm, hs]; show (((10 + l.data.toList.length : Nat)) : Int) ≤ _; omega, ?_⟩
  generalize (⟨#[111, 117, 98, 108, 105, 101, 116, 116, 101, 32]⟩ : ByteArray) ++ l = tx at *
  refine num_Put_c (n := 32) (s := 2) (by omega) (by omega) (by omega) fun v1 w1 h1 o1 => ?_
  simp only [↓eBinI, ↓eDiv, ↓eShift, ↓eBinS, ↓ePick, ↓eNot, ↓eNeg, ↓eConv, ↓eConvS, ↓eExt0, ↓eExt1, ↓eExt2, ↓eFA, ↓eIA, ↓eLenSl, ↓eCapSl, ↓eLenS, ↓eMin, ↓eMax, ↓eCondT, ↓eCondF, ↓gIf_tt, ↓gIf_ff, ↓gIf_tf, ↓gIf_ft, ↓gIf_u, ↓gIfW_u, ↓gIfW_tt, ↓gIfW_ff, ↓gIfW_tf, ↓gIfW_ft, binI, divI, shiftI, add_mk, Nat.zero_add, cond_true, cond_false, decide_true, decide_false, Bool.not_true, Bool.not_false, Bool.and_true, Bool.true_and, Bool.and_false, Bool.false_and, Int.toNat_natCast, Nat.mul_one, hsz, wrapU8, u8_of]
  refine bslice1 rfl fun r w2 hr h2 c2 => ?_
  refine (o1.ext h2).push1 c2 (x := UInt8.ofNat (10 + l.data.toList.length)) (show [_] = [_] from rfl) (h1.tr h2).size (fun h => h) rfl (by show (2 * ((putF 32 2).length + 1) + 192) * 1 ≤ _; rw [putF_len]; omega) fun v3 w3 o3 f3 _ => ?_
  have h3 : Ext w w3 := (h1.tr h2).tn f3 (fun x hx => hx.2)
  refine catStr (B := w.heap.size) (s := tx) (o3.low (Nat.le_refl _)) h3.size (by rw [ht]; simp [putF_len, preF]; omega) fun v4 w4 o4 f4 => ?_
  have h4 : Ext w w4 := h3.tn f4 (fun x hx => hx.2)
  rw [ht] at o4
  have hil := infoF_len l.data.toList
  change G.Own .byte NoB w.heap.size w4 v4 (infoF l.data.toList) at o4
  refine Expand_c (hk.ext h4) (hvk.ext h4) (own_rd o4 (by show (infoF _).length < _; omega)) hkl (by omega) fun v5 w5 h5 r5 => ?_
  simp only [↓eBinI, ↓eDiv, ↓eShift, ↓eBinS, ↓ePick, ↓eNot, ↓eNeg, ↓eConv, ↓eConvS, ↓eExt0, ↓eExt1, ↓eExt2, ↓eFA, ↓eIA, ↓eLenSl, ↓eCapSl, ↓eLenS, ↓eMin, ↓eMax, ↓eCondT, ↓eCondF, ↓gIf_tt, ↓gIf_ff, ↓gIf_tf, ↓gIf_ft, ↓gIf_u, ↓gIfW_u, ↓gIfW_tt, ↓gIfW_ff, ↓gIfW_tf, ↓gIfW_ft, binI, divI, shiftI, add_mk, Nat.zero_add, cond_true, cond_false, decide_true, decide_false, Bool.not_true, Bool.not_false, Bool.and_true, Bool.true_and, Bool.and_false, Bool.false_and, Int.toNat_natCast, Nat.mul_one]
  exact h _ _ (h4.tr h5) (r5.wide (fun b hb => Nat.le_trans h4.size hb))
theorem fill3 {z0 z1 z2 a b c : Value} (ha : one a = true) (hb : one b = true) (hc : one c = true) : fillL [z0, z1, z2] [(0, 1, a), (1, 1, b), (2, 1, c)] = some [a, b, c] := by
  simp [fillL, one_cells ha, one_cells hb, one_cells hc, cutIn]
theorem ref_Derive_c {xk : Value} {key : List UInt8} {l : ByteArray} (hvk : Rd (.slice .byte) D w [xk] key) (hkl : key.length ≤ 1000) (hll : l.data.toList.length ≤ 200)
    (h : ∀ v w', Ext w w' → Rd (.slice .byte) (w.heap.size ≤ ·) w' [v] (deriveF key l.data.toList) → K v w') : GCalls Tryz.prog 33 [xk, .string l] K X w := by
  apply oublietteref09_Derive.calls; unfold oublietteref09_Derive.b
  have hs : l.size = l.data.toList.length := rfl
  have ht : ((⟨#[111, 117, 98, 108, 105, 101, 116, 116, 101, 32]⟩ : ByteArray) ++ l).data.toList = preF ++ l.data.toList := by rw [ba_list]; rfl
  have hsz : ((⟨#[111, 117, 98, 108, 105, 101, 116, 116, 101, 32]⟩ : ByteArray) ++ l).size = 10 + l.data.toList.length := by rw [ba_size, ht, List.length_append]; rfl
  have hm : IntKind.i64.max = 9223372036854775807 := by decide
  simp only [↓eBinS, binS]
  refine ⟨by rw [hm, hs]; show (((10 + l.data.toList.length : Nat)) : Int) ≤ _; omega, ?_⟩
  generalize (⟨#[111, 117, 98, 108, 105, 101, 116, 116, 101, 32]⟩ : ByteArray) ++ l = tx at *
  have e1 : ((10 + l.data.toList.length : Nat) : Int).tmod 256 = ((10 + l.data.toList.length : Nat) : Int) := by rw [Int.tmod_eq_emod_of_nonneg (by omega)]; omega
  simp only [↓eBinI, ↓eDiv, ↓eShift, ↓eBinS, ↓ePick, ↓eNot, ↓eNeg, ↓eConv, ↓eConvS, ↓eExt0, ↓eExt1, ↓eExt2, ↓eFA, ↓eIA, ↓eLenSl, ↓eCapSl, ↓eLenS, ↓eMin, ↓eMax, ↓eCondT, ↓eCondF, ↓gIf_tt, ↓gIf_ff, ↓gIf_tf, ↓gIf_ft, ↓gIf_u, ↓gIfW_u, ↓gIfW_tt, ↓gIfW_ff, ↓gIfW_tf, ↓gIfW_ft, binI, divI, shiftI, add_mk, Nat.zero_add, cond_true, cond_false, decide_true, decide_false, Bool.not_true, Bool.not_false, Bool.and_true, Bool.true_and, Bool.and_false, Bool.false_and, Int.toNat_natCast, Nat.mul_one, hsz, e1, wrapU8, u8_of, ne_eq, show ¬ ((256 : Int) = 0) from by decide, not_false_eq_true, true_and]
  refine Cs.bslice (cs := bv [0, 32, UInt8.ofNat (10 + l.data.toList.length)]) (fill3 rfl rfl rfl) fun g w1 hg h1 c1 => ?_
  have hrd : Rd (.slice .byte) Any1 w1 [.slice (some ⟨g, 0, none⟩) 3 3] [0, 32, UInt8.ofNat (10 + l.data.toList.length)] := Rd.of_rows (bv_rows Any1 w1 [0, 32, UInt8.ofNat (10 + l.data.toList.length)]) (fun _ h => h) (by simp) (by simp) fun i u hi => ⟨_, rfl, rfl, trivial, by rw [add_mk, Nat.zero_add, c1.c]; exact hi⟩
  refine bytesOf (by rw [ht]; simp [preF]; omega) fun v2 w2 h2 r2 => ?_
  rw [ht] at r2
  refine ref01_Join_c (hrd.ext h2) r2 (by show 3 + (preF ++ l.data.toList).length ≤ _; simp [preF]; omega) fun v3 w3 h3 o3 => ?_
  have hil := infoF_len l.data.toList
  have h13 := (h1.tr h2).tr h3
  have hin : [0, 32, UInt8.ofNat (10 + l.data.toList.length)] ++ (preF ++ l.data.toList) = infoF l.data.toList := by
    rw [infoF]; rfl
  rw [hin] at o3
  refine ref_Expand_c (hvk.ext h13) (own_rd o3 (by show (infoF _).length < _; omega)) hkl (by omega) fun v5 w5 h5 r5 => ?_
  simp only [↓eBinI, ↓eDiv, ↓eShift, ↓eBinS, ↓ePick, ↓eNot, ↓eNeg, ↓eConv, ↓eConvS, ↓eExt0, ↓eExt1, ↓eExt2, ↓eFA, ↓eIA, ↓eLenSl, ↓eCapSl, ↓eLenS, ↓eMin, ↓eMax, ↓eCondT, ↓eCondF, ↓gIf_tt, ↓gIf_ff, ↓gIf_tf, ↓gIf_ft, ↓gIf_u, ↓gIfW_u, ↓gIfW_tt, ↓gIfW_ff, ↓gIfW_tf, ↓gIfW_ft, binI, divI, shiftI, add_mk, Nat.zero_add, cond_true, cond_false, decide_true, decide_false, Bool.not_true, Bool.not_false, Bool.and_true, Bool.true_and, Bool.and_false, Bool.false_and, Int.toNat_natCast, Nat.mul_one]
  exact h _ _ (h13.tr h5) (r5.wide (fun b hb => Nat.le_trans h13.size hb))
end Go.Proofs.YtkpgmaiklfjjgaaGreatDoor
end
section
set_option linter.unusedVariables false
namespace Go.Proofs
open Go.Shelf
def Tryz.itoaL_ren : Go.Shelf.Ren := ⟨fun | 243 => 80 | 246 => 92 | 283 => 98 | 284 => 99 | 285 => 100 | 286 => 101 | 129 => 109 | 317 => 108 | 318 => 110 | 319 => 111 | 320 => 112 | 337 => 119 | 338 => 120 | n => n, fun | 3 => 3 | 9 => 9 | 2 => 2 | 4 => 4 | 171 => 150 | 0 => 0 | 53 => 89 | 37 => 22 | 5 => 5 | 173 => 153 | 212 => 157 | 51 => 137 | 20 => 20 | 213 => 158 | 46 => 125 | 232 => 173 | 233 => 174 | n => n, fun | 17 => 0 | 18 => 3 | 19 => 4 | n => n⟩
theorem Tryz.itoaL : Go.Proofs.LaysM.n243 Tryz.prog Tryz.itoaL_ren := {
  mixed := by kernel_rfl,
  f129 := Tryz.func109.trans (congrArg some (by kernel_rfl)),
  f243 := Tryz.func80.trans (congrArg some (by kernel_rfl)),
  f246 := Tryz.func92.trans (congrArg some (by kernel_rfl)),
  f283 := Tryz.func98.trans (congrArg some (by kernel_rfl)),
  f284 := Tryz.func99.trans (congrArg some (by kernel_rfl)),
  f285 := Tryz.func100.trans (congrArg some (by kernel_rfl)),
  f286 := Tryz.func101.trans (congrArg some (by kernel_rfl)),
  f317 := Tryz.func108.trans (congrArg some (by kernel_rfl)),
  f318 := Tryz.func110.trans (congrArg some (by kernel_rfl)),
  f319 := Tryz.func111.trans (congrArg some (by kernel_rfl)),
  f320 := Tryz.func112.trans (congrArg some (by kernel_rfl)),
  f337 := Tryz.func119.trans (congrArg some (by kernel_rfl)),
  f338 := Tryz.func120.trans (congrArg some (by kernel_rfl)),
  t0 := Tryz.underlying0,
  a0 := Tryz.isAgg0,
  z0 := Tryz.sizeOf0,
  v0 := Tryz.zeroValue0,
  t2 := Tryz.underlying2,
  a2 := Tryz.isAgg2,
  z2 := Tryz.sizeOf2,
  v2 := Tryz.zeroValue2,
  t3 := Tryz.underlying3,
  a3 := Tryz.isAgg3,
  z3 := Tryz.sizeOf3,
  v3 := Tryz.zeroValue3,
  t4 := Tryz.underlying4,
  a4 := Tryz.isAgg4,
  z4 := Tryz.sizeOf4,
  v4 := Tryz.zeroValue4,
  t5 := Tryz.underlying5,
  a5 := Tryz.isAgg5,
  z5 := Tryz.sizeOf5,
  v5 := Tryz.zeroValue5,
  t9 := Tryz.underlying9,
  a9 := Tryz.isAgg9,
  z9 := Tryz.sizeOf9,
  v9 := Tryz.zeroValue9,
  t20 := Tryz.underlying20,
  a20 := Tryz.isAgg20,
  z20 := Tryz.sizeOf20,
  v20 := Tryz.zeroValue20,
  t37 := Tryz.underlying22,
  a37 := Tryz.isAgg22,
  z37 := Tryz.sizeOf22,
  v37 := Tryz.zeroValue22,
  t46 := Tryz.underlying125,
  a46 := Tryz.isAgg125,
  z46 := Tryz.sizeOf125,
  v46 := Tryz.zeroValue125,
  t51 := Tryz.underlying137,
  a51 := Tryz.isAgg137,
  z51 := Tryz.sizeOf137,
  v51 := Tryz.zeroValue137,
  t53 := Tryz.underlying89,
  a53 := Tryz.isAgg89,
  z53 := Tryz.sizeOf89,
  v53 := Tryz.zeroValue89,
  t171 := Tryz.underlying150,
  a171 := Tryz.isAgg150,
  z171 := Tryz.sizeOf150,
  v171 := Tryz.zeroValue150,
  t173 := Tryz.underlying153,
  a173 := Tryz.isAgg153,
  z173 := Tryz.sizeOf153,
  v173 := Tryz.zeroValue153,
  t212 := Tryz.underlying157,
  a212 := Tryz.isAgg157,
  z212 := Tryz.sizeOf157,
  v212 := Tryz.zeroValue157,
  t213 := Tryz.underlying158,
  a213 := Tryz.isAgg158,
  z213 := Tryz.sizeOf158,
  t232 := Tryz.underlying173,
  a232 := Tryz.isAgg173,
  z232 := Tryz.sizeOf173,
  v232 := Tryz.zeroValue173,
  t233 := Tryz.underlying174,
  a233 := Tryz.isAgg174,
  z233 := Tryz.sizeOf174,
  v233 := Tryz.zeroValue174,
  g17 := by kernel_rfl,
  g18 := by kernel_rfl,
  g19 := by kernel_rfl,
  i0 := by kernel_rfl,
  i2 := by kernel_rfl,
  i3 := by kernel_rfl,
  i4 := by kernel_rfl,
  i5 := by kernel_rfl,
  i9 := by kernel_rfl,
  i20 := by kernel_rfl,
  i37 := by kernel_rfl,
  i46 := by kernel_rfl,
  i51 := by kernel_rfl,
  i53 := by kernel_rfl,
  i171 := by kernel_rfl,
  i173 := by kernel_rfl,
  i212 := by kernel_rfl,
  i232 := by kernel_rfl,
  i233 := by kernel_rfl,
  m17 := by kernel_rfl,
  m18 := by kernel_rfl,
  m19 := by kernel_rfl }
end Go.Proofs
end
