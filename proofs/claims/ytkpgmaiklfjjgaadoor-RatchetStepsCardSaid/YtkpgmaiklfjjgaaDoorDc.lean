/-
  A byte, 64 times.
-/
import Derived.Test.YtkpgmaiklfjjgaaDoorDb
set_option linter.unusedSimpArgs false
set_option linter.unusedVariables false
namespace Go.Proofs.YtkpgmaiklfjjgaaDoor
open Go Go.G
variable {X : KX} {w : World} {K : KV} {D D' : Nat → Prop}
theorem Mul64_c (h : K (.tuple #[.int .u64 0, .int .u64 64]) w) : GCalls Tryd.prog 141 [.int .u64 1, .int .u64 64] K X w := by
  apply bits_Mul64.calls; unfold bits_Mul64.b
  have e1 : IntKind.u64.wrap (((BitVec.ofInt IntKind.u64.bits 1 &&& BitVec.ofInt IntKind.u64.bits 4294967295).toNat : Nat) : Int) = 1 := by decide
  have e2 : IntKind.u64.wrap (((BitVec.ofInt IntKind.u64.bits 64 &&& BitVec.ofInt IntKind.u64.bits 4294967295).toNat : Nat) : Int) = 64 := by decide
  have e3 : (1 : Int).fdiv (2 ^ min (32 : Int).toNat IntKind.u64.bits) = 0 := by decide
  have e4 : (64 : Int).fdiv (2 ^ min (32 : Int).toNat IntKind.u64.bits) = 0 := by decide
  have e5 : IntKind.u64.wrap (1 * 64) = 64 := by decide
  have e6 : IntKind.u64.wrap (0 * 64) = 0 := by decide
  have e7 : IntKind.u64.wrap (0 + 0) = 0 := by decide
  have e8 : IntKind.u64.wrap (((BitVec.ofInt IntKind.u64.bits 0 &&& BitVec.ofInt IntKind.u64.bits 4294967295).toNat : Nat) : Int) = 0 := by decide
  have e9 : (0 : Int).fdiv (2 ^ min (32 : Int).toNat IntKind.u64.bits) = 0 := by decide
  have e10 : IntKind.u64.wrap (1 * 0) = 0 := by decide
  have e11 : IntKind.u64.wrap (0 * 0) = 0 := by decide
  have e0 : (0 : Int) ≤ 32 := by decide
  simp only [↓eBinI, ↓eShift, binI, shiftI, e0, e1, e2, e3, e4, e5, e6, e7, e8, e9, e10, e11, true_and]
  exact h
theorem Mul_c (h : K (.tuple #[.int .u64 0, .int .u64 64]) w) : GCalls Tryd.prog 129 [.int .u64 1, .int .u64 64] K X w := by
  apply bits_Mul.calls; unfold bits_Mul.b
  simp only [↓eBinI, ↓eDiv, ↓eShift, ↓eBinS, ↓ePick, ↓eNot, ↓eNeg, ↓eConv, ↓eConvS, ↓eExt0, ↓eExt1, ↓eExt2, ↓eFA, ↓eIA, ↓eLenSl, ↓eCapSl, ↓eLenS, ↓eMin, ↓eMax, ↓eCondT, ↓eCondF, ↓gIf_tt, ↓gIf_ff, ↓gIf_tf, ↓gIf_ft, ↓gIf_u, ↓gIfW_u, ↓gIfW_tt, ↓gIfW_ff, ↓gIfW_tf, ↓gIfW_ft, binI, divI, shiftI, add_mk, Nat.zero_add, cond_true, cond_false, decide_true, decide_false, Bool.not_true, Bool.not_false, Bool.and_true, Bool.true_and, Bool.and_false, Bool.false_and, Int.toNat_natCast, Nat.mul_one]
  refine Mul64_c ?_
  simp only [↓eBinI, ↓eDiv, ↓eShift, ↓eBinS, ↓ePick, ↓eNot, ↓eNeg, ↓eConv, ↓eConvS, ↓eExt0, ↓eExt1, ↓eExt2, ↓eFA, ↓eIA, ↓eLenSl, ↓eCapSl, ↓eLenS, ↓eMin, ↓eMax, ↓eCondT, ↓eCondF, ↓gIf_tt, ↓gIf_ff, ↓gIf_tf, ↓gIf_ft, ↓gIf_u, ↓gIfW_u, ↓gIfW_tt, ↓gIfW_ff, ↓gIfW_tf, ↓gIfW_ft, binI, divI, shiftI, add_mk, Nat.zero_add, cond_true, cond_false, decide_true, decide_false, Bool.not_true, Bool.not_false, Bool.and_true, Bool.true_and, Bool.and_false, Bool.false_and, Int.toNat_natCast, Nat.mul_one]
  exact h
/-- A row of bytes that nobody wrote yet. -/
theorem MakeNoZero_c {K : KV} (h : ∀ g w' l, w.heap.size = g → Ext w w' → Cs w' g l → 64 ≤ l.length → K (.slice (some ⟨g, 0, none⟩) 64 l.length) w') : pCall Tryd.prog 130 [.int .i64 64] X w K := by
  refine .inr ?_
  obtain ⟨cs, hr, h1, h2, _⟩ := Lib.run_makeNoZero_cap (P := Tryd.prog) w #[3] 22 5 (by kernel_rfl) 64 (by omega)
  refine ⟨_, _, ?_, h w.heap.size (w.drew.drew.alloc (.cells cs 5)) cs.toList rfl (((Ext.drew w).tr (Ext.drew _)).tr (Ext.alloc _ _)) ⟨5, alloc_new w.drew.drew _⟩ (by simpa using h1)⟩
  rw [run_callFunc_extern Tryd.func130 (by kernel_rfl) (by kernel_rfl) (by kernel_rfl) (e := Extern.BytealgMakeNoZero.makeNoZero #[3] #[22]) (by kernel_rfl)]
  have : (#[Value.int IntKind.i64 64] : Array Value) = #[.int .i64 ((64 : Nat) : Int)] := rfl
  rw [show ([Value.int IntKind.i64 64] : List Value).toArray = #[.int .i64 ((64 : Nat) : Int)] from rfl, hr]
  rfl
theorem Repeat_c {x : Value} {c : UInt8} (hx : Rd (.slice .byte) D w [x] [c]) (h : ∀ v w', Ext w w' → Rd (.slice .byte) (fun _ => True) w' [v] (List.replicate 64 c) → K v w') : GCalls Tryd.prog 122 [x, .int .i64 64] K X w := by
  obtain ⟨a, cp, rfl, hc, hl⟩ := hx.form
  apply bytes_Repeat.calls; unfold bytes_Repeat.b
  have e1 : IntKind.u64.wrap ((1 : Nat) : Int) = 1 := by decide
  have e2 : IntKind.u64.wrap 64 = 64 := by decide
  have e3 : IntKind.i64.wrap 64 = 64 := by decide
  simp only [↓eBinI, ↓eDiv, ↓eShift, ↓eBinS, ↓ePick, ↓eNot, ↓eNeg, ↓eConv, ↓eConvS, ↓eExt0, ↓eExt1, ↓eExt2, ↓eFA, ↓eIA, ↓eLenSl, ↓eCapSl, ↓eLenS, ↓eMin, ↓eMax, ↓eCondT, ↓eCondF, ↓gIf_tt, ↓gIf_ff, ↓gIf_tf, ↓gIf_ft, ↓gIf_u, ↓gIfW_u, ↓gIfW_tt, ↓gIfW_ff, ↓gIfW_tf, ↓gIfW_ft, binI, divI, shiftI, add_mk, Nat.zero_add, cond_true, cond_false, decide_true, decide_false, Bool.not_true, Bool.not_false, Bool.and_true, Bool.true_and, Bool.and_false, Bool.false_and, Int.toNat_natCast, Nat.mul_one, show ([c] : List UInt8).length = 1 from rfl, e1, e2, show ((64 : Int) == 0) = false from by decide, show decide ((64 : Int) < 0) = false from by decide]
  refine Mul_c ?_
  simp only [↓eBinI, ↓eDiv, ↓eShift, ↓eBinS, ↓ePick, ↓eNot, ↓eNeg, ↓eConv, ↓eConvS, ↓eExt0, ↓eExt1, ↓eExt2, ↓eFA, ↓eIA, ↓eLenSl, ↓eCapSl, ↓eLenS, ↓eMin, ↓eMax, ↓eCondT, ↓eCondF, ↓gIf_tt, ↓gIf_ff, ↓gIf_tf, ↓gIf_ft, ↓gIf_u, ↓gIfW_u, ↓gIfW_tt, ↓gIfW_ff, ↓gIfW_tf, ↓gIfW_ft, binI, divI, shiftI, add_mk, Nat.zero_add, cond_true, cond_false, decide_true, decide_false, Bool.not_true, Bool.not_false, Bool.and_true, Bool.true_and, Bool.and_false, Bool.false_and, Int.toNat_natCast, Nat.mul_one, e3, show decide ((0 : Int) > 0) = false from by decide, show decide ((64 : Int) > 9223372036854775807) = false from by decide, show ((((1 : Nat) : Int)) == 0) = false from by decide, show decide ((64 : Int) > 8192) = false from by decide]
  unfold bytes_Repeat.j1
  refine MakeNoZero_c fun g w1 l hg h1 hcs hll => ?_
  refine eSl (l := 0) (h := 64) (m := 64) bnd_none (bnd_int (by omega)) (bnd_int (by omega)) (by omega) (by omega) hll (by simp) ?_
  rw [if_neg (by omega)]
  simp only [Option.map_some, Nat.zero_mul, add_zero, Nat.sub_zero]
  refine hcs.copy (k := 1) (by show min 1 64 = 1; decide) (reads_bv (hx.ext h1) (by simp)) (by simp [bv]) (by omega) (bv_one _) fun w2 hc2 hf2 => ?_
  refine bytes_Repeat.loop1 (fun x10 w' => ∃ i : Nat, 1 ≤ i ∧ i ≤ 64 ∧ x10 = .int .i64 i ∧ Ext w w' ∧ ∃ rest, Cs w' g (bv (List.replicate i c) ++ rest) ∧ i + rest.length = l.length) (fun x10 _ => 64 - (iv x10).toNat)
    ⟨1, by omega, by omega, rfl, h1.tn hf2 (fun x hx => by omega), l.drop 1, by simpa [bv] using hc2, by rw [List.length_drop]; omega⟩ ?_
  rintro x10 gg w3 ⟨i, hi1, hi64, rfl, h3, rest, hc3, hr⟩
  unfold bytes_Repeat.b1
  by_cases ci : (i : Int) < 64
  · have e5 : (if (64 : Int) < (i : Int) then (64 : Int) else (i : Int)) = (i : Int) := by rw [if_neg (by omega)]
    simp only [↓eBinI, ↓eDiv, ↓eShift, ↓eBinS, ↓ePick, ↓eNot, ↓eNeg, ↓eConv, ↓eConvS, ↓eExt0, ↓eExt1, ↓eExt2, ↓eFA, ↓eIA, ↓eLenSl, ↓eCapSl, ↓eLenS, ↓eMin, ↓eMax, ↓eCondT, ↓eCondF, ↓gIf_tt, ↓gIf_ff, ↓gIf_tf, ↓gIf_ft, ↓gIf_u, ↓gIfW_u, ↓gIfW_tt, ↓gIfW_ff, ↓gIfW_tf, ↓gIfW_ft, binI, divI, shiftI, add_mk, Nat.zero_add, cond_true, cond_false, decide_true, decide_false, Bool.not_true, Bool.not_false, Bool.and_true, Bool.true_and, Bool.and_false, Bool.false_and, Int.toNat_natCast, Nat.mul_one, ci, e5]
    refine drawS (· = g) fun w4 h4 => ?_
    refine eSl (l := i) (h := 64) (m := 64) (bnd_int (by omega)) bnd_none bnd_none (by omega) (by omega) (by omega) (by simp) ?_
    rw [if_neg (by omega)]
    refine eSl (l := 0) (h := i) (m := 64) bnd_none (bnd_int (by omega)) bnd_none (by omega) (by omega) (by omega) (by simp) ?_
    rw [if_neg (by omega)]
    simp only [Option.map_some, Nat.zero_mul, add_zero, Nat.sub_zero, add_mk, Nat.zero_add, Nat.mul_one]
    have hlen : (bv (List.replicate i c) ++ rest).length = l.length := by rw [List.length_append, bv_len, List.length_replicate]; omega
    have hk : min i (64 - i) ≤ i := Nat.min_le_left _ _
    have hk2 : min i (64 - i) ≤ 64 - i := Nat.min_le_right _ _
    have hk3 : 1 ≤ min i (64 - i) := Nat.le_min.2 ⟨hi1, by omega⟩
    generalize hkk : min i (64 - i) = k at hk hk2 hk3
    have er : ((bv (List.replicate i c) ++ rest).drop 0).take k = bv (List.replicate k c) := by
      rw [List.drop_zero, List.take_append_of_le_length (by rw [bv_len, List.length_replicate]; exact hk)]
      simp only [bv, ← List.map_take, List.take_replicate]
      rw [Nat.min_eq_left hk]
    have hrd := (hc3.ext h4).reads (n := i) (c := 64) (k := k) (o := 0) (by rw [hlen]; omega)
    rw [er] at hrd
    refine (hc3.ext h4).copy (k := k) hkk hrd (by rw [bv_len, List.length_replicate]) (by rw [hlen]; omega) (bv_one _) fun w5 hc5 hf5 => ?_
    have h5 : Ext w w5 := (h3.tr h4).tn hf5 (fun x hx => by omega)
    have e6 : (bv (List.replicate i c) ++ rest).take i ++ bv (List.replicate k c) ++ (bv (List.replicate i c) ++ rest).drop (i + k) = bv (List.replicate (i + k) c) ++ rest.drop k := by
      rw [List.take_append_of_le_length (by rw [bv_len, List.length_replicate]; exact Nat.le_refl _), List.take_of_length_le (by rw [bv_len, List.length_replicate]; exact Nat.le_refl _), List.drop_append,
        List.drop_of_length_le (by rw [bv_len, List.length_replicate]; omega), bv_len, List.length_replicate, List.nil_append, Nat.add_sub_cancel_left]
      simp [bv, ← List.replicate_append_replicate]
    rw [e6] at hc5
    refine ⟨hf5, ?_⟩
    simp only [↓eBinI, ↓eDiv, ↓eShift, ↓eBinS, ↓ePick, ↓eNot, ↓eNeg, ↓eConv, ↓eConvS, ↓eExt0, ↓eExt1, ↓eExt2, ↓eFA, ↓eIA, ↓eLenSl, ↓eCapSl, ↓eLenS, ↓eMin, ↓eMax, ↓eCondT, ↓eCondF, ↓gIf_tt, ↓gIf_ff, ↓gIf_tf, ↓gIf_ft, ↓gIf_u, ↓gIfW_u, ↓gIfW_tt, ↓gIfW_ff, ↓gIfW_tf, ↓gIfW_ft, binI, divI, shiftI, add_mk, Nat.zero_add, cond_true, cond_false, decide_true, decide_false, Bool.not_true, Bool.not_false, Bool.and_true, Bool.true_and, Bool.and_false, Bool.false_and, Int.toNat_natCast, Nat.mul_one]
    rw [wrap64 (by omega) (by omega)]
    refine bytes_Repeat.leaf1 ⟨i + k, by omega, by omega, by simp, h5, rest.drop k, hc5, by rw [List.length_drop]; omega⟩ (by simp only [iv]; omega)
  · simp only [↓eBinI, ↓eDiv, ↓eShift, ↓eBinS, ↓ePick, ↓eNot, ↓eNeg, ↓eConv, ↓eConvS, ↓eExt0, ↓eExt1, ↓eExt2, ↓eFA, ↓eIA, ↓eLenSl, ↓eCapSl, ↓eLenS, ↓eMin, ↓eMax, ↓eCondT, ↓eCondF, ↓gIf_tt, ↓gIf_ff, ↓gIf_tf, ↓gIf_ft, ↓gIf_u, ↓gIfW_u, ↓gIfW_tt, ↓gIfW_ff, ↓gIfW_tf, ↓gIfW_ft, binI, divI, shiftI, add_mk, Nat.zero_add, cond_true, cond_false, decide_true, decide_false, Bool.not_true, Bool.not_false, Bool.and_true, Bool.true_and, Bool.and_false, Bool.false_and, Int.toNat_natCast, Nat.mul_one, ci]
    have : i = 64 := by omega
    subst this
    refine h _ _ h3 ?_
    have hn : (List.replicate 64 c).length = 64 := by simp
    have := Rd.of_rows (t := .byte) (D := fun _ => True) (D' := fun _ => True) (w := w3) (xs := List.replicate 64 c) (cs := bv (List.replicate 64 c)) (a := some ⟨g, 0, none⟩) (c := 64) (bv_rows _ _ _) (fun _ h => h) (by rw [hn]; omega) (by rw [hn]; omega) fun j u hj => ⟨_, rfl, rfl, trivial, by
      rw [add_mk, Nat.zero_add, hc3.c, List.getElem?_append_left (List.getElem?_eq_some_iff.1 hj).1]; exact hj⟩
    rw [hn] at this
    exact this
end Go.Proofs.YtkpgmaiklfjjgaaDoor
