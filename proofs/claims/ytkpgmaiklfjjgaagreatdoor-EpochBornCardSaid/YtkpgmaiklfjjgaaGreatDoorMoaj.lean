/-
  Numbers as bytes, padded, by turns.
  Words that are turned; the 64 words of a block.
  The 64 words of a block, of the reference.
-/
import Derived.Test.YtkpgmaiklfjjgaaGreatDoorMoai
import Derived.Room.MakeNoZero
import Derived.Laws.Externs
section
set_option linter.unusedSimpArgs false
set_option linter.unusedVariables false
namespace Go.Proofs.YtkpgmaiklfjjgaaGreatDoor
open Go Go.G
variable {X : KX} {w : World} {K : KV} {D D' : Nat → Prop}
def putF : Nat → Nat → List UInt8
  | _, 0 => []
  | n, s + 1 => putF (n / 256) s ++ [UInt8.ofNat n]
theorem putF_len : ∀ (s n : Nat), (putF n s).length = s
  | 0, _ => rfl
  | s + 1, n => by rw [putF, List.length_append, putF_len s]; rfl
def getF (l : List UInt8) : Nat := l.foldl (fun a b => a * 256 + b.toNat) 0
theorem getF_snoc (l : List UInt8) (b : UInt8) : getF (l ++ [b]) = getF l * 256 + b.toNat := by simp [getF]
theorem num_Put_c {n s : Nat} (hn : n < 18446744073709551616) (h1 : 1 ≤ s) (h8 : s ≤ 8) (h : ∀ v w', Ext w w' → G.Own .byte (fun _ => False) w.heap.size w' v (putF n s) → K v w') : GCalls Tryz.prog 62 [.int .u64 n, .int .i64 s] K X w := by
  apply num_Put.calls; unfold num_Put.b
  have c1 : ¬ ((s : Int) < 1) := by omega
  have c2 : ¬ ((s : Int) > 8) := by omega
  simp only [↓eBinI, ↓eDiv, ↓eShift, ↓eBinS, ↓ePick, ↓eNot, ↓eNeg, ↓eConv, ↓eConvS, ↓eExt0, ↓eExt1, ↓eExt2, ↓eFA, ↓eIA, ↓eLenSl, ↓eCapSl, ↓eLenS, ↓eMin, ↓eMax, ↓eCondT, ↓eCondF, ↓gIf_tt, ↓gIf_ff, ↓gIf_tf, ↓gIf_ft, ↓gIf_u, ↓gIfW_u, ↓gIfW_tt, ↓gIfW_ff, ↓gIfW_tf, ↓gIfW_ft, binI, divI, shiftI, add_mk, Nat.zero_add, cond_true, cond_false, decide_true, decide_false, Bool.not_true, Bool.not_false, Bool.and_true, Bool.true_and, Bool.and_false, Bool.false_and, Int.toNat_natCast, Nat.mul_one, c1, c2]
  refine num_Put.loop1 (fun x4 x5 w' => ∃ k, k ≤ s ∧ x5 = .int .i64 ((k : Int) - 1) ∧ Ext w w' ∧ G.Own .byte (fun _ => False) w.heap.size w' x4 (putF (n / 256 ^ k) (s - k))) (fun _ x5 _ => (iv x5 + 1).toNat) ⟨s, by omega, by rw [wrap64 (by omega) (by omega)], Fr.refl _ _, by rw [Nat.sub_self]; exact G.Own.nil⟩ ?_
  rintro x4 x5 gg w1 ⟨k, hk, rfl, h1, ho⟩
  unfold num_Put.b1
  cases k with
  | zero =>
    have c3 : (((0 : Nat) : Int) - 1 < 0) := by omega
    simp only [↓eBinI, ↓eDiv, ↓eShift, ↓eBinS, ↓ePick, ↓eNot, ↓eNeg, ↓eConv, ↓eConvS, ↓eExt0, ↓eExt1, ↓eExt2, ↓eFA, ↓eIA, ↓eLenSl, ↓eCapSl, ↓eLenS, ↓eMin, ↓eMax, ↓eCondT, ↓eCondF, ↓gIf_tt, ↓gIf_ff, ↓gIf_tf, ↓gIf_ft, ↓gIf_u, ↓gIfW_u, ↓gIfW_tt, ↓gIfW_ff, ↓gIfW_tf, ↓gIfW_ft, binI, divI, shiftI, add_mk, Nat.zero_add, cond_true, cond_false, decide_true, decide_false, Bool.not_true, Bool.not_false, Bool.and_true, Bool.true_and, Bool.and_false, Bool.false_and, Int.toNat_natCast, Nat.mul_one, c3]
    rw [Nat.pow_zero, Nat.div_one] at ho
    exact h _ _ h1 ho
  | succ j =>
    have c3 : ¬ (((j + 1 : Nat) : Int) - 1 < 0) := by omega
    have e1 : IntKind.i64.wrap (8 * (((j + 1 : Nat) : Int) - 1)) = ((8 * j : Nat) : Int) := by rw [wrap64 (by omega) (by omega)]; omega
    have e2 : (n : Int).fdiv (2 ^ min (8 * j) IntKind.u64.bits) = ((n / 256 ^ j : Nat) : Int) := by
      have : min (8 * j) IntKind.u64.bits = 8 * j := Nat.min_eq_left (by show 8 * j ≤ 64; omega)
      rw [this, Int.fdiv_eq_ediv_of_nonneg _ (by exact Int.le_of_lt (Int.pow_pos (by omega)))]
      rw [show (256 : Nat) ^ j = 2 ^ (8 * j) by rw [Nat.pow_mul]]
      rw [Int.natCast_ediv, Int.natCast_pow]; rfl
    simp only [↓eBinI, ↓eDiv, ↓eShift, ↓eBinS, ↓ePick, ↓eNot, ↓eNeg, ↓eConv, ↓eConvS, ↓eExt0, ↓eExt1, ↓eExt2, ↓eFA, ↓eIA, ↓eLenSl, ↓eCapSl, ↓eLenS, ↓eMin, ↓eMax, ↓eCondT, ↓eCondF, ↓gIf_tt, ↓gIf_ff, ↓gIf_tf, ↓gIf_ft, ↓gIf_u, ↓gIfW_u, ↓gIfW_tt, ↓gIfW_ff, ↓gIfW_tf, ↓gIfW_ft, binI, divI, shiftI, add_mk, Nat.zero_add, cond_true, cond_false, decide_true, decide_false, Bool.not_true, Bool.not_false, Bool.and_true, Bool.true_and, Bool.and_false, Bool.false_and, Int.toNat_natCast, Nat.mul_one, c3, e1, e2, wrapU8, u8_of]
    refine ⟨by omega, ?_⟩
    refine bslice1 rfl fun r w2 hr h2 hcr => ?_
    have h12 := h1.tr h2
    have hpl := putF_len (s - (j + 1)) (n / 256 ^ (j + 1))
    refine (ho.ext h2).push1 hcr (x := UInt8.ofNat (n / 256 ^ j)) (show [_] = [_] from rfl) (h1.tr h2).size (fun h => h) rfl (by show (2 * ((putF _ _).length + 1) + 192) * 1 ≤ _; rw [hpl]; omega) fun v w3 hv hf _ => ?_
    have e3 : IntKind.i64.wrap (((j + 1 : Nat) : Int) - 1 - 1) = (j : Int) - 1 := by rw [wrap64 (by omega) (by omega)]; omega
    rw [e3]
    refine num_Put.leaf1 ⟨j, by omega, rfl, h12.tn hf (fun x hx => hx.2), ?_⟩ (by simp only [iv]; omega)
    have e4 : s - j = (s - (j + 1)) + 1 := by omega
    rw [e4, putF, Nat.div_div_eq_div_mul, ← Nat.pow_succ]
    exact hv
theorem ref_Put_c {n s : Nat} (hn : n < 18446744073709551616) (h1 : 1 ≤ s) (h8 : s ≤ 8) (h : ∀ v w', Ext w w' → G.Own .byte (fun _ => False) w.heap.size w' v (putF n s) → K v w') : GCalls Tryz.prog 87 [.int .u64 n, .int .i64 s] K X w := by
  apply oublietteref01_Put.calls; unfold oublietteref01_Put.b
  have c1 : ¬ ((s : Int) < 1) := by omega
  have c2 : ¬ ((s : Int) > 8) := by omega
  simp only [↓eBinI, ↓eDiv, ↓eShift, ↓eBinS, ↓ePick, ↓eNot, ↓eNeg, ↓eConv, ↓eConvS, ↓eExt0, ↓eExt1, ↓eExt2, ↓eFA, ↓eIA, ↓eLenSl, ↓eCapSl, ↓eLenS, ↓eMin, ↓eMax, ↓eCondT, ↓eCondF, ↓gIf_tt, ↓gIf_ff, ↓gIf_tf, ↓gIf_ft, ↓gIf_u, ↓gIfW_u, ↓gIfW_tt, ↓gIfW_ff, ↓gIfW_tf, ↓gIfW_ft, binI, divI, shiftI, add_mk, Nat.zero_add, cond_true, cond_false, decide_true, decide_false, Bool.not_true, Bool.not_false, Bool.and_true, Bool.true_and, Bool.and_false, Bool.false_and, Int.toNat_natCast, Nat.mul_one, c1, c2]
  refine makeB (by omega) fun g w1 hg h1 hc => ?_
  refine oublietteref01_Put.loop1 (fun x0 x6 w' => ∃ k tl, k ≤ s ∧ x6 = .int .i64 ((k : Int) - 1) ∧ x0 = .int .u64 ((n / 256 ^ (s - k) : Nat) : Int) ∧ Ext w w' ∧ Cs w' g (bv (List.replicate k 0 ++ tl)) ∧ putF (n / 256 ^ (s - k)) k ++ tl = putF n s) (fun _ x6 _ => (iv x6 + 1).toNat)
    ⟨s, [], by omega, by rw [wrap64 (by omega) (by omega)], by simp, h1, by simpa using hc, by simp⟩ ?_
  rintro x0 x6 gg w2 ⟨k, tl, hk, rfl, rfl, h2, hc2, ht⟩
  unfold oublietteref01_Put.b1
  cases k with
  | zero =>
    have c3 : ¬ (((0 : Nat) : Int) - 1 ≥ 0) := by omega
    simp only [↓eBinI, ↓eDiv, ↓eShift, ↓eBinS, ↓ePick, ↓eNot, ↓eNeg, ↓eConv, ↓eConvS, ↓eExt0, ↓eExt1, ↓eExt2, ↓eFA, ↓eIA, ↓eLenSl, ↓eCapSl, ↓eLenS, ↓eMin, ↓eMax, ↓eCondT, ↓eCondF, ↓gIf_tt, ↓gIf_ff, ↓gIf_tf, ↓gIf_ft, ↓gIf_u, ↓gIfW_u, ↓gIfW_tt, ↓gIfW_ff, ↓gIfW_tf, ↓gIfW_ft, binI, divI, shiftI, add_mk, Nat.zero_add, cond_true, cond_false, decide_true, decide_false, Bool.not_true, Bool.not_false, Bool.and_true, Bool.true_and, Bool.and_false, Bool.false_and, Int.toNat_natCast, Nat.mul_one, c3]
    have : tl = putF n s := ht
    subst this
    refine h _ _ h2 (Cs.own (rest := []) (by simpa using hc2) (by omega) (fun h => h) (putF_len _ _) rfl)
  | succ j =>
    have c3 : ((j : Int) ≥ 0) := by omega
    have e0 : ((j + 1 : Nat) : Int) - 1 = (j : Int) := by omega
    generalize hm : n / 256 ^ (s - (j + 1)) = m at *
    have hmn : m ≤ n := by rw [← hm]; exact Nat.div_le_self _ _
    have e1 : IntKind.u64.wrap ((m : Int).tmod 256) = ((m % 256 : Nat) : Int) := by rw [Int.tmod_eq_emod_of_nonneg (by omega), wrapU64 (by omega) (by omega)]; omega
    have e2 : IntKind.u64.wrap ((m : Int).tdiv 256) = ((m / 256 : Nat) : Int) := by rw [Int.tdiv_eq_ediv_of_nonneg (by omega), wrapU64 (by omega) (by omega)]; omega
    have e2' : (m : Int).tmod 256 = ((m % 256 : Nat) : Int) := by rw [Int.tmod_eq_emod_of_nonneg (by omega)]; omega
    have e3 : IntKind.i64.wrap ((j : Int) - 1) = (j : Int) - 1 := by rw [wrap64 (by omega) (by omega)]
    have e4 : (((m % 256 : Nat)) : Int) % 256 = ((UInt8.ofNat m).toNat : Int) := by rw [← u8_of]; omega
    simp only [↓eBinI, ↓eDiv, ↓eShift, ↓eBinS, ↓ePick, ↓eNot, ↓eNeg, ↓eConv, ↓eConvS, ↓eExt0, ↓eExt1, ↓eExt2, ↓eFA, ↓eIA, ↓eLenSl, ↓eCapSl, ↓eLenS, ↓eMin, ↓eMax, ↓eCondT, ↓eCondF, ↓gIf_tt, ↓gIf_ff, ↓gIf_tf, ↓gIf_ft, ↓gIf_u, ↓gIfW_u, ↓gIfW_tt, ↓gIfW_ff, ↓gIfW_tf, ↓gIfW_ft, binI, divI, shiftI, add_mk, Nat.zero_add, cond_true, cond_false, decide_true, decide_false, Bool.not_true, Bool.not_false, Bool.and_true, Bool.true_and, Bool.and_false, Bool.false_and, Int.toNat_natCast, Nat.mul_one, c3, e0, e1, e2, e2', e3, e4, wrapU8, ne_eq, show ¬ ((256 : Int) = 0) from by decide, not_false_eq_true, true_and]
    refine ⟨by omega, ?_⟩
    refine hc2.set (by rw [bv_len]; simp; omega) rfl fun w3 hc3 hf3 => ?_
    refine oublietteref01_Put.leaf1 ⟨j, UInt8.ofNat m :: tl, by omega, rfl, ?_, h2.tn hf3 (fun x hx => by omega), ?_, ?_⟩ (by simp only [iv]; omega)
    · rw [← hm, Nat.div_div_eq_div_mul, ← Nat.pow_succ, show (s - (j + 1)).succ = s - j by omega]
    · have e5 : (bv (List.replicate (j + 1) 0 ++ tl)).set j (.int .u8 ((UInt8.ofNat m).toNat : Int)) = bv (List.replicate j 0 ++ UInt8.ofNat m :: tl) := by
        have e6 : List.replicate (j + 1) (0 : UInt8) ++ tl = List.replicate j 0 ++ 0 :: tl := by
          rw [List.replicate_succ', List.append_assoc]; rfl
        rw [e6, ← set_mid (l1 := List.replicate j (0 : UInt8)) (l2 := tl) (x := 0) (y := UInt8.ofNat m) (i := j) (by simp)]
        simp [bv, List.map_set]
      rw [e5] at hc3; exact hc3
    · rw [← ht, putF, ← hm, Nat.div_div_eq_div_mul, ← Nat.pow_succ, show (s - (j + 1)).succ = s - j by omega]; simp
/-- The number of at most four bytes. -/
theorem getF_lt : ∀ (n : Nat) (l : List UInt8), l.length = n → getF l < 256 ^ n
  | 0, l, h => by rw [List.length_eq_zero_iff.1 h]; decide
  | n + 1, l, h => by
    have hne : l ≠ [] := by intro e; subst e; simp at h
    rw [← List.dropLast_concat_getLast hne, getF_snoc, Nat.pow_succ]
    have := getF_lt n l.dropLast (by rw [List.length_dropLast]; omega)
    have := (l.getLast hne).toNat_lt
    omega
theorem wOr64 {a b : Nat} (ha : a < 2 ^ 64) (hb : b < 2 ^ 64) : IntKind.u64.wrap (((BitVec.ofInt IntKind.u64.bits (a : Int) ||| BitVec.ofInt IntKind.u64.bits (b : Int)).toNat : Nat) : Int) = ((a ||| b : Nat) : Int) := by
  have h1 : (BitVec.ofInt IntKind.u64.bits (a : Int) ||| BitVec.ofInt IntKind.u64.bits (b : Int)).toNat = a ||| b := by
    show (BitVec.ofInt 64 (a : Int) ||| BitVec.ofInt 64 (b : Int)).toNat = a ||| b
    rw [BitVec.toNat_or, BitVec.toNat_ofInt, BitVec.toNat_ofInt]
    simp only [show ((2 ^ 64 : Nat) : Int) = 18446744073709551616 from rfl]
    have x1 : ((a : Int) % 18446744073709551616).toNat = a := by omega
    have x2 : ((b : Int) % 18446744073709551616).toNat = b := by omega
    rw [x1, x2]
  rw [h1, wrapU64 (by omega) (by have := Nat.or_lt_two_pow ha hb; omega)]
theorem wXor8 (x y : UInt8) : IntKind.u8.wrap (((BitVec.ofInt IntKind.u8.bits (x.toNat : Int) ^^^ BitVec.ofInt IntKind.u8.bits (y.toNat : Int)).toNat : Nat) : Int) = ((x ^^^ y).toNat : Int) := by
  have hx := x.toNat_lt; have hy := y.toNat_lt
  have h1 : (BitVec.ofInt IntKind.u8.bits (x.toNat : Int) ^^^ BitVec.ofInt IntKind.u8.bits (y.toNat : Int)).toNat = x.toNat ^^^ y.toNat := by
    show (BitVec.ofInt 8 (x.toNat : Int) ^^^ BitVec.ofInt 8 (y.toNat : Int)).toNat = x.toNat ^^^ y.toNat
    rw [BitVec.toNat_xor, BitVec.toNat_ofInt, BitVec.toNat_ofInt]
    simp only [show ((2 ^ 8 : Nat) : Int) = 256 from rfl]
    have x1 : ((x.toNat : Int) % 256).toNat = x.toNat := by omega
    have x2 : ((y.toNat : Int) % 256).toNat = y.toNat := by omega
    rw [x1, x2]
  rw [h1, wrapU8, UInt8.toNat_xor]
  have := Nat.xor_lt_two_pow (n := 8) hx hy
  omega
theorem num_Get_c {x : Value} {xs : List UInt8} (hx : Rd (.slice .byte) D w [x] xs) (h4 : xs.length = 4) (h : ∀ w', Ext w w' → K (.tuple #[.int .u64 (getF xs : Int), .int .i64 0]) w') : GCalls Tryz.prog 44 [x] K X w := by
  obtain ⟨a, c, rfl, hc, hl⟩ := hx.form
  apply num_Get.calls; unfold num_Get.b
  simp only [↓eBinI, ↓eDiv, ↓eShift, ↓eBinS, ↓ePick, ↓eNot, ↓eNeg, ↓eConv, ↓eConvS, ↓eExt0, ↓eExt1, ↓eExt2, ↓eFA, ↓eIA, ↓eLenSl, ↓eCapSl, ↓eLenS, ↓eMin, ↓eMax, ↓eCondT, ↓eCondF, ↓gIf_tt, ↓gIf_ff, ↓gIf_tf, ↓gIf_ft, ↓gIf_u, ↓gIfW_u, ↓gIfW_tt, ↓gIfW_ff, ↓gIfW_tf, ↓gIfW_ft, binI, divI, shiftI, add_mk, Nat.zero_add, cond_true, cond_false, decide_true, decide_false, Bool.not_true, Bool.not_false, Bool.and_true, Bool.true_and, Bool.and_false, Bool.false_and, Int.toNat_natCast, Nat.mul_one, h4, show decide (((4 : Nat) : Int) = 0) = false from by decide, show decide (((4 : Nat) : Int) > 8) = false from by decide, show (((4 : Nat) : Int) == 0) = false from by decide]
  refine num_Get.loop1 (fun x2 x16 w' => ∃ i, i ≤ 4 ∧ x16 = .int .i64 ((i : Nat) : Int) ∧ x2 = .int .u64 ((getF (xs.take i) : Nat) : Int) ∧ w' = w) (fun _ x16 _ => (4 - iv x16).toNat) ⟨0, by omega, rfl, by simp [getF], rfl⟩ ?_
  rintro x2 x16 gg w1 ⟨i, hi, rfl, rfl, rfl⟩
  unfold num_Get.b1
  by_cases ci : (i : Int) < ((4 : Nat) : Int)
  · have hi4 : i < xs.length := by omega
    obtain ⟨b1, k1, e1, q1⟩ := idxByte hx hi4
    simp only [Value.slice.injEq] at e1
    obtain ⟨rfl, e1, rfl⟩ := e1
    have hg := getF_lt i (xs.take i) (by rw [List.length_take]; omega)
    have hg2 : 256 ^ i ≤ 256 ^ 3 := Nat.pow_le_pow_right (by omega) (by omega)
    have hb := (xs[i]).toNat_lt
    have e2 : IntKind.u64.wrap (((getF (xs.take i) : Nat) : Int) * 2 ^ min 8 IntKind.u64.bits) = ((getF (xs.take i) * 256 : Nat) : Int) := by
      rw [show (2 : Int) ^ min 8 IntKind.u64.bits = 256 from by decide, wrapU64 (by omega) (by omega)]; omega
    have e3 : IntKind.u64.wrap ((xs[i].toNat : Nat) : Int) = ((xs[i].toNat : Nat) : Int) := wrapU64 (by omega) (by omega)
    have e4 : getF (xs.take i) * 256 ||| xs[i].toNat = getF (xs.take (i + 1)) := by
      rw [List.take_succ_eq_append_getElem hi4, getF_snoc, Nat.mul_comm, show (256 : Nat) = 2 ^ 8 from rfl, ← Nat.two_pow_add_eq_or_of_lt hb]
    have e5 := wOr64 (a := getF (xs.take i) * 256) (b := xs[i].toNat) (by omega) (by omega)
    rw [e4] at e5
    simp only [↓eBinI, ↓eDiv, ↓eShift, ↓eBinS, ↓ePick, ↓eNot, ↓eNeg, ↓eConv, ↓eConvS, ↓eExt0, ↓eExt1, ↓eExt2, ↓eFA, ↓eIA, ↓eLenSl, ↓eCapSl, ↓eLenS, ↓eMin, ↓eMax, ↓eCondT, ↓eCondF, ↓gIf_tt, ↓gIf_ff, ↓gIf_tf, ↓gIf_ft, ↓gIf_u, ↓gIfW_u, ↓gIfW_tt, ↓gIfW_ff, ↓gIfW_tf, ↓gIfW_ft, binI, divI, shiftI, add_mk, Nat.zero_add, cond_true, cond_false, decide_true, decide_false, Bool.not_true, Bool.not_false, Bool.and_true, Bool.true_and, Bool.and_false, Bool.false_and, Int.toNat_natCast, Nat.mul_one, ci, ↓eLdW, q1, Option.some.injEq, exists_eq_left', e2, e3, e5, show min (8 : Int).toNat IntKind.u64.bits = min 8 IntKind.u64.bits from rfl, show ((8 : Int).toNat) = 8 from rfl]
    refine ⟨by omega, by first | trivial | omega, by first | trivial | omega, ?_⟩
    rw [wrap64 (by omega) (by omega)]
    refine num_Get.leaf1 ⟨i + 1, by omega, by simp, rfl, rfl⟩ (by simp only [iv]; omega)
  · simp only [↓eBinI, ↓eDiv, ↓eShift, ↓eBinS, ↓ePick, ↓eNot, ↓eNeg, ↓eConv, ↓eConvS, ↓eExt0, ↓eExt1, ↓eExt2, ↓eFA, ↓eIA, ↓eLenSl, ↓eCapSl, ↓eLenS, ↓eMin, ↓eMax, ↓eCondT, ↓eCondF, ↓gIf_tt, ↓gIf_ff, ↓gIf_tf, ↓gIf_ft, ↓gIf_u, ↓gIfW_u, ↓gIfW_tt, ↓gIfW_ff, ↓gIfW_tf, ↓gIfW_ft, binI, divI, shiftI, add_mk, Nat.zero_add, cond_true, cond_false, decide_true, decide_false, Bool.not_true, Bool.not_false, Bool.and_true, Bool.true_and, Bool.and_false, Bool.false_and, Int.toNat_natCast, Nat.mul_one, ci]
    have : i = 4 := by omega
    subst this
    rw [List.take_of_length_le (by omega)]
    exact h _ (Fr.refl _ _)
theorem ref_Get_c {x : Value} {xs : List UInt8} (hx : Rd (.slice .byte) D w [x] xs) (h4 : xs.length = 4) (h : ∀ w', Ext w w' → K (.tuple #[.int .u64 (getF xs : Int), .int .i64 0]) w') : GCalls Tryz.prog 107 [x] K X w := by
  obtain ⟨a, c, rfl, hc, hl⟩ := hx.form
  apply oublietteref01_Get.calls; unfold oublietteref01_Get.b
  simp only [↓eBinI, ↓eDiv, ↓eShift, ↓eBinS, ↓ePick, ↓eNot, ↓eNeg, ↓eConv, ↓eConvS, ↓eExt0, ↓eExt1, ↓eExt2, ↓eFA, ↓eIA, ↓eLenSl, ↓eCapSl, ↓eLenS, ↓eMin, ↓eMax, ↓eCondT, ↓eCondF, ↓gIf_tt, ↓gIf_ff, ↓gIf_tf, ↓gIf_ft, ↓gIf_u, ↓gIfW_u, ↓gIfW_tt, ↓gIfW_ff, ↓gIfW_tf, ↓gIfW_ft, binI, divI, shiftI, add_mk, Nat.zero_add, cond_true, cond_false, decide_true, decide_false, Bool.not_true, Bool.not_false, Bool.and_true, Bool.true_and, Bool.and_false, Bool.false_and, Int.toNat_natCast, Nat.mul_one, h4, show decide (((4 : Nat) : Int) < 1) = false from by decide, show decide (((4 : Nat) : Int) > 8) = false from by decide]
  refine oublietteref01_Get.loop1 (fun x4 x5 w' => ∃ i, i ≤ 4 ∧ x5 = .int .i64 ((i : Nat) : Int) ∧ x4 = .int .u64 ((getF (xs.take i) : Nat) : Int) ∧ w' = w) (fun _ x5 _ => (4 - iv x5).toNat) ⟨0, by omega, rfl, by simp [getF], rfl⟩ ?_
  rintro x4 x5 gg w1 ⟨i, hi, rfl, rfl, rfl⟩
  unfold oublietteref01_Get.b1
  by_cases ci : (i : Int) < ((4 : Nat) : Int)
  · have hi4 : i < xs.length := by omega
    obtain ⟨b1, k1, e1, q1⟩ := idxByte hx hi4
    simp only [Value.slice.injEq] at e1
    obtain ⟨rfl, e1, rfl⟩ := e1
    have hg := getF_lt i (xs.take i) (by rw [List.length_take]; omega)
    have hg2 : 256 ^ i ≤ 256 ^ 3 := Nat.pow_le_pow_right (by omega) (by omega)
    have hb := (xs[i]).toNat_lt
    have e2 : IntKind.u64.wrap (((getF (xs.take i) : Nat) : Int) * 256) = ((getF (xs.take i) * 256 : Nat) : Int) := by
      rw [wrapU64 (by omega) (by omega)]; omega
    have e3 : IntKind.u64.wrap ((xs[i].toNat : Nat) : Int) = ((xs[i].toNat : Nat) : Int) := wrapU64 (by omega) (by omega)
    have e4 : IntKind.u64.wrap (((getF (xs.take i) * 256 : Nat) : Int) + ((xs[i].toNat : Nat) : Int)) = ((getF (xs.take (i + 1)) : Nat) : Int) := by
      rw [List.take_succ_eq_append_getElem hi4, getF_snoc, wrapU64 (by omega) (by omega)]; omega
    simp only [↓eBinI, ↓eDiv, ↓eShift, ↓eBinS, ↓ePick, ↓eNot, ↓eNeg, ↓eConv, ↓eConvS, ↓eExt0, ↓eExt1, ↓eExt2, ↓eFA, ↓eIA, ↓eLenSl, ↓eCapSl, ↓eLenS, ↓eMin, ↓eMax, ↓eCondT, ↓eCondF, ↓gIf_tt, ↓gIf_ff, ↓gIf_tf, ↓gIf_ft, ↓gIf_u, ↓gIfW_u, ↓gIfW_tt, ↓gIfW_ff, ↓gIfW_tf, ↓gIfW_ft, binI, divI, shiftI, add_mk, Nat.zero_add, cond_true, cond_false, decide_true, decide_false, Bool.not_true, Bool.not_false, Bool.and_true, Bool.true_and, Bool.and_false, Bool.false_and, Int.toNat_natCast, Nat.mul_one, h4, ci, ↓eLdW, q1, Option.some.injEq, exists_eq_left', e2, e3, e4]
    refine ⟨by omega, by first | trivial | omega, ?_⟩
    rw [wrap64 (by omega) (by omega)]
    refine oublietteref01_Get.leaf1 ⟨i + 1, by omega, by simp, rfl, rfl⟩ (by simp only [iv]; omega)
  · simp only [↓eBinI, ↓eDiv, ↓eShift, ↓eBinS, ↓ePick, ↓eNot, ↓eNeg, ↓eConv, ↓eConvS, ↓eExt0, ↓eExt1, ↓eExt2, ↓eFA, ↓eIA, ↓eLenSl, ↓eCapSl, ↓eLenS, ↓eMin, ↓eMax, ↓eCondT, ↓eCondF, ↓gIf_tt, ↓gIf_ff, ↓gIf_tf, ↓gIf_ft, ↓gIf_u, ↓gIfW_u, ↓gIfW_tt, ↓gIfW_ff, ↓gIfW_tf, ↓gIfW_ft, binI, divI, shiftI, add_mk, Nat.zero_add, cond_true, cond_false, decide_true, decide_false, Bool.not_true, Bool.not_false, Bool.and_true, Bool.true_and, Bool.and_false, Bool.false_and, Int.toNat_natCast, Nat.mul_one, h4, ci]
    have : i = 4 := by omega
    subst this
    rw [List.take_of_length_le (by omega)]
    exact h _ (Fr.refl _ _)
theorem fillB {xs : List UInt8} {n i : Nat} (hix : i < xs.length) (hn : i < n) : (bv (xs.take i ++ List.replicate (n - i) 0)).set i (.int .u8 (xs[i].toNat : Int)) = bv (xs.take (i + 1) ++ List.replicate (n - (i + 1)) 0) := by
  have e6 : List.replicate (n - i) (0 : UInt8) = 0 :: List.replicate (n - (i + 1)) 0 := by
    rw [show n - i = (n - (i + 1)) + 1 by omega, List.replicate_succ]
  have := set_mid (l1 := xs.take i) (l2 := List.replicate (n - (i + 1)) 0) (x := 0) (y := xs[i]) (i := i) (by rw [List.length_take]; omega)
  rw [e6, List.take_succ_eq_append_getElem hix, List.append_assoc, List.singleton_append, ← this]
  simp [bv, List.map_set]
/-- So many bytes, zeros behind. -/
def padF (xs : List UInt8) (n : Nat) : List UInt8 := xs.take n ++ List.replicate (n - xs.length) 0
theorem padF_len (xs : List UInt8) (n : Nat) : (padF xs n).length = n := by simp [padF]; omega
theorem num_Pad_c {x : Value} {xs : List UInt8} {n : Nat} (hx : Rd (.slice .byte) D w [x] xs) (h0 : 0 < n) (hn : n ≤ 65536) (h : ∀ v w', Ext w w' → G.Own .byte (fun _ => False) w.heap.size w' v (padF xs n) → K v w') : GCalls Tryz.prog 63 [x, .int .i64 n] K X w := by
  obtain ⟨a, c, rfl, hc, hl⟩ := hx.form
  apply num_Pad.calls; unfold num_Pad.b
  have c1 : ¬ ((n : Int) < 1) := by omega
  have c2 : ¬ ((n : Int) > 65536) := by omega
  simp only [↓eBinI, ↓eDiv, ↓eShift, ↓eBinS, ↓ePick, ↓eNot, ↓eNeg, ↓eConv, ↓eConvS, ↓eExt0, ↓eExt1, ↓eExt2, ↓eFA, ↓eIA, ↓eLenSl, ↓eCapSl, ↓eLenS, ↓eMin, ↓eMax, ↓eCondT, ↓eCondF, ↓gIf_tt, ↓gIf_ff, ↓gIf_tf, ↓gIf_ft, ↓gIf_u, ↓gIfW_u, ↓gIfW_tt, ↓gIfW_ff, ↓gIfW_tf, ↓gIfW_ft, binI, divI, shiftI, add_mk, Nat.zero_add, cond_true, cond_false, decide_true, decide_false, Bool.not_true, Bool.not_false, Bool.and_true, Bool.true_and, Bool.and_false, Bool.false_and, Int.toNat_natCast, Nat.mul_one, c1, c2]
  refine makeB (by omega) fun g w1 hg h1 hcs => ?_
  refine hcs.copy (k := min xs.length n) rfl (reads_bv (hx.ext h1) (Nat.min_le_left _ _)) (by rw [bv_len, List.length_take]; omega) (by rw [bv_len, List.length_replicate]; omega) (bv_one _) fun w2 hc2 hf2 => ?_
  have e1 : (bv (List.replicate n 0)).take 0 ++ bv (xs.take (min xs.length n)) ++ (bv (List.replicate n 0)).drop (0 + min xs.length n) = bv (padF xs n) ++ [] := by
    rw [padF, List.append_nil, List.take_zero, List.nil_append, Nat.zero_add]
    simp only [bv, List.map_append, ← List.map_drop, List.drop_replicate]
    congr 2
    · rw [Nat.min_comm, ← List.take_take, List.take_length]
    · congr 1; omega
  rw [e1] at hc2
  exact h _ _ (h1.tn hf2 (fun x hx => by omega)) (hc2.own (by omega) (fun h => h) (padF_len _ _) rfl)
theorem ref_Pad_c {x : Value} {xs : List UInt8} {n : Nat} (hx : Rd (.slice .byte) D w [x] xs) (h0 : 0 < n) (hn : n ≤ 65536) (h : ∀ v w', Ext w w' → G.Own .byte (fun _ => False) w.heap.size w' v (padF xs n) → K v w') : GCalls Tryz.prog 97 [x, .int .i64 n] K X w := by
  obtain ⟨a, c, rfl, hc, hl⟩ := hx.form
  apply oublietteref01_Pad.calls; unfold oublietteref01_Pad.b
  have c1 : ¬ ((n : Int) < 1) := by omega
  have c2 : ¬ ((n : Int) > 65536) := by omega
  simp only [↓eBinI, ↓eDiv, ↓eShift, ↓eBinS, ↓ePick, ↓eNot, ↓eNeg, ↓eConv, ↓eConvS, ↓eExt0, ↓eExt1, ↓eExt2, ↓eFA, ↓eIA, ↓eLenSl, ↓eCapSl, ↓eLenS, ↓eMin, ↓eMax, ↓eCondT, ↓eCondF, ↓gIf_tt, ↓gIf_ff, ↓gIf_tf, ↓gIf_ft, ↓gIf_u, ↓gIfW_u, ↓gIfW_tt, ↓gIfW_ff, ↓gIfW_tf, ↓gIfW_ft, binI, divI, shiftI, add_mk, Nat.zero_add, cond_true, cond_false, decide_true, decide_false, Bool.not_true, Bool.not_false, Bool.and_true, Bool.true_and, Bool.and_false, Bool.false_and, Int.toNat_natCast, Nat.mul_one, c1, c2]
  refine makeB (by omega) fun g w1 hg h1 hcs => ?_
  refine oublietteref01_Pad.loop1 (fun x6 w' => ∃ i : Nat, i ≤ n ∧ i ≤ xs.length ∧ x6 = .int .i64 i ∧ Ext w w' ∧ Cs w' g (bv (xs.take i ++ List.replicate (n - i) 0))) (fun x6 _ => n - (iv x6).toNat) ⟨0, by omega, by omega, rfl, h1, hcs⟩ ?_
  rintro x6 gg w2 ⟨i, hi, hi2, rfl, h2, hc2⟩
  unfold oublietteref01_Pad.b1
  have done : ∀ j : Nat, j = i → (j = n ∨ j = xs.length) → K (.slice (some ⟨g, 0, none⟩) n n) w2 := by
    rintro j rfl hj
    have e : xs.take j ++ List.replicate (n - j) 0 = padF xs n := by
      rw [padF]
      rcases hj with rfl | rfl
      · rw [Nat.sub_self, show j - xs.length = 0 by omega]
      · rw [List.take_of_length_le (Nat.le_refl _), List.take_of_length_le hi]
    rw [e] at hc2
    exact h _ _ h2 (Cs.own (rest := []) (by simpa using hc2) (by omega) (fun h => h) (padF_len _ _) rfl)
  by_cases ci : (i : Int) < (n : Int)
  · by_cases cj : (i : Int) < (xs.length : Int)
    · have hix : i < xs.length := by omega
      obtain ⟨b1, k1, e1, q1⟩ := idxByte (hx.ext h2) hix
      simp only [Value.slice.injEq] at e1
      obtain ⟨rfl, -, rfl⟩ := e1
      simp only [↓eBinI, ↓eDiv, ↓eShift, ↓eBinS, ↓ePick, ↓eNot, ↓eNeg, ↓eConv, ↓eConvS, ↓eExt0, ↓eExt1, ↓eExt2, ↓eFA, ↓eIA, ↓eLenSl, ↓eCapSl, ↓eLenS, ↓eMin, ↓eMax, ↓eCondT, ↓eCondF, ↓gIf_tt, ↓gIf_ff, ↓gIf_tf, ↓gIf_ft, ↓gIf_u, ↓gIfW_u, ↓gIfW_tt, ↓gIfW_ff, ↓gIfW_tf, ↓gIfW_ft, binI, divI, shiftI, add_mk, Nat.zero_add, cond_true, cond_false, decide_true, decide_false, Bool.not_true, Bool.not_false, Bool.and_true, Bool.true_and, Bool.and_false, Bool.false_and, Int.toNat_natCast, Nat.mul_one, ci, cj, ↓eLdW, q1, Option.some.injEq, exists_eq_left']
      refine ⟨by omega, by first | trivial | omega, ?_⟩
      refine ⟨by first | trivial | omega, by first | trivial | omega, ?_⟩
      refine hc2.set (by rw [bv_len]; simp; omega) rfl fun w3 hc3 hf3 => ?_
      rw [wrap64 (by omega) (by omega)]
      refine oublietteref01_Pad.leaf1 ⟨i + 1, by omega, by omega, by simp, h2.tn hf3 (fun x hx => by omega), ?_⟩ (by simp only [iv]; omega)
      have e5 := fillB (n := n) hix (by omega)
      rw [e5] at hc3; exact hc3
    · simp only [↓eBinI, ↓eDiv, ↓eShift, ↓eBinS, ↓ePick, ↓eNot, ↓eNeg, ↓eConv, ↓eConvS, ↓eExt0, ↓eExt1, ↓eExt2, ↓eFA, ↓eIA, ↓eLenSl, ↓eCapSl, ↓eLenS, ↓eMin, ↓eMax, ↓eCondT, ↓eCondF, ↓gIf_tt, ↓gIf_ff, ↓gIf_tf, ↓gIf_ft, ↓gIf_u, ↓gIfW_u, ↓gIfW_tt, ↓gIfW_ff, ↓gIfW_tf, ↓gIfW_ft, binI, divI, shiftI, add_mk, Nat.zero_add, cond_true, cond_false, decide_true, decide_false, Bool.not_true, Bool.not_false, Bool.and_true, Bool.true_and, Bool.and_false, Bool.false_and, Int.toNat_natCast, Nat.mul_one, ci, cj]
      exact done i rfl (.inr (by omega))
  · simp only [↓eBinI, ↓eDiv, ↓eShift, ↓eBinS, ↓ePick, ↓eNot, ↓eNeg, ↓eConv, ↓eConvS, ↓eExt0, ↓eExt1, ↓eExt2, ↓eFA, ↓eIA, ↓eLenSl, ↓eCapSl, ↓eLenS, ↓eMin, ↓eMax, ↓eCondT, ↓eCondF, ↓gIf_tt, ↓gIf_ff, ↓gIf_tf, ↓gIf_ft, ↓gIf_u, ↓gIfW_u, ↓gIfW_tt, ↓gIfW_ff, ↓gIfW_tf, ↓gIfW_ft, binI, divI, shiftI, add_mk, Nat.zero_add, cond_true, cond_false, decide_true, decide_false, Bool.not_true, Bool.not_false, Bool.and_true, Bool.true_and, Bool.and_false, Bool.false_and, Int.toNat_natCast, Nat.mul_one, ci]
    exact done i rfl (.inl (by omega))
def xorF (xs ys : List UInt8) : List UInt8 := List.zipWith (· ^^^ ·) xs ys
theorem num_Xor_c {x y : Value} {xs ys : List UInt8} {n : Nat} (hx : Rd (.slice .byte) D w [x] xs) (hy : Rd (.slice .byte) D' w [y] ys) (h1 : xs.length = n) (h2 : ys.length = n) (hn : n ≤ 65536) (h : ∀ v w', Ext w w' → G.Own .byte (fun _ => False) w.heap.size w' v (xorF xs ys) → K v w') : GCalls Tryz.prog 104 [x, y] K X w := by
  obtain ⟨a1, c1, rfl, hc1, hl1⟩ := hx.form
  obtain ⟨a2, c2, rfl, hc2, hl2⟩ := hy.form
  apply num_Xor.calls; unfold num_Xor.b
  simp only [↓eBinI, ↓eDiv, ↓eShift, ↓eBinS, ↓ePick, ↓eNot, ↓eNeg, ↓eConv, ↓eConvS, ↓eExt0, ↓eExt1, ↓eExt2, ↓eFA, ↓eIA, ↓eLenSl, ↓eCapSl, ↓eLenS, ↓eMin, ↓eMax, ↓eCondT, ↓eCondF, ↓gIf_tt, ↓gIf_ff, ↓gIf_tf, ↓gIf_ft, ↓gIf_u, ↓gIfW_u, ↓gIfW_tt, ↓gIfW_ff, ↓gIfW_tf, ↓gIfW_ft, binI, divI, shiftI, add_mk, Nat.zero_add, cond_true, cond_false, decide_true, decide_false, Bool.not_true, Bool.not_false, Bool.and_true, Bool.true_and, Bool.and_false, Bool.false_and, Int.toNat_natCast, Nat.mul_one, h1, h2, ite_self]
  refine makeB (by omega) fun g w1 hg hE hcs => ?_
  simp only [↓eBinI, ↓eDiv, ↓eShift, ↓eBinS, ↓ePick, ↓eNot, ↓eNeg, ↓eConv, ↓eConvS, ↓eExt0, ↓eExt1, ↓eExt2, ↓eFA, ↓eIA, ↓eLenSl, ↓eCapSl, ↓eLenS, ↓eMin, ↓eMax, ↓eCondT, ↓eCondF, ↓gIf_tt, ↓gIf_ff, ↓gIf_tf, ↓gIf_ft, ↓gIf_u, ↓gIfW_u, ↓gIfW_tt, ↓gIfW_ff, ↓gIfW_tf, ↓gIfW_ft, binI, divI, shiftI, add_mk, Nat.zero_add, cond_true, cond_false, decide_true, decide_false, Bool.not_true, Bool.not_false, Bool.and_true, Bool.true_and, Bool.and_false, Bool.false_and, Int.toNat_natCast, Nat.mul_one]
  have hxl : (xorF xs ys).length = n := by simp [xorF, h1, h2]
  refine num_Xor.loop1 (fun x15 w' => ∃ i : Nat, i ≤ n ∧ x15 = .int .i64 i ∧ Ext w w' ∧ Cs w' g (bv ((xorF xs ys).take i ++ List.replicate (n - i) 0))) (fun x15 _ => n - (iv x15).toNat) ⟨0, by omega, rfl, hE, hcs⟩ ?_
  rintro x15 gg w2 ⟨i, hi, rfl, hE2, hc⟩
  unfold num_Xor.b1
  by_cases ci : (i : Int) < (n : Int)
  · simp only [↓eBinI, ↓eDiv, ↓eShift, ↓eBinS, ↓ePick, ↓eNot, ↓eNeg, ↓eConv, ↓eConvS, ↓eExt0, ↓eExt1, ↓eExt2, ↓eFA, ↓eIA, ↓eLenSl, ↓eCapSl, ↓eLenS, ↓eMin, ↓eMax, ↓eCondT, ↓eCondF, ↓gIf_tt, ↓gIf_ff, ↓gIf_tf, ↓gIf_ft, ↓gIf_u, ↓gIfW_u, ↓gIfW_tt, ↓gIfW_ff, ↓gIfW_tf, ↓gIfW_ft, binI, divI, shiftI, add_mk, Nat.zero_add, cond_true, cond_false, decide_true, decide_false, Bool.not_true, Bool.not_false, Bool.and_true, Bool.true_and, Bool.and_false, Bool.false_and, Int.toNat_natCast, Nat.mul_one, ci]
    refine drawS (· = g) fun w3 h3 => ?_
    obtain ⟨b1, k1, e1, q1⟩ := idxByte hx (i := i) (by omega)
    obtain ⟨b2, k2, e2, q2⟩ := idxByte hy (i := i) (by omega)
    simp only [Value.slice.injEq] at e1 e2
    obtain ⟨rfl, -, rfl⟩ := e1
    obtain ⟨rfl, -, rfl⟩ := e2
    have g1 : ¬ ((b1.add i).block = g) := by have := cell_lt q1; omega
    have g2 : ¬ ((b2.add i).block = g) := by have := cell_lt q2; omega
    have q1 := (hE2.tr h3).cell q1
    have q2 := (hE2.tr h3).cell q2
    simp only [↓eBinI, ↓eDiv, ↓eShift, ↓eBinS, ↓ePick, ↓eNot, ↓eNeg, ↓eConv, ↓eConvS, ↓eExt0, ↓eExt1, ↓eExt2, ↓eFA, ↓eIA, ↓eLenSl, ↓eCapSl, ↓eLenS, ↓eMin, ↓eMax, ↓eCondT, ↓eCondF, ↓gIf_tt, ↓gIf_ff, ↓gIf_tf, ↓gIf_ft, ↓gIf_u, ↓gIfW_u, ↓gIfW_tt, ↓gIfW_ff, ↓gIfW_tf, ↓gIfW_ft, binI, divI, shiftI, add_mk, Nat.zero_add, cond_true, cond_false, decide_true, decide_false, Bool.not_true, Bool.not_false, Bool.and_true, Bool.true_and, Bool.and_false, Bool.false_and, Int.toNat_natCast, Nat.mul_one, ↓eLdT (T := (· = g)) g1 q1, ↓eLdT (T := (· = g)) g2 q2, wXor8]
    refine ⟨by omega, by first | trivial | omega, by omega, by first | trivial | omega, by omega, by first | trivial | omega, ?_⟩
    refine (hc.ext h3).set (by rw [bv_len]; simp; omega) rfl fun w4 hc4 hf4 => ?_
    refine anew_ ?_
    rw [wrap64 (by omega) (by omega)]
    refine num_Xor.leaf1 ⟨i + 1, by omega, by simp, (hE2.tr h3).tn hf4 (fun x hx => by omega), ?_⟩ (by simp only [iv]; omega)
    have e5 := fillB (xs := xorF xs ys) (n := n) (i := i) (by omega) (by omega)
    have e7 : (xorF xs ys)[i]'(by omega) = xs[i]'(by omega) ^^^ ys[i]'(by omega) := by simp [xorF]
    rw [e7] at e5
    rw [e5] at hc4; exact hc4
  · simp only [↓eBinI, ↓eDiv, ↓eShift, ↓eBinS, ↓ePick, ↓eNot, ↓eNeg, ↓eConv, ↓eConvS, ↓eExt0, ↓eExt1, ↓eExt2, ↓eFA, ↓eIA, ↓eLenSl, ↓eCapSl, ↓eLenS, ↓eMin, ↓eMax, ↓eCondT, ↓eCondF, ↓gIf_tt, ↓gIf_ff, ↓gIf_tf, ↓gIf_ft, ↓gIf_u, ↓gIfW_u, ↓gIfW_tt, ↓gIfW_ff, ↓gIfW_tf, ↓gIfW_ft, binI, divI, shiftI, add_mk, Nat.zero_add, cond_true, cond_false, decide_true, decide_false, Bool.not_true, Bool.not_false, Bool.and_true, Bool.true_and, Bool.and_false, Bool.false_and, Int.toNat_natCast, Nat.mul_one, ci]
    have : i = n := by omega
    subst this
    rw [List.take_of_length_le (by omega), Nat.sub_self, List.replicate_zero, List.append_nil] at hc
    exact h _ _ hE2 (Cs.own (rest := []) (by simpa using hc) (by omega) (fun h => h) hxl rfl)
end Go.Proofs.YtkpgmaiklfjjgaaGreatDoor
end
section
set_option linter.unusedSimpArgs false
set_option linter.unusedVariables false
namespace Go.Proofs.YtkpgmaiklfjjgaaGreatDoor
open Go Go.G
variable {X : KX} {w : World} {K : KV} {D D' : Nat → Prop}
def ror (x : W32) (n : Nat) : W32 := x >>> n ||| x <<< (32 - n)
theorem turn_n : ∀ n : Fin 32, n.val ≠ 0 → IntKind.u64.wrap (((BitVec.ofInt IntKind.u64.bits (IntKind.u64.wrap (IntKind.i64.wrap (0 - (n.val : Int)))) &&& BitVec.ofInt IntKind.u64.bits 31).toNat : Nat) : Int) = ((32 - n.val : Nat) : Int) := by decide
theorem rot_c {x : W32} {n : Nat} (h0 : 0 < n) (hn : n < 32) (h : K (u (ror x n)) w) : GCalls Tryz.prog 128 [u x, .int .i64 (IntKind.i64.wrap (0 - (n : Int)))] K X w := by
  apply bits_RotateLeft32.calls; unfold bits_RotateLeft32.b
  have e1 := turn_n ⟨n, hn⟩ (by show n ≠ 0; omega)
  have e2 : IntKind.u64.wrap (32 - ((32 - n : Nat) : Int)) = (n : Int) := by rw [wrapU64 (by omega) (by omega)]; omega
  simp only [↓eBinI, ↓eDiv, ↓eShift, ↓eBinS, ↓ePick, ↓eNot, ↓eNeg, ↓eConv, ↓eConvS, ↓eExt0, ↓eExt1, ↓eExt2, ↓eFA, ↓eIA, ↓eLenSl, ↓eCapSl, ↓eLenS, ↓eMin, ↓eMax, ↓eCondT, ↓eCondF, ↓gIf_tt, ↓gIf_ff, ↓gIf_tf, ↓gIf_ft, ↓gIf_u, ↓gIfW_u, ↓gIfW_tt, ↓gIfW_ff, ↓gIfW_tf, ↓gIfW_ft, binI, divI, shiftI, add_mk, Nat.zero_add, cond_true, cond_false, decide_true, decide_false, Bool.not_true, Bool.not_false, Bool.and_true, Bool.true_and, Bool.and_false, Bool.false_and, Int.toNat_natCast, Nat.mul_one, e1, e2, ↓eUshl (show 32 - n < 32 by omega), ↓eUshr hn, ↓eUor]
  rw [ror, BitVec.or_comm] at h
  exact h
theorem right_c {x : W32} {n : Nat} (h0 : 0 < n) (hn : n < 32) (h : K (u (ror x n)) w) : GCalls Tryz.prog 125 [u x, .int .i64 n] K X w := by
  apply sha_right.calls; unfold sha_right.b
  simp only [↓eBinI, ↓eDiv, ↓eShift, ↓eBinS, ↓ePick, ↓eNot, ↓eNeg, ↓eConv, ↓eConvS, ↓eExt0, ↓eExt1, ↓eExt2, ↓eFA, ↓eIA, ↓eLenSl, ↓eCapSl, ↓eLenS, ↓eMin, ↓eMax, ↓eCondT, ↓eCondF, ↓gIf_tt, ↓gIf_ff, ↓gIf_tf, ↓gIf_ft, ↓gIf_u, ↓gIfW_u, ↓gIfW_tt, ↓gIfW_ff, ↓gIfW_tf, ↓gIfW_ft, binI, divI, shiftI, add_mk, Nat.zero_add, cond_true, cond_false, decide_true, decide_false, Bool.not_true, Bool.not_false, Bool.and_true, Bool.true_and, Bool.and_false, Bool.false_and, Int.toNat_natCast, Nat.mul_one]
  exact rot_c h0 hn h
theorem ref_right_c {x : W32} {n : Nat} (h0 : 0 < n) (hn : n < 32) (h : ∀ w', Ext w w' → K (u (ror x n)) w') : GCalls Tryz.prog 96 [u x, .int .i64 n] K X w := by
  apply oublietteref07_right.calls; unfold oublietteref07_right.b
  refine draw_ fun w1 h1 => ?_
  have e2 : IntKind.i64.wrap (32 - (n : Int)) = ((32 - n : Nat) : Int) := by rw [wrap64 (by omega) (by omega)]; omega
  simp only [↓eBinI, ↓eDiv, ↓eShift, ↓eBinS, ↓ePick, ↓eNot, ↓eNeg, ↓eConv, ↓eConvS, ↓eExt0, ↓eExt1, ↓eExt2, ↓eFA, ↓eIA, ↓eLenSl, ↓eCapSl, ↓eLenS, ↓eMin, ↓eMax, ↓eCondT, ↓eCondF, ↓gIf_tt, ↓gIf_ff, ↓gIf_tf, ↓gIf_ft, ↓gIf_u, ↓gIfW_u, ↓gIfW_tt, ↓gIfW_ff, ↓gIfW_tf, ↓gIfW_ft, binI, divI, shiftI, add_mk, Nat.zero_add, cond_true, cond_false, decide_true, decide_false, Bool.not_true, Bool.not_false, Bool.and_true, Bool.true_and, Bool.and_false, Bool.false_and, Int.toNat_natCast, Nat.mul_one, e2, ↓eUshl (show 32 - n < 32 by omega), ↓eUshr hn, ↓eUor]
  exact h _ h1
def sg0 (x : W32) : W32 := ror x 7 ^^^ ror x 18 ^^^ x >>> 3
def sg1 (x : W32) : W32 := ror x 17 ^^^ ror x 19 ^^^ x >>> 10
theorem low_c {x : W32} (h : K (u (sg0 x)) w) : GCalls Tryz.prog 126 [u x] K X w := by
  apply sha_Words_c1.calls; unfold sha_Words_c1.b
  refine right_c (n := 7) (by omega) (by omega) ?_
  refine right_c (n := 18) (by omega) (by omega) ?_
  simp only [↓eUxor, ↓eUshr (n := 3) (k := .u64) (show 3 < 32 by omega)]
  rw [show (Value.int IntKind.u64 3) = .int .u64 ((3 : Nat) : Int) from rfl]
  simp only [↓eUxor, ↓eUshr (n := 3) (k := .u64) (show 3 < 32 by omega)]
  exact h
theorem high_c {x : W32} (h : K (u (sg1 x)) w) : GCalls Tryz.prog 127 [u x] K X w := by
  apply sha_Words_c2.calls; unfold sha_Words_c2.b
  refine right_c (n := 17) (by omega) (by omega) ?_
  refine right_c (n := 19) (by omega) (by omega) ?_
  rw [show (Value.int IntKind.u64 10) = .int .u64 ((10 : Nat) : Int) from rfl]
  simp only [↓eUxor, ↓eUshr (n := 10) (k := .u64) (show 10 < 32 by omega)]
  exact h
def wordF (b : List UInt8) (t : Nat) : W32 := BitVec.ofInt 32 (getF ((b.take (4 * t + 4)).drop (4 * t)) : Int)
def nextW (b : List UInt8) (ws : List W32) : W32 :=
  if ws.length < 16 then wordF b ws.length else sg1 (ws.getD (ws.length - 2) 0) + ws.getD (ws.length - 7) 0 + sg0 (ws.getD (ws.length - 15) 0) + ws.getD (ws.length - 16) 0
def wordsL (b : List UInt8) : Nat → List W32
  | 0 => []
  | n + 1 => wordsL b n ++ [nextW b (wordsL b n)]
theorem wordsL_len (b : List UInt8) : ∀ n, (wordsL b n).length = n
  | 0 => rfl
  | n + 1 => by rw [wordsL, List.length_append, wordsL_len b n]; rfl
def wst (b : List UInt8) (i : Nat) : List W32 := wordsL b i ++ List.replicate (64 - i) 0
theorem wst_len {b : List UInt8} {i : Nat} (h : i ≤ 64) : (wst b i).length = 64 := by simp [wst, wordsL_len]; omega
theorem wst_get {b : List UInt8} {i j : Nat} (h : i ≤ 64) (hj : j < i) (hl : j < (wst b i).length) : (wst b i)[j] = (wordsL b i).getD j 0 := by
  have e : j < (wordsL b i).length := by rw [wordsL_len]; exact hj
  rw [List.getD_eq_getElem?_getD, List.getElem?_eq_getElem e]
  simp only [wst]
  rw [List.getElem_append_left e]; rfl
theorem wst_set {b : List UInt8} {i : Nat} (h : i < 64) : (wst b i).set i (nextW b (wordsL b i)) = wst b (i + 1) := by
  have e6 : List.replicate (64 - i) (0 : W32) = 0 :: List.replicate (64 - (i + 1)) 0 := by
    rw [show 64 - i = (64 - (i + 1)) + 1 by omega, List.replicate_succ]
  rw [wst, e6, List.set_append_right _ _ (by rw [wordsL_len]; exact Nat.le_refl _), wordsL_len, Nat.sub_self, List.set_cons_zero, wst, wordsL, List.append_assoc]; rfl
theorem nextW_lt {b : List UInt8} {i : Nat} (h : i < 16) : nextW b (wordsL b i) = wordF b i := by rw [nextW, wordsL_len, if_pos h]
theorem nextW_ge {b : List UInt8} {i : Nat} (h : ¬ i < 16) : nextW b (wordsL b i) = sg1 ((wordsL b i).getD (i - 2) 0) + (wordsL b i).getD (i - 7) 0 + sg0 ((wordsL b i).getD (i - 15) 0) + (wordsL b i).getD (i - 16) 0 := by rw [nextW, wordsL_len, if_neg h]
def zero64 : List Value := us (List.replicate 64 0)
theorem bytes4 {a : Option Addr} {n c : Nat} {xs : List UInt8} {t : Nat} (hx : Rd (.slice .byte) D w [.slice a n c] xs) (hn : n = 64) (hc : n ≤ c) (ht : t < 16) :
    Rd (.slice .byte) D w [.slice (if c = 4 * t then a else a.map (·.add (4 * t * 1))) (4 * t + 4 - 4 * t) (c - 4 * t)] ((xs.take (4 * t + 4)).drop (4 * t)) :=
  hx.cut (l := 4 * t) (e := 4 * t + 4) (m := c) (by omega) (by omega) (by omega) (Nat.le_refl _)
theorem Words_c {x : Value} {xs : List UInt8} (hx : Rd (.slice .byte) D w [x] xs) (h64 : xs.length = 64) (h : ∀ w', Ext w w' → K (.agg ⟨us (wordsL xs 64)⟩) w') : GCalls Tryz.prog 124 [x] K X w := by
  obtain ⟨a, c, rfl, hc, hl⟩ := hx.form
  apply sha_Words.calls; unfold sha_Words.b
  refine boxC (cs := zero64) fun g w1 hg h1 c1 => ?_
  simp only [↓eBinI, ↓eDiv, ↓eShift, ↓eBinS, ↓ePick, ↓eNot, ↓eNeg, ↓eConv, ↓eConvS, ↓eExt0, ↓eExt1, ↓eExt2, ↓eFA, ↓eIA, ↓eLenSl, ↓eCapSl, ↓eLenS, ↓eMin, ↓eMax, ↓eCondT, ↓eCondF, ↓gIf_tt, ↓gIf_ff, ↓gIf_tf, ↓gIf_ft, ↓gIf_u, ↓gIfW_u, ↓gIfW_tt, ↓gIfW_ff, ↓gIfW_tf, ↓gIfW_ft, binI, divI, shiftI, add_mk, Nat.zero_add, cond_true, cond_false, decide_true, decide_false, Bool.not_true, Bool.not_false, Bool.and_true, Bool.true_and, Bool.and_false, Bool.false_and, Int.toNat_natCast, Nat.mul_one, h64, show (((64 : Nat) : Int) != 64) = false from by decide]
  refine sha_Words.loop1 (fun x12 w' => ∃ i : Nat, i ≤ 64 ∧ x12 = .int .i64 i ∧ Ext w w' ∧ Cs w' g (us (wst xs i))) (fun x12 _ => 64 - (iv x12).toNat) ⟨0, by omega, rfl, h1, c1⟩ ?_
  rintro x12 gg w2 ⟨i, hi, rfl, h2, c2⟩
  unfold sha_Words.b1
  have hw := wst_len (b := xs) hi
  by_cases ci : (i : Int) < 64
  · have hi64 : i < 64 := by omega
    by_cases cj : (i : Int) < 16
    · have e1 : IntKind.i64.wrap (4 * (i : Int)) = ((4 * i : Nat) : Int) := by rw [wrap64 (by omega) (by omega)]; omega
      have e2 : IntKind.i64.wrap ((i : Int) + 1) = ((i + 1 : Nat) : Int) := by rw [wrap64 (by omega) (by omega)]; omega
      have e3 : IntKind.i64.wrap (4 * ((i + 1 : Nat) : Int)) = ((4 * i + 4 : Nat) : Int) := by rw [wrap64 (by omega) (by omega)]; omega
      simp only [↓eBinI, ↓eDiv, ↓eShift, ↓eBinS, ↓ePick, ↓eNot, ↓eNeg, ↓eConv, ↓eConvS, ↓eExt0, ↓eExt1, ↓eExt2, ↓eFA, ↓eIA, ↓eLenSl, ↓eCapSl, ↓eLenS, ↓eMin, ↓eMax, ↓eCondT, ↓eCondF, ↓gIf_tt, ↓gIf_ff, ↓gIf_tf, ↓gIf_ft, ↓gIf_u, ↓gIfW_u, ↓gIfW_tt, ↓gIfW_ff, ↓gIfW_tf, ↓gIfW_ft, binI, divI, shiftI, add_mk, Nat.zero_add, cond_true, cond_false, decide_true, decide_false, Bool.not_true, Bool.not_false, Bool.and_true, Bool.true_and, Bool.and_false, Bool.false_and, Int.toNat_natCast, Nat.mul_one, ci, cj, e1, e2, e3]
      refine eSl (l := 4 * i) (h := 4 * i + 4) (m := c) (bnd_int (by omega)) (bnd_int (by omega)) bnd_none (by omega) (by omega) (by omega) (by simp) ?_
      have hb := bytes4 (t := i) (hx.ext h2) h64 hc (by omega)
      refine num_Get_c hb (by rw [List.length_drop, List.length_take]; omega) fun w3 h3 => ?_
      simp only [↓eBinI, ↓eDiv, ↓eShift, ↓eBinS, ↓ePick, ↓eNot, ↓eNeg, ↓eConv, ↓eConvS, ↓eExt0, ↓eExt1, ↓eExt2, ↓eFA, ↓eIA, ↓eLenSl, ↓eCapSl, ↓eLenS, ↓eMin, ↓eMax, ↓eCondT, ↓eCondF, ↓gIf_tt, ↓gIf_ff, ↓gIf_tf, ↓gIf_ft, ↓gIf_u, ↓gIfW_u, ↓gIfW_tt, ↓gIfW_ff, ↓gIfW_tf, ↓gIfW_ft, binI, divI, shiftI, add_mk, Nat.zero_add, cond_true, cond_false, decide_true, decide_false, Bool.not_true, Bool.not_false, Bool.and_true, Bool.true_and, Bool.and_false, Bool.false_and, Int.toNat_natCast, Nat.mul_one, ↓eUconv, ↓eIAr]
      have e4 : Value.int .u32 (IntKind.u32.wrap ((getF ((xs.take (4 * i + 4)).drop (4 * i)) : Nat) : Int)) = u (wordF xs i) := by rw [wrap32]; rfl
      rw [e4]
      refine ⟨by omega, by omega, ?_⟩
      refine (c2.ext h3).uSet (by omega) fun w4 c4 f4 => ?_
      unfold sha_Words.j1
      simp only [↓eBinI, ↓eDiv, ↓eShift, ↓eBinS, ↓ePick, ↓eNot, ↓eNeg, ↓eConv, ↓eConvS, ↓eExt0, ↓eExt1, ↓eExt2, ↓eFA, ↓eIA, ↓eLenSl, ↓eCapSl, ↓eLenS, ↓eMin, ↓eMax, ↓eCondT, ↓eCondF, ↓gIf_tt, ↓gIf_ff, ↓gIf_tf, ↓gIf_ft, ↓gIf_u, ↓gIfW_u, ↓gIfW_tt, ↓gIfW_ff, ↓gIfW_tf, ↓gIfW_ft, binI, divI, shiftI, add_mk, Nat.zero_add, cond_true, cond_false, decide_true, decide_false, Bool.not_true, Bool.not_false, Bool.and_true, Bool.true_and, Bool.and_false, Bool.false_and, Int.toNat_natCast, Nat.mul_one, e2]
      refine sha_Words.leaf1 ⟨i + 1, by omega, rfl, (h2.tr h3).tn f4 (fun x hx => by omega), ?_⟩ (by simp only [iv]; omega)
      have := wst_set (b := xs) hi64
      rw [nextW_lt (by omega)] at this
      rw [this] at c4; exact c4
    · have e0 : IntKind.i64.wrap ((i : Int) + 1) = ((i + 1 : Nat) : Int) := by rw [wrap64 (by omega) (by omega)]; omega
      have e2 : IntKind.i64.wrap ((i : Int) - 2) = ((i - 2 : Nat) : Int) := by rw [wrap64 (by omega) (by omega)]; omega
      have e7 : IntKind.i64.wrap ((i : Int) - 7) = ((i - 7 : Nat) : Int) := by rw [wrap64 (by omega) (by omega)]; omega
      have e15 : IntKind.i64.wrap ((i : Int) - 15) = ((i - 15 : Nat) : Int) := by rw [wrap64 (by omega) (by omega)]; omega
      have e16 : IntKind.i64.wrap ((i : Int) - 16) = ((i - 16 : Nat) : Int) := by rw [wrap64 (by omega) (by omega)]; omega
      simp only [↓eBinI, ↓eDiv, ↓eShift, ↓eBinS, ↓ePick, ↓eNot, ↓eNeg, ↓eConv, ↓eConvS, ↓eExt0, ↓eExt1, ↓eExt2, ↓eFA, ↓eIA, ↓eLenSl, ↓eCapSl, ↓eLenS, ↓eMin, ↓eMax, ↓eCondT, ↓eCondF, ↓gIf_tt, ↓gIf_ff, ↓gIf_tf, ↓gIf_ft, ↓gIf_u, ↓gIfW_u, ↓gIfW_tt, ↓gIfW_ff, ↓gIfW_tf, ↓gIfW_ft, binI, divI, shiftI, add_mk, Nat.zero_add, cond_true, cond_false, decide_true, decide_false, Bool.not_true, Bool.not_false, Bool.and_true, Bool.true_and, Bool.and_false, Bool.false_and, Int.toNat_natCast, Nat.mul_one, ci, cj]
      refine draw_ fun w3 h3 => ?_
      have c3 := c2.ext h3
      simp only [↓eBinI, ↓eDiv, ↓eShift, ↓eBinS, ↓ePick, ↓eNot, ↓eNeg, ↓eConv, ↓eConvS, ↓eExt0, ↓eExt1, ↓eExt2, ↓eFA, ↓eIA, ↓eLenSl, ↓eCapSl, ↓eLenS, ↓eMin, ↓eMax, ↓eCondT, ↓eCondF, ↓gIf_tt, ↓gIf_ff, ↓gIf_tf, ↓gIf_ft, ↓gIf_u, ↓gIfW_u, ↓gIfW_tt, ↓gIfW_ff, ↓gIfW_tf, ↓gIfW_ft, binI, divI, shiftI, add_mk, Nat.zero_add, cond_true, cond_false, decide_true, decide_false, Bool.not_true, Bool.not_false, Bool.and_true, Bool.true_and, Bool.and_false, Bool.false_and, Int.toNat_natCast, Nat.mul_one, e2, e7, e15, e16, ↓eIAr, ↓c3.uE (show i - 2 < _ by omega), ↓c3.uE (show i - 7 < _ by omega), ↓c3.uE (show i - 15 < _ by omega), ↓c3.uE (show i - 16 < _ by omega)]
      refine ⟨by omega, by first | trivial | omega, by first | trivial | omega, by first | trivial | omega, by first | trivial | omega, by first | trivial | omega, by first | trivial | omega, by first | trivial | omega, ?_⟩
      refine (high_c ?_ : GCalls Tryz.prog 127 [u _] _ X w3)
      refine ⟨Fr.refl _ _, ?_⟩
      simp only [↓eUadd]
      refine (low_c ?_ : GCalls Tryz.prog 126 [u _] _ X w3)
      refine ⟨Fr.refl _ _, ?_⟩
      simp only [↓eBinI, ↓eDiv, ↓eShift, ↓eBinS, ↓ePick, ↓eNot, ↓eNeg, ↓eConv, ↓eConvS, ↓eExt0, ↓eExt1, ↓eExt2, ↓eFA, ↓eIA, ↓eLenSl, ↓eCapSl, ↓eLenS, ↓eMin, ↓eMax, ↓eCondT, ↓eCondF, ↓gIf_tt, ↓gIf_ff, ↓gIf_tf, ↓gIf_ft, ↓gIf_u, ↓gIfW_u, ↓gIfW_tt, ↓gIfW_ff, ↓gIfW_tf, ↓gIfW_ft, binI, divI, shiftI, add_mk, Nat.zero_add, cond_true, cond_false, decide_true, decide_false, Bool.not_true, Bool.not_false, Bool.and_true, Bool.true_and, Bool.and_false, Bool.false_and, Int.toNat_natCast, Nat.mul_one, ↓eUadd, ↓eIAr]
      refine ⟨by omega, by first | trivial | omega, ?_⟩
      refine c3.uSet (by omega) fun w4 c4 f4 => ?_
      refine anew_ ?_
      unfold sha_Words.j1
      simp only [↓eBinI, ↓eDiv, ↓eShift, ↓eBinS, ↓ePick, ↓eNot, ↓eNeg, ↓eConv, ↓eConvS, ↓eExt0, ↓eExt1, ↓eExt2, ↓eFA, ↓eIA, ↓eLenSl, ↓eCapSl, ↓eLenS, ↓eMin, ↓eMax, ↓eCondT, ↓eCondF, ↓gIf_tt, ↓gIf_ff, ↓gIf_tf, ↓gIf_ft, ↓gIf_u, ↓gIfW_u, ↓gIfW_tt, ↓gIfW_ff, ↓gIfW_tf, ↓gIfW_ft, binI, divI, shiftI, add_mk, Nat.zero_add, cond_true, cond_false, decide_true, decide_false, Bool.not_true, Bool.not_false, Bool.and_true, Bool.true_and, Bool.and_false, Bool.false_and, Int.toNat_natCast, Nat.mul_one, e0]
      refine sha_Words.leaf1 ⟨i + 1, by omega, rfl, (h2.tr h3).tn f4 (fun x hx => by omega), ?_⟩ (by simp only [iv]; omega)
      have := wst_set (b := xs) hi64
      rw [nextW_ge (by omega), ← wst_get hi (show i - 2 < i by omega) (by omega), ← wst_get hi (show i - 7 < i by omega) (by omega), ← wst_get hi (show i - 15 < i by omega) (by omega), ← wst_get hi (show i - 16 < i by omega) (by omega)] at this
      rw [this] at c4; exact c4
  · simp only [↓eBinI, ↓eDiv, ↓eShift, ↓eBinS, ↓ePick, ↓eNot, ↓eNeg, ↓eConv, ↓eConvS, ↓eExt0, ↓eExt1, ↓eExt2, ↓eFA, ↓eIA, ↓eLenSl, ↓eCapSl, ↓eLenS, ↓eMin, ↓eMax, ↓eCondT, ↓eCondF, ↓gIf_tt, ↓gIf_ff, ↓gIf_tf, ↓gIf_ft, ↓gIf_u, ↓gIfW_u, ↓gIfW_tt, ↓gIfW_ff, ↓gIfW_tf, ↓gIfW_ft, binI, divI, shiftI, add_mk, Nat.zero_add, cond_true, cond_false, decide_true, decide_false, Bool.not_true, Bool.not_false, Bool.and_true, Bool.true_and, Bool.and_false, Bool.false_and, Int.toNat_natCast, Nat.mul_one, ci]
    have : i = 64 := by omega
    subst this
    have e : wst xs 64 = wordsL xs 64 := by simp [wst]
    rw [e] at c2
    have hlw := wordsL_len xs 64
    rw [c2.ld (by rw [us_len]; exact hlw)]
    refine c2.uSetN rfl hlw fun w3 c3 f3 => ?_
    rw [c3.ld (by rw [us_len]; exact hlw)]
    exact h _ (h2.tn f3 (fun x hx => by omega))
end Go.Proofs.YtkpgmaiklfjjgaaGreatDoor
end
section
set_option linter.unusedSimpArgs false
set_option linter.unusedVariables false
namespace Go.Proofs.YtkpgmaiklfjjgaaGreatDoor
open Go Go.G
variable {X : KX} {w : World} {K : KV} {D D' : Nat → Prop}
set_option maxHeartbeats 2000000 in
theorem ref_Words_c {x : Value} {xs : List UInt8} (hx : Rd (.slice .byte) D w [x] xs) (h64 : xs.length = 64) (h : ∀ w', Ext w w' → K (.agg ⟨us (wordsL xs 64)⟩) w') : GCalls Tryz.prog 95 [x] K X w := by
  obtain ⟨a, c, rfl, hc, hl⟩ := hx.form
  apply oublietteref07_Words.calls; unfold oublietteref07_Words.b
  refine boxC (cs := zero64) fun g0 w0 hg0 h0 c0 => ?_
  refine boxC (cs := zero64) fun g w1 hg h01 c1 => ?_
  have h1 := h0.tr h01
  have c0 := c0.ext h01
  have hne : g0 ≠ g := by have := h01.size; have := h0.size; have := c0.lt; intro e; subst e; have := (Cs.lt (w := w0) (g := g0) (l := zero64) (by assumption)); omega
  simp only [↓eBinI, ↓eDiv, ↓eShift, ↓eBinS, ↓ePick, ↓eNot, ↓eNeg, ↓eConv, ↓eConvS, ↓eExt0, ↓eExt1, ↓eExt2, ↓eFA, ↓eIA, ↓eLenSl, ↓eCapSl, ↓eLenS, ↓eMin, ↓eMax, ↓eCondT, ↓eCondF, ↓gIf_tt, ↓gIf_ff, ↓gIf_tf, ↓gIf_ft, ↓gIf_u, ↓gIfW_u, ↓gIfW_tt, ↓gIfW_ff, ↓gIfW_tf, ↓gIfW_ft, binI, divI, shiftI, add_mk, Nat.zero_add, cond_true, cond_false, decide_true, decide_false, Bool.not_true, Bool.not_false, Bool.and_true, Bool.true_and, Bool.and_false, Bool.false_and, Int.toNat_natCast, Nat.mul_one, h64, show (((64 : Nat) : Int) != 64) = false from by decide]
  refine oublietteref07_Words.loop1 (fun x4 w' => ∃ i : Nat, i ≤ 16 ∧ x4 = .int .i64 i ∧ Ext w w' ∧ Cs w' g0 zero64 ∧ Cs w' g (us (wst xs i))) (fun x4 _ => 64 - (iv x4).toNat) ⟨0, by omega, rfl, h1, c0, c1⟩ ?_
  rintro x4 gg w2 ⟨i, hi, rfl, h2, c0, c2⟩
  unfold oublietteref07_Words.b1
  have hw := wst_len (b := xs) (i := i) (by omega)
  by_cases cj : (i : Int) < 16
  · have e1 : IntKind.i64.wrap (4 * (i : Int)) = ((4 * i : Nat) : Int) := by rw [wrap64 (by omega) (by omega)]; omega
    have e2 : IntKind.i64.wrap ((i : Int) + 1) = ((i + 1 : Nat) : Int) := by rw [wrap64 (by omega) (by omega)]; omega
    have e3 : IntKind.i64.wrap (((4 * i : Nat) : Int) + 4) = ((4 * i + 4 : Nat) : Int) := by rw [wrap64 (by omega) (by omega)]; omega
    simp only [↓eBinI, ↓eDiv, ↓eShift, ↓eBinS, ↓ePick, ↓eNot, ↓eNeg, ↓eConv, ↓eConvS, ↓eExt0, ↓eExt1, ↓eExt2, ↓eFA, ↓eIA, ↓eLenSl, ↓eCapSl, ↓eLenS, ↓eMin, ↓eMax, ↓eCondT, ↓eCondF, ↓gIf_tt, ↓gIf_ff, ↓gIf_tf, ↓gIf_ft, ↓gIf_u, ↓gIfW_u, ↓gIfW_tt, ↓gIfW_ff, ↓gIfW_tf, ↓gIfW_ft, binI, divI, shiftI, add_mk, Nat.zero_add, cond_true, cond_false, decide_true, decide_false, Bool.not_true, Bool.not_false, Bool.and_true, Bool.true_and, Bool.and_false, Bool.false_and, Int.toNat_natCast, Nat.mul_one, cj, e1, e2, e3]
    refine eSl (l := 4 * i) (h := 4 * i + 4) (m := c) (bnd_int (by omega)) (bnd_int (by omega)) bnd_none (by omega) (by omega) (by omega) (by simp) ?_
    have hb := bytes4 (t := i) (hx.ext h2) h64 hc (by omega)
    refine ref_Get_c hb (by rw [List.length_drop, List.length_take]; omega) fun w3 h3 => ?_
    have e4 : Value.int .u32 (IntKind.u32.wrap ((getF ((xs.take (4 * i + 4)).drop (4 * i)) : Nat) : Int)) = u (wordF xs i) := by rw [wrap32]; rfl
    simp only [↓eBinI, ↓eDiv, ↓eShift, ↓eBinS, ↓ePick, ↓eNot, ↓eNeg, ↓eConv, ↓eConvS, ↓eExt0, ↓eExt1, ↓eExt2, ↓eFA, ↓eIA, ↓eLenSl, ↓eCapSl, ↓eLenS, ↓eMin, ↓eMax, ↓eCondT, ↓eCondF, ↓gIf_tt, ↓gIf_ff, ↓gIf_tf, ↓gIf_ft, ↓gIf_u, ↓gIfW_u, ↓gIfW_tt, ↓gIfW_ff, ↓gIfW_tf, ↓gIfW_ft, binI, divI, shiftI, add_mk, Nat.zero_add, cond_true, cond_false, decide_true, decide_false, Bool.not_true, Bool.not_false, Bool.and_true, Bool.true_and, Bool.and_false, Bool.false_and, Int.toNat_natCast, Nat.mul_one, e4, e2, ↓eIAr]
    repeat ((with_reducible refine And.intro ?_ ?_); · first | omega | exact True.intro)
    refine (c2.ext h3).uSet (by omega) fun w4 c4 f4 => ?_
    refine oublietteref07_Words.leaf1 ⟨i + 1, by omega, rfl, (h2.tr h3).tn f4 (fun x hx => by have := h0.size; omega), (c0.ext h3).fr f4 hne, ?_⟩ (by simp only [iv]; omega)
    have := wst_set (b := xs) (i := i) (by omega)
    rw [nextW_lt (by omega)] at this
    rw [this] at c4; exact c4
  · simp only [↓eBinI, ↓eDiv, ↓eShift, ↓eBinS, ↓ePick, ↓eNot, ↓eNeg, ↓eConv, ↓eConvS, ↓eExt0, ↓eExt1, ↓eExt2, ↓eFA, ↓eIA, ↓eLenSl, ↓eCapSl, ↓eLenS, ↓eMin, ↓eMax, ↓eCondT, ↓eCondF, ↓gIf_tt, ↓gIf_ff, ↓gIf_tf, ↓gIf_ft, ↓gIf_u, ↓gIfW_u, ↓gIfW_tt, ↓gIfW_ff, ↓gIfW_tf, ↓gIfW_ft, binI, divI, shiftI, add_mk, Nat.zero_add, cond_true, cond_false, decide_true, decide_false, Bool.not_true, Bool.not_false, Bool.and_true, Bool.true_and, Bool.and_false, Bool.false_and, Int.toNat_natCast, Nat.mul_one, cj]
    have : i = 16 := by omega
    subst this
    refine oublietteref07_Words.loop2 (fun x7 w' => ∃ i : Nat, 16 ≤ i ∧ i ≤ 64 ∧ x7 = .int .i64 i ∧ Ext w w' ∧ Cs w' g0 zero64 ∧ Cs w' g (us (wst xs i))) (fun x7 _ => 64 - (iv x7).toNat) ⟨16, by omega, by omega, rfl, h2, c0, c2⟩ ?_
    rintro x7 gg2 w2 ⟨i, hi16, hi, rfl, h2, c0, c2⟩
    unfold oublietteref07_Words.b2
    have hw := wst_len (b := xs) hi
    by_cases ci : (i : Int) < 64
    · have hi64 : i < 64 := by omega
      have e0 : IntKind.i64.wrap ((i : Int) + 1) = ((i + 1 : Nat) : Int) := by rw [wrap64 (by omega) (by omega)]; omega
      have e2 : IntKind.i64.wrap ((i : Int) - 2) = ((i - 2 : Nat) : Int) := by rw [wrap64 (by omega) (by omega)]; omega
      have e7 : IntKind.i64.wrap ((i : Int) - 7) = ((i - 7 : Nat) : Int) := by rw [wrap64 (by omega) (by omega)]; omega
      have e15 : IntKind.i64.wrap ((i : Int) - 15) = ((i - 15 : Nat) : Int) := by rw [wrap64 (by omega) (by omega)]; omega
      have e16 : IntKind.i64.wrap ((i : Int) - 16) = ((i - 16 : Nat) : Int) := by rw [wrap64 (by omega) (by omega)]; omega
      have s10 : (Value.int IntKind.u64 10) = .int .u64 ((10 : Nat) : Int) := rfl
      have s3 : (Value.int IntKind.u64 3) = .int .u64 ((3 : Nat) : Int) := rfl
      simp only [↓eBinI, ↓eDiv, ↓eShift, ↓eBinS, ↓ePick, ↓eNot, ↓eNeg, ↓eConv, ↓eConvS, ↓eExt0, ↓eExt1, ↓eExt2, ↓eFA, ↓eIA, ↓eLenSl, ↓eCapSl, ↓eLenS, ↓eMin, ↓eMax, ↓eCondT, ↓eCondF, ↓gIf_tt, ↓gIf_ff, ↓gIf_tf, ↓gIf_ft, ↓gIf_u, ↓gIfW_u, ↓gIfW_tt, ↓gIfW_ff, ↓gIfW_tf, ↓gIfW_ft, binI, divI, shiftI, add_mk, Nat.zero_add, cond_true, cond_false, decide_true, decide_false, Bool.not_true, Bool.not_false, Bool.and_true, Bool.true_and, Bool.and_false, Bool.false_and, Int.toNat_natCast, Nat.mul_one, ci]
      refine draw_ fun w3 h3 => ?_
      have c3 := c2.ext h3
      simp only [↓eBinI, ↓eDiv, ↓eShift, ↓eBinS, ↓ePick, ↓eNot, ↓eNeg, ↓eConv, ↓eConvS, ↓eExt0, ↓eExt1, ↓eExt2, ↓eFA, ↓eIA, ↓eLenSl, ↓eCapSl, ↓eLenS, ↓eMin, ↓eMax, ↓eCondT, ↓eCondF, ↓gIf_tt, ↓gIf_ff, ↓gIf_tf, ↓gIf_ft, ↓gIf_u, ↓gIfW_u, ↓gIfW_tt, ↓gIfW_ff, ↓gIfW_tf, ↓gIfW_ft, binI, divI, shiftI, add_mk, Nat.zero_add, cond_true, cond_false, decide_true, decide_false, Bool.not_true, Bool.not_false, Bool.and_true, Bool.true_and, Bool.and_false, Bool.false_and, Int.toNat_natCast, Nat.mul_one, e2, e15, ↓eIAr, ↓c3.uE (show i - 2 < _ by omega), ↓c3.uE (show i - 15 < _ by omega)]
      repeat ((with_reducible refine And.intro ?_ ?_); · first | omega | exact True.intro)
      refine draw_ fun w4 h4 => ?_
      have c4 := c3.ext h4
      rw [s10, s3]
      simp only [↓eBinI, ↓eDiv, ↓eShift, ↓eBinS, ↓ePick, ↓eNot, ↓eNeg, ↓eConv, ↓eConvS, ↓eExt0, ↓eExt1, ↓eExt2, ↓eFA, ↓eIA, ↓eLenSl, ↓eCapSl, ↓eLenS, ↓eMin, ↓eMax, ↓eCondT, ↓eCondF, ↓gIf_tt, ↓gIf_ff, ↓gIf_tf, ↓gIf_ft, ↓gIf_u, ↓gIfW_u, ↓gIfW_tt, ↓gIfW_ff, ↓gIfW_tf, ↓gIfW_ft, binI, divI, shiftI, add_mk, Nat.zero_add, cond_true, cond_false, decide_true, decide_false, Bool.not_true, Bool.not_false, Bool.and_true, Bool.true_and, Bool.and_false, Bool.false_and, Int.toNat_natCast, Nat.mul_one, e7, e16, ↓eIAr, ↓eUshr (show 10 < 32 by omega), ↓eUshr (show 3 < 32 by omega), ↓c4.uE (show i - 7 < _ by omega), ↓c4.uE (show i - 16 < _ by omega)]
      repeat ((with_reducible refine And.intro ?_ ?_); · first | omega | exact True.intro)
      refine ref_right_c (n := 17) (by omega) (by omega) fun w5 h5 => ?_
      refine ⟨h5, ?_⟩
      refine ref_right_c (n := 19) (by omega) (by omega) fun w6 h6 => ?_
      refine ⟨h5.tr h6, ?_⟩
      simp only [↓eUxor, ↓eUadd]
      refine ref_right_c (n := 7) (by omega) (by omega) fun w7 h7 => ?_
      refine ⟨(h5.tr h6).tr h7, ?_⟩
      refine ref_right_c (n := 18) (by omega) (by omega) fun w8 h8 => ?_
      have h48 := ((h5.tr h6).tr h7).tr h8
      refine ⟨h48, ?_⟩
      simp only [↓eBinI, ↓eDiv, ↓eShift, ↓eBinS, ↓ePick, ↓eNot, ↓eNeg, ↓eConv, ↓eConvS, ↓eExt0, ↓eExt1, ↓eExt2, ↓eFA, ↓eIA, ↓eLenSl, ↓eCapSl, ↓eLenS, ↓eMin, ↓eMax, ↓eCondT, ↓eCondF, ↓gIf_tt, ↓gIf_ff, ↓gIf_tf, ↓gIf_ft, ↓gIf_u, ↓gIfW_u, ↓gIfW_tt, ↓gIfW_ff, ↓gIfW_tf, ↓gIfW_ft, binI, divI, shiftI, add_mk, Nat.zero_add, cond_true, cond_false, decide_true, decide_false, Bool.not_true, Bool.not_false, Bool.and_true, Bool.true_and, Bool.and_false, Bool.false_and, Int.toNat_natCast, Nat.mul_one, e0, ↓eUxor, ↓eUadd, ↓eIAr]
      repeat ((with_reducible refine And.intro ?_ ?_); · first | omega | exact True.intro)
      refine (c4.ext h48).uSet (by omega) fun w9 c9 f9 => ?_
      refine anew_ ?_
      refine oublietteref07_Words.leaf2 ⟨i + 1, by omega, by omega, rfl, (((h2.tr h3).tr h4).tr h48).tn f9 (fun x hx => by have := h0.size; omega), (((c0.ext h3).ext h4).ext h48).fr f9 hne, ?_⟩ (by simp only [iv]; omega)
      have := wst_set (b := xs) hi64
      rw [nextW_ge (by omega), ← wst_get hi (show i - 2 < i by omega) (by omega), ← wst_get hi (show i - 7 < i by omega) (by omega), ← wst_get hi (show i - 15 < i by omega) (by omega), ← wst_get hi (show i - 16 < i by omega) (by omega)] at this
      unfold sg1 sg0 at this
      rw [this] at c9; exact c9
    · simp only [↓eBinI, ↓eDiv, ↓eShift, ↓eBinS, ↓ePick, ↓eNot, ↓eNeg, ↓eConv, ↓eConvS, ↓eExt0, ↓eExt1, ↓eExt2, ↓eFA, ↓eIA, ↓eLenSl, ↓eCapSl, ↓eLenS, ↓eMin, ↓eMax, ↓eCondT, ↓eCondF, ↓gIf_tt, ↓gIf_ff, ↓gIf_tf, ↓gIf_ft, ↓gIf_u, ↓gIfW_u, ↓gIfW_tt, ↓gIfW_ff, ↓gIfW_tf, ↓gIfW_ft, binI, divI, shiftI, add_mk, Nat.zero_add, cond_true, cond_false, decide_true, decide_false, Bool.not_true, Bool.not_false, Bool.and_true, Bool.true_and, Bool.and_false, Bool.false_and, Int.toNat_natCast, Nat.mul_one, ci]
      have : i = 64 := by omega
      subst this
      have e : wst xs 64 = wordsL xs 64 := by simp [wst]
      rw [e] at c2
      have hlw := wordsL_len xs 64
      rw [c2.ld (by rw [us_len]; exact hlw)]
      refine Cs.uSetN (l := List.replicate 64 0) c0 hlw (by simp) fun w3 c3 f3 => ?_
      rw [c3.ld (by rw [us_len]; exact hlw)]
      exact h _ (h2.tn f3 (fun x hx => by omega))
end Go.Proofs.YtkpgmaiklfjjgaaGreatDoor
end
