/-
  Words that are turned; the 64 words of a block.
  The 64 words of a block, of the reference.
-/
import Derived.Test.YtkpgmaiklfjjgaaDoorMoam
section
set_option linter.unusedSimpArgs false
set_option linter.unusedVariables false
namespace Go.Proofs.YtkpgmaiklfjjgaaDoor
open Go Go.G
variable {X : KX} {w : World} {K : KV} {D D' : Nat → Prop}
def ror (x : W32) (n : Nat) : W32 := x >>> n ||| x <<< (32 - n)
theorem turn_n : ∀ n : Fin 32, n.val ≠ 0 → IntKind.u64.wrap (((BitVec.ofInt IntKind.u64.bits (IntKind.u64.wrap (IntKind.i64.wrap (0 - (n.val : Int)))) &&& BitVec.ofInt IntKind.u64.bits 31).toNat : Nat) : Int) = ((32 - n.val : Nat) : Int) := by decide
theorem rot_c {x : W32} {n : Nat} (h0 : 0 < n) (hn : n < 32) (h : K (u (ror x n)) w) : GCalls Tryd.prog 149 [u x, .int .i64 (IntKind.i64.wrap (0 - (n : Int)))] K X w := by
  apply bits_RotateLeft32.calls; unfold bits_RotateLeft32.b
  have e1 := turn_n ⟨n, hn⟩ (by show n ≠ 0; omega)
  have e2 : IntKind.u64.wrap (32 - ((32 - n : Nat) : Int)) = (n : Int) := by rw [wrapU64 (by omega) (by omega)]; omega
  simp only [↓eBinI, ↓eDiv, ↓eShift, ↓eBinS, ↓ePick, ↓eNot, ↓eNeg, ↓eConv, ↓eConvS, ↓eExt0, ↓eExt1, ↓eExt2, ↓eFA, ↓eIA, ↓eLenSl, ↓eCapSl, ↓eLenS, ↓eMin, ↓eMax, ↓eCondT, ↓eCondF, ↓gIf_tt, ↓gIf_ff, ↓gIf_tf, ↓gIf_ft, ↓gIf_u, ↓gIfW_u, ↓gIfW_tt, ↓gIfW_ff, ↓gIfW_tf, ↓gIfW_ft, binI, divI, shiftI, add_mk, Nat.zero_add, cond_true, cond_false, decide_true, decide_false, Bool.not_true, Bool.not_false, Bool.and_true, Bool.true_and, Bool.and_false, Bool.false_and, Int.toNat_natCast, Nat.mul_one, e1, e2, ↓eUshl (show 32 - n < 32 by omega), ↓eUshr hn, ↓eUor]
  rw [ror, BitVec.or_comm] at h
  exact h
theorem right_c {x : W32} {n : Nat} (h0 : 0 < n) (hn : n < 32) (h : K (u (ror x n)) w) : GCalls Tryd.prog 144 [u x, .int .i64 n] K X w := by
  apply sha_right.calls; unfold sha_right.b
  simp only [↓eBinI, ↓eDiv, ↓eShift, ↓eBinS, ↓ePick, ↓eNot, ↓eNeg, ↓eConv, ↓eConvS, ↓eExt0, ↓eExt1, ↓eExt2, ↓eFA, ↓eIA, ↓eLenSl, ↓eCapSl, ↓eLenS, ↓eMin, ↓eMax, ↓eCondT, ↓eCondF, ↓gIf_tt, ↓gIf_ff, ↓gIf_tf, ↓gIf_ft, ↓gIf_u, ↓gIfW_u, ↓gIfW_tt, ↓gIfW_ff, ↓gIfW_tf, ↓gIfW_ft, binI, divI, shiftI, add_mk, Nat.zero_add, cond_true, cond_false, decide_true, decide_false, Bool.not_true, Bool.not_false, Bool.and_true, Bool.true_and, Bool.and_false, Bool.false_and, Int.toNat_natCast, Nat.mul_one]
  exact rot_c h0 hn h
theorem ref_right_c {x : W32} {n : Nat} (h0 : 0 < n) (hn : n < 32) (h : ∀ w', Ext w w' → K (u (ror x n)) w') : GCalls Tryd.prog 117 [u x, .int .i64 n] K X w := by
  apply oublietteref07_right.calls; unfold oublietteref07_right.b
  refine draw_ fun w1 h1 => ?_
  have e2 : IntKind.i64.wrap (32 - (n : Int)) = ((32 - n : Nat) : Int) := by rw [wrap64 (by omega) (by omega)]; omega
  simp only [↓eBinI, ↓eDiv, ↓eShift, ↓eBinS, ↓ePick, ↓eNot, ↓eNeg, ↓eConv, ↓eConvS, ↓eExt0, ↓eExt1, ↓eExt2, ↓eFA, ↓eIA, ↓eLenSl, ↓eCapSl, ↓eLenS, ↓eMin, ↓eMax, ↓eCondT, ↓eCondF, ↓gIf_tt, ↓gIf_ff, ↓gIf_tf, ↓gIf_ft, ↓gIf_u, ↓gIfW_u, ↓gIfW_tt, ↓gIfW_ff, ↓gIfW_tf, ↓gIfW_ft, binI, divI, shiftI, add_mk, Nat.zero_add, cond_true, cond_false, decide_true, decide_false, Bool.not_true, Bool.not_false, Bool.and_true, Bool.true_and, Bool.and_false, Bool.false_and, Int.toNat_natCast, Nat.mul_one, e2, ↓eUshl (show 32 - n < 32 by omega), ↓eUshr hn, ↓eUor]
  exact h _ h1
def sg0 (x : W32) : W32 := ror x 7 ^^^ ror x 18 ^^^ x >>> 3
def sg1 (x : W32) : W32 := ror x 17 ^^^ ror x 19 ^^^ x >>> 10
theorem low_c {x : W32} (h : K (u (sg0 x)) w) : GCalls Tryd.prog 147 [u x] K X w := by
  apply sha_Words_c1.calls; unfold sha_Words_c1.b
  refine right_c (n := 7) (by omega) (by omega) ?_
  refine right_c (n := 18) (by omega) (by omega) ?_
  simp only [↓eUxor, ↓eUshr (n := 3) (k := .u64) (show 3 < 32 by omega)]
  rw [show (Value.int IntKind.u64 3) = .int .u64 ((3 : Nat) : Int) from rfl]
  simp only [↓eUxor, ↓eUshr (n := 3) (k := .u64) (show 3 < 32 by omega)]
  exact h
theorem high_c {x : W32} (h : K (u (sg1 x)) w) : GCalls Tryd.prog 148 [u x] K X w := by
  apply sha_Words_c2.calls; unfold sha_Words_c2.b
  refine right_c (n := 17) (by omega) (by omega) ?_
  refine right_c (n := 19) (by omega) (by omega) ?_
  rw [show (Value.int IntKind.u64 10) = .int .u64 ((10 : Nat) : Int) from rfl]
  simp only [↓eUxor, ↓eUshr (n := 10) (k := .u64) (show 10 < 32 by omega)]
  exact h
def wordF (b : List UInt8) (t : Nat) : W32 := BitVec.ofInt 32 (getF ((b.take (4 * t + 4)).drop (4 * t)) : Int)
def nextW (b : List UInt8) (ws : List W32) : W32 :=
  if ws.length < 16 then wordF b ws.length else sg1 (ws.getD (ws.length - 2) 0) + ws.getD (ws.length - 7) 0 + sg0 (ws.getD (ws.length - 15) 0) + ws.getD (ws.length - 16) 0
def wordsL (b : List UInt8) : Nat → List W32
  | 0 => []
  | n + 1 => wordsL b n ++ [nextW b (wordsL b n)]
theorem wordsL_len (b : List UInt8) : ∀ n, (wordsL b n).length = n
  | 0 => rfl
  | n + 1 => by rw [wordsL, List.length_append, wordsL_len b n]; rfl
def wst (b : List UInt8) (i : Nat) : List W32 := wordsL b i ++ List.replicate (64 - i) 0
theorem wst_len {b : List UInt8} {i : Nat} (h : i ≤ 64) : (wst b i).length = 64 := by simp [wst, wordsL_len]; omega
theorem wst_get {b : List UInt8} {i j : Nat} (h : i ≤ 64) (hj : j < i) (hl : j < (wst b i).length) : (wst b i)[j] = (wordsL b i).getD j 0 := by
  have e : j < (wordsL b i).length := by rw [wordsL_len]; exact hj
  rw [List.getD_eq_getElem?_getD, List.getElem?_eq_getElem e]
  simp only [wst]
  rw [List.getElem_append_left e]; rfl
theorem wst_set {b : List UInt8} {i : Nat} (h : i < 64) : (wst b i).set i (nextW b (wordsL b i)) = wst b (i + 1) := by
  have e6 : List.replicate (64 - i) (0 : W32) = 0 :: List.replicate (64 - (i + 1)) 0 := by
    rw [show 64 - i = (64 - (i + 1)) + 1 by omega, List.replicate_succ]
  rw [wst, e6, List.set_append_right _ _ (by rw [wordsL_len]; exact Nat.le_refl _), wordsL_len, Nat.sub_self, List.set_cons_zero, wst, wordsL, List.append_assoc]; rfl
theorem nextW_lt {b : List UInt8} {i : Nat} (h : i < 16) : nextW b (wordsL b i) = wordF b i := by rw [nextW, wordsL_len, if_pos h]
theorem nextW_ge {b : List UInt8} {i : Nat} (h : ¬ i < 16) : nextW b (wordsL b i) = sg1 ((wordsL b i).getD (i - 2) 0) + (wordsL b i).getD (i - 7) 0 + sg0 ((wordsL b i).getD (i - 15) 0) + (wordsL b i).getD (i - 16) 0 := by rw [nextW, wordsL_len, if_neg h]
def zero64 : List Value := us (List.replicate 64 0)
theorem bytes4 {a : Option Addr} {n c : Nat} {xs : List UInt8} {t : Nat} (hx : Rd (.slice .byte) D w [.slice a n c] xs) (hn : n = 64) (hc : n ≤ c) (ht : t < 16) :
    Rd (.slice .byte) D w [.slice (if c = 4 * t then a else a.map (·.add (4 * t * 1))) (4 * t + 4 - 4 * t) (c - 4 * t)] ((xs.take (4 * t + 4)).drop (4 * t)) :=
  hx.cut (l := 4 * t) (e := 4 * t + 4) (m := c) (by omega) (by omega) (by omega) (Nat.le_refl _)
theorem Words_c {x : Value} {xs : List UInt8} (hx : Rd (.slice .byte) D w [x] xs) (h64 : xs.length = 64) (h : ∀ w', Ext w w' → K (.agg ⟨us (wordsL xs 64)⟩) w') : GCalls Tryd.prog 143 [x] K X w := by
  obtain ⟨a, c, rfl, hc, hl⟩ := hx.form
  apply sha_Words.calls; unfold sha_Words.b
  refine boxC (cs := zero64) fun g w1 hg h1 c1 => ?_
  simp only [↓eBinI, ↓eDiv, ↓eShift, ↓eBinS, ↓ePick, ↓eNot, ↓eNeg, ↓eConv, ↓eConvS, ↓eExt0, ↓eExt1, ↓eExt2, ↓eFA, ↓eIA, ↓eLenSl, ↓eCapSl, ↓eLenS, ↓eMin, ↓eMax, ↓eCondT, ↓eCondF, ↓gIf_tt, ↓gIf_ff, ↓gIf_tf, ↓gIf_ft, ↓gIf_u, ↓gIfW_u, ↓gIfW_tt, ↓gIfW_ff, ↓gIfW_tf, ↓gIfW_ft, binI, divI, shiftI, add_mk, Nat.zero_add, cond_true, cond_false, decide_true, decide_false, Bool.not_true, Bool.not_false, Bool.and_true, Bool.true_and, Bool.and_false, Bool.false_and, Int.toNat_natCast, Nat.mul_one, h64, show (((64 : Nat) : Int) != 64) = false from by decide]
  refine sha_Words.loop1 (fun x12 w' => ∃ i : Nat, i ≤ 64 ∧ x12 = .int .i64 i ∧ Ext w w' ∧ Cs w' g (us (wst xs i))) (fun x12 _ => 64 - (iv x12).toNat) ⟨0, by omega, rfl, h1, c1⟩ ?_
  rintro x12 gg w2 ⟨i, hi, rfl, h2, c2⟩
  unfold sha_Words.b1
  have hw := wst_len (b := xs) hi
  by_cases ci : (i : Int) < 64
  · have hi64 : i < 64 := by omega
    by_cases cj : (i : Int) < 16
    · have e1 : IntKind.i64.wrap (4 * (i : Int)) = ((4 * i : Nat) : Int) := by rw [wrap64 (by omega) (by omega)]; omega
      have e2 : IntKind.i64.wrap ((i : Int) + 1) = ((i + 1 : Nat) : Int) := by rw [wrap64 (by omega) (by omega)]; omega
      have e3 : IntKind.i64.wrap (4 * ((i + 1 : Nat) : Int)) = ((4 * i + 4 : Nat) : Int) := by rw [wrap64 (by omega) (by omega)]; omega
      simp only [↓eBinI, ↓eDiv, ↓eShift, ↓eBinS, ↓ePick, ↓eNot, ↓eNeg, ↓eConv, ↓eConvS, ↓eExt0, ↓eExt1, ↓eExt2, ↓eFA, ↓eIA, ↓eLenSl, ↓eCapSl, ↓eLenS, ↓eMin, ↓eMax, ↓eCondT, ↓eCondF, ↓gIf_tt, ↓gIf_ff, ↓gIf_tf, ↓gIf_ft, ↓gIf_u, ↓gIfW_u, ↓gIfW_tt, ↓gIfW_ff, ↓gIfW_tf, ↓gIfW_ft, binI, divI, shiftI, add_mk, Nat.zero_add, cond_true, cond_false, decide_true, decide_false, Bool.not_true, Bool.not_false, Bool.and_true, Bool.true_and, Bool.and_false, Bool.false_and, Int.toNat_natCast, Nat.mul_one, ci, cj, e1, e2, e3]
      refine eSl (l := 4 * i) (h := 4 * i + 4) (m := c) (bnd_int (by omega)) (bnd_int (by omega)) bnd_none (by omega) (by omega) (by omega) (by simp) ?_
      have hb := bytes4 (t := i) (hx.ext h2) h64 hc (by omega)
      refine num_Get_c hb (by rw [List.length_drop, List.length_take]; omega) fun w3 h3 => ?_
      simp only [↓eBinI, ↓eDiv, ↓eShift, ↓eBinS, ↓ePick, ↓eNot, ↓eNeg, ↓eConv, ↓eConvS, ↓eExt0, ↓eExt1, ↓eExt2, ↓eFA, ↓eIA, ↓eLenSl, ↓eCapSl, ↓eLenS, ↓eMin, ↓eMax, ↓eCondT, ↓eCondF, ↓gIf_tt, ↓gIf_ff, ↓gIf_tf, ↓gIf_ft, ↓gIf_u, ↓gIfW_u, ↓gIfW_tt, ↓gIfW_ff, ↓gIfW_tf, ↓gIfW_ft, binI, divI, shiftI, add_mk, Nat.zero_add, cond_true, cond_false, decide_true, decide_false, Bool.not_true, Bool.not_false, Bool.and_true, Bool.true_and, Bool.and_false, Bool.false_and, Int.toNat_natCast, Nat.mul_one, ↓eUconv, ↓eIAr]
      have e4 : Value.int .u32 (IntKind.u32.wrap ((getF ((xs.take (4 * i + 4)).drop (4 * i)) : Nat) : Int)) = u (wordF xs i) := by rw [wrap32]; rfl
      rw [e4]
      refine ⟨by omega, by omega, ?_⟩
      refine (c2.ext h3).uSet (by omega) fun w4 c4 f4 => ?_
      unfold sha_Words.j1
      simp only [↓eBinI, ↓eDiv, ↓eShift, ↓eBinS, ↓ePick, ↓eNot, ↓eNeg, ↓eConv, ↓eConvS, ↓eExt0, ↓eExt1, ↓eExt2, ↓eFA, ↓eIA, ↓eLenSl, ↓eCapSl, ↓eLenS, ↓eMin, ↓eMax, ↓eCondT, ↓eCondF, ↓gIf_tt, ↓gIf_ff, ↓gIf_tf, ↓gIf_ft, ↓gIf_u, ↓gIfW_u, ↓gIfW_tt, ↓gIfW_ff, ↓gIfW_tf, ↓gIfW_ft, binI, divI, shiftI, add_mk, Nat.zero_add, cond_true, cond_false, decide_true, decide_false, Bool.not_true, Bool.not_false, Bool.and_true, Bool.true_and, Bool.and_false, Bool.false_and, Int.toNat_natCast, Nat.mul_one, e2]
      refine sha_Words.leaf1 ⟨i + 1, by omega, rfl, (h2.tr h3).tn f4 (fun x hx => by omega), ?_⟩ (by simp only [iv]; omega)
      have := wst_set (b := xs) hi64
      rw [nextW_lt (by omega)] at this
      rw [this] at c4; exact c4
    · have e0 : IntKind.i64.wrap ((i : Int) + 1) = ((i + 1 : Nat) : Int) := by rw [wrap64 (by omega) (by omega)]; omega
      have e2 : IntKind.i64.wrap ((i : Int) - 2) = ((i - 2 : Nat) : Int) := by rw [wrap64 (by omega) (by omega)]; omega
      have e7 : IntKind.i64.wrap ((i : Int) - 7) = ((i - 7 : Nat) : Int) := by rw [wrap64 (by omega) (by omega)]; omega
      have e15 : IntKind.i64.wrap ((i : Int) - 15) = ((i - 15 : Nat) : Int) := by rw [wrap64 (by omega) (by omega)]; omega
      have e16 : IntKind.i64.wrap ((i : Int) - 16) = ((i - 16 : Nat) : Int) := by rw [wrap64 (by omega) (by omega)]; omega
      simp only [↓eBinI, ↓eDiv, ↓eShift, ↓eBinS, ↓ePick, ↓eNot, ↓eNeg, ↓eConv, ↓eConvS, ↓eExt0, ↓eExt1, ↓eExt2, ↓eFA, ↓eIA, ↓eLenSl, ↓eCapSl, ↓eLenS, ↓eMin, ↓eMax, ↓eCondT, ↓eCondF, ↓gIf_tt, ↓gIf_ff, ↓gIf_tf, ↓gIf_ft, ↓gIf_u, ↓gIfW_u, ↓gIfW_tt, ↓gIfW_ff, ↓gIfW_tf, ↓gIfW_ft, binI, divI, shiftI, add_mk, Nat.zero_add, cond_true, cond_false, decide_true, decide_false, Bool.not_true, Bool.not_false, Bool.and_true, Bool.true_and, Bool.and_false, Bool.false_and, Int.toNat_natCast, Nat.mul_one, ci, cj]
      refine draw_ fun w3 h3 => ?_
      have c3 := c2.ext h3
      simp only [↓eBinI, ↓eDiv, ↓eShift, ↓eBinS, ↓ePick, ↓eNot, ↓eNeg, ↓eConv, ↓eConvS, ↓eExt0, ↓eExt1, ↓eExt2, ↓eFA, ↓eIA, ↓eLenSl, ↓eCapSl, ↓eLenS, ↓eMin, ↓eMax, ↓eCondT, ↓eCondF, ↓gIf_tt, ↓gIf_ff, ↓gIf_tf, ↓gIf_ft, ↓gIf_u, ↓gIfW_u, ↓gIfW_tt, ↓gIfW_ff, ↓gIfW_tf, ↓gIfW_ft, binI, divI, shiftI, add_mk, Nat.zero_add, cond_true, cond_false, decide_true, decide_false, Bool.not_true, Bool.not_false, Bool.and_true, Bool.true_and, Bool.and_false, Bool.false_and, Int.toNat_natCast, Nat.mul_one, e2, e7, e15, e16, ↓eIAr, ↓c3.uE (show i - 2 < _ by omega), ↓c3.uE (show i - 7 < _ by omega), ↓c3.uE (show i - 15 < _ by omega), ↓c3.uE (show i - 16 < _ by omega)]
      refine ⟨by omega, by first | trivial | omega, by first | trivial | omega, by first | trivial | omega, by first | trivial | omega, by first | trivial | omega, by first | trivial | omega, by first | trivial | omega, ?_⟩
      refine (high_c ?_ : GCalls Tryd.prog 148 [u _] _ X w3)
      refine ⟨Fr.refl _ _, ?_⟩
      simp only [↓eUadd]
      refine (low_c ?_ : GCalls Tryd.prog 147 [u _] _ X w3)
      refine ⟨Fr.refl _ _, ?_⟩
      simp only [↓eBinI, ↓eDiv, ↓eShift, ↓eBinS, ↓ePick, ↓eNot, ↓eNeg, ↓eConv, ↓eConvS, ↓eExt0, ↓eExt1, ↓eExt2, ↓eFA, ↓eIA, ↓eLenSl, ↓eCapSl, ↓eLenS, ↓eMin, ↓eMax, ↓eCondT, ↓eCondF, ↓gIf_tt, ↓gIf_ff, ↓gIf_tf, ↓gIf_ft, ↓gIf_u, ↓gIfW_u, ↓gIfW_tt, ↓gIfW_ff, ↓gIfW_tf, ↓gIfW_ft, binI, divI, shiftI, add_mk, Nat.zero_add, cond_true, cond_false, decide_true, decide_false, Bool.not_true, Bool.not_false, Bool.and_true, Bool.true_and, Bool.and_false, Bool.false_and, Int.toNat_natCast, Nat.mul_one, ↓eUadd, ↓eIAr]
      refine ⟨by omega, by first | trivial | omega, ?_⟩
      refine c3.uSet (by omega) fun w4 c4 f4 => ?_
      refine anew_ ?_
      unfold sha_Words.j1
      simp only [↓eBinI, ↓eDiv, ↓eShift, ↓eBinS, ↓ePick, ↓eNot, ↓eNeg, ↓eConv, ↓eConvS, ↓eExt0, ↓eExt1, ↓eExt2, ↓eFA, ↓eIA, ↓eLenSl, ↓eCapSl, ↓eLenS, ↓eMin, ↓eMax, ↓eCondT, ↓eCondF, ↓gIf_tt, ↓gIf_ff, ↓gIf_tf, ↓gIf_ft, ↓gIf_u, ↓gIfW_u, ↓gIfW_tt, ↓gIfW_ff, ↓gIfW_tf, ↓gIfW_ft, binI, divI, shiftI, add_mk, Nat.zero_add, cond_true, cond_false, decide_true, decide_false, Bool.not_true, Bool.not_false, Bool.and_true, Bool.true_and, Bool.and_false, Bool.false_and, Int.toNat_natCast, Nat.mul_one, e0]
      refine sha_Words.leaf1 ⟨i + 1, by omega, rfl, (h2.tr h3).tn f4 (fun x hx => by omega), ?_⟩ (by simp only [iv]; omega)
      have := wst_set (b := xs) hi64
      rw [nextW_ge (by omega), ← wst_get hi (show i - 2 < i by omega) (by omega), ← wst_get hi (show i - 7 < i by omega) (by omega), ← wst_get hi (show i - 15 < i by omega) (by omega), ← wst_get hi (show i - 16 < i by omega) (by omega)] at this
      rw [this] at c4; exact c4
  · simp only [↓eBinI, ↓eDiv, ↓eShift, ↓eBinS, ↓ePick, ↓eNot, ↓eNeg, ↓eConv, ↓eConvS, ↓eExt0, ↓eExt1, ↓eExt2, ↓eFA, ↓eIA, ↓eLenSl, ↓eCapSl, ↓eLenS, ↓eMin, ↓eMax, ↓eCondT, ↓eCondF, ↓gIf_tt, ↓gIf_ff, ↓gIf_tf, ↓gIf_ft, ↓gIf_u, ↓gIfW_u, ↓gIfW_tt, ↓gIfW_ff, ↓gIfW_tf, ↓gIfW_ft, binI, divI, shiftI, add_mk, Nat.zero_add, cond_true, cond_false, decide_true, decide_false, Bool.not_true, Bool.not_false, Bool.and_true, Bool.true_and, Bool.and_false, Bool.false_and, Int.toNat_natCast, Nat.mul_one, ci]
    have : i = 64 := by omega
    subst this
    have e : wst xs 64 = wordsL xs 64 := by simp [wst]
    rw [e] at c2
    have hlw := wordsL_len xs 64
    rw [c2.ld (by rw [us_len]; exact hlw)]
    refine c2.uSetN rfl hlw fun w3 c3 f3 => ?_
    rw [c3.ld (by rw [us_len]; exact hlw)]
    exact h _ (h2.tn f3 (fun x hx => by omega))
end Go.Proofs.YtkpgmaiklfjjgaaDoor
end
section
set_option linter.unusedSimpArgs false
set_option linter.unusedVariables false
namespace Go.Proofs.YtkpgmaiklfjjgaaDoor
open Go Go.G
variable {X : KX} {w : World} {K : KV} {D D' : Nat → Prop}
set_option maxHeartbeats 2000000 in
theorem ref_Words_c {x : Value} {xs : List UInt8} (hx : Rd (.slice .byte) D w [x] xs) (h64 : xs.length = 64) (h : ∀ w', Ext w w' → K (.agg ⟨us (wordsL xs 64)⟩) w') : GCalls Tryd.prog 116 [x] K X w := by
  obtain ⟨a, c, rfl, hc, hl⟩ := hx.form
  apply oublietteref07_Words.calls; unfold oublietteref07_Words.b
  refine boxC (cs := zero64) fun g0 w0 hg0 h0 c0 => ?_
  refine boxC (cs := zero64) fun g w1 hg h01 c1 => ?_
  have h1 := h0.tr h01
  have c0 := c0.ext h01
  have hne : g0 ≠ g := by have := h01.size; have := h0.size; have := c0.lt; intro e; subst e; have := (Cs.lt (w := w0) (g := g0) (l := zero64) (by assumption)); omega
  simp only [↓eBinI, ↓eDiv, ↓eShift, ↓eBinS, ↓ePick, ↓eNot, ↓eNeg, ↓eConv, ↓eConvS, ↓eExt0, ↓eExt1, ↓eExt2, ↓eFA, ↓eIA, ↓eLenSl, ↓eCapSl, ↓eLenS, ↓eMin, ↓eMax, ↓eCondT, ↓eCondF, ↓gIf_tt, ↓gIf_ff, ↓gIf_tf, ↓gIf_ft, ↓gIf_u, ↓gIfW_u, ↓gIfW_tt, ↓gIfW_ff, ↓gIfW_tf, ↓gIfW_ft, binI, divI, shiftI, add_mk, Nat.zero_add, cond_true, cond_false, decide_true, decide_false, Bool.not_true, Bool.not_false, Bool.and_true, Bool.true_and, Bool.and_false, Bool.false_and, Int.toNat_natCast, Nat.mul_one, h64, show (((64 : Nat) : Int) != 64) = false from by decide]
  refine oublietteref07_Words.loop1 (fun x4 w' => ∃ i : Nat, i ≤ 16 ∧ x4 = .int .i64 i ∧ Ext w w' ∧ Cs w' g0 zero64 ∧ Cs w' g (us (wst xs i))) (fun x4 _ => 64 - (iv x4).toNat) ⟨0, by omega, rfl, h1, c0, c1⟩ ?_
  rintro x4 gg w2 ⟨i, hi, rfl, h2, c0, c2⟩
  unfold oublietteref07_Words.b1
  have hw := wst_len (b := xs) (i := i) (by omega)
  by_cases cj : (i : Int) < 16
  · have e1 : IntKind.i64.wrap (4 * (i : Int)) = ((4 * i : Nat) : Int) := by rw [wrap64 (by omega) (by omega)]; omega
    have e2 : IntKind.i64.wrap ((i : Int) + 1) = ((i + 1 : Nat) : Int) := by rw [wrap64 (by omega) (by omega)]; omega
    have e3 : IntKind.i64.wrap (((4 * i : Nat) : Int) + 4) = ((4 * i + 4 : Nat) : Int) := by rw [wrap64 (by omega) (by omega)]; omega
    simp only [↓eBinI, ↓eDiv, ↓eShift, ↓eBinS, ↓ePick, ↓eNot, ↓eNeg, ↓eConv, ↓eConvS, ↓eExt0, ↓eExt1, ↓eExt2, ↓eFA, ↓eIA, ↓eLenSl, ↓eCapSl, ↓eLenS, ↓eMin, ↓eMax, ↓eCondT, ↓eCondF, ↓gIf_tt, ↓gIf_ff, ↓gIf_tf, ↓gIf_ft, ↓gIf_u, ↓gIfW_u, ↓gIfW_tt, ↓gIfW_ff, ↓gIfW_tf, ↓gIfW_ft, binI, divI, shiftI, add_mk, Nat.zero_add, cond_true, cond_false, decide_true, decide_false, Bool.not_true, Bool.not_false, Bool.and_true, Bool.true_and, Bool.and_false, Bool.false_and, Int.toNat_natCast, Nat.mul_one, cj, e1, e2, e3]
    refine eSl (l := 4 * i) (h := 4 * i + 4) (m := c) (bnd_int (by omega)) (bnd_int (by omega)) bnd_none (by omega) (by omega) (by omega) (by simp) ?_
    have hb := bytes4 (t := i) (hx.ext h2) h64 hc (by omega)
    refine ref_Get_c hb (by rw [List.length_drop, List.length_take]; omega) fun w3 h3 => ?_
    have e4 : Value.int .u32 (IntKind.u32.wrap ((getF ((xs.take (4 * i + 4)).drop (4 * i)) : Nat) : Int)) = u (wordF xs i) := by rw [wrap32]; rfl
    simp only [↓eBinI, ↓eDiv, ↓eShift, ↓eBinS, ↓ePick, ↓eNot, ↓eNeg, ↓eConv, ↓eConvS, ↓eExt0, ↓eExt1, ↓eExt2, ↓eFA, ↓eIA, ↓eLenSl, ↓eCapSl, ↓eLenS, ↓eMin, ↓eMax, ↓eCondT, ↓eCondF, ↓gIf_tt, ↓gIf_ff, ↓gIf_tf, ↓gIf_ft, ↓gIf_u, ↓gIfW_u, ↓gIfW_tt, ↓gIfW_ff, ↓gIfW_tf, ↓gIfW_ft, binI, divI, shiftI, add_mk, Nat.zero_add, cond_true, cond_false, decide_true, decide_false, Bool.not_true, Bool.not_false, Bool.and_true, Bool.true_and, Bool.and_false, Bool.false_and, Int.toNat_natCast, Nat.mul_one, e4, e2, ↓eIAr]
    repeat ((with_reducible refine And.intro ?_ ?_); · first | omega | exact True.intro)
    refine (c2.ext h3).uSet (by omega) fun w4 c4 f4 => ?_
    refine oublietteref07_Words.leaf1 ⟨i + 1, by omega, rfl, (h2.tr h3).tn f4 (fun x hx => by have := h0.size; omega), (c0.ext h3).fr f4 hne, ?_⟩ (by simp only [iv]; omega)
    have := wst_set (b := xs) (i := i) (by omega)
    rw [nextW_lt (by omega)] at this
    rw [this] at c4; exact c4
  · simp only [↓eBinI, ↓eDiv, ↓eShift, ↓eBinS, ↓ePick, ↓eNot, ↓eNeg, ↓eConv, ↓eConvS, ↓eExt0, ↓eExt1, ↓eExt2, ↓eFA, ↓eIA, ↓eLenSl, ↓eCapSl, ↓eLenS, ↓eMin, ↓eMax, ↓eCondT, ↓eCondF, ↓gIf_tt, ↓gIf_ff, ↓gIf_tf, ↓gIf_ft, ↓gIf_u, ↓gIfW_u, ↓gIfW_tt, ↓gIfW_ff, ↓gIfW_tf, ↓gIfW_ft, binI, divI, shiftI, add_mk, Nat.zero_add, cond_true, cond_false, decide_true, decide_false, Bool.not_true, Bool.not_false, Bool.and_true, Bool.true_and, Bool.and_false, Bool.false_and, Int.toNat_natCast, Nat.mul_one, cj]
    have : i = 16 := by omega
    subst this
    refine oublietteref07_Words.loop2 (fun x7 w' => ∃ i : Nat, 16 ≤ i ∧ i ≤ 64 ∧ x7 = .int .i64 i ∧ Ext w w' ∧ Cs w' g0 zero64 ∧ Cs w' g (us (wst xs i))) (fun x7 _ => 64 - (iv x7).toNat) ⟨16, by omega, by omega, rfl, h2, c0, c2⟩ ?_
    rintro x7 gg2 w2 ⟨i, hi16, hi, rfl, h2, c0, c2⟩
    unfold oublietteref07_Words.b2
    have hw := wst_len (b := xs) hi
    by_cases ci : (i : Int) < 64
    · have hi64 : i < 64 := by omega
      have e0 : IntKind.i64.wrap ((i : Int) + 1) = ((i + 1 : Nat) : Int) := by rw [wrap64 (by omega) (by omega)]; omega
      have e2 : IntKind.i64.wrap ((i : Int) - 2) = ((i - 2 : Nat) : Int) := by rw [wrap64 (by omega) (by omega)]; omega
      have e7 : IntKind.i64.wrap ((i : Int) - 7) = ((i - 7 : Nat) : Int) := by rw [wrap64 (by omega) (by omega)]; omega
      have e15 : IntKind.i64.wrap ((i : Int) - 15) = ((i - 15 : Nat) : Int) := by rw [wrap64 (by omega) (by omega)]; omega
      have e16 : IntKind.i64.wrap ((i : Int) - 16) = ((i - 16 : Nat) : Int) := by rw [wrap64 (by omega) (by omega)]; omega
      have s10 : (Value.int IntKind.u64 10) = .int .u64 ((10 : Nat) : Int) := rfl
      have s3 : (Value.int IntKind.u64 3) = .int .u64 ((3 : Nat) : Int) := rfl
      simp only [↓eBinI, ↓eDiv, ↓eShift, ↓eBinS, ↓ePick, ↓eNot, ↓eNeg, ↓eConv, ↓eConvS, ↓eExt0, ↓eExt1, ↓eExt2, ↓eFA, ↓eIA, ↓eLenSl, ↓eCapSl, ↓eLenS, ↓eMin, ↓eMax, ↓eCondT, ↓eCondF, ↓gIf_tt, ↓gIf_ff, ↓gIf_tf, ↓gIf_ft, ↓gIf_u, ↓gIfW_u, ↓gIfW_tt, ↓gIfW_ff, ↓gIfW_tf, ↓gIfW_ft, binI, divI, shiftI, add_mk, Nat.zero_add, cond_true, cond_false, decide_true, decide_false, Bool.not_true, Bool.not_false, Bool.and_true, Bool.true_and, Bool.and_false, Bool.false_and, Int.toNat_natCast, Nat.mul_one, ci]
      refine draw_ fun w3 h3 => ?_
      have c3 := c2.ext h3
      simp only [↓eBinI, ↓eDiv, ↓eShift, ↓eBinS, ↓ePick, ↓eNot, ↓eNeg, ↓eConv, ↓eConvS, ↓eExt0, ↓eExt1, ↓eExt2, ↓eFA, ↓eIA, ↓eLenSl, ↓eCapSl, ↓eLenS, ↓eMin, ↓eMax, ↓eCondT, ↓eCondF, ↓gIf_tt, ↓gIf_ff, ↓gIf_tf, ↓gIf_ft, ↓gIf_u, ↓gIfW_u, ↓gIfW_tt, ↓gIfW_ff, ↓gIfW_tf, ↓gIfW_ft, binI, divI, shiftI, add_mk, Nat.zero_add, cond_true, cond_false, decide_true, decide_false, Bool.not_true, Bool.not_false, Bool.and_true, Bool.true_and, Bool.and_false, Bool.false_and, Int.toNat_natCast, Nat.mul_one, e2, e15, ↓eIAr, ↓c3.uE (show i - 2 < _ by omega), ↓c3.uE (show i - 15 < _ by omega)]
      repeat ((with_reducible refine And.intro ?_ ?_); · first | omega | exact True.intro)
      refine draw_ fun w4 h4 => ?_
      have c4 := c3.ext h4
      rw [s10, s3]
      simp only [↓eBinI, ↓eDiv, ↓eShift, ↓eBinS, ↓ePick, ↓eNot, ↓eNeg, ↓eConv, ↓eConvS, ↓eExt0, ↓eExt1, ↓eExt2, ↓eFA, ↓eIA, ↓eLenSl, ↓eCapSl, ↓eLenS, ↓eMin, ↓eMax, ↓eCondT, ↓eCondF, ↓gIf_tt, ↓gIf_ff, ↓gIf_tf, ↓gIf_ft, ↓gIf_u, ↓gIfW_u, ↓gIfW_tt, ↓gIfW_ff, ↓gIfW_tf, ↓gIfW_ft, binI, divI, shiftI, add_mk, Nat.zero_add, cond_true, cond_false, decide_true, decide_false, Bool.not_true, Bool.not_false, Bool.and_true, Bool.true_and, Bool.and_false, Bool.false_and, Int.toNat_natCast, Nat.mul_one, e7, e16, ↓eIAr, ↓eUshr (show 10 < 32 by omega), ↓eUshr (show 3 < 32 by omega), ↓c4.uE (show i - 7 < _ by omega), ↓c4.uE (show i - 16 < _ by omega)]
      repeat ((with_reducible refine And.intro ?_ ?_); · first | omega | exact True.intro)
      refine ref_right_c (n := 17) (by omega) (by omega) fun w5 h5 => ?_
      refine ⟨h5, ?_⟩
      refine ref_right_c (n := 19) (by omega) (by omega) fun w6 h6 => ?_
      refine ⟨h5.tr h6, ?_⟩
      simp only [↓eUxor, ↓eUadd]
      refine ref_right_c (n := 7) (by omega) (by omega) fun w7 h7 => ?_
      refine ⟨(h5.tr h6).tr h7, ?_⟩
      refine ref_right_c (n := 18) (by omega) (by omega) fun w8 h8 => ?_
      have h48 := ((h5.tr h6).tr h7).tr h8
      refine ⟨h48, ?_⟩
      simp only [↓eBinI, ↓eDiv, ↓eShift, ↓eBinS, ↓ePick, ↓eNot, ↓eNeg, ↓eConv, ↓eConvS, ↓eExt0, ↓eExt1, ↓eExt2, ↓eFA, ↓eIA, ↓eLenSl, ↓eCapSl, ↓eLenS, ↓eMin, ↓eMax, ↓eCondT, ↓eCondF, ↓gIf_tt, ↓gIf_ff, ↓gIf_tf, ↓gIf_ft, ↓gIf_u, ↓gIfW_u, ↓gIfW_tt, ↓gIfW_ff, ↓gIfW_tf, ↓gIfW_ft, binI, divI, shiftI, add_mk, Nat.zero_add, cond_true, cond_false, decide_true, decide_false, Bool.not_true, Bool.not_false, Bool.and_true, Bool.true_and, Bool.and_false, Bool.false_and, Int.toNat_natCast, Nat.mul_one, e0, ↓eUxor, ↓eUadd, ↓eIAr]
      repeat ((with_reducible refine And.intro ?_ ?_); · first | omega | exact True.intro)
      refine (c4.ext h48).uSet (by omega) fun w9 c9 f9 => ?_
      refine anew_ ?_
      refine oublietteref07_Words.leaf2 ⟨i + 1, by omega, by omega, rfl, (((h2.tr h3).tr h4).tr h48).tn f9 (fun x hx => by have := h0.size; omega), (((c0.ext h3).ext h4).ext h48).fr f9 hne, ?_⟩ (by simp only [iv]; omega)
      have := wst_set (b := xs) hi64
      rw [nextW_ge (by omega), ← wst_get hi (show i - 2 < i by omega) (by omega), ← wst_get hi (show i - 7 < i by omega) (by omega), ← wst_get hi (show i - 15 < i by omega) (by omega), ← wst_get hi (show i - 16 < i by omega) (by omega)] at this
      unfold sg1 sg0 at this
      rw [this] at c9; exact c9
    · simp only [↓eBinI, ↓eDiv, ↓eShift, ↓eBinS, ↓ePick, ↓eNot, ↓eNeg, ↓eConv, ↓eConvS, ↓eExt0, ↓eExt1, ↓eExt2, ↓eFA, ↓eIA, ↓eLenSl, ↓eCapSl, ↓eLenS, ↓eMin, ↓eMax, ↓eCondT, ↓eCondF, ↓gIf_tt, ↓gIf_ff, ↓gIf_tf, ↓gIf_ft, ↓gIf_u, ↓gIfW_u, ↓gIfW_tt, ↓gIfW_ff, ↓gIfW_tf, ↓gIfW_ft, binI, divI, shiftI, add_mk, Nat.zero_add, cond_true, cond_false, decide_true, decide_false, Bool.not_true, Bool.not_false, Bool.and_true, Bool.true_and, Bool.and_false, Bool.false_and, Int.toNat_natCast, Nat.mul_one, ci]
      have : i = 64 := by omega
      subst this
      have e : wst xs 64 = wordsL xs 64 := by simp [wst]
      rw [e] at c2
      have hlw := wordsL_len xs 64
      rw [c2.ld (by rw [us_len]; exact hlw)]
      refine Cs.uSetN (l := List.replicate 64 0) c0 hlw (by simp) fun w3 c3 f3 => ?_
      rw [c3.ld (by rw [us_len]; exact hlw)]
      exact h _ (h2.tn f3 (fun x hx => by omega))
end Go.Proofs.YtkpgmaiklfjjgaaDoor
end
