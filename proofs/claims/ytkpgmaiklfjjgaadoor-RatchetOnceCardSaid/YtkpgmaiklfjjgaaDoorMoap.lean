/-
  What stands behind a text; the numbers; the reference's sum.
  The reference's sum.
  A region's text at the wide fence, also within a round of a range over a function.
-/
import Derived.Test.YtkpgmaiklfjjgaaDoorMoao
import Derived.TacticsIn
import Derived.RangeFuncNested
import Derived.RangeFuncBound
import Derived.RangeFuncCalls
import Derived.RangeFuncLeaves
section
set_option linter.unusedSimpArgs false
set_option linter.unusedVariables false
namespace Go.Proofs.YtkpgmaiklfjjgaaDoor
open Go Go.G
variable {X : KX} {w : World} {K : KV} {D D' : Nat → Prop}
def zs (n : Nat) : Nat := (119 - n % 64) % 64
def padS (n : Nat) : List UInt8 := 128 :: List.replicate (zs n) 0 ++ putF (n * 8) 8
theorem padS_len (n : Nat) : (padS n).length = 1 + zs n + 8 := by simp [padS, putF_len]; omega
theorem zs_lt (n : Nat) : zs n < 64 := Nat.mod_lt _ (by omega)
theorem Pad_c {n : Nat} (hn : n ≤ 100000) (h : ∀ v w', Ext w w' → G.Own .byte (fun _ => False) w.heap.size w' v (padS n) → K v w') : GCalls Tryd.prog 133 [.int .i64 n] K X w := by
  apply sha_Pad.calls; unfold sha_Pad.b
  have c1 : ¬ ((n : Int) < 0) := by omega
  have c2 : ¬ ((n : Int) > 1099511627776) := by omega
  have hz := zs_lt n
  have e1 : (n : Int).tmod 64 = ((n % 64 : Nat) : Int) := by rw [Int.tmod_eq_emod_of_nonneg (by omega)]; omega
  have e2 : IntKind.i64.wrap (119 - ((n % 64 : Nat) : Int)) = ((119 - n % 64 : Nat) : Int) := by rw [wrap64 (by omega) (by omega)]; omega
  have e3 : ((119 - n % 64 : Nat) : Int).tmod 64 = ((zs n : Nat) : Int) := by rw [Int.tmod_eq_emod_of_nonneg (by omega)]; unfold zs; omega
  have e4 : IntKind.i64.wrap (1 + ((zs n : Nat) : Int)) = ((1 + zs n : Nat) : Int) := by rw [wrap64 (by omega) (by omega)]; omega
  have e5 : IntKind.i64.wrap (((1 + zs n : Nat) : Int) + 8) = ((1 + zs n + 8 : Nat) : Int) := by rw [wrap64 (by omega) (by omega)]; omega
  have e6 : IntKind.u64.wrap (n : Int) = (n : Int) := wrapU64 (by omega) (by omega)
  have e7 : IntKind.u64.wrap ((n : Int) * 8) = ((n * 8 : Nat) : Int) := by rw [wrapU64 (by omega) (by omega)]; omega
  simp only [↓eBinI, ↓eDiv, ↓eShift, ↓eBinS, ↓ePick, ↓eNot, ↓eNeg, ↓eConv, ↓eConvS, ↓eExt0, ↓eExt1, ↓eExt2, ↓eFA, ↓eIA, ↓eLenSl, ↓eCapSl, ↓eLenS, ↓eMin, ↓eMax, ↓eCondT, ↓eCondF, ↓gIf_tt, ↓gIf_ff, ↓gIf_tf, ↓gIf_ft, ↓gIf_u, ↓gIfW_u, ↓gIfW_tt, ↓gIfW_ff, ↓gIfW_tf, ↓gIfW_ft, binI, divI, shiftI, add_mk, Nat.zero_add, cond_true, cond_false, decide_true, decide_false, Bool.not_true, Bool.not_false, Bool.and_true, Bool.true_and, Bool.and_false, Bool.false_and, Int.toNat_natCast, Nat.mul_one, c1, c2, e1, e2, e3, e4, e5, e6, e7, ne_eq, show ¬ ((64 : Int) = 0) from by decide, not_false_eq_true, true_and]
  refine ⟨.i64, .i64, _, _, rfl, rfl, by omega, by omega, by omega, by omega, ?_⟩
  have hE : Ext w (w.alloc (.cells (rowOf [.int .u8 0] (1 + zs n + 8)).toArray 5)) := Ext.alloc _ _
  have hC : Cs (w.alloc (.cells (rowOf [.int .u8 0] (1 + zs n + 8)).toArray 5)) w.heap.size (bv (List.replicate (1 + zs n + 8) 0)) := ⟨5, by rw [alloc_new, bv_zero]⟩
  simp only [Int.toNat_natCast]
  generalize w.alloc (.cells (rowOf [.int .u8 0] (1 + zs n + 8)).toArray 5) = w1 at hE hC ⊢
  simp only [↓eBinI, ↓eDiv, ↓eShift, ↓eBinS, ↓ePick, ↓eNot, ↓eNeg, ↓eConv, ↓eConvS, ↓eExt0, ↓eExt1, ↓eExt2, ↓eFA, ↓eIA, ↓eLenSl, ↓eCapSl, ↓eLenS, ↓eMin, ↓eMax, ↓eCondT, ↓eCondF, ↓gIf_tt, ↓gIf_ff, ↓gIf_tf, ↓gIf_ft, ↓gIf_u, ↓gIfW_u, ↓gIfW_tt, ↓gIfW_ff, ↓gIfW_tf, ↓gIfW_ft, binI, divI, shiftI, add_mk, Nat.zero_add, cond_true, cond_false, decide_true, decide_false, Bool.not_true, Bool.not_false, Bool.and_true, Bool.true_and, Bool.and_false, Bool.false_and, Int.toNat_natCast, Nat.mul_one, tn0, Nat.zero_mul, add_mk]
  repeat ((with_reducible refine And.intro ?_ ?_); · first | omega | exact True.intro)
  refine hC.set (by rw [bv_len, List.length_replicate]; omega) rfl fun w2 c2 f2 => ?_
  have h2 := hE.tn f2 (fun x hx => by omega)
  refine num_Put_c (n := n * 8) (s := 8) (by omega) (by omega) (by omega) fun v3 w3 h3 o3 => ?_
  have e8 : (bv (List.replicate (1 + zs n + 8) 0)).set 0 (.int .u8 128) = bv (128 :: List.replicate (zs n) 0) ++ bv (List.replicate 8 0) := by
    rw [show 1 + zs n + 8 = (zs n + 8) + 1 by omega, List.replicate_succ, ← List.replicate_append_replicate]
    simp [bv]
  rw [e8] at c2
  have ho : G.Own .byte (fun _ => False) w.heap.size w3 (.slice (some ⟨w.heap.size, 0, none⟩) (1 + zs n) (1 + zs n + 8)) (128 :: List.replicate (zs n) 0) :=
    (c2.ext h3).own (Nat.le_refl _) (fun h => h) (by simp; omega) (by rw [bv_len, List.length_replicate])
  have hp := putF_len 8 (n * 8)
  refine ho.cat (h2.tr h3).size (fun h => h) rfl rfl (o3.rd2 (D' := fun _ => True) (fun _ _ => trivial) (fun _ _ _ _ => trivial) (show (putF (n * 8) 8).length < _ by omega)) (fun cs h => h.flat rfl) (by show _ ≤ _; simp [putF_len]; omega) fun v w4 hv hf _ => ?_
  exact h _ _ ((h2.tr h3).tn hf (fun x hx => hx.2)) hv
theorem ref_Pad7_c {n : Nat} (hn : n ≤ 100000) (h : ∀ v w', Ext w w' → G.Own .byte (fun _ => False) w.heap.size w' v (padS n) → K v w') : GCalls Tryd.prog 106 [.int .i64 n] K X w := by
  apply oublietteref07_Pad.calls; unfold oublietteref07_Pad.b
  have c1 : ¬ ((n : Int) < 0) := by omega
  have c2 : ¬ ((n : Int) > 1099511627776) := by omega
  have hz := zs_lt n
  simp only [↓eBinI, ↓eDiv, ↓eShift, ↓eBinS, ↓ePick, ↓eNot, ↓eNeg, ↓eConv, ↓eConvS, ↓eExt0, ↓eExt1, ↓eExt2, ↓eFA, ↓eIA, ↓eLenSl, ↓eCapSl, ↓eLenS, ↓eMin, ↓eMax, ↓eCondT, ↓eCondF, ↓gIf_tt, ↓gIf_ff, ↓gIf_tf, ↓gIf_ft, ↓gIf_u, ↓gIfW_u, ↓gIfW_tt, ↓gIfW_ff, ↓gIfW_tf, ↓gIfW_ft, binI, divI, shiftI, add_mk, Nat.zero_add, cond_true, cond_false, decide_true, decide_false, Bool.not_true, Bool.not_false, Bool.and_true, Bool.true_and, Bool.and_false, Bool.false_and, Int.toNat_natCast, Nat.mul_one, c1, c2]
  refine bslice1 rfl fun g w1 hg h1 c1 => ?_
  refine oublietteref07_Pad.loop1 (fun x3 w' => ∃ k, k ≤ zs n ∧ Ext w w' ∧ G.Own .byte (fun _ => False) w.heap.size w' x3 (128 :: List.replicate k 0)) (fun x3 _ => 64 - lenV x3) ⟨0, by omega, h1, Cs.own (rest := []) c1 (by omega) (fun h => h) rfl rfl⟩ ?_
  rintro x3 gg w2 ⟨k, hk, h2, ho⟩
  unfold oublietteref07_Pad.b1
  obtain ⟨a, c, rfl, hc⟩ := ho.form
  have hl : (128 :: List.replicate k 0 : List UInt8).length = 1 + k := by simp; omega
  simp only [hl] at ho hc ⊢
  have e4 : IntKind.i64.wrap ((n : Int) + ((1 + k : Nat) : Int)) = ((n + (1 + k) : Nat) : Int) := by rw [wrap64 (by omega) (by omega)]; omega
  have e1 : ((n + (1 + k) : Nat) : Int).tmod 64 = (((n + (1 + k)) % 64 : Nat) : Int) := by rw [Int.tmod_eq_emod_of_nonneg (by omega)]; omega
  have e6 : IntKind.u64.wrap (n : Int) = (n : Int) := wrapU64 (by omega) (by omega)
  have e7 : IntKind.u64.wrap ((n : Int) * 8) = ((n * 8 : Nat) : Int) := by rw [wrapU64 (by omega) (by omega)]; omega
  by_cases ck : k = zs n
  · subst ck
    have e8 : ((((n + (1 + zs n)) % 64 : Nat) : Int) != 56) = false := by rw [bne_eq_false_iff_eq]; unfold zs; omega
    simp only [↓eBinI, ↓eDiv, ↓eShift, ↓eBinS, ↓ePick, ↓eNot, ↓eNeg, ↓eConv, ↓eConvS, ↓eExt0, ↓eExt1, ↓eExt2, ↓eFA, ↓eIA, ↓eLenSl, ↓eCapSl, ↓eLenS, ↓eMin, ↓eMax, ↓eCondT, ↓eCondF, ↓gIf_tt, ↓gIf_ff, ↓gIf_tf, ↓gIf_ft, ↓gIf_u, ↓gIfW_u, ↓gIfW_tt, ↓gIfW_ff, ↓gIfW_tf, ↓gIfW_ft, binI, divI, shiftI, add_mk, Nat.zero_add, cond_true, cond_false, decide_true, decide_false, Bool.not_true, Bool.not_false, Bool.and_true, Bool.true_and, Bool.and_false, Bool.false_and, Int.toNat_natCast, Nat.mul_one, e4, e1, e6, e7, e8, ne_eq, show ¬ ((64 : Int) = 0) from by decide, not_false_eq_true, true_and]
    refine ref_Put_c (n := n * 8) (s := 8) (by omega) (by omega) (by omega) fun v3 w3 h3 o3 => ?_
    have hp := putF_len 8 (n * 8)
    refine (ho.ext h3).cat (h2.tr h3).size (fun h => h) rfl rfl (o3.rd2 (D' := fun _ => True) (fun _ _ => trivial) (fun _ _ _ _ => trivial) (show (putF (n * 8) 8).length < _ by omega)) (fun cs h => h.flat rfl) (by show _ ≤ _; simp [putF_len]; omega) fun v w4 hv hf _ => ?_
    exact h _ _ ((h2.tr h3).tn hf (fun x hx => hx.2)) hv
  · have e8 : ((((n + (1 + k)) % 64 : Nat) : Int) != 56) = true := by rw [bne_iff_ne]; unfold zs at hk ck; omega
    simp only [↓eBinI, ↓eDiv, ↓eShift, ↓eBinS, ↓ePick, ↓eNot, ↓eNeg, ↓eConv, ↓eConvS, ↓eExt0, ↓eExt1, ↓eExt2, ↓eFA, ↓eIA, ↓eLenSl, ↓eCapSl, ↓eLenS, ↓eMin, ↓eMax, ↓eCondT, ↓eCondF, ↓gIf_tt, ↓gIf_ff, ↓gIf_tf, ↓gIf_ft, ↓gIf_u, ↓gIfW_u, ↓gIfW_tt, ↓gIfW_ff, ↓gIfW_tf, ↓gIfW_ft, binI, divI, shiftI, add_mk, Nat.zero_add, cond_true, cond_false, decide_true, decide_false, Bool.not_true, Bool.not_false, Bool.and_true, Bool.true_and, Bool.and_false, Bool.false_and, Int.toNat_natCast, Nat.mul_one, e4, e1, e8, ne_eq, show ¬ ((64 : Int) = 0) from by decide, not_false_eq_true, true_and]
    refine bslice1 rfl fun g2 w3 hg2 h3 c3 => ?_
    refine (ho.ext h3).push1 c3 (x := (0 : UInt8)) (show [_] = [_] from rfl) (h2.tr h3).size (fun h => h) rfl (by show (2 * ((128 :: List.replicate k (0 : UInt8)).length + 1) + 192) * 1 ≤ _; rw [hl]; omega) fun v w4 hv hf _ => ?_
    have e9 : (128 :: List.replicate k (0 : UInt8)) ++ [0] = 128 :: List.replicate (k + 1) 0 := by rw [List.replicate_succ', List.cons_append]
    rw [e9] at hv
    refine oublietteref07_Pad.leaf1 ⟨k + 1, by omega, (h2.tr h3).tn hf (fun x hx => hx.2), hv⟩ ?_
    obtain ⟨a', c', rfl, _⟩ := hv.form
    simp [lenV]; omega
def firstF : List W32 := [0x6a09e667, 0xbb67ae85, 0x3c6ef372, 0xa54ff53a, 0x510e527f, 0x9b05688c, 0x1f83d9ab, 0x5be0cd19]
theorem First_c (h : ∀ w', Ext w w' → K (.agg ⟨us firstF⟩) w') : GCalls Tryd.prog 131 [] K X w := by
  apply sha_First.calls; unfold sha_First.b
  refine boxC (cs := us (List.replicate 8 0)) fun g w1 hg h1 c1 => ?_
  refine ⟨us firstF, rfl, ?_⟩
  refine c1.uSetN (l' := firstF) rfl rfl fun w2 c2 f2 => ?_
  rw [c2.ld (n := 8) rfl]
  exact h _ (h1.tn f2 (fun x hx => by omega))
set_option maxRecDepth 100000 in
theorem Table_c (h : ∀ w', Ext w w' → K (.agg ⟨us kT⟩) w') : GCalls Tryd.prog 105 [] K X w := by
  apply oublietteref07_Table.calls; unfold oublietteref07_Table.b
  refine boxC (cs := us (List.replicate 64 0)) fun g w1 hg h1 c1 => ?_
  refine ⟨us kT, rfl, ?_⟩
  refine c1.uSetN (l' := kT) rfl rfl fun w2 c2 f2 => ?_
  rw [c2.ld (n := 64) rfl]
  exact h _ (h1.tn f2 (fun x hx => by omega))
def hs (all : List UInt8) : Nat → List W32
  | 0 => firstF
  | n + 1 => blockF (hs all n) ((all.take (64 * n + 64)).drop (64 * n))
theorem hs_len (all : List UInt8) : ∀ n, (hs all n).length = 8
  | 0 => rfl
  | n + 1 => blockF_len (hs_len all n)
def outF (v : List W32) : List UInt8 := (v.map fun x => putF x.toNat 4).flatten
theorem outF_len : ∀ v : List W32, (outF v).length = 4 * v.length
  | [] => rfl
  | x :: r => by
    have : outF (x :: r) = putF x.toNat 4 ++ outF r := rfl
    rw [this, List.length_append, putF_len, outF_len r, List.length_cons]; omega
theorem outF_snoc (v : List W32) (x : W32) : outF (v ++ [x]) = outF v ++ putF x.toNat 4 := by simp [outF]
def allF (b : List UInt8) : List UInt8 := b ++ padS b.length
theorem allF_len (b : List UInt8) : (allF b).length = b.length + (1 + zs b.length + 8) := by rw [allF, List.length_append, padS_len]
def sumF (b : List UInt8) : List UInt8 := outF (hs (allF b) ((allF b).length / 64))
theorem sumF_len (b : List UInt8) : (sumF b).length = 32 := by rw [sumF, outF_len, hs_len]
end Go.Proofs.YtkpgmaiklfjjgaaDoor
end
section
set_option linter.unusedSimpArgs false
set_option linter.unusedVariables false
namespace Go.Proofs.YtkpgmaiklfjjgaaDoor
open Go Go.G
variable {X : KX} {w : World} {K : KV} {D D' : Nat → Prop}
theorem allF_mod (b : List UInt8) : (allF b).length % 64 = 0 := by
  rw [allF_len]; unfold zs; omega
set_option maxRecDepth 100000 in
set_option maxHeartbeats 1000000 in
theorem ref_Sum_c {x : Value} {b : List UInt8} (hx : Rd (.slice .byte) D w [x] b) (hb : b.length ≤ 100000) (h : ∀ v w', Ext w w' → G.Own .byte (fun _ => False) w.heap.size w' v (sumF b) → K v w') : GCalls Tryd.prog 93 [x] K X w := by
  obtain ⟨a, c, rfl, hc, hl⟩ := hx.form
  apply oublietteref07_Sum.calls; unfold oublietteref07_Sum.b
  refine Table_c fun w1 h1 => ?_
  refine boxC (cs := us (List.replicate 64 0)) fun g3 w2 hg3 h2 c2 => ?_
  have l3 := c2.lt
  refine c2.uSetN (l' := kT) rfl rfl fun w3 c3 f3 => ?_
  have k3 : Ext w w3 := (h1.tr h2).tn f3 (fun x hx => by have := h1.size; omega)
  refine ⟨us firstF, rfl, ?_⟩
  refine boxC (cs := us (List.replicate 8 0)) fun g4 w4 hg4 h4 c4 => ?_
  have l4 := c4.lt
  have hz3 := f3.size
  refine c4.uSetN (l' := firstF) rfl rfl fun w5 c5 f5 => ?_
  have k5 : Ext w w5 := (k3.tr h4).tn f5 (fun x hx => by have := k3.size; omega)
  have c35 : Cs w5 g3 (us kT) := (c3.ext h4).fr f5 (by omega)
  simp only [↓eBinI, ↓eDiv, ↓eShift, ↓eBinS, ↓ePick, ↓eNot, ↓eNeg, ↓eConv, ↓eConvS, ↓eExt0, ↓eExt1, ↓eExt2, ↓eFA, ↓eIA, ↓eLenSl, ↓eCapSl, ↓eLenS, ↓eMin, ↓eMax, ↓eCondT, ↓eCondF, ↓gIf_tt, ↓gIf_ff, ↓gIf_tf, ↓gIf_ft, ↓gIf_u, ↓gIfW_u, ↓gIfW_tt, ↓gIfW_ff, ↓gIfW_tf, ↓gIfW_ft, binI, divI, shiftI, add_mk, Nat.zero_add, cond_true, cond_false, decide_true, decide_false, Bool.not_true, Bool.not_false, Bool.and_true, Bool.true_and, Bool.and_false, Bool.false_and, Int.toNat_natCast, Nat.mul_one]
  refine ref_Pad7_c hb fun v6 w6 h6 o6 => ?_
  have hpl := padS_len b.length
  have hzl := zs_lt b.length
  refine ref01_Join_c (hx.ext (k5.tr h6)) (o6.rd2 (D' := fun _ => True) (fun _ _ => trivial) (fun _ _ _ _ => trivial) (show (padS b.length).length < _ by omega)) (by show b.length + (padS b.length).length ≤ _; omega) fun v7 w7 h7 o7 => ?_
  have hal : (allF b).length = b.length + (1 + zs b.length + 8) := allF_len b
  have ham := allF_mod b
  change G.Own .byte (fun _ => False) w6.heap.size w7 v7 (allF b) at o7
  have k7 := (k5.tr h6).tr h7
  have s5 := f5.size; have s6 := h6.size; have sk := k3.size
  obtain ⟨a7, c7, rfl, hc7⟩ := o7.form
  refine oublietteref07_Sum.loop1 (fun x6 w' => ∃ n : Nat, 64 * n ≤ (allF b).length ∧ x6 = .int .i64 ((64 * n : Nat) : Int) ∧ Ext w w' ∧ Cs w' g3 (us kT) ∧ Cs w' g4 (us (hs (allF b) n)) ∧ G.Own .byte (fun _ => False) w6.heap.size w' (.slice a7 (allF b).length c7) (allF b)) (fun x6 _ => ((allF b).length - iv x6).toNat)
    ⟨0, by omega, rfl, k7, (c35.ext h6).ext h7, (c5.ext h6).ext h7, o7⟩ ?_
  clear c2 c3 c4 c5 c35 o7 o6 f3 f5 h1 h2 h4 h6 h7 k3 k5 k7
  rintro x6 gg w1 ⟨n, hn, rfl, h1, c3, c4, o1⟩
  unfold oublietteref07_Sum.b1
  have hhl := hs_len (allF b) n
  have e1 : IntKind.i64.wrap (((64 * n : Nat) : Int) + 64) = ((64 * n + 64 : Nat) : Int) := by rw [wrap64 (by omega) (by omega)]; omega
  simp only [↓eBinI, ↓eDiv, ↓eShift, ↓eBinS, ↓ePick, ↓eNot, ↓eNeg, ↓eConv, ↓eConvS, ↓eExt0, ↓eExt1, ↓eExt2, ↓eFA, ↓eIA, ↓eLenSl, ↓eCapSl, ↓eLenS, ↓eMin, ↓eMax, ↓eCondT, ↓eCondF, ↓gIf_tt, ↓gIf_ff, ↓gIf_tf, ↓gIf_ft, ↓gIf_u, ↓gIfW_u, ↓gIfW_tt, ↓gIfW_ff, ↓gIfW_tf, ↓gIfW_ft, binI, divI, shiftI, add_mk, Nat.zero_add, cond_true, cond_false, decide_true, decide_false, Bool.not_true, Bool.not_false, Bool.and_true, Bool.true_and, Bool.and_false, Bool.false_and, Int.toNat_natCast, Nat.mul_one, e1]
  by_cases cn : ((64 * n + 64 : Nat) : Int) ≤ ((allF b).length : Int)
  · have e2 : (((64 * n + 64 : Nat) : Int) ≤ ((allF b).length : Int)) = True := eq_true cn
    simp only [↓eBinI, ↓eDiv, ↓eShift, ↓eBinS, ↓ePick, ↓eNot, ↓eNeg, ↓eConv, ↓eConvS, ↓eExt0, ↓eExt1, ↓eExt2, ↓eFA, ↓eIA, ↓eLenSl, ↓eCapSl, ↓eLenS, ↓eMin, ↓eMax, ↓eCondT, ↓eCondF, ↓gIf_tt, ↓gIf_ff, ↓gIf_tf, ↓gIf_ft, ↓gIf_u, ↓gIfW_u, ↓gIfW_tt, ↓gIfW_ff, ↓gIfW_tf, ↓gIfW_ft, binI, divI, shiftI, add_mk, Nat.zero_add, cond_true, cond_false, decide_true, decide_false, Bool.not_true, Bool.not_false, Bool.and_true, Bool.true_and, Bool.and_false, Bool.false_and, Int.toNat_natCast, Nat.mul_one, e2]
    refine draw_ fun w2 h2 => ?_
    rw [(c3.ext h2).ldE (n := 64) rfl, (c4.ext h2).ldE (n := 8) (by rw [us_len]; exact hhl)]
    refine eSl (l := 64 * n) (h := 64 * n + 64) (m := c7) (bnd_int (by omega)) (bnd_int (by omega)) bnd_none (by omega) (by omega) (by omega) (by simp) ?_
    have hr := (o1.ext h2).rd2 (D' := fun _ => True) (fun _ _ => trivial) (fun _ _ _ _ => trivial) (show (allF b).length < _ by omega)
    have hcut := hr.cut (l := 64 * n) (e := 64 * n + 64) (m := c7) (by omega) (by omega) (by omega) (Nat.le_refl _)
    refine With_c hhl hcut (by rw [List.length_drop, List.length_take]; omega) fun w3 h3 => ?_
    refine anew_ ?_
    refine ((c4.ext h2).ext h3).uSetN (l' := hs (allF b) (n + 1)) (by rw [hs_len, hs_len]) hhl fun w4 c5 f4 => ?_
    refine anew_ ?_
    have e3 : IntKind.i64.wrap (((64 * n : Nat) : Int) + 64) = ((64 * (n + 1) : Nat) : Int) := by rw [e1]; omega
    try simp only [↓eBinI, ↓eDiv, ↓eShift, ↓eBinS, ↓ePick, ↓eNot, ↓eNeg, ↓eConv, ↓eConvS, ↓eExt0, ↓eExt1, ↓eExt2, ↓eFA, ↓eIA, ↓eLenSl, ↓eCapSl, ↓eLenS, ↓eMin, ↓eMax, ↓eCondT, ↓eCondF, ↓gIf_tt, ↓gIf_ff, ↓gIf_tf, ↓gIf_ft, ↓gIf_u, ↓gIfW_u, ↓gIfW_tt, ↓gIfW_ff, ↓gIfW_tf, ↓gIfW_ft, binI, divI, shiftI, add_mk, Nat.zero_add, cond_true, cond_false, decide_true, decide_false, Bool.not_true, Bool.not_false, Bool.and_true, Bool.true_and, Bool.and_false, Bool.false_and, Int.toNat_natCast, Nat.mul_one, e1]
    refine oublietteref07_Sum.leaf1 ⟨n + 1, by omega, by congr 1, (h1.tr (h2.tr h3)).tn f4 (fun x hx => by omega), (c3.ext (h2.tr h3)).fr f4 (by omega), c5, (o1.ext (h2.tr h3)).fr f4 (fun _ h => h.elim) (fun b' hb' hB => by omega)⟩ (by simp only [iv]; omega)
  · have e2 : (((64 * n + 64 : Nat) : Int) ≤ ((allF b).length : Int)) = False := eq_false cn
    simp only [↓eBinI, ↓eDiv, ↓eShift, ↓eBinS, ↓ePick, ↓eNot, ↓eNeg, ↓eConv, ↓eConvS, ↓eExt0, ↓eExt1, ↓eExt2, ↓eFA, ↓eIA, ↓eLenSl, ↓eCapSl, ↓eLenS, ↓eMin, ↓eMax, ↓eCondT, ↓eCondF, ↓gIf_tt, ↓gIf_ff, ↓gIf_tf, ↓gIf_ft, ↓gIf_u, ↓gIfW_u, ↓gIfW_tt, ↓gIfW_ff, ↓gIfW_tf, ↓gIfW_ft, binI, divI, shiftI, add_mk, Nat.zero_add, cond_true, cond_false, decide_true, decide_false, Bool.not_true, Bool.not_false, Bool.and_true, Bool.true_and, Bool.and_false, Bool.false_and, Int.toNat_natCast, Nat.mul_one, e2]
    have hn' : n = (allF b).length / 64 := by omega
    refine oublietteref07_Sum.loop2 (fun x7 x8 w' => ∃ i : Nat, i ≤ 8 ∧ x8 = .int .i64 i ∧ Ext w w' ∧ Cs w' g4 (us (hs (allF b) n)) ∧ G.Own .byte (fun _ => False) w.heap.size w' x7 (outF ((hs (allF b) n).take i)) ∧ (∀ g, Blk x7 g → g4 < g)) (fun _ x8 _ => 8 - (iv x8).toNat)
      ⟨0, by omega, rfl, h1, c4, G.Own.nil, by rintro g ⟨_, _, _, h, _⟩; cases h⟩ ?_
    rintro x7 x8 gg2 w2 ⟨i, hi, rfl, h2, c4, o2, hg⟩
    unfold oublietteref07_Sum.b2
    by_cases ci : (i : Int) < 8
    · have e0 : IntKind.i64.wrap ((i : Int) + 1) = ((i + 1 : Nat) : Int) := by rw [wrap64 (by omega) (by omega)]; omega
      have hlt : ((hs (allF b) n)[i]'(by omega)).toNat < 4294967296 := ((hs (allF b) n)[i]'(by omega)).isLt
      have e5 : IntKind.u64.wrap ((((hs (allF b) n)[i]'(by omega)).toNat : Nat) : Int) = ((((hs (allF b) n)[i]'(by omega)).toNat : Nat) : Int) := wrapU64 (by omega) (by omega)
      simp only [↓eBinI, ↓eDiv, ↓eShift, ↓eBinS, ↓ePick, ↓eNot, ↓eNeg, ↓eConv, ↓eConvS, ↓eExt0, ↓eExt1, ↓eExt2, ↓eFA, ↓eIA, ↓eLenSl, ↓eCapSl, ↓eLenS, ↓eMin, ↓eMax, ↓eCondT, ↓eCondF, ↓gIf_tt, ↓gIf_ff, ↓gIf_tf, ↓gIf_ft, ↓gIf_u, ↓gIfW_u, ↓gIfW_tt, ↓gIfW_ff, ↓gIfW_tf, ↓gIfW_ft, binI, divI, shiftI, add_mk, Nat.zero_add, cond_true, cond_false, decide_true, decide_false, Bool.not_true, Bool.not_false, Bool.and_true, Bool.true_and, Bool.and_false, Bool.false_and, Int.toNat_natCast, Nat.mul_one, ci, ↓eIAr, ↓c4.uW (show i < _ by omega), ↓eU64]
      repeat ((with_reducible refine And.intro ?_ ?_); · first | omega | exact True.intro)
      refine ref_Put_c (s := 4) (by omega) (by omega) (by omega) fun v3 w3 h3 o3 => ?_
      have hp := putF_len 4 ((hs (allF b) n)[i]'(by omega)).toNat
      have hol := outF_len ((hs (allF b) n).take i)
      have htl : ((hs (allF b) n).take i).length = i := by rw [List.length_take]; omega
      have l4 := c4.lt
      refine (o2.ext h3).cat (h2.tr h3).size (fun h => h) rfl rfl (o3.rd2 (D' := fun _ => True) (fun _ _ => trivial) (fun _ _ _ _ => trivial) (show (putF _ 4).length < _ by omega)) (fun cs h => h.flat rfl) (by show (2 * ((outF _).length + (putF _ 4).length) + 192) * 1 ≤ _; omega) fun v w4 hv hf hbk => ?_
      try simp only [↓eBinI, ↓eDiv, ↓eShift, ↓eBinS, ↓ePick, ↓eNot, ↓eNeg, ↓eConv, ↓eConvS, ↓eExt0, ↓eExt1, ↓eExt2, ↓eFA, ↓eIA, ↓eLenSl, ↓eCapSl, ↓eLenS, ↓eMin, ↓eMax, ↓eCondT, ↓eCondF, ↓gIf_tt, ↓gIf_ff, ↓gIf_tf, ↓gIf_ft, ↓gIf_u, ↓gIfW_u, ↓gIfW_tt, ↓gIfW_ff, ↓gIfW_tf, ↓gIfW_ft, binI, divI, shiftI, add_mk, Nat.zero_add, cond_true, cond_false, decide_true, decide_false, Bool.not_true, Bool.not_false, Bool.and_true, Bool.true_and, Bool.and_false, Bool.false_and, Int.toNat_natCast, Nat.mul_one, e0]
      refine oublietteref07_Sum.leaf2 ⟨i + 1, by omega, rfl, (h2.tr h3).tn hf (fun x hx => hx.2), (c4.ext h3).fr hf (fun hx => by have := hg _ hx.1; omega), ?_, ?_⟩ (by simp only [iv]; omega)
      · rw [List.take_succ_eq_append_getElem (by omega), outF_snoc]; exact hv
      · intro g hgb
        rcases hbk g hgb with h | h
        · exact hg g h
        · have := h3.size; omega
    · simp only [↓eBinI, ↓eDiv, ↓eShift, ↓eBinS, ↓ePick, ↓eNot, ↓eNeg, ↓eConv, ↓eConvS, ↓eExt0, ↓eExt1, ↓eExt2, ↓eFA, ↓eIA, ↓eLenSl, ↓eCapSl, ↓eLenS, ↓eMin, ↓eMax, ↓eCondT, ↓eCondF, ↓gIf_tt, ↓gIf_ff, ↓gIf_tf, ↓gIf_ft, ↓gIf_u, ↓gIfW_u, ↓gIfW_tt, ↓gIfW_ff, ↓gIfW_tf, ↓gIfW_ft, binI, divI, shiftI, add_mk, Nat.zero_add, cond_true, cond_false, decide_true, decide_false, Bool.not_true, Bool.not_false, Bool.and_true, Bool.true_and, Bool.and_false, Bool.false_and, Int.toNat_natCast, Nat.mul_one, ci]
      have : i = 8 := by omega
      subst this
      rw [List.take_of_length_le (by omega), hn'] at o2
      exact h _ _ h2 o2
end Go.Proofs.YtkpgmaiklfjjgaaDoor
end
section
set_option linter.unusedSimpArgs false
set_option linter.unusedVariables false
namespace Go.G
open Go
variable {P : Program} {pl : Nat → DrawPlan} {ds : List Deferred} {ro : Option Nat} {n : Nat}
abbrev WF (ro : Option Nat) : Fence := { fn := fun _ => True, depth := none, alive := false, round := ro }
def noDefer (o : Oper) : Bool := match o.op with | .defer _ => false | _ => true
theorem noDefer_ne {o : Oper} (h : noDefer o = true) : ∀ c, o.op ≠ .defer c := fun c e => by unfold noDefer at h; rw [e] at h; cases h
theorem callsWF {f : FuncId} {args : Array Value} {w : World} {R : Ending → World → Prop} (h : Calls P f args w R) : CallsIn (WF ro) n P f args w R :=
  (callsIn_wide.2 h : CallsIn Fence.wide n P f args w R)
theorem opIn {o : Oper} {a : Act} {w : World} {next : Act → World → Prop} {Q : Exit → Act → World → Prop} (hd : noDefer o = true)
    (h : o.wp P a w next Q) : o.wpIn (WF ro) n P a w next Q := by
  refine ⟨fun _ _ => trivial, ?_⟩
  rw [Oper.semAt_eq _ _ _ (noDefer_ne hd)]
  unfold Oper.wp at h
  unfold Oper.upon at h
  split at h
  · rename_i hr; rw [hr]; exact h
  · rename_i hr; rw [hr]; exact h
  · rename_i hr; rw [hr]; exact h
  · rename_i hr; rw [hr]
    exact ⟨fun h => (by cases h), callsWF h⟩
  · rename_i hr; rw [hr]
    exact ⟨fun h => (by cases h), fun c cs _ => let ⟨v, w', r, s⟩ := h c cs; ⟨v, w', r, (stepsIn_wide.2 s : StepsIn (Machine.fenced P Fence.wide) P _ _)⟩⟩
  · rename_i hr; rw [hr]; exact h
  · exact h.elim
/-- A list of operations, and others behind. -/
theorem semL_app {ops : Array Oper} {Q : QE} {QQ : Exit → Act → World → Prop} {os2 : List Oper} (hN : ∀ e w, Q .normal e w → wpListIn (WF ro) n P ops QQ os2 ⟨e.toArray, ds⟩ w)
    (hP : ∀ ch (e : List Value) w, Q (.panic ch) e w → QQ (.panic ch) ⟨e.toArray, ds⟩ w) : ∀ (os : List Oper) (e : List Value) (w : World), (∀ o ∈ os, noDefer o = true) → semL P ops Q os e w → wpListIn (WF ro) n P ops QQ (os ++ os2) ⟨e.toArray, ds⟩ w
  | [], e, w, _, h => hN e w (by simpa [semL] using h)
  | o :: rest, e, w, hd, h => by
    have hdo := hd o (by simp)
    have hdr : ∀ o ∈ rest, noDefer o = true := fun x hx => hd x (by simp [hx])
    have pure : stepP P ops (fun w' => w' = w) o e (fun v => semL P ops Q rest (put e o.dst v) w) → wpListIn (WF ro) n P ops QQ (o :: rest ++ os2) ⟨e.toArray, ds⟩ w := fun h => by
      obtain ⟨v, hK, hy⟩ := stepP_yields (ds := ds) h
      have ih := semL_app hN hP rest _ _ hdr hK
      rw [← put_eq] at ih
      rw [List.cons_append]; unfold wpListIn
      rcases hy with ⟨hw, hr⟩ | ⟨hw, rfl⟩
      · rw [if_pos hw]
        refine opIn hdo ?_
        unfold Oper.wp
        rw [hr w rfl]
        exact ih
      · rw [if_neg (by rw [hw]; simp)]
        exact ⟨fun _ _ => trivial, ih⟩
    unfold semL at h
    split at h
    · rcases stepW_wp (ds := ds) (next := wpListIn (WF ro) n P ops QQ (rest ++ os2)) (Q := QQ) h (fun v w' hk => by rw [put_eq]; exact semL_app hN hP rest _ _ hdr hk) (fun ch w' hx => hP _ _ _ hx) with ⟨hw, hh⟩ | ⟨hw, hh⟩
      · rw [List.cons_append]; unfold wpListIn
        rw [if_pos hw]
        exact opIn hdo hh
      · rw [List.cons_append]; unfold wpListIn
        rw [if_neg (by rw [hw]; simp)]
        exact ⟨fun _ _ => trivial, hh⟩
    · exact pure h
    · exact pure h
/-- Only the way on. -/
def justN (N : List Value → World → Prop) : QE
  | .normal, e, w => N e w
  | _, _, _ => False
theorem region_in {id : Nat} {ops : Array Oper} {N : List Value → World → Prop} {QQ : Exit → Act → World → Prop} {e : List Value} {w : World} (hd : ops.toList.all noDefer = true) (hN : ∀ e w, N e w → QQ .normal ⟨e.toArray, ds⟩ w)
    (h : semL P ops (justN N) ops.toList e w) : (Code.region id ops false).wpIn (WF ro) n P QQ ⟨e.toArray, ds⟩ w := by
  refine wpIn_region_list ?_
  have := semL_app (P := P) (ops := ops) (Q := justN N) (QQ := QQ) (os2 := []) (ds := ds) (ro := ro) (n := n) (fun e w hq => hN e w hq) (fun _ _ _ h => h.elim) ops.toList e w (fun o ho => List.all_eq_true.1 hd o ho) h
  rwa [List.append_nil] at this
/-- A region whose order is open, outside of a round. -/
theorem drawn_in (hm : P.follows .mixedOrders = true) {id : Nat} {ops : Array Oper} {N : List Value → World → Prop} {QQ : Exit → Act → World → Prop} {e : List Value} {w : World} (hN : ∀ e w, N e w → QQ .normal ⟨e.toArray, ds⟩ w)
    (h : sem P pl (.region id ops true) (justN N) e w) : (Code.region id ops true).wpIn (WF none) n P QQ ⟨e.toArray, ds⟩ w := by
  refine (wpIn_wide (n := n)).2 (wp_mono (sem_sound (ds := ds) hm _ _ e w (fun ch e e' w h => h.elim) h) fun ex a w' hh => ?_)
  obtain ⟨hd, hh⟩ := hh
  cases ex with
  | normal =>
    have := hN _ _ hh
    rwa [← act_eta a hd] at this
  | outgrown => cases hh
  | exit id => exact hh.elim
  | goto l => exact hh.elim
  | ret => exact hh.elim
  | panic ch => exact hh.elim
/-- Operations of a call of yield. -/
def sub : List Nat → Code → Code
  | 0 :: p, .seq a _ => sub p a
  | _ :: p, .seq _ b => sub p b
  | 0 :: p, .cond _ a _ => sub p a
  | _ :: p, .cond _ _ b => sub p b
  | _ :: p, .block _ c => sub p c
  | _ :: p, .scope c => sub p c
  | _ :: p, .loop c => sub p c
  | _ :: p, .rangeFunc _ _ _ c => sub p c
  | _, c => c
def asgOf : Code → Code
  | .rangeFunc _ _ a _ => a
  | c => c
def opsOf : Code → Array Oper
  | .region _ ops _ => ops
  | _ => #[]
def slot (g : Nat → Value) (i : Nat) (v : Value) : Nat → Value := fun j => if j = i then v else g j
theorem slot_same {g : Nat → Value} {i : Nat} {v : Value} : slot g i v i = v := by simp [slot]
theorem slot_ne {g : Nat → Value} {i j : Nat} {v : Value} (h : j ≠ i) : slot g i v j = g j := by simp [slot, h]
/-- A call of yield. -/
theorem yield_op {o : Oper} {c : Call} {f v : Operand} {a : Act} {w : World} {next : Act → World → Prop} {Q : Exit → Act → World → Prop} {l : Nat} (ho : o.op = .call c) (hc : c.callee = .value f) (hargs : c.args = #[v]) (hf : a.eval f = .func (.yield l) #[] #[])
    {R : Ending → World → Prop} (hy : YieldAt (WF none) (n - 1) P l #[a.eval v] w R) (hR : ∀ e w', R e w' → match e with | .returned v => next (a.put o.dst v) w' | _ => False) : o.wpIn (WF none) n P a w next Q := by
  obtain ⟨fn, tmps, assign, body, hr, hround⟩ := hy
  refine ⟨fun _ _ => trivial, ?_⟩
  have e1 : (Oper.semAt none a.eval o).run P w = .ok (.round l fn tmps assign body) w := by
    rw [Oper.semAt_none]
    unfold execOp
    simp only [ho, resolve, hc, hargs, hf, Deferred.ofValue, Sem.run_bind, Sem.run_pure, Result.andThen_ok, invoke]
    simpa using hr
  show o.uponIn (WF none) n P a next Q ((Oper.semAt none a.eval o).run P w)
  rw [e1]
  refine ⟨fun h => (by cases h), hround.mono fun e w' h => ?_⟩
  have := hR e w' h
  cases e with
  | returned v => exact this
  | panicked ch => exact this.elim
  | outgrown => exact this.elim
end Go.G
end
