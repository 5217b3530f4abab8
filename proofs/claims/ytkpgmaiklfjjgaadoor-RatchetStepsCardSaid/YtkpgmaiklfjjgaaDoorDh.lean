/-
  What stands behind a text; the numbers; the reference's sum.
-/
import Derived.Test.YtkpgmaiklfjjgaaDoorDg
set_option linter.unusedSimpArgs false
set_option linter.unusedVariables false
namespace Go.Proofs.YtkpgmaiklfjjgaaDoor
open Go Go.G
variable {X : KX} {w : World} {K : KV} {D D' : Nat → Prop}
def zs (n : Nat) : Nat := (119 - n % 64) % 64
def padS (n : Nat) : List UInt8 := 128 :: List.replicate (zs n) 0 ++ putF (n * 8) 8
theorem padS_len (n : Nat) : (padS n).length = 1 + zs n + 8 := by simp [padS, putF_len]; omega
theorem zs_lt (n : Nat) : zs n < 64 := Nat.mod_lt _ (by omega)
theorem Pad_c {n : Nat} (hn : n ≤ 100000) (h : ∀ v w', Ext w w' → Own .byte (fun _ => False) w.heap.size w' v (padS n) → K v w') : GCalls Tryd.prog 133 [.int .i64 n] K X w := by
  apply sha_Pad.calls; unfold sha_Pad.b
  have c1 : ¬ ((n : Int) < 0) := by omega
  have c2 : ¬ ((n : Int) > 1099511627776) := by omega
  have hz := zs_lt n
  have e1 : (n : Int).tmod 64 = ((n % 64 : Nat) : Int) := by rw [Int.tmod_eq_emod_of_nonneg (by omega)]; omega
  have e2 : IntKind.i64.wrap (119 - ((n % 64 : Nat) : Int)) = ((119 - n % 64 : Nat) : Int) := by rw [wrap64 (by omega) (by omega)]; omega
  have e3 : ((119 - n % 64 : Nat) : Int).tmod 64 = ((zs n : Nat) : Int) := by rw [Int.tmod_eq_emod_of_nonneg (by omega)]; unfold zs; omega
  have e4 : IntKind.i64.wrap (1 + ((zs n : Nat) : Int)) = ((1 + zs n : Nat) : Int) := by rw [wrap64 (by omega) (by omega)]; omega
  have e5 : IntKind.i64.wrap (((1 + zs n : Nat) : Int) + 8) = ((1 + zs n + 8 : Nat) : Int) := by rw [wrap64 (by omega) (by omega)]; omega
  have e6 : IntKind.u64.wrap (n : Int) = (n : Int) := wrapU64 (by omega) (by omega)
  have e7 : IntKind.u64.wrap ((n : Int) * 8) = ((n * 8 : Nat) : Int) := by rw [wrapU64 (by omega) (by omega)]; omega
  simp only [↓eBinI, ↓eDiv, ↓eShift, ↓eBinS, ↓ePick, ↓eNot, ↓eNeg, ↓eConv, ↓eConvS, ↓eExt0, ↓eExt1, ↓eExt2, ↓eFA, ↓eIA, ↓eLenSl, ↓eCapSl, ↓eLenS, ↓eMin, ↓eMax, ↓eCondT, ↓eCondF, ↓gIf_tt, ↓gIf_ff, ↓gIf_tf, ↓gIf_ft, ↓gIf_u, ↓gIfW_u, ↓gIfW_tt, ↓gIfW_ff, ↓gIfW_tf, ↓gIfW_ft, binI, divI, shiftI, add_mk, Nat.zero_add, cond_true, cond_false, decide_true, decide_false, Bool.not_true, Bool.not_false, Bool.and_true, Bool.true_and, Bool.and_false, Bool.false_and, Int.toNat_natCast, Nat.mul_one, c1, c2, e1, e2, e3, e4, e5, e6, e7, ne_eq, show ¬ ((64 : Int) = 0) from by decide, not_false_eq_true, true_and]
  refine ⟨.i64, .i64, _, _, rfl, rfl, by omega, by omega, by omega, by omega, ?_⟩
  have hE : Ext w (w.alloc (.cells (rowOf [.int .u8 0] (1 + zs n + 8)).toArray 5)) := Ext.alloc _ _
  have hC : Cs (w.alloc (.cells (rowOf [.int .u8 0] (1 + zs n + 8)).toArray 5)) w.heap.size (bv (List.replicate (1 + zs n + 8) 0)) := ⟨5, by rw [alloc_new, bv_zero]⟩
  simp only [Int.toNat_natCast]
  generalize w.alloc (.cells (rowOf [.int .u8 0] (1 + zs n + 8)).toArray 5) = w1 at hE hC ⊢
  simp only [↓eBinI, ↓eDiv, ↓eShift, ↓eBinS, ↓ePick, ↓eNot, ↓eNeg, ↓eConv, ↓eConvS, ↓eExt0, ↓eExt1, ↓eExt2, ↓eFA, ↓eIA, ↓eLenSl, ↓eCapSl, ↓eLenS, ↓eMin, ↓eMax, ↓eCondT, ↓eCondF, ↓gIf_tt, ↓gIf_ff, ↓gIf_tf, ↓gIf_ft, ↓gIf_u, ↓gIfW_u, ↓gIfW_tt, ↓gIfW_ff, ↓gIfW_tf, ↓gIfW_ft, binI, divI, shiftI, add_mk, Nat.zero_add, cond_true, cond_false, decide_true, decide_false, Bool.not_true, Bool.not_false, Bool.and_true, Bool.true_and, Bool.and_false, Bool.false_and, Int.toNat_natCast, Nat.mul_one, tn0, Nat.zero_mul, add_mk]
  repeat ((with_reducible refine And.intro ?_ ?_); · first | omega | exact True.intro)
  refine hC.set (by rw [bv_len, List.length_replicate]; omega) rfl fun w2 c2 f2 => ?_
  have h2 := hE.tn f2 (fun x hx => by omega)
  refine num_Put_c (n := n * 8) (s := 8) (by omega) (by omega) (by omega) fun v3 w3 h3 o3 => ?_
  have e8 : (bv (List.replicate (1 + zs n + 8) 0)).set 0 (.int .u8 128) = bv (128 :: List.replicate (zs n) 0) ++ bv (List.replicate 8 0) := by
    rw [show 1 + zs n + 8 = (zs n + 8) + 1 by omega, List.replicate_succ, ← List.replicate_append_replicate]
    simp [bv]
  rw [e8] at c2
  have ho : Own .byte (fun _ => False) w.heap.size w3 (.slice (some ⟨w.heap.size, 0, none⟩) (1 + zs n) (1 + zs n + 8)) (128 :: List.replicate (zs n) 0) :=
    (c2.ext h3).own (Nat.le_refl _) (fun h => h) (by simp; omega) (by rw [bv_len, List.length_replicate])
  have hp := putF_len 8 (n * 8)
  refine ho.cat (h2.tr h3).size (fun h => h) rfl rfl (o3.rd2 (D' := fun _ => True) (fun _ _ => trivial) (fun _ _ _ _ => trivial) (show (putF (n * 8) 8).length < _ by omega)) (fun cs h => h.flat rfl) (by show _ ≤ _; simp [putF_len]; omega) fun v w4 hv hf _ => ?_
  exact h _ _ ((h2.tr h3).tn hf (fun x hx => hx.2)) hv
theorem ref_Pad7_c {n : Nat} (hn : n ≤ 100000) (h : ∀ v w', Ext w w' → Own .byte (fun _ => False) w.heap.size w' v (padS n) → K v w') : GCalls Tryd.prog 106 [.int .i64 n] K X w := by
  apply oublietteref07_Pad.calls; unfold oublietteref07_Pad.b
  have c1 : ¬ ((n : Int) < 0) := by omega
  have c2 : ¬ ((n : Int) > 1099511627776) := by omega
  have hz := zs_lt n
  simp only [↓eBinI, ↓eDiv, ↓eShift, ↓eBinS, ↓ePick, ↓eNot, ↓eNeg, ↓eConv, ↓eConvS, ↓eExt0, ↓eExt1, ↓eExt2, ↓eFA, ↓eIA, ↓eLenSl, ↓eCapSl, ↓eLenS, ↓eMin, ↓eMax, ↓eCondT, ↓eCondF, ↓gIf_tt, ↓gIf_ff, ↓gIf_tf, ↓gIf_ft, ↓gIf_u, ↓gIfW_u, ↓gIfW_tt, ↓gIfW_ff, ↓gIfW_tf, ↓gIfW_ft, binI, divI, shiftI, add_mk, Nat.zero_add, cond_true, cond_false, decide_true, decide_false, Bool.not_true, Bool.not_false, Bool.and_true, Bool.true_and, Bool.and_false, Bool.false_and, Int.toNat_natCast, Nat.mul_one, c1, c2]
  refine bslice1 rfl fun g w1 hg h1 c1 => ?_
  refine oublietteref07_Pad.loop1 (fun x3 w' => ∃ k, k ≤ zs n ∧ Ext w w' ∧ Own .byte (fun _ => False) w.heap.size w' x3 (128 :: List.replicate k 0)) (fun x3 _ => 64 - lenV x3) ⟨0, by omega, h1, Cs.own (rest := []) c1 (by omega) (fun h => h) rfl rfl⟩ ?_
  rintro x3 gg w2 ⟨k, hk, h2, ho⟩
  unfold oublietteref07_Pad.b1
  obtain ⟨a, c, rfl, hc⟩ := ho.form
  have hl : (128 :: List.replicate k 0 : List UInt8).length = 1 + k := by simp; omega
  simp only [hl] at ho hc ⊢
  have e4 : IntKind.i64.wrap ((n : Int) + ((1 + k : Nat) : Int)) = ((n + (1 + k) : Nat) : Int) := by rw [wrap64 (by omega) (by omega)]; omega
  have e1 : ((n + (1 + k) : Nat) : Int).tmod 64 = (((n + (1 + k)) % 64 : Nat) : Int) := by rw [Int.tmod_eq_emod_of_nonneg (by omega)]; omega
  have e6 : IntKind.u64.wrap (n : Int) = (n : Int) := wrapU64 (by omega) (by omega)
  have e7 : IntKind.u64.wrap ((n : Int) * 8) = ((n * 8 : Nat) : Int) := by rw [wrapU64 (by omega) (by omega)]; omega
  by_cases ck : k = zs n
  · subst ck
    have e8 : ((((n + (1 + zs n)) % 64 : Nat) : Int) != 56) = false := by rw [bne_eq_false_iff_eq]; unfold zs; omega
    simp only [↓eBinI, ↓eDiv, ↓eShift, ↓eBinS, ↓ePick, ↓eNot, ↓eNeg, ↓eConv, ↓eConvS, ↓eExt0, ↓eExt1, ↓eExt2, ↓eFA, ↓eIA, ↓eLenSl, ↓eCapSl, ↓eLenS, ↓eMin, ↓eMax, ↓eCondT, ↓eCondF, ↓gIf_tt, ↓gIf_ff, ↓gIf_tf, ↓gIf_ft, ↓gIf_u, ↓gIfW_u, ↓gIfW_tt, ↓gIfW_ff, ↓gIfW_tf, ↓gIfW_ft, binI, divI, shiftI, add_mk, Nat.zero_add, cond_true, cond_false, decide_true, decide_false, Bool.not_true, Bool.not_false, Bool.and_true, Bool.true_and, Bool.and_false, Bool.false_and, Int.toNat_natCast, Nat.mul_one, e4, e1, e6, e7, e8, ne_eq, show ¬ ((64 : Int) = 0) from by decide, not_false_eq_true, true_and]
    refine ref_Put_c (n := n * 8) (s := 8) (by omega) (by omega) (by omega) fun v3 w3 h3 o3 => ?_
    have hp := putF_len 8 (n * 8)
    refine (ho.ext h3).cat (h2.tr h3).size (fun h => h) rfl rfl (o3.rd2 (D' := fun _ => True) (fun _ _ => trivial) (fun _ _ _ _ => trivial) (show (putF (n * 8) 8).length < _ by omega)) (fun cs h => h.flat rfl) (by show _ ≤ _; simp [putF_len]; omega) fun v w4 hv hf _ => ?_
    exact h _ _ ((h2.tr h3).tn hf (fun x hx => hx.2)) hv
  · have e8 : ((((n + (1 + k)) % 64 : Nat) : Int) != 56) = true := by rw [bne_iff_ne]; unfold zs at hk ck; omega
    simp only [↓eBinI, ↓eDiv, ↓eShift, ↓eBinS, ↓ePick, ↓eNot, ↓eNeg, ↓eConv, ↓eConvS, ↓eExt0, ↓eExt1, ↓eExt2, ↓eFA, ↓eIA, ↓eLenSl, ↓eCapSl, ↓eLenS, ↓eMin, ↓eMax, ↓eCondT, ↓eCondF, ↓gIf_tt, ↓gIf_ff, ↓gIf_tf, ↓gIf_ft, ↓gIf_u, ↓gIfW_u, ↓gIfW_tt, ↓gIfW_ff, ↓gIfW_tf, ↓gIfW_ft, binI, divI, shiftI, add_mk, Nat.zero_add, cond_true, cond_false, decide_true, decide_false, Bool.not_true, Bool.not_false, Bool.and_true, Bool.true_and, Bool.and_false, Bool.false_and, Int.toNat_natCast, Nat.mul_one, e4, e1, e8, ne_eq, show ¬ ((64 : Int) = 0) from by decide, not_false_eq_true, true_and]
    refine bslice1 rfl fun g2 w3 hg2 h3 c3 => ?_
    refine (ho.ext h3).push1 c3 (x := (0 : UInt8)) (show [_] = [_] from rfl) (h2.tr h3).size (fun h => h) rfl (by show (2 * ((128 :: List.replicate k (0 : UInt8)).length + 1) + 192) * 1 ≤ _; rw [hl]; omega) fun v w4 hv hf _ => ?_
    have e9 : (128 :: List.replicate k (0 : UInt8)) ++ [0] = 128 :: List.replicate (k + 1) 0 := by rw [List.replicate_succ', List.cons_append]
    rw [e9] at hv
    refine oublietteref07_Pad.leaf1 ⟨k + 1, by omega, (h2.tr h3).tn hf (fun x hx => hx.2), hv⟩ ?_
    obtain ⟨a', c', rfl, _⟩ := hv.form
    simp [lenV]; omega
def firstF : List W32 := [0x6a09e667, 0xbb67ae85, 0x3c6ef372, 0xa54ff53a, 0x510e527f, 0x9b05688c, 0x1f83d9ab, 0x5be0cd19]
theorem First_c (h : ∀ w', Ext w w' → K (.agg ⟨us firstF⟩) w') : GCalls Tryd.prog 131 [] K X w := by
  apply sha_First.calls; unfold sha_First.b
  refine boxC (cs := us (List.replicate 8 0)) fun g w1 hg h1 c1 => ?_
  refine ⟨us firstF, rfl, ?_⟩
  refine c1.uSetN (l' := firstF) rfl rfl fun w2 c2 f2 => ?_
  rw [c2.ld (n := 8) rfl]
  exact h _ (h1.tn f2 (fun x hx => by omega))
set_option maxRecDepth 100000 in
theorem Table_c (h : ∀ w', Ext w w' → K (.agg ⟨us kT⟩) w') : GCalls Tryd.prog 105 [] K X w := by
  apply oublietteref07_Table.calls; unfold oublietteref07_Table.b
  refine boxC (cs := us (List.replicate 64 0)) fun g w1 hg h1 c1 => ?_
  refine ⟨us kT, rfl, ?_⟩
  refine c1.uSetN (l' := kT) rfl rfl fun w2 c2 f2 => ?_
  rw [c2.ld (n := 64) rfl]
  exact h _ (h1.tn f2 (fun x hx => by omega))
def hs (all : List UInt8) : Nat → List W32
  | 0 => firstF
  | n + 1 => blockF (hs all n) ((all.take (64 * n + 64)).drop (64 * n))
theorem hs_len (all : List UInt8) : ∀ n, (hs all n).length = 8
  | 0 => rfl
  | n + 1 => blockF_len (hs_len all n)
def outF (v : List W32) : List UInt8 := (v.map fun x => putF x.toNat 4).flatten
theorem outF_len : ∀ v : List W32, (outF v).length = 4 * v.length
  | [] => rfl
  | x :: r => by
    have : outF (x :: r) = putF x.toNat 4 ++ outF r := rfl
    rw [this, List.length_append, putF_len, outF_len r, List.length_cons]; omega
theorem outF_snoc (v : List W32) (x : W32) : outF (v ++ [x]) = outF v ++ putF x.toNat 4 := by simp [outF]
def allF (b : List UInt8) : List UInt8 := b ++ padS b.length
theorem allF_len (b : List UInt8) : (allF b).length = b.length + (1 + zs b.length + 8) := by rw [allF, List.length_append, padS_len]
def sumF (b : List UInt8) : List UInt8 := outF (hs (allF b) ((allF b).length / 64))
theorem sumF_len (b : List UInt8) : (sumF b).length = 32 := by rw [sumF, outF_len, hs_len]
end Go.Proofs.YtkpgmaiklfjjgaaDoor
