/-
  Derive of both sides.
-/
import Derived.Test.YtkpgmaiklfjjgaaDoorDm
set_option linter.unusedSimpArgs false
set_option linter.unusedVariables false
namespace Go.Proofs.YtkpgmaiklfjjgaaDoor
open Go Go.G Go.RowKit
variable {X : KX} {w : World} {K : KV} {D D' : Nat → Prop}
def preF : List UInt8 := [111, 117, 98, 108, 105, 101, 116, 116, 101, 32]
def infoF (l : List UInt8) : List UInt8 := putF 32 2 ++ [UInt8.ofNat (10 + l.length)] ++ (preF ++ l)
def deriveF (key l : List UInt8) : List UInt8 := ofF key (infoF l ++ [1])
theorem deriveF_len (key l : List UInt8) : (deriveF key l).length = 32 := ofF_len _ _
theorem infoF_len (l : List UInt8) : (infoF l).length = 13 + l.length := by simp [infoF, putF_len, preF]; omega
theorem ba_list (a b : ByteArray) : (a ++ b).data.toList = a.data.toList ++ b.data.toList := by simp
theorem ba_size (a : ByteArray) : a.size = a.data.toList.length := rfl
theorem Derive_c {xk : Value} {key : List UInt8} {l : ByteArray} (hk : KT w) (hvk : Rd (.slice .byte) D w [xk] key) (hkl : key.length ≤ 1000) (hll : l.data.toList.length ≤ 200)
    (h : ∀ v w', Ext w w' → Rd (.slice .byte) (w.heap.size ≤ ·) w' [v] (deriveF key l.data.toList) → K v w') : GCalls Tryd.prog 54 [xk, .string l] K X w := by
  apply kdf_Derive.calls; unfold kdf_Derive.b
  have hs : l.size = l.data.toList.length := rfl
  have ht : ((⟨#[111, 117, 98, 108, 105, 101, 116, 116, 101, 32]⟩ : ByteArray) ++ l).data.toList = preF ++ l.data.toList := by rw [ba_list]; rfl
  have hsz : ((⟨#[111, 117, 98, 108, 105, 101, 116, 116, 101, 32]⟩ : ByteArray) ++ l).size = 10 + l.data.toList.length := by rw [ba_size, ht, List.length_append]; rfl
  have hm : IntKind.i64.max = 9223372036854775807 := by decide
  simp only [↓eBinS, binS]
  refine ⟨by rw [hm, hs]; show (((10 + l.data.toList.length : Nat)) : Int) ≤ _; omega, ?_⟩
  generalize (⟨#[111, 117, 98, 108, 105, 101, 116, 116, 101, 32]⟩ : ByteArray) ++ l = tx at *
  refine num_Put_c (n := 32) (s := 2) (by omega) (by omega) (by omega) fun v1 w1 h1 o1 => ?_
  simp only [↓eBinI, ↓eDiv, ↓eShift, ↓eBinS, ↓ePick, ↓eNot, ↓eNeg, ↓eConv, ↓eConvS, ↓eExt0, ↓eExt1, ↓eExt2, ↓eFA, ↓eIA, ↓eLenSl, ↓eCapSl, ↓eLenS, ↓eMin, ↓eMax, ↓eCondT, ↓eCondF, ↓gIf_tt, ↓gIf_ff, ↓gIf_tf, ↓gIf_ft, ↓gIf_u, ↓gIfW_u, ↓gIfW_tt, ↓gIfW_ff, ↓gIfW_tf, ↓gIfW_ft, binI, divI, shiftI, add_mk, Nat.zero_add, cond_true, cond_false, decide_true, decide_false, Bool.not_true, Bool.not_false, Bool.and_true, Bool.true_and, Bool.and_false, Bool.false_and, Int.toNat_natCast, Nat.mul_one, hsz, wrapU8, u8_of]
  refine bslice1 rfl fun r w2 hr h2 c2 => ?_
  refine (o1.ext h2).push1 c2 (x := UInt8.ofNat (10 + l.data.toList.length)) (show [_] = [_] from rfl) (h1.tr h2).size (fun h => h) rfl (by show (2 * ((putF 32 2).length + 1) + 192) * 1 ≤ _; rw [putF_len]; omega) fun v3 w3 o3 f3 _ => ?_
  have h3 : Ext w w3 := (h1.tr h2).tn f3 (fun x hx => hx.2)
  refine catStr (B := w.heap.size) (s := tx) (o3.low (Nat.le_refl _)) h3.size (by rw [ht]; simp [putF_len, preF]; omega) fun v4 w4 o4 f4 => ?_
  have h4 : Ext w w4 := h3.tn f4 (fun x hx => hx.2)
  rw [ht] at o4
  have hil := infoF_len l.data.toList
  change G.Own .byte NoB w.heap.size w4 v4 (infoF l.data.toList) at o4
  refine Expand_c (hk.ext h4) (hvk.ext h4) (own_rd o4 (by show (infoF _).length < _; omega)) hkl (by omega) fun v5 w5 h5 r5 => ?_
  simp only [↓eBinI, ↓eDiv, ↓eShift, ↓eBinS, ↓ePick, ↓eNot, ↓eNeg, ↓eConv, ↓eConvS, ↓eExt0, ↓eExt1, ↓eExt2, ↓eFA, ↓eIA, ↓eLenSl, ↓eCapSl, ↓eLenS, ↓eMin, ↓eMax, ↓eCondT, ↓eCondF, ↓gIf_tt, ↓gIf_ff, ↓gIf_tf, ↓gIf_ft, ↓gIf_u, ↓gIfW_u, ↓gIfW_tt, ↓gIfW_ff, ↓gIfW_tf, ↓gIfW_ft, binI, divI, shiftI, add_mk, Nat.zero_add, cond_true, cond_false, decide_true, decide_false, Bool.not_true, Bool.not_false, Bool.and_true, Bool.true_and, Bool.and_false, Bool.false_and, Int.toNat_natCast, Nat.mul_one]
  exact h _ _ (h4.tr h5) (r5.wide (fun b hb => Nat.le_trans h4.size hb))
theorem fill3 {z0 z1 z2 a b c : Value} (ha : one a = true) (hb : one b = true) (hc : one c = true) : fillL [z0, z1, z2] [(0, 1, a), (1, 1, b), (2, 1, c)] = some [a, b, c] := by
  simp [fillL, one_cells ha, one_cells hb, one_cells hc, cutIn]
theorem ref_Derive_c {xk : Value} {key : List UInt8} {l : ByteArray} (hvk : Rd (.slice .byte) D w [xk] key) (hkl : key.length ≤ 1000) (hll : l.data.toList.length ≤ 200)
    (h : ∀ v w', Ext w w' → Rd (.slice .byte) (w.heap.size ≤ ·) w' [v] (deriveF key l.data.toList) → K v w') : GCalls Tryd.prog 15 [xk, .string l] K X w := by
  apply oublietteref09_Derive.calls; unfold oublietteref09_Derive.b
  have hs : l.size = l.data.toList.length := rfl
  have ht : ((⟨#[111, 117, 98, 108, 105, 101, 116, 116, 101, 32]⟩ : ByteArray) ++ l).data.toList = preF ++ l.data.toList := by rw [ba_list]; rfl
  have hsz : ((⟨#[111, 117, 98, 108, 105, 101, 116, 116, 101, 32]⟩ : ByteArray) ++ l).size = 10 + l.data.toList.length := by rw [ba_size, ht, List.length_append]; rfl
  have hm : IntKind.i64.max = 9223372036854775807 := by decide
  simp only [↓eBinS, binS]
  refine ⟨by rw [hm, hs]; show (((10 + l.data.toList.length : Nat)) : Int) ≤ _; omega, ?_⟩
  generalize (⟨#[111, 117, 98, 108, 105, 101, 116, 116, 101, 32]⟩ : ByteArray) ++ l = tx at *
  have e1 : ((10 + l.data.toList.length : Nat) : Int).tmod 256 = ((10 + l.data.toList.length : Nat) : Int) := by rw [Int.tmod_eq_emod_of_nonneg (by omega)]; omega
  simp only [↓eBinI, ↓eDiv, ↓eShift, ↓eBinS, ↓ePick, ↓eNot, ↓eNeg, ↓eConv, ↓eConvS, ↓eExt0, ↓eExt1, ↓eExt2, ↓eFA, ↓eIA, ↓eLenSl, ↓eCapSl, ↓eLenS, ↓eMin, ↓eMax, ↓eCondT, ↓eCondF, ↓gIf_tt, ↓gIf_ff, ↓gIf_tf, ↓gIf_ft, ↓gIf_u, ↓gIfW_u, ↓gIfW_tt, ↓gIfW_ff, ↓gIfW_tf, ↓gIfW_ft, binI, divI, shiftI, add_mk, Nat.zero_add, cond_true, cond_false, decide_true, decide_false, Bool.not_true, Bool.not_false, Bool.and_true, Bool.true_and, Bool.and_false, Bool.false_and, Int.toNat_natCast, Nat.mul_one, hsz, e1, wrapU8, u8_of, ne_eq, show ¬ ((256 : Int) = 0) from by decide, not_false_eq_true, true_and]
  refine Cs.bslice (cs := bv [0, 32, UInt8.ofNat (10 + l.data.toList.length)]) (fill3 rfl rfl rfl) fun g w1 hg h1 c1 => ?_
  have hrd : Rd (.slice .byte) Any1 w1 [.slice (some ⟨g, 0, none⟩) 3 3] [0, 32, UInt8.ofNat (10 + l.data.toList.length)] := Rd.of_rows (bv_rows Any1 w1 [0, 32, UInt8.ofNat (10 + l.data.toList.length)]) (fun _ h => h) (by simp) (by simp) fun i u hi => ⟨_, rfl, rfl, trivial, by rw [add_mk, Nat.zero_add, c1.c]; exact hi⟩
  refine bytesOf (by rw [ht]; simp [preF]; omega) fun v2 w2 h2 r2 => ?_
  rw [ht] at r2
  refine ref01_Join_c (hrd.ext h2) r2 (by show 3 + (preF ++ l.data.toList).length ≤ _; simp [preF]; omega) fun v3 w3 h3 o3 => ?_
  have hil := infoF_len l.data.toList
  have h13 := (h1.tr h2).tr h3
  have hin : [0, 32, UInt8.ofNat (10 + l.data.toList.length)] ++ (preF ++ l.data.toList) = infoF l.data.toList := by
    rw [infoF]; rfl
  rw [hin] at o3
  refine ref_Expand_c (hvk.ext h13) (own_rd o3 (by show (infoF _).length < _; omega)) hkl (by omega) fun v5 w5 h5 r5 => ?_
  simp only [↓eBinI, ↓eDiv, ↓eShift, ↓eBinS, ↓ePick, ↓eNot, ↓eNeg, ↓eConv, ↓eConvS, ↓eExt0, ↓eExt1, ↓eExt2, ↓eFA, ↓eIA, ↓eLenSl, ↓eCapSl, ↓eLenS, ↓eMin, ↓eMax, ↓eCondT, ↓eCondF, ↓gIf_tt, ↓gIf_ff, ↓gIf_tf, ↓gIf_ft, ↓gIf_u, ↓gIfW_u, ↓gIfW_tt, ↓gIfW_ff, ↓gIfW_tf, ↓gIfW_ft, binI, divI, shiftI, add_mk, Nat.zero_add, cond_true, cond_false, decide_true, decide_false, Bool.not_true, Bool.not_false, Bool.and_true, Bool.true_and, Bool.and_false, Bool.false_and, Int.toNat_natCast, Nat.mul_one]
  exact h _ _ (h13.tr h5) (r5.wide (fun b hb => Nat.le_trans h13.size hb))
end Go.Proofs.YtkpgmaiklfjjgaaDoor
