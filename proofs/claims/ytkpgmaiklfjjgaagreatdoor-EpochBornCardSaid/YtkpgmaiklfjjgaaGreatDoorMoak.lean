/-
  The rounds of a block, of both sides.
  The rounds of a block, of the program.
  What stands behind a text; the numbers; the reference's sum.
  The reference's sum.
-/
import Derived.Test.YtkpgmaiklfjjgaaGreatDoorMoaj
section
set_option linter.unusedSimpArgs false
set_option linter.unusedVariables false
namespace Go.Proofs.YtkpgmaiklfjjgaaGreatDoor
open Go Go.G
variable {X : KX} {w : World} {K : KV} {D D' : Nat → Prop}
def bs1 (x : W32) : W32 := ror x 6 ^^^ ror x 11 ^^^ ror x 25
def bs0 (x : W32) : W32 := ror x 2 ^^^ ror x 13 ^^^ ror x 22
def rnd (k m : W32) : List W32 → List W32
  | [a, b, c, d, e, f, g, h] =>
    let x := h + bs1 e + (e &&& f ^^^ ~~~e &&& g) + k + m
    let y := bs0 a + (a &&& b ^^^ a &&& c ^^^ b &&& c)
    [x + y, a, b, c, d + x, e, f, g]
  | v => v
theorem ch_eq (e f g : W32) : g ^^^ (e &&& (f ^^^ g)) = (e &&& f) ^^^ (~~~e &&& g) := by
  ext i hi
  simp only [BitVec.getElem_xor, BitVec.getElem_and, BitVec.getElem_not]
  cases e[i] <;> cases f[i] <;> cases g[i] <;> rfl
theorem maj_eq (a b c : W32) : (a &&& b) ||| (c &&& (a ||| b)) = (a &&& b) ^^^ (a &&& c) ^^^ (b &&& c) := by
  ext i hi
  simp only [BitVec.getElem_xor, BitVec.getElem_and, BitVec.getElem_or]
  cases a[i] <;> cases b[i] <;> cases c[i] <;> rfl
def kT : List W32 := [0x428a2f98, 0x71374491, 0xb5c0fbcf, 0xe9b5dba5, 0x3956c25b, 0x59f111f1, 0x923f82a4, 0xab1c5ed5,
    0xd807aa98, 0x12835b01, 0x243185be, 0x550c7dc3, 0x72be5d74, 0x80deb1fe, 0x9bdc06a7, 0xc19bf174,
    0xe49b69c1, 0xefbe4786, 0x0fc19dc6, 0x240ca1cc, 0x2de92c6f, 0x4a7484aa, 0x5cb0a9dc, 0x76f988da,
    0x983e5152, 0xa831c66d, 0xb00327c8, 0xbf597fc7, 0xc6e00bf3, 0xd5a79147, 0x06ca6351, 0x14292967,
    0x27b70a85, 0x2e1b2138, 0x4d2c6dfc, 0x53380d13, 0x650a7354, 0x766a0abb, 0x81c2c92e, 0x92722c85,
    0xa2bfe8a1, 0xa81a664b, 0xc24b8b70, 0xc76c51a3, 0xd192e819, 0xd6990624, 0xf40e3585, 0x106aa070,
    0x19a4c116, 0x1e376c08, 0x2748774c, 0x34b0bcb5, 0x391c0cb3, 0x4ed8aa4a, 0x5b9cca4f, 0x682e6ff3,
    0x748f82ee, 0x78a5636f, 0x84c87814, 0x8cc70208, 0x90befffa, 0xa4506ceb, 0xbef9a3f7, 0xc67178f2]
theorem kT_len : kT.length = 64 := rfl
/-- The numbers of the rounds lie at sha.k. -/
def KT (w : World) : Prop := ∀ i, (h : i < kT.length) → w.cell? ⟨2, i, none⟩ = some (u kT[i])
theorem KT.ext {w w' : World} (h : KT w) (e : Ext w w') : KT w' := fun i hi => e.cell (h i hi)
def rounds (ws v : List W32) : Nat → List W32
  | 0 => v
  | n + 1 => rnd (kT.getD n 0) (ws.getD n 0) (rounds ws v n)
theorem eight {l : List W32} (h : l.length = 8) : ∃ a b c d e f g i, l = [a, b, c, d, e, f, g, i] := by
  match l, h with
  | [a, b, c, d, e, f, g, i], _ => exact ⟨a, b, c, d, e, f, g, i, rfl⟩
theorem rnd_len {k m : W32} {v : List W32} (h : v.length = 8) : (rnd k m v).length = 8 := by
  obtain ⟨a, b, c, d, e, f, g, i, rfl⟩ := eight h; rfl
theorem rounds_len {ws v : List W32} (h : v.length = 8) : ∀ n, (rounds ws v n).length = 8
  | 0 => h
  | n + 1 => rnd_len (rounds_len h n)
/-- What a block makes of the eight words. -/
def addF (a b : List W32) : List W32 := List.zipWith (· + ·) a b
def blockF (v : List W32) (b : List UInt8) : List W32 := addF (rounds (wordsL b 64) v 64) v
theorem blockF_len {v : List W32} {b : List UInt8} (h : v.length = 8) : (blockF v b).length = 8 := by simp [blockF, addF, rounds_len h, h]
/-- The sums so far. -/
def adds (r v : List W32) (i : Nat) : List W32 := (addF r v).take i ++ r.drop i
theorem adds_len {r v : List W32} {i : Nat} (hr : r.length = 8) (hv : v.length = 8) (hi : i ≤ 8) : (adds r v i).length = 8 := by simp [adds, addF, hr, hv]; omega
theorem adds_get {r v : List W32} {i : Nat} (hr : r.length = 8) (hv : v.length = 8) (hi : i < 8) (h : i < (adds r v i).length) : (adds r v i)[i] = r[i] := by
  simp only [adds]
  rw [List.getElem_append_right (by simp [addF, hr, hv]; omega)]
  simp [addF, hr, hv, Nat.min_eq_left (Nat.le_of_lt hi)]
theorem adds_set {r v : List W32} {i : Nat} (hr : r.length = 8) (hv : v.length = 8) (hi : i < 8) : (adds r v i).set i (r[i] + v[i]) = adds r v (i + 1) := by
  have hl : (addF r v).length = 8 := by simp [addF, hr, hv]
  have e1 : r.drop i = r[i] :: r.drop (i + 1) := List.drop_eq_getElem_cons (by omega)
  have e2 : ((addF r v).take i).length = i := by rw [List.length_take]; omega
  rw [adds, e1, List.set_append_right _ _ (by omega), e2, Nat.sub_self, List.set_cons_zero, adds, List.take_succ_eq_append_getElem (by omega), List.append_assoc]
  simp [addF]
theorem cs8E {w : World} {g : Nat} {a b c d e f i j : W32} (h : Cs w g (us [a, b, c, d, e, f, i, j])) :
    (∀ K, pLd (Ext w) (.pointer (some ⟨g, 0, none⟩)) K = K (u a)) ∧
    (∀ K, pLd (Ext w) (.pointer (some ⟨g, 1, none⟩)) K = K (u b)) ∧
    (∀ K, pLd (Ext w) (.pointer (some ⟨g, 2, none⟩)) K = K (u c)) ∧
    (∀ K, pLd (Ext w) (.pointer (some ⟨g, 3, none⟩)) K = K (u d)) ∧
    (∀ K, pLd (Ext w) (.pointer (some ⟨g, 4, none⟩)) K = K (u e)) ∧
    (∀ K, pLd (Ext w) (.pointer (some ⟨g, 5, none⟩)) K = K (u f)) ∧
    (∀ K, pLd (Ext w) (.pointer (some ⟨g, 6, none⟩)) K = K (u i)) ∧
    (∀ K, pLd (Ext w) (.pointer (some ⟨g, 7, none⟩)) K = K (u j)) :=
  ⟨fun K => h.uE (i := 0) (show 0 < 8 by decide), fun K => h.uE (i := 1) (show 1 < 8 by decide), fun K => h.uE (i := 2) (show 2 < 8 by decide), fun K => h.uE (i := 3) (show 3 < 8 by decide), fun K => h.uE (i := 4) (show 4 < 8 by decide), fun K => h.uE (i := 5) (show 5 < 8 by decide), fun K => h.uE (i := 6) (show 6 < 8 by decide), fun K => h.uE (i := 7) (show 7 < 8 by decide)⟩
theorem cs8W {w : World} {g : Nat} {a b c d e f i j : W32} (h : Cs w g (us [a, b, c, d, e, f, i, j])) :
    (∀ K, pLd (· = w) (.pointer (some ⟨g, 0, none⟩)) K = K (u a)) ∧
    (∀ K, pLd (· = w) (.pointer (some ⟨g, 1, none⟩)) K = K (u b)) ∧
    (∀ K, pLd (· = w) (.pointer (some ⟨g, 2, none⟩)) K = K (u c)) ∧
    (∀ K, pLd (· = w) (.pointer (some ⟨g, 3, none⟩)) K = K (u d)) ∧
    (∀ K, pLd (· = w) (.pointer (some ⟨g, 4, none⟩)) K = K (u e)) ∧
    (∀ K, pLd (· = w) (.pointer (some ⟨g, 5, none⟩)) K = K (u f)) ∧
    (∀ K, pLd (· = w) (.pointer (some ⟨g, 6, none⟩)) K = K (u i)) ∧
    (∀ K, pLd (· = w) (.pointer (some ⟨g, 7, none⟩)) K = K (u j)) :=
  ⟨fun K => h.uW (i := 0) (show 0 < 8 by decide), fun K => h.uW (i := 1) (show 1 < 8 by decide), fun K => h.uW (i := 2) (show 2 < 8 by decide), fun K => h.uW (i := 3) (show 3 < 8 by decide), fun K => h.uW (i := 4) (show 4 < 8 by decide), fun K => h.uW (i := 5) (show 5 < 8 by decide), fun K => h.uW (i := 6) (show 6 < 8 by decide), fun K => h.uW (i := 7) (show 7 < 8 by decide)⟩
theorem tn0 : Int.toNat 0 = 0 := rfl
theorem tn1 : Int.toNat 1 = 1 := rfl
theorem tn2 : Int.toNat 2 = 2 := rfl
theorem tn3 : Int.toNat 3 = 3 := rfl
theorem tn4 : Int.toNat 4 = 4 := rfl
theorem tn5 : Int.toNat 5 = 5 := rfl
theorem tn6 : Int.toNat 6 = 6 := rfl
theorem tn7 : Int.toNat 7 = 7 := rfl
theorem getD_get {l : List W32} {i : Nat} (h : i < l.length) : l.getD i 0 = l[i] := by
  rw [List.getD_eq_getElem?_getD, List.getElem?_eq_getElem h]; rfl
set_option maxRecDepth 100000 in
set_option maxHeartbeats 2000000 in
theorem With_c {x2 : Value} {xs : List UInt8} {v : List W32} (hv : v.length = 8) (hx : Rd (.slice .byte) D w [x2] xs) (h64 : xs.length = 64) (h : ∀ w', Ext w w' → K (.agg ⟨us (blockF v xs)⟩) w') : GCalls Tryz.prog 86 [.agg ⟨us kT⟩, .agg ⟨us v⟩, x2] K X w := by
  obtain ⟨a, c, rfl, hc, hl⟩ := hx.form
  rw [h64] at hx
  apply oublietteref07_With.calls; unfold oublietteref07_With.b
  refine boxC (cs := us kT) fun g3 w3 hg3 h3 c3 => ?_
  refine boxC (cs := us v) fun g4 w4 hg4 h4 c4 => ?_
  refine boxC (cs := us (List.replicate 8 0)) fun g6 w6 hg6 h6 c6 => ?_
  have l3 := c3.lt; have l4 := c4.lt; have l6 := c6.lt
  simp only [↓eBinI, ↓eDiv, ↓eShift, ↓eBinS, ↓ePick, ↓eNot, ↓eNeg, ↓eConv, ↓eConvS, ↓eExt0, ↓eExt1, ↓eExt2, ↓eFA, ↓eIA, ↓eLenSl, ↓eCapSl, ↓eLenS, ↓eMin, ↓eMax, ↓eCondT, ↓eCondF, ↓gIf_tt, ↓gIf_ff, ↓gIf_tf, ↓gIf_ft, ↓gIf_u, ↓gIfW_u, ↓gIfW_tt, ↓gIfW_ff, ↓gIfW_tf, ↓gIfW_ft, binI, divI, shiftI, add_mk, Nat.zero_add, cond_true, cond_false, decide_true, decide_false, Bool.not_true, Bool.not_false, Bool.and_true, Bool.true_and, Bool.and_false, Bool.false_and, Int.toNat_natCast, Nat.mul_one, h64, show (((64 : Nat) : Int) != 64) = false from by decide]
  have hw6 := (h3.tr h4).tr h6
  refine ref_Words_c (hx.ext hw6) h64 fun w5 h5 => ?_
  have hz := h5.size
  refine boxC (cs := zero64) fun g7 w7 hg7 h7 c7 => ?_
  have l7 := c7.lt
  refine Cs.uSetN (l := List.replicate 64 0) c7 (wordsL_len _ _) (by simp) fun w8 c8 f8 => ?_
  have hz8 := f8.size
  have k8 : Ext w w8 := ((hw6.tr h5).tr h7).tn f8 (fun x hx => by have := hw6.size; omega)
  have c4' : Cs w8 g4 (us v) := ((((c4.ext h6).ext h5).ext h7).fr f8 (by omega))
  have c3' : Cs w8 g3 (us kT) := (((((c3.ext h4).ext h6).ext h5).ext h7).fr f8 (by omega))
  have c6' : Cs w8 g6 (us (List.replicate 8 0)) := (((c6.ext h5).ext h7).fr f8 (by omega))
  rw [c4'.ld (by rw [us_len]; exact hv)]
  refine boxC (cs := us (List.replicate 8 0)) fun g8 w9 hg8 h9 c9 => ?_
  have l9 := c9.lt
  refine c9.uSetN hv (by simp) fun w10 c10 f10 => ?_
  have k10 : Ext w w10 := (k8.tr h9).tn f10 (fun x hx => by have := k8.size; omega)
  generalize hws : wordsL xs 64 = ws at *
  have hwl : ws.length = 64 := by rw [← hws]; exact wordsL_len _ _
  refine oublietteref07_With.loop1 (fun x9 w' => ∃ i : Nat, i ≤ 64 ∧ x9 = .int .i64 i ∧ Ext w w' ∧ Cs w' g3 (us kT) ∧ Cs w' g4 (us v) ∧ Cs w' g6 (us (List.replicate 8 0)) ∧ Cs w' g7 (us ws) ∧ Cs w' g8 (us (rounds ws v i))) (fun x9 _ => 64 - (iv x9).toNat)
    ⟨0, by omega, rfl, k10, (c3'.ext h9).fr f10 (by omega), (c4'.ext h9).fr f10 (by omega), (c6'.ext h9).fr f10 (by omega), (c8.ext h9).fr f10 (by omega), c10⟩ ?_
  have hsz := k8.size
  clear c3 c4 c6 c7 c9 c8 c10 c3' c4' c6' f8 f10 h3 h4 h5 h6 h7 h9 k8 k10 hw6
  rintro x9 gg w1 ⟨i, hi, rfl, h1, c3, c4, c6, c7, c8⟩
  have hrl := rounds_len (ws := ws) hv i
  unfold oublietteref07_With.b1
  by_cases ci : (i : Int) < 64
  · have hi64 : i < 64 := by omega
    obtain ⟨a0, a1, a2, a3, a4, a5, a6, a7, hr⟩ := eight hrl
    rw [hr] at c8
    have hs : rounds ws v (i + 1) = rnd kT[i] ws[i] [a0, a1, a2, a3, a4, a5, a6, a7] := by rw [rounds, hr, getD_get (by rw [kT_len]; exact hi64), getD_get (by omega)]; rfl
    have e0 : IntKind.i64.wrap ((i : Int) + 1) = ((i + 1 : Nat) : Int) := by rw [wrap64 (by omega) (by omega)]; omega
    simp only [↓eBinI, ↓eDiv, ↓eShift, ↓eBinS, ↓ePick, ↓eNot, ↓eNeg, ↓eConv, ↓eConvS, ↓eExt0, ↓eExt1, ↓eExt2, ↓eFA, ↓eIA, ↓eLenSl, ↓eCapSl, ↓eLenS, ↓eMin, ↓eMax, ↓eCondT, ↓eCondF, ↓gIf_tt, ↓gIf_ff, ↓gIf_tf, ↓gIf_ft, ↓gIf_u, ↓gIfW_u, ↓gIfW_tt, ↓gIfW_ff, ↓gIfW_tf, ↓gIfW_ft, binI, divI, shiftI, add_mk, Nat.zero_add, cond_true, cond_false, decide_true, decide_false, Bool.not_true, Bool.not_false, Bool.and_true, Bool.true_and, Bool.and_false, Bool.false_and, Int.toNat_natCast, Nat.mul_one, ci]
    refine draw_ fun w2 h2 => ?_
    have c8 := c8.ext h2
    obtain ⟨q0, q1, q2, q3, q4, q5, q6, q7⟩ := cs8E c8
    simp only [↓eBinI, ↓eDiv, ↓eShift, ↓eBinS, ↓ePick, ↓eNot, ↓eNeg, ↓eConv, ↓eConvS, ↓eExt0, ↓eExt1, ↓eExt2, ↓eFA, ↓eIA, ↓eLenSl, ↓eCapSl, ↓eLenS, ↓eMin, ↓eMax, ↓eCondT, ↓eCondF, ↓gIf_tt, ↓gIf_ff, ↓gIf_tf, ↓gIf_ft, ↓gIf_u, ↓gIfW_u, ↓gIfW_tt, ↓gIfW_ff, ↓gIfW_tf, ↓gIfW_ft, binI, divI, shiftI, add_mk, Nat.zero_add, cond_true, cond_false, decide_true, decide_false, Bool.not_true, Bool.not_false, Bool.and_true, Bool.true_and, Bool.and_false, Bool.false_and, Int.toNat_natCast, Nat.mul_one, tn0, tn1, tn2, tn3, tn4, tn5, tn6, tn7, ↓eIAr, ↓q0, ↓q4]
    repeat ((with_reducible refine And.intro ?_ ?_); · first | omega | exact True.intro)
    refine draw_ fun w3 h3 => ?_
    have c8 := c8.ext h3
    have c3' := (c3.ext h2).ext h3
    have c7' := (c7.ext h2).ext h3
    obtain ⟨q0, q1, q2, q3, q4, q5, q6, q7⟩ := cs8E c8
    simp only [↓eBinI, ↓eDiv, ↓eShift, ↓eBinS, ↓ePick, ↓eNot, ↓eNeg, ↓eConv, ↓eConvS, ↓eExt0, ↓eExt1, ↓eExt2, ↓eFA, ↓eIA, ↓eLenSl, ↓eCapSl, ↓eLenS, ↓eMin, ↓eMax, ↓eCondT, ↓eCondF, ↓gIf_tt, ↓gIf_ff, ↓gIf_tf, ↓gIf_ft, ↓gIf_u, ↓gIfW_u, ↓gIfW_tt, ↓gIfW_ff, ↓gIfW_tf, ↓gIfW_ft, binI, divI, shiftI, add_mk, Nat.zero_add, cond_true, cond_false, decide_true, decide_false, Bool.not_true, Bool.not_false, Bool.and_true, Bool.true_and, Bool.and_false, Bool.false_and, Int.toNat_natCast, Nat.mul_one, tn0, tn1, tn2, tn3, tn4, tn5, tn6, tn7, ↓eIAr, ↓q5, ↓q6, ↓q7, ↓eUand, ↓eUinv, ↓eUxor, ↓c3'.uE (show i < _ by rw [kT_len]; exact hi64), ↓c7'.uE (show i < _ by omega)]
    repeat ((with_reducible refine And.intro ?_ ?_); · first | omega | exact True.intro)
    refine ref_right_c (n := 6) (by omega) (by omega) fun w4 h4 => ?_
    refine ⟨h4, ?_⟩
    refine ref_right_c (n := 11) (by omega) (by omega) fun w5 h5 => ?_
    refine ⟨h4.tr h5, ?_⟩
    simp only [↓eUxor]
    refine ref_right_c (n := 25) (by omega) (by omega) fun w6 h6 => ?_
    have h36 := (h4.tr h5).tr h6
    refine ⟨h36, ?_⟩
    simp only [↓eUxor, ↓eUadd]
    refine draw_ fun w7 h7 => ?_
    have c8 := (c8.ext h36).ext h7
    obtain ⟨q0, q1, q2, q3, q4, q5, q6, q7⟩ := cs8E c8
    simp only [↓eBinI, ↓eDiv, ↓eShift, ↓eBinS, ↓ePick, ↓eNot, ↓eNeg, ↓eConv, ↓eConvS, ↓eExt0, ↓eExt1, ↓eExt2, ↓eFA, ↓eIA, ↓eLenSl, ↓eCapSl, ↓eLenS, ↓eMin, ↓eMax, ↓eCondT, ↓eCondF, ↓gIf_tt, ↓gIf_ff, ↓gIf_tf, ↓gIf_ft, ↓gIf_u, ↓gIfW_u, ↓gIfW_tt, ↓gIfW_ff, ↓gIfW_tf, ↓gIfW_ft, binI, divI, shiftI, add_mk, Nat.zero_add, cond_true, cond_false, decide_true, decide_false, Bool.not_true, Bool.not_false, Bool.and_true, Bool.true_and, Bool.and_false, Bool.false_and, Int.toNat_natCast, Nat.mul_one, tn0, tn1, tn2, tn3, tn4, tn5, tn6, tn7, ↓eIAr, ↓q1, ↓q2, ↓eUand, ↓eUxor]
    repeat ((with_reducible refine And.intro ?_ ?_); · first | omega | exact True.intro)
    refine ref_right_c (n := 2) (by omega) (by omega) fun w8 h8 => ?_
    refine ⟨h8, ?_⟩
    refine ref_right_c (n := 13) (by omega) (by omega) fun w9 h9 => ?_
    refine ⟨h8.tr h9, ?_⟩
    simp only [↓eUxor]
    refine ref_right_c (n := 22) (by omega) (by omega) fun w10 h10 => ?_
    have h710 := (h8.tr h9).tr h10
    refine ⟨h710, ?_⟩
    simp only [↓eUxor, ↓eUadd]
    have c8 := c8.ext h710
    obtain ⟨q0, q1, q2, q3, q4, q5, q6, q7⟩ := cs8W c8
    simp only [↓eBinI, ↓eDiv, ↓eShift, ↓eBinS, ↓ePick, ↓eNot, ↓eNeg, ↓eConv, ↓eConvS, ↓eExt0, ↓eExt1, ↓eExt2, ↓eFA, ↓eIA, ↓eLenSl, ↓eCapSl, ↓eLenS, ↓eMin, ↓eMax, ↓eCondT, ↓eCondF, ↓gIf_tt, ↓gIf_ff, ↓gIf_tf, ↓gIf_ft, ↓gIf_u, ↓gIfW_u, ↓gIfW_tt, ↓gIfW_ff, ↓gIfW_tf, ↓gIfW_ft, binI, divI, shiftI, add_mk, Nat.zero_add, cond_true, cond_false, decide_true, decide_false, Bool.not_true, Bool.not_false, Bool.and_true, Bool.true_and, Bool.and_false, Bool.false_and, Int.toNat_natCast, Nat.mul_one, tn0, tn1, tn2, tn3, tn4, tn5, tn6, tn7, ↓eIAr, ↓q0, ↓q1, ↓q2, ↓q3, ↓q4, ↓q5, ↓q6, ↓eUadd]
    repeat ((with_reducible refine And.intro ?_ ?_); · first | omega | exact True.intro)
    refine ⟨us (rounds ws v (i + 1)), by rw [hs]; rfl, ?_⟩
    refine c8.uSetN (l' := rounds ws v (i + 1)) (by rw [rounds_len hv]; rfl) rfl fun w11 c11 f11 => ?_
    simp only [↓eBinI, ↓eDiv, ↓eShift, ↓eBinS, ↓ePick, ↓eNot, ↓eNeg, ↓eConv, ↓eConvS, ↓eExt0, ↓eExt1, ↓eExt2, ↓eFA, ↓eIA, ↓eLenSl, ↓eCapSl, ↓eLenS, ↓eMin, ↓eMax, ↓eCondT, ↓eCondF, ↓gIf_tt, ↓gIf_ff, ↓gIf_tf, ↓gIf_ft, ↓gIf_u, ↓gIfW_u, ↓gIfW_tt, ↓gIfW_ff, ↓gIfW_tf, ↓gIfW_ft, binI, divI, shiftI, add_mk, Nat.zero_add, cond_true, cond_false, decide_true, decide_false, Bool.not_true, Bool.not_false, Bool.and_true, Bool.true_and, Bool.and_false, Bool.false_and, Int.toNat_natCast, Nat.mul_one, e0]
    have h210 := (((h2.tr h3).tr h36).tr h7).tr h710
    refine oublietteref07_With.leaf1 ⟨i + 1, by omega, rfl, (h1.tr h210).tn f11 (fun x hx => by omega), (c3.ext h210).fr f11 (by omega), (c4.ext h210).fr f11 (by omega), (c6.ext h210).fr f11 (by omega), (c7.ext h210).fr f11 (by omega), c11⟩ (by simp only [iv]; omega)
  · simp only [↓eBinI, ↓eDiv, ↓eShift, ↓eBinS, ↓ePick, ↓eNot, ↓eNeg, ↓eConv, ↓eConvS, ↓eExt0, ↓eExt1, ↓eExt2, ↓eFA, ↓eIA, ↓eLenSl, ↓eCapSl, ↓eLenS, ↓eMin, ↓eMax, ↓eCondT, ↓eCondF, ↓gIf_tt, ↓gIf_ff, ↓gIf_tf, ↓gIf_ft, ↓gIf_u, ↓gIfW_u, ↓gIfW_tt, ↓gIfW_ff, ↓gIfW_tf, ↓gIfW_ft, binI, divI, shiftI, add_mk, Nat.zero_add, cond_true, cond_false, decide_true, decide_false, Bool.not_true, Bool.not_false, Bool.and_true, Bool.true_and, Bool.and_false, Bool.false_and, Int.toNat_natCast, Nat.mul_one, ci]
    have : i = 64 := by omega
    subst this
    refine oublietteref07_With.loop2 (fun x14 w' => ∃ i : Nat, i ≤ 8 ∧ x14 = .int .i64 i ∧ Ext w w' ∧ Cs w' g4 (us v) ∧ Cs w' g6 (us (List.replicate 8 0)) ∧ Cs w' g8 (us (adds (rounds ws v 64) v i))) (fun x14 _ => 8 - (iv x14).toNat) ⟨0, by omega, rfl, h1, c4, c6, c8⟩ ?_
    rintro x14 gg2 w2 ⟨i, hi, rfl, h2, c4, c6, c8⟩
    unfold oublietteref07_With.b2
    have hal := adds_len hrl hv hi
    by_cases ci : (i : Int) < 8
    · have e0 : IntKind.i64.wrap ((i : Int) + 1) = ((i + 1 : Nat) : Int) := by rw [wrap64 (by omega) (by omega)]; omega
      simp only [↓eBinI, ↓eDiv, ↓eShift, ↓eBinS, ↓ePick, ↓eNot, ↓eNeg, ↓eConv, ↓eConvS, ↓eExt0, ↓eExt1, ↓eExt2, ↓eFA, ↓eIA, ↓eLenSl, ↓eCapSl, ↓eLenS, ↓eMin, ↓eMax, ↓eCondT, ↓eCondF, ↓gIf_tt, ↓gIf_ff, ↓gIf_tf, ↓gIf_ft, ↓gIf_u, ↓gIfW_u, ↓gIfW_tt, ↓gIfW_ff, ↓gIfW_tf, ↓gIfW_ft, binI, divI, shiftI, add_mk, Nat.zero_add, cond_true, cond_false, decide_true, decide_false, Bool.not_true, Bool.not_false, Bool.and_true, Bool.true_and, Bool.and_false, Bool.false_and, Int.toNat_natCast, Nat.mul_one, ci]
      refine draw_ fun w3 h3 => ?_
      have c8 := c8.ext h3
      have c4' := c4.ext h3
      simp only [↓eBinI, ↓eDiv, ↓eShift, ↓eBinS, ↓ePick, ↓eNot, ↓eNeg, ↓eConv, ↓eConvS, ↓eExt0, ↓eExt1, ↓eExt2, ↓eFA, ↓eIA, ↓eLenSl, ↓eCapSl, ↓eLenS, ↓eMin, ↓eMax, ↓eCondT, ↓eCondF, ↓gIf_tt, ↓gIf_ff, ↓gIf_tf, ↓gIf_ft, ↓gIf_u, ↓gIfW_u, ↓gIfW_tt, ↓gIfW_ff, ↓gIfW_tf, ↓gIfW_ft, binI, divI, shiftI, add_mk, Nat.zero_add, cond_true, cond_false, decide_true, decide_false, Bool.not_true, Bool.not_false, Bool.and_true, Bool.true_and, Bool.and_false, Bool.false_and, Int.toNat_natCast, Nat.mul_one, ↓eIAr, ↓c8.uE (show i < _ by omega), ↓c4'.uE (show i < _ by omega), ↓eUadd]
      repeat ((with_reducible refine And.intro ?_ ?_); · first | omega | exact True.intro)
      refine c8.uSet (by omega) fun w4 c4'' f4 => ?_
      refine anew_ ?_
      simp only [↓eBinI, ↓eDiv, ↓eShift, ↓eBinS, ↓ePick, ↓eNot, ↓eNeg, ↓eConv, ↓eConvS, ↓eExt0, ↓eExt1, ↓eExt2, ↓eFA, ↓eIA, ↓eLenSl, ↓eCapSl, ↓eLenS, ↓eMin, ↓eMax, ↓eCondT, ↓eCondF, ↓gIf_tt, ↓gIf_ff, ↓gIf_tf, ↓gIf_ft, ↓gIf_u, ↓gIfW_u, ↓gIfW_tt, ↓gIfW_ff, ↓gIfW_tf, ↓gIfW_ft, binI, divI, shiftI, add_mk, Nat.zero_add, cond_true, cond_false, decide_true, decide_false, Bool.not_true, Bool.not_false, Bool.and_true, Bool.true_and, Bool.and_false, Bool.false_and, Int.toNat_natCast, Nat.mul_one, e0]
      refine oublietteref07_With.leaf2 ⟨i + 1, by omega, rfl, (h2.tr h3).tn f4 (fun x hx => by omega), c4'.fr f4 (by omega), (c6.ext h3).fr f4 (by omega), ?_⟩ (by simp only [iv]; omega)
      rw [adds_get hrl hv (by omega) (by omega), adds_set hrl hv (by omega)] at c4''
      exact c4''
    · simp only [↓eBinI, ↓eDiv, ↓eShift, ↓eBinS, ↓ePick, ↓eNot, ↓eNeg, ↓eConv, ↓eConvS, ↓eExt0, ↓eExt1, ↓eExt2, ↓eFA, ↓eIA, ↓eLenSl, ↓eCapSl, ↓eLenS, ↓eMin, ↓eMax, ↓eCondT, ↓eCondF, ↓gIf_tt, ↓gIf_ff, ↓gIf_tf, ↓gIf_ft, ↓gIf_u, ↓gIfW_u, ↓gIfW_tt, ↓gIfW_ff, ↓gIfW_tf, ↓gIfW_ft, binI, divI, shiftI, add_mk, Nat.zero_add, cond_true, cond_false, decide_true, decide_false, Bool.not_true, Bool.not_false, Bool.and_true, Bool.true_and, Bool.and_false, Bool.false_and, Int.toNat_natCast, Nat.mul_one, ci]
      have : i = 8 := by omega
      subst this
      have e : adds (rounds ws v 64) v 8 = blockF v xs := by
        rw [adds, blockF, hws, List.drop_of_length_le (by omega), List.take_of_length_le (by simp [addF, hrl, hv]), List.append_nil]
      rw [e] at c8
      have hbl := blockF_len (b := xs) hv
      rw [c8.ld (by rw [us_len]; exact hbl)]
      refine c6.uSetN hbl (by simp) fun w3 c3 f3 => ?_
      rw [c3.ld (by rw [us_len]; exact hbl)]
      exact h _ (h2.tn f3 (fun x hx => by omega))
end Go.Proofs.YtkpgmaiklfjjgaaGreatDoor
end
section
set_option linter.unusedSimpArgs false
set_option linter.unusedVariables false
namespace Go.Proofs.YtkpgmaiklfjjgaaGreatDoor
open Go Go.G
variable {X : KX} {w : World} {K : KV} {D D' : Nat → Prop}
theorem kTE {w : World} (h : KT w) {i : Nat} (hi : i < kT.length) {K : KP} : pLd (Ext w) (.pointer (some ⟨2, i, none⟩)) K = K (u kT[i]) := eLdE (h i hi)
theorem eIxU {l : List W32} {i : Nat} {K : KP} (hi : i < 64) (hl : l.length = 64) : pIx 64 (.agg ⟨us l⟩) (.int .i64 (i : Int)) K = K (u (l[i]'(by omega))) := by
  have hg : (⟨us l⟩ : Array Value)[((i : Nat) : Int).toNat]? = some (u (l[i]'(by omega))) := by
    rw [Int.toNat_natCast]
    have := us_get (l := l) (i := i) (by omega)
    simpa using this
  apply propext; constructor
  · rintro ⟨cs, k, j, v, e1, e2, h1, h2, h3, h⟩
    cases e1; cases e2
    rw [hg] at h3; cases h3
    exact h
  · intro h
    exact ⟨_, .i64, i, _, rfl, rfl, by omega, by omega, hg, h⟩
theorem eSlA {n size l h m : Nat} {a : Addr} {lo hi mx : Option Value} {K : KP} (hl : bnd 0 lo = some l) (hh : bnd n hi = some h) (hm : bnd n mx = some m) (h1 : l ≤ h) (h2 : h ≤ m) (h3 : m ≤ n) (h4 : mx.isSome = true → hi.isSome = true)
    (k : K (.slice (some (if m = l then a else a.add (l * size))) (h - l) (m - l))) : pSlA n size (.pointer (some a)) lo hi mx K := ⟨a, l, h, m, rfl, hl, hh, hm, h1, h2, h3, h4, k⟩
set_option maxRecDepth 100000 in
set_option maxHeartbeats 2000000 in
theorem Block_c {x2 : Value} {xs : List UInt8} {v : List W32} (hk : KT w) (hv : v.length = 8) (hx : Rd (.slice .byte) D w [x2] xs) (h64 : xs.length = 64) (h : ∀ w', Ext w w' → K (.agg ⟨us (blockF v xs)⟩) w') : GCalls Tryz.prog 118 [.agg ⟨us v⟩, x2] K X w := by
  obtain ⟨a, c, rfl, hc, hl⟩ := hx.form
  rw [h64] at hx
  apply sha_Block.calls; unfold sha_Block.b
  refine boxC (cs := us v) fun g4 w4 hg4 h4 c4 => ?_
  refine boxC (cs := us (List.replicate 8 0)) fun g6 w6 hg6 h6 c6 => ?_
  have l4 := c4.lt; have l6 := c6.lt
  simp only [↓eBinI, ↓eDiv, ↓eShift, ↓eBinS, ↓ePick, ↓eNot, ↓eNeg, ↓eConv, ↓eConvS, ↓eExt0, ↓eExt1, ↓eExt2, ↓eFA, ↓eIA, ↓eLenSl, ↓eCapSl, ↓eLenS, ↓eMin, ↓eMax, ↓eCondT, ↓eCondF, ↓gIf_tt, ↓gIf_ff, ↓gIf_tf, ↓gIf_ft, ↓gIf_u, ↓gIfW_u, ↓gIfW_tt, ↓gIfW_ff, ↓gIfW_tf, ↓gIfW_ft, binI, divI, shiftI, add_mk, Nat.zero_add, cond_true, cond_false, decide_true, decide_false, Bool.not_true, Bool.not_false, Bool.and_true, Bool.true_and, Bool.and_false, Bool.false_and, Int.toNat_natCast, Nat.mul_one, h64, show (((64 : Nat) : Int) != 64) = false from by decide]
  have hw6 := h4.tr h6
  have c4' := c4.ext h6
  rw [c4'.ld (by rw [us_len]; exact hv)]
  refine boxC (cs := us (List.replicate 8 0)) fun g8 w9 hg8 h9 c9 => ?_
  have l9 := c9.lt
  refine c9.uSetN hv (by simp) fun w10 c10 f10 => ?_
  have k10 : Ext w w10 := (hw6.tr h9).tn f10 (fun x hx => by have := hw6.size; omega)
  refine Words_c (hx.ext k10) h64 fun w5 h5 => ?_
  generalize hws : wordsL xs 64 = ws at *
  have hwl : ws.length = 64 := by rw [← hws]; exact wordsL_len _ _
  have hsz := hw6.size
  refine sha_Block.loop1 (fun x20 w' => ∃ i : Nat, i ≤ 64 ∧ x20 = .int .i64 i ∧ Ext w w' ∧ Cs w' g4 (us (rounds ws v i)) ∧ Cs w' g6 (us (List.replicate 8 0)) ∧ Cs w' g8 (us v)) (fun x20 _ => 64 - (iv x20).toNat)
    ⟨0, by omega, rfl, k10.tr h5, ((c4'.ext h9).fr f10 (by omega)).ext h5, ((c6.ext h9).fr f10 (by omega)).ext h5, c10.ext h5⟩ ?_
  clear c4 c6 c9 c10 c4' f10 h4 h5 h6 h9 k10 hw6
  rintro x20 gg w1 ⟨i, hi, rfl, h1, c4, c6, c8⟩
  have hrl := rounds_len (ws := ws) hv i
  unfold sha_Block.b1
  by_cases ci : (i : Int) < 64
  · have hi64 : i < 64 := by omega
    obtain ⟨a0, a1, a2, a3, a4, a5, a6, a7, hr⟩ := eight hrl
    rw [hr] at c4
    have hs : rounds ws v (i + 1) = rnd kT[i] ws[i] [a0, a1, a2, a3, a4, a5, a6, a7] := by rw [rounds, hr, getD_get (by rw [kT_len]; exact hi64), getD_get (by omega)]; rfl
    have e0 : IntKind.i64.wrap ((i : Int) + 1) = ((i + 1 : Nat) : Int) := by rw [wrap64 (by omega) (by omega)]; omega
    simp only [↓eBinI, ↓eDiv, ↓eShift, ↓eBinS, ↓ePick, ↓eNot, ↓eNeg, ↓eConv, ↓eConvS, ↓eExt0, ↓eExt1, ↓eExt2, ↓eFA, ↓eIA, ↓eLenSl, ↓eCapSl, ↓eLenS, ↓eMin, ↓eMax, ↓eCondT, ↓eCondF, ↓gIf_tt, ↓gIf_ff, ↓gIf_tf, ↓gIf_ft, ↓gIf_u, ↓gIfW_u, ↓gIfW_tt, ↓gIfW_ff, ↓gIfW_tf, ↓gIfW_ft, binI, divI, shiftI, add_mk, Nat.zero_add, cond_true, cond_false, decide_true, decide_false, Bool.not_true, Bool.not_false, Bool.and_true, Bool.true_and, Bool.and_false, Bool.false_and, Int.toNat_natCast, Nat.mul_one, ci, ↓eIxU hi64 hwl]
    refine draw_ fun w2 h2 => ?_
    have c4' := c4.ext h2
    obtain ⟨q0, q1, q2, q3, q4, q5, q6, q7⟩ := cs8E c4'
    simp only [↓eBinI, ↓eDiv, ↓eShift, ↓eBinS, ↓ePick, ↓eNot, ↓eNeg, ↓eConv, ↓eConvS, ↓eExt0, ↓eExt1, ↓eExt2, ↓eFA, ↓eIA, ↓eLenSl, ↓eCapSl, ↓eLenS, ↓eMin, ↓eMax, ↓eCondT, ↓eCondF, ↓gIf_tt, ↓gIf_ff, ↓gIf_tf, ↓gIf_ft, ↓gIf_u, ↓gIfW_u, ↓gIfW_tt, ↓gIfW_ff, ↓gIfW_tf, ↓gIfW_ft, binI, divI, shiftI, add_mk, Nat.zero_add, cond_true, cond_false, decide_true, decide_false, Bool.not_true, Bool.not_false, Bool.and_true, Bool.true_and, Bool.and_false, Bool.false_and, Int.toNat_natCast, Nat.mul_one, tn0, tn1, tn2, tn3, tn4, tn5, tn6, tn7, ↓eIAr, ↓q0, ↓q4]
    repeat ((with_reducible refine And.intro ?_ ?_); · first | omega | exact True.intro)
    refine draw_ fun w3 h3 => ?_
    have c4' := c4'.ext h3
    have hk3 := hk.ext ((h1.tr h2).tr h3)
    obtain ⟨q0, q1, q2, q3, q4, q5, q6, q7⟩ := cs8E c4'
    simp only [↓eBinI, ↓eDiv, ↓eShift, ↓eBinS, ↓ePick, ↓eNot, ↓eNeg, ↓eConv, ↓eConvS, ↓eExt0, ↓eExt1, ↓eExt2, ↓eFA, ↓eIA, ↓eLenSl, ↓eCapSl, ↓eLenS, ↓eMin, ↓eMax, ↓eCondT, ↓eCondF, ↓gIf_tt, ↓gIf_ff, ↓gIf_tf, ↓gIf_ft, ↓gIf_u, ↓gIfW_u, ↓gIfW_tt, ↓gIfW_ff, ↓gIfW_tf, ↓gIfW_ft, binI, divI, shiftI, add_mk, Nat.zero_add, cond_true, cond_false, decide_true, decide_false, Bool.not_true, Bool.not_false, Bool.and_true, Bool.true_and, Bool.and_false, Bool.false_and, Int.toNat_natCast, Nat.mul_one, tn0, tn1, tn2, tn3, tn4, tn5, tn6, tn7, ↓eIAr, ↓q5, ↓q6, ↓q7, ↓eUand, ↓eUxor, ↓kTE hk3 (show i < _ by rw [kT_len]; exact hi64)]
    repeat ((with_reducible refine And.intro ?_ ?_); · first | omega | exact True.intro)
    refine right_c (n := 6) (by omega) (by omega) ?_
    refine ⟨Fr.refl _ _, ?_⟩
    refine right_c (n := 11) (by omega) (by omega) ?_
    refine ⟨Fr.refl _ _, ?_⟩
    simp only [↓eUxor]
    refine right_c (n := 25) (by omega) (by omega) ?_
    refine ⟨Fr.refl _ _, ?_⟩
    simp only [↓eUxor, ↓eUadd]
    refine draw_ fun w7 h7 => ?_
    have c4' := c4'.ext h7
    obtain ⟨q0, q1, q2, q3, q4, q5, q6, q7⟩ := cs8E c4'
    simp only [↓eBinI, ↓eDiv, ↓eShift, ↓eBinS, ↓ePick, ↓eNot, ↓eNeg, ↓eConv, ↓eConvS, ↓eExt0, ↓eExt1, ↓eExt2, ↓eFA, ↓eIA, ↓eLenSl, ↓eCapSl, ↓eLenS, ↓eMin, ↓eMax, ↓eCondT, ↓eCondF, ↓gIf_tt, ↓gIf_ff, ↓gIf_tf, ↓gIf_ft, ↓gIf_u, ↓gIfW_u, ↓gIfW_tt, ↓gIfW_ff, ↓gIfW_tf, ↓gIfW_ft, binI, divI, shiftI, add_mk, Nat.zero_add, cond_true, cond_false, decide_true, decide_false, Bool.not_true, Bool.not_false, Bool.and_true, Bool.true_and, Bool.and_false, Bool.false_and, Int.toNat_natCast, Nat.mul_one, tn0, tn1, tn2, tn3, tn4, tn5, tn6, tn7, ↓eIAr, ↓q1, ↓q2, ↓eUand, ↓eUxor, ↓eUor]
    repeat ((with_reducible refine And.intro ?_ ?_); · first | omega | exact True.intro)
    refine right_c (n := 2) (by omega) (by omega) ?_
    refine ⟨Fr.refl _ _, ?_⟩
    refine right_c (n := 13) (by omega) (by omega) ?_
    refine ⟨Fr.refl _ _, ?_⟩
    simp only [↓eUxor]
    refine right_c (n := 22) (by omega) (by omega) ?_
    refine ⟨Fr.refl _ _, ?_⟩
    simp only [↓eUxor, ↓eUadd]
    refine drawS (· = g4) fun w8 h8 => ?_
    have c4' := c4'.ext h8
    refine eSlA (l := 1) (h := 8) (m := 8) (bnd_int (by omega)) bnd_none bnd_none (by omega) (by omega) (by omega) (by simp) ?_
    refine eSlA (l := 0) (h := 7) (m := 8) bnd_none (bnd_int (by omega)) bnd_none (by omega) (by omega) (by omega) (by simp) ?_
    rw [if_neg (by omega), if_neg (by omega)]
    simp only [add_mk, Nat.zero_add, Nat.mul_one, Nat.zero_mul, add_zero]
    refine c4'.copy (o := 1) (k := 7) (by rfl) (c4'.reads (o := 0) (k := 7) (by simp [us])) (by simp [us]) (by simp [us]) (fun x hx => us_one _ x (List.mem_of_mem_take hx)) fun w9 c9 f9 => ?_
    have c9 : Cs w9 g4 (us [a0, a0, a1, a2, a3, a4, a5, a6]) := c9
    refine ⟨f9, ?_⟩
    try simp only [↓eBinI, ↓eDiv, ↓eShift, ↓eBinS, ↓ePick, ↓eNot, ↓eNeg, ↓eConv, ↓eConvS, ↓eExt0, ↓eExt1, ↓eExt2, ↓eFA, ↓eIA, ↓eLenSl, ↓eCapSl, ↓eLenS, ↓eMin, ↓eMax, ↓eCondT, ↓eCondF, ↓gIf_tt, ↓gIf_ff, ↓gIf_tf, ↓gIf_ft, ↓gIf_u, ↓gIfW_u, ↓gIfW_tt, ↓gIfW_ff, ↓gIfW_tf, ↓gIfW_ft, binI, divI, shiftI, add_mk, Nat.zero_add, cond_true, cond_false, decide_true, decide_false, Bool.not_true, Bool.not_false, Bool.and_true, Bool.true_and, Bool.and_false, Bool.false_and, Int.toNat_natCast, Nat.mul_one, tn0, tn4, ↓eIAr, ↓eUadd]
    repeat ((with_reducible refine And.intro ?_ ?_); · first | omega | exact True.intro)
    refine c9.uSet (i := 0) (by simp) fun w10 c10 f10 => ?_
    simp only [List.set_cons_zero] at c10
    obtain ⟨q0, q1, q2, q3, q4, q5, q6, q7⟩ := cs8W c10
    simp only [↓eBinI, ↓eDiv, ↓eShift, ↓eBinS, ↓ePick, ↓eNot, ↓eNeg, ↓eConv, ↓eConvS, ↓eExt0, ↓eExt1, ↓eExt2, ↓eFA, ↓eIA, ↓eLenSl, ↓eCapSl, ↓eLenS, ↓eMin, ↓eMax, ↓eCondT, ↓eCondF, ↓gIf_tt, ↓gIf_ff, ↓gIf_tf, ↓gIf_ft, ↓gIf_u, ↓gIfW_u, ↓gIfW_tt, ↓gIfW_ff, ↓gIfW_tf, ↓gIfW_ft, binI, divI, shiftI, add_mk, Nat.zero_add, cond_true, cond_false, decide_true, decide_false, Bool.not_true, Bool.not_false, Bool.and_true, Bool.true_and, Bool.and_false, Bool.false_and, Int.toNat_natCast, Nat.mul_one, tn0, tn4, ↓eIAr, ↓q4, ↓eUadd]
    repeat ((with_reducible refine And.intro ?_ ?_); · first | omega | exact True.intro)
    refine c10.uSet (i := 4) (by simp) fun w11 c11 f11 => ?_
    simp only [List.set_cons_succ, List.set_cons_zero] at c11
    simp only [↓eBinI, ↓eDiv, ↓eShift, ↓eBinS, ↓ePick, ↓eNot, ↓eNeg, ↓eConv, ↓eConvS, ↓eExt0, ↓eExt1, ↓eExt2, ↓eFA, ↓eIA, ↓eLenSl, ↓eCapSl, ↓eLenS, ↓eMin, ↓eMax, ↓eCondT, ↓eCondF, ↓gIf_tt, ↓gIf_ff, ↓gIf_tf, ↓gIf_ft, ↓gIf_u, ↓gIfW_u, ↓gIfW_tt, ↓gIfW_ff, ↓gIfW_tf, ↓gIfW_ft, binI, divI, shiftI, add_mk, Nat.zero_add, cond_true, cond_false, decide_true, decide_false, Bool.not_true, Bool.not_false, Bool.and_true, Bool.true_and, Bool.and_false, Bool.false_and, Int.toNat_natCast, Nat.mul_one, e0]
    have h28 := ((h2.tr h3).tr h7).tr h8
    have f811 : Fr (· = g4) w8 w11 := (f9.trans f10 (fun _ _ h => h)).trans f11 (fun _ _ h => h)
    refine sha_Block.leaf1 ⟨i + 1, by omega, rfl, (h1.tr h28).tn f811 (fun x hx => by omega), ?_, (c6.ext h28).fr f811 (by omega), (c8.ext h28).fr f811 (by omega)⟩ (by simp only [iv]; omega)
    rw [hs]
    simp only [ch_eq, maj_eq] at c11
    exact c11
  · simp only [↓eBinI, ↓eDiv, ↓eShift, ↓eBinS, ↓ePick, ↓eNot, ↓eNeg, ↓eConv, ↓eConvS, ↓eExt0, ↓eExt1, ↓eExt2, ↓eFA, ↓eIA, ↓eLenSl, ↓eCapSl, ↓eLenS, ↓eMin, ↓eMax, ↓eCondT, ↓eCondF, ↓gIf_tt, ↓gIf_ff, ↓gIf_tf, ↓gIf_ft, ↓gIf_u, ↓gIfW_u, ↓gIfW_tt, ↓gIfW_ff, ↓gIfW_tf, ↓gIfW_ft, binI, divI, shiftI, add_mk, Nat.zero_add, cond_true, cond_false, decide_true, decide_false, Bool.not_true, Bool.not_false, Bool.and_true, Bool.true_and, Bool.and_false, Bool.false_and, Int.toNat_natCast, Nat.mul_one, ci]
    have : i = 64 := by omega
    subst this
    refine sha_Block.loop2 (fun x14 w' => ∃ i : Nat, i ≤ 8 ∧ x14 = .int .i64 i ∧ Ext w w' ∧ Cs w' g8 (us v) ∧ Cs w' g6 (us (List.replicate 8 0)) ∧ Cs w' g4 (us (adds (rounds ws v 64) v i))) (fun x14 _ => 8 - (iv x14).toNat) ⟨0, by omega, rfl, h1, c8, c6, c4⟩ ?_
    rintro x14 gg2 w2 ⟨i, hi, rfl, h2, c4, c6, c8⟩
    unfold sha_Block.b2
    have hal := adds_len hrl hv hi
    by_cases ci : (i : Int) < 8
    · have e0 : IntKind.i64.wrap ((i : Int) + 1) = ((i + 1 : Nat) : Int) := by rw [wrap64 (by omega) (by omega)]; omega
      simp only [↓eBinI, ↓eDiv, ↓eShift, ↓eBinS, ↓ePick, ↓eNot, ↓eNeg, ↓eConv, ↓eConvS, ↓eExt0, ↓eExt1, ↓eExt2, ↓eFA, ↓eIA, ↓eLenSl, ↓eCapSl, ↓eLenS, ↓eMin, ↓eMax, ↓eCondT, ↓eCondF, ↓gIf_tt, ↓gIf_ff, ↓gIf_tf, ↓gIf_ft, ↓gIf_u, ↓gIfW_u, ↓gIfW_tt, ↓gIfW_ff, ↓gIfW_tf, ↓gIfW_ft, binI, divI, shiftI, add_mk, Nat.zero_add, cond_true, cond_false, decide_true, decide_false, Bool.not_true, Bool.not_false, Bool.and_true, Bool.true_and, Bool.and_false, Bool.false_and, Int.toNat_natCast, Nat.mul_one, ci]
      refine draw_ fun w3 h3 => ?_
      have c8 := c8.ext h3
      have c4' := c4.ext h3
      simp only [↓eBinI, ↓eDiv, ↓eShift, ↓eBinS, ↓ePick, ↓eNot, ↓eNeg, ↓eConv, ↓eConvS, ↓eExt0, ↓eExt1, ↓eExt2, ↓eFA, ↓eIA, ↓eLenSl, ↓eCapSl, ↓eLenS, ↓eMin, ↓eMax, ↓eCondT, ↓eCondF, ↓gIf_tt, ↓gIf_ff, ↓gIf_tf, ↓gIf_ft, ↓gIf_u, ↓gIfW_u, ↓gIfW_tt, ↓gIfW_ff, ↓gIfW_tf, ↓gIfW_ft, binI, divI, shiftI, add_mk, Nat.zero_add, cond_true, cond_false, decide_true, decide_false, Bool.not_true, Bool.not_false, Bool.and_true, Bool.true_and, Bool.and_false, Bool.false_and, Int.toNat_natCast, Nat.mul_one, ↓eIAr, ↓c8.uE (show i < _ by omega), ↓c4'.uE (show i < _ by omega), ↓eUadd]
      repeat ((with_reducible refine And.intro ?_ ?_); · first | omega | exact True.intro)
      refine c8.uSet (by omega) fun w4 c4'' f4 => ?_
      refine anew_ ?_
      simp only [↓eBinI, ↓eDiv, ↓eShift, ↓eBinS, ↓ePick, ↓eNot, ↓eNeg, ↓eConv, ↓eConvS, ↓eExt0, ↓eExt1, ↓eExt2, ↓eFA, ↓eIA, ↓eLenSl, ↓eCapSl, ↓eLenS, ↓eMin, ↓eMax, ↓eCondT, ↓eCondF, ↓gIf_tt, ↓gIf_ff, ↓gIf_tf, ↓gIf_ft, ↓gIf_u, ↓gIfW_u, ↓gIfW_tt, ↓gIfW_ff, ↓gIfW_tf, ↓gIfW_ft, binI, divI, shiftI, add_mk, Nat.zero_add, cond_true, cond_false, decide_true, decide_false, Bool.not_true, Bool.not_false, Bool.and_true, Bool.true_and, Bool.and_false, Bool.false_and, Int.toNat_natCast, Nat.mul_one, e0]
      refine sha_Block.leaf2 ⟨i + 1, by omega, rfl, (h2.tr h3).tn f4 (fun x hx => by omega), c4'.fr f4 (by omega), (c6.ext h3).fr f4 (by omega), ?_⟩ (by simp only [iv]; omega)
      rw [adds_get hrl hv (by omega) (by omega), adds_set hrl hv (by omega)] at c4''
      exact c4''
    · simp only [↓eBinI, ↓eDiv, ↓eShift, ↓eBinS, ↓ePick, ↓eNot, ↓eNeg, ↓eConv, ↓eConvS, ↓eExt0, ↓eExt1, ↓eExt2, ↓eFA, ↓eIA, ↓eLenSl, ↓eCapSl, ↓eLenS, ↓eMin, ↓eMax, ↓eCondT, ↓eCondF, ↓gIf_tt, ↓gIf_ff, ↓gIf_tf, ↓gIf_ft, ↓gIf_u, ↓gIfW_u, ↓gIfW_tt, ↓gIfW_ff, ↓gIfW_tf, ↓gIfW_ft, binI, divI, shiftI, add_mk, Nat.zero_add, cond_true, cond_false, decide_true, decide_false, Bool.not_true, Bool.not_false, Bool.and_true, Bool.true_and, Bool.and_false, Bool.false_and, Int.toNat_natCast, Nat.mul_one, ci]
      have : i = 8 := by omega
      subst this
      have e : adds (rounds ws v 64) v 8 = blockF v xs := by
        rw [adds, blockF, hws, List.drop_of_length_le (by omega), List.take_of_length_le (by simp [addF, hrl, hv]), List.append_nil]
      rw [e] at c8
      have hbl := blockF_len (b := xs) hv
      rw [c8.ld (by rw [us_len]; exact hbl)]
      refine c6.uSetN hbl (by simp) fun w3 c3 f3 => ?_
      rw [c3.ld (by rw [us_len]; exact hbl)]
      exact h _ (h2.tn f3 (fun x hx => by omega))
end Go.Proofs.YtkpgmaiklfjjgaaGreatDoor
end
section
set_option linter.unusedSimpArgs false
set_option linter.unusedVariables false
namespace Go.Proofs.YtkpgmaiklfjjgaaGreatDoor
open Go Go.G
variable {X : KX} {w : World} {K : KV} {D D' : Nat → Prop}
def zs (n : Nat) : Nat := (119 - n % 64) % 64
def padS (n : Nat) : List UInt8 := 128 :: List.replicate (zs n) 0 ++ putF (n * 8) 8
theorem padS_len (n : Nat) : (padS n).length = 1 + zs n + 8 := by simp [padS, putF_len]; omega
theorem zs_lt (n : Nat) : zs n < 64 := Nat.mod_lt _ (by omega)
theorem Pad_c {n : Nat} (hn : n ≤ 100000) (h : ∀ v w', Ext w w' → G.Own .byte (fun _ => False) w.heap.size w' v (padS n) → K v w') : GCalls Tryz.prog 117 [.int .i64 n] K X w := by
  apply sha_Pad.calls; unfold sha_Pad.b
  have c1 : ¬ ((n : Int) < 0) := by omega
  have c2 : ¬ ((n : Int) > 1099511627776) := by omega
  have hz := zs_lt n
  have e1 : (n : Int).tmod 64 = ((n % 64 : Nat) : Int) := by rw [Int.tmod_eq_emod_of_nonneg (by omega)]; omega
  have e2 : IntKind.i64.wrap (119 - ((n % 64 : Nat) : Int)) = ((119 - n % 64 : Nat) : Int) := by rw [wrap64 (by omega) (by omega)]; omega
  have e3 : ((119 - n % 64 : Nat) : Int).tmod 64 = ((zs n : Nat) : Int) := by rw [Int.tmod_eq_emod_of_nonneg (by omega)]; unfold zs; omega
  have e4 : IntKind.i64.wrap (1 + ((zs n : Nat) : Int)) = ((1 + zs n : Nat) : Int) := by rw [wrap64 (by omega) (by omega)]; omega
  have e5 : IntKind.i64.wrap (((1 + zs n : Nat) : Int) + 8) = ((1 + zs n + 8 : Nat) : Int) := by rw [wrap64 (by omega) (by omega)]; omega
  have e6 : IntKind.u64.wrap (n : Int) = (n : Int) := wrapU64 (by omega) (by omega)
  have e7 : IntKind.u64.wrap ((n : Int) * 8) = ((n * 8 : Nat) : Int) := by rw [wrapU64 (by omega) (by omega)]; omega
  simp only [↓eBinI, ↓eDiv, ↓eShift, ↓eBinS, ↓ePick, ↓eNot, ↓eNeg, ↓eConv, ↓eConvS, ↓eExt0, ↓eExt1, ↓eExt2, ↓eFA, ↓eIA, ↓eLenSl, ↓eCapSl, ↓eLenS, ↓eMin, ↓eMax, ↓eCondT, ↓eCondF, ↓gIf_tt, ↓gIf_ff, ↓gIf_tf, ↓gIf_ft, ↓gIf_u, ↓gIfW_u, ↓gIfW_tt, ↓gIfW_ff, ↓gIfW_tf, ↓gIfW_ft, binI, divI, shiftI, add_mk, Nat.zero_add, cond_true, cond_false, decide_true, decide_false, Bool.not_true, Bool.not_false, Bool.and_true, Bool.true_and, Bool.and_false, Bool.false_and, Int.toNat_natCast, Nat.mul_one, c1, c2, e1, e2, e3, e4, e5, e6, e7, ne_eq, show ¬ ((64 : Int) = 0) from by decide, not_false_eq_true, true_and]
  refine ⟨.i64, .i64, _, _, rfl, rfl, by omega, by omega, by omega, by omega, ?_⟩
  have hE : Ext w (w.alloc (.cells (rowOf [.int .u8 0] (1 + zs n + 8)).toArray 5)) := Ext.alloc _ _
  have hC : Cs (w.alloc (.cells (rowOf [.int .u8 0] (1 + zs n + 8)).toArray 5)) w.heap.size (bv (List.replicate (1 + zs n + 8) 0)) := ⟨5, by rw [alloc_new, bv_zero]⟩
  simp only [Int.toNat_natCast]
  generalize w.alloc (.cells (rowOf [.int .u8 0] (1 + zs n + 8)).toArray 5) = w1 at hE hC ⊢
  simp only [↓eBinI, ↓eDiv, ↓eShift, ↓eBinS, ↓ePick, ↓eNot, ↓eNeg, ↓eConv, ↓eConvS, ↓eExt0, ↓eExt1, ↓eExt2, ↓eFA, ↓eIA, ↓eLenSl, ↓eCapSl, ↓eLenS, ↓eMin, ↓eMax, ↓eCondT, ↓eCondF, ↓gIf_tt, ↓gIf_ff, ↓gIf_tf, ↓gIf_ft, ↓gIf_u, ↓gIfW_u, ↓gIfW_tt, ↓gIfW_ff, ↓gIfW_tf, ↓gIfW_ft, binI, divI, shiftI, add_mk, Nat.zero_add, cond_true, cond_false, decide_true, decide_false, Bool.not_true, Bool.not_false, Bool.and_true, Bool.true_and, Bool.and_false, Bool.false_and, Int.toNat_natCast, Nat.mul_one, tn0, Nat.zero_mul, add_mk]
  repeat ((with_reducible refine And.intro ?_ ?_); · first | omega | exact True.intro)
  refine hC.set (by rw [bv_len, List.length_replicate]; omega) rfl fun w2 c2 f2 => ?_
  have h2 := hE.tn f2 (fun x hx => by omega)
  refine num_Put_c (n := n * 8) (s := 8) (by omega) (by omega) (by omega) fun v3 w3 h3 o3 => ?_
  have e8 : (bv (List.replicate (1 + zs n + 8) 0)).set 0 (.int .u8 128) = bv (128 :: List.replicate (zs n) 0) ++ bv (List.replicate 8 0) := by
    rw [show 1 + zs n + 8 = (zs n + 8) + 1 by omega, List.replicate_succ, ← List.replicate_append_replicate]
    simp [bv]
  rw [e8] at c2
  have ho : G.Own .byte (fun _ => False) w.heap.size w3 (.slice (some ⟨w.heap.size, 0, none⟩) (1 + zs n) (1 + zs n + 8)) (128 :: List.replicate (zs n) 0) :=
    (c2.ext h3).own (Nat.le_refl _) (fun h => h) (by simp; omega) (by rw [bv_len, List.length_replicate])
  have hp := putF_len 8 (n * 8)
  refine ho.cat (h2.tr h3).size (fun h => h) rfl rfl (o3.rd2 (D' := fun _ => True) (fun _ _ => trivial) (fun _ _ _ _ => trivial) (show (putF (n * 8) 8).length < _ by omega)) (fun cs h => h.flat rfl) (by show _ ≤ _; simp [putF_len]; omega) fun v w4 hv hf _ => ?_
  exact h _ _ ((h2.tr h3).tn hf (fun x hx => hx.2)) hv
theorem ref_Pad7_c {n : Nat} (hn : n ≤ 100000) (h : ∀ v w', Ext w w' → G.Own .byte (fun _ => False) w.heap.size w' v (padS n) → K v w') : GCalls Tryz.prog 85 [.int .i64 n] K X w := by
  apply oublietteref07_Pad.calls; unfold oublietteref07_Pad.b
  have c1 : ¬ ((n : Int) < 0) := by omega
  have c2 : ¬ ((n : Int) > 1099511627776) := by omega
  have hz := zs_lt n
  simp only [↓eBinI, ↓eDiv, ↓eShift, ↓eBinS, ↓ePick, ↓eNot, ↓eNeg, ↓eConv, ↓eConvS, ↓eExt0, ↓eExt1, ↓eExt2, ↓eFA, ↓eIA, ↓eLenSl, ↓eCapSl, ↓eLenS, ↓eMin, ↓eMax, ↓eCondT, ↓eCondF, ↓gIf_tt, ↓gIf_ff, ↓gIf_tf, ↓gIf_ft, ↓gIf_u, ↓gIfW_u, ↓gIfW_tt, ↓gIfW_ff, ↓gIfW_tf, ↓gIfW_ft, binI, divI, shiftI, add_mk, Nat.zero_add, cond_true, cond_false, decide_true, decide_false, Bool.not_true, Bool.not_false, Bool.and_true, Bool.true_and, Bool.and_false, Bool.false_and, Int.toNat_natCast, Nat.mul_one, c1, c2]
  refine bslice1 rfl fun g w1 hg h1 c1 => ?_
  refine oublietteref07_Pad.loop1 (fun x3 w' => ∃ k, k ≤ zs n ∧ Ext w w' ∧ G.Own .byte (fun _ => False) w.heap.size w' x3 (128 :: List.replicate k 0)) (fun x3 _ => 64 - lenV x3) ⟨0, by omega, h1, Cs.own (rest := []) c1 (by omega) (fun h => h) rfl rfl⟩ ?_
  rintro x3 gg w2 ⟨k, hk, h2, ho⟩
  unfold oublietteref07_Pad.b1
  obtain ⟨a, c, rfl, hc⟩ := ho.form
  have hl : (128 :: List.replicate k 0 : List UInt8).length = 1 + k := by simp; omega
  simp only [hl] at ho hc ⊢
  have e4 : IntKind.i64.wrap ((n : Int) + ((1 + k : Nat) : Int)) = ((n + (1 + k) : Nat) : Int) := by rw [wrap64 (by omega) (by omega)]; omega
  have e1 : ((n + (1 + k) : Nat) : Int).tmod 64 = (((n + (1 + k)) % 64 : Nat) : Int) := by rw [Int.tmod_eq_emod_of_nonneg (by omega)]; omega
  have e6 : IntKind.u64.wrap (n : Int) = (n : Int) := wrapU64 (by omega) (by omega)
  have e7 : IntKind.u64.wrap ((n : Int) * 8) = ((n * 8 : Nat) : Int) := by rw [wrapU64 (by omega) (by omega)]; omega
  by_cases ck : k = zs n
  · subst ck
    have e8 : ((((n + (1 + zs n)) % 64 : Nat) : Int) != 56) = false := by rw [bne_eq_false_iff_eq]; unfold zs; omega
    simp only [↓eBinI, ↓eDiv, ↓eShift, ↓eBinS, ↓ePick, ↓eNot, ↓eNeg, ↓eConv, ↓eConvS, ↓eExt0, ↓eExt1, ↓eExt2, ↓eFA, ↓eIA, ↓eLenSl, ↓eCapSl, ↓eLenS, ↓eMin, ↓eMax, ↓eCondT, ↓eCondF, ↓gIf_tt, ↓gIf_ff, ↓gIf_tf, ↓gIf_ft, ↓gIf_u, ↓gIfW_u, ↓gIfW_tt, ↓gIfW_ff, ↓gIfW_tf, ↓gIfW_ft, binI, divI, shiftI, add_mk, Nat.zero_add, cond_true, cond_false, decide_true, decide_false, Bool.not_true, Bool.not_false, Bool.and_true, Bool.true_and, Bool.and_false, Bool.false_and, Int.toNat_natCast, Nat.mul_one, e4, e1, e6, e7, e8, ne_eq, show ¬ ((64 : Int) = 0) from by decide, not_false_eq_true, true_and]
    refine ref_Put_c (n := n * 8) (s := 8) (by omega) (by omega) (by omega) fun v3 w3 h3 o3 => ?_
    have hp := putF_len 8 (n * 8)
    refine (ho.ext h3).cat (h2.tr h3).size (fun h => h) rfl rfl (o3.rd2 (D' := fun _ => True) (fun _ _ => trivial) (fun _ _ _ _ => trivial) (show (putF (n * 8) 8).length < _ by omega)) (fun cs h => h.flat rfl) (by show _ ≤ _; simp [putF_len]; omega) fun v w4 hv hf _ => ?_
    exact h _ _ ((h2.tr h3).tn hf (fun x hx => hx.2)) hv
  · have e8 : ((((n + (1 + k)) % 64 : Nat) : Int) != 56) = true := by rw [bne_iff_ne]; unfold zs at hk ck; omega
    simp only [↓eBinI, ↓eDiv, ↓eShift, ↓eBinS, ↓ePick, ↓eNot, ↓eNeg, ↓eConv, ↓eConvS, ↓eExt0, ↓eExt1, ↓eExt2, ↓eFA, ↓eIA, ↓eLenSl, ↓eCapSl, ↓eLenS, ↓eMin, ↓eMax, ↓eCondT, ↓eCondF, ↓gIf_tt, ↓gIf_ff, ↓gIf_tf, ↓gIf_ft, ↓gIf_u, ↓gIfW_u, ↓gIfW_tt, ↓gIfW_ff, ↓gIfW_tf, ↓gIfW_ft, binI, divI, shiftI, add_mk, Nat.zero_add, cond_true, cond_false, decide_true, decide_false, Bool.not_true, Bool.not_false, Bool.and_true, Bool.true_and, Bool.and_false, Bool.false_and, Int.toNat_natCast, Nat.mul_one, e4, e1, e8, ne_eq, show ¬ ((64 : Int) = 0) from by decide, not_false_eq_true, true_and]
    refine bslice1 rfl fun g2 w3 hg2 h3 c3 => ?_
    refine (ho.ext h3).push1 c3 (x := (0 : UInt8)) (show [_] = [_] from rfl) (h2.tr h3).size (fun h => h) rfl (by show (2 * ((128 :: List.replicate k (0 : UInt8)).length + 1) + 192) * 1 ≤ _; rw [hl]; omega) fun v w4 hv hf _ => ?_
    have e9 : (128 :: List.replicate k (0 : UInt8)) ++ [0] = 128 :: List.replicate (k + 1) 0 := by rw [List.replicate_succ', List.cons_append]
    rw [e9] at hv
    refine oublietteref07_Pad.leaf1 ⟨k + 1, by omega, (h2.tr h3).tn hf (fun x hx => hx.2), hv⟩ ?_
    obtain ⟨a', c', rfl, _⟩ := hv.form
    simp [lenV]; omega
def firstF : List W32 := [0x6a09e667, 0xbb67ae85, 0x3c6ef372, 0xa54ff53a, 0x510e527f, 0x9b05688c, 0x1f83d9ab, 0x5be0cd19]
theorem First_c (h : ∀ w', Ext w w' → K (.agg ⟨us firstF⟩) w') : GCalls Tryz.prog 115 [] K X w := by
  apply sha_First.calls; unfold sha_First.b
  refine boxC (cs := us (List.replicate 8 0)) fun g w1 hg h1 c1 => ?_
  refine ⟨us firstF, rfl, ?_⟩
  refine c1.uSetN (l' := firstF) rfl rfl fun w2 c2 f2 => ?_
  rw [c2.ld (n := 8) rfl]
  exact h _ (h1.tn f2 (fun x hx => by omega))
set_option maxRecDepth 100000 in
theorem Table_c (h : ∀ w', Ext w w' → K (.agg ⟨us kT⟩) w') : GCalls Tryz.prog 84 [] K X w := by
  apply oublietteref07_Table.calls; unfold oublietteref07_Table.b
  refine boxC (cs := us (List.replicate 64 0)) fun g w1 hg h1 c1 => ?_
  refine ⟨us kT, rfl, ?_⟩
  refine c1.uSetN (l' := kT) rfl rfl fun w2 c2 f2 => ?_
  rw [c2.ld (n := 64) rfl]
  exact h _ (h1.tn f2 (fun x hx => by omega))
def hs (all : List UInt8) : Nat → List W32
  | 0 => firstF
  | n + 1 => blockF (hs all n) ((all.take (64 * n + 64)).drop (64 * n))
theorem hs_len (all : List UInt8) : ∀ n, (hs all n).length = 8
  | 0 => rfl
  | n + 1 => blockF_len (hs_len all n)
def outF (v : List W32) : List UInt8 := (v.map fun x => putF x.toNat 4).flatten
theorem outF_len : ∀ v : List W32, (outF v).length = 4 * v.length
  | [] => rfl
  | x :: r => by
    have : outF (x :: r) = putF x.toNat 4 ++ outF r := rfl
    rw [this, List.length_append, putF_len, outF_len r, List.length_cons]; omega
theorem outF_snoc (v : List W32) (x : W32) : outF (v ++ [x]) = outF v ++ putF x.toNat 4 := by simp [outF]
def allF (b : List UInt8) : List UInt8 := b ++ padS b.length
theorem allF_len (b : List UInt8) : (allF b).length = b.length + (1 + zs b.length + 8) := by rw [allF, List.length_append, padS_len]
def sumF (b : List UInt8) : List UInt8 := outF (hs (allF b) ((allF b).length / 64))
theorem sumF_len (b : List UInt8) : (sumF b).length = 32 := by rw [sumF, outF_len, hs_len]
end Go.Proofs.YtkpgmaiklfjjgaaGreatDoor
end
section
set_option linter.unusedSimpArgs false
set_option linter.unusedVariables false
namespace Go.Proofs.YtkpgmaiklfjjgaaGreatDoor
open Go Go.G
variable {X : KX} {w : World} {K : KV} {D D' : Nat → Prop}
theorem allF_mod (b : List UInt8) : (allF b).length % 64 = 0 := by
  rw [allF_len]; unfold zs; omega
set_option maxRecDepth 100000 in
set_option maxHeartbeats 1000000 in
theorem ref_Sum_c {x : Value} {b : List UInt8} (hx : Rd (.slice .byte) D w [x] b) (hb : b.length ≤ 100000) (h : ∀ v w', Ext w w' → G.Own .byte (fun _ => False) w.heap.size w' v (sumF b) → K v w') : GCalls Tryz.prog 74 [x] K X w := by
  obtain ⟨a, c, rfl, hc, hl⟩ := hx.form
  apply oublietteref07_Sum.calls; unfold oublietteref07_Sum.b
  refine Table_c fun w1 h1 => ?_
  refine boxC (cs := us (List.replicate 64 0)) fun g3 w2 hg3 h2 c2 => ?_
  have l3 := c2.lt
  refine c2.uSetN (l' := kT) rfl rfl fun w3 c3 f3 => ?_
  have k3 : Ext w w3 := (h1.tr h2).tn f3 (fun x hx => by have := h1.size; omega)
  refine ⟨us firstF, rfl, ?_⟩
  refine boxC (cs := us (List.replicate 8 0)) fun g4 w4 hg4 h4 c4 => ?_
  have l4 := c4.lt
  have hz3 := f3.size
  refine c4.uSetN (l' := firstF) rfl rfl fun w5 c5 f5 => ?_
  have k5 : Ext w w5 := (k3.tr h4).tn f5 (fun x hx => by have := k3.size; omega)
  have c35 : Cs w5 g3 (us kT) := (c3.ext h4).fr f5 (by omega)
  simp only [↓eBinI, ↓eDiv, ↓eShift, ↓eBinS, ↓ePick, ↓eNot, ↓eNeg, ↓eConv, ↓eConvS, ↓eExt0, ↓eExt1, ↓eExt2, ↓eFA, ↓eIA, ↓eLenSl, ↓eCapSl, ↓eLenS, ↓eMin, ↓eMax, ↓eCondT, ↓eCondF, ↓gIf_tt, ↓gIf_ff, ↓gIf_tf, ↓gIf_ft, ↓gIf_u, ↓gIfW_u, ↓gIfW_tt, ↓gIfW_ff, ↓gIfW_tf, ↓gIfW_ft, binI, divI, shiftI, add_mk, Nat.zero_add, cond_true, cond_false, decide_true, decide_false, Bool.not_true, Bool.not_false, Bool.and_true, Bool.true_and, Bool.and_false, Bool.false_and, Int.toNat_natCast, Nat.mul_one]
  refine ref_Pad7_c hb fun v6 w6 h6 o6 => ?_
  have hpl := padS_len b.length
  have hzl := zs_lt b.length
  refine ref01_Join_c (hx.ext (k5.tr h6)) (o6.rd2 (D' := fun _ => True) (fun _ _ => trivial) (fun _ _ _ _ => trivial) (show (padS b.length).length < _ by omega)) (by show b.length + (padS b.length).length ≤ _; omega) fun v7 w7 h7 o7 => ?_
  have hal : (allF b).length = b.length + (1 + zs b.length + 8) := allF_len b
  have ham := allF_mod b
  change G.Own .byte (fun _ => False) w6.heap.size w7 v7 (allF b) at o7
  have k7 := (k5.tr h6).tr h7
  have s5 := f5.size; have s6 := h6.size; have sk := k3.size
  obtain ⟨a7, c7, rfl, hc7⟩ := o7.form
  refine oublietteref07_Sum.loop1 (fun x6 w' => ∃ n : Nat, 64 * n ≤ (allF b).length ∧ x6 = .int .i64 ((64 * n : Nat) : Int) ∧ Ext w w' ∧ Cs w' g3 (us kT) ∧ Cs w' g4 (us (hs (allF b) n)) ∧ G.Own .byte (fun _ => False) w6.heap.size w' (.slice a7 (allF b).length c7) (allF b)) (fun x6 _ => ((allF b).length - iv x6).toNat)
    ⟨0, by omega, rfl, k7, (c35.ext h6).ext h7, (c5.ext h6).ext h7, o7⟩ ?_
  clear c2 c3 c4 c5 c35 o7 o6 f3 f5 h1 h2 h4 h6 h7 k3 k5 k7
  rintro x6 gg w1 ⟨n, hn, rfl, h1, c3, c4, o1⟩
  unfold oublietteref07_Sum.b1
  have hhl := hs_len (allF b) n
  have e1 : IntKind.i64.wrap (((64 * n : Nat) : Int) + 64) = ((64 * n + 64 : Nat) : Int) := by rw [wrap64 (by omega) (by omega)]; omega
  simp only [↓eBinI, ↓eDiv, ↓eShift, ↓eBinS, ↓ePick, ↓eNot, ↓eNeg, ↓eConv, ↓eConvS, ↓eExt0, ↓eExt1, ↓eExt2, ↓eFA, ↓eIA, ↓eLenSl, ↓eCapSl, ↓eLenS, ↓eMin, ↓eMax, ↓eCondT, ↓eCondF, ↓gIf_tt, ↓gIf_ff, ↓gIf_tf, ↓gIf_ft, ↓gIf_u, ↓gIfW_u, ↓gIfW_tt, ↓gIfW_ff, ↓gIfW_tf, ↓gIfW_ft, binI, divI, shiftI, add_mk, Nat.zero_add, cond_true, cond_false, decide_true, decide_false, Bool.not_true, Bool.not_false, Bool.and_true, Bool.true_and, Bool.and_false, Bool.false_and, Int.toNat_natCast, Nat.mul_one, e1]
  by_cases cn : ((64 * n + 64 : Nat) : Int) ≤ ((allF b).length : Int)
  · have e2 : (((64 * n + 64 : Nat) : Int) ≤ ((allF b).length : Int)) = True := eq_true cn
    simp only [↓eBinI, ↓eDiv, ↓eShift, ↓eBinS, ↓ePick, ↓eNot, ↓eNeg, ↓eConv, ↓eConvS, ↓eExt0, ↓eExt1, ↓eExt2, ↓eFA, ↓eIA, ↓eLenSl, ↓eCapSl, ↓eLenS, ↓eMin, ↓eMax, ↓eCondT, ↓eCondF, ↓gIf_tt, ↓gIf_ff, ↓gIf_tf, ↓gIf_ft, ↓gIf_u, ↓gIfW_u, ↓gIfW_tt, ↓gIfW_ff, ↓gIfW_tf, ↓gIfW_ft, binI, divI, shiftI, add_mk, Nat.zero_add, cond_true, cond_false, decide_true, decide_false, Bool.not_true, Bool.not_false, Bool.and_true, Bool.true_and, Bool.and_false, Bool.false_and, Int.toNat_natCast, Nat.mul_one, e2]
    refine draw_ fun w2 h2 => ?_
    rw [(c3.ext h2).ldE (n := 64) rfl, (c4.ext h2).ldE (n := 8) (by rw [us_len]; exact hhl)]
    refine eSl (l := 64 * n) (h := 64 * n + 64) (m := c7) (bnd_int (by omega)) (bnd_int (by omega)) bnd_none (by omega) (by omega) (by omega) (by simp) ?_
    have hr := (o1.ext h2).rd2 (D' := fun _ => True) (fun _ _ => trivial) (fun _ _ _ _ => trivial) (show (allF b).length < _ by omega)
    have hcut := hr.cut (l := 64 * n) (e := 64 * n + 64) (m := c7) (by omega) (by omega) (by omega) (Nat.le_refl _)
    refine With_c hhl hcut (by rw [List.length_drop, List.length_take]; omega) fun w3 h3 => ?_
    refine anew_ ?_
    refine ((c4.ext h2).ext h3).uSetN (l' := hs (allF b) (n + 1)) (by rw [hs_len, hs_len]) hhl fun w4 c5 f4 => ?_
    refine anew_ ?_
    have e3 : IntKind.i64.wrap (((64 * n : Nat) : Int) + 64) = ((64 * (n + 1) : Nat) : Int) := by rw [e1]; omega
    try simp only [↓eBinI, ↓eDiv, ↓eShift, ↓eBinS, ↓ePick, ↓eNot, ↓eNeg, ↓eConv, ↓eConvS, ↓eExt0, ↓eExt1, ↓eExt2, ↓eFA, ↓eIA, ↓eLenSl, ↓eCapSl, ↓eLenS, ↓eMin, ↓eMax, ↓eCondT, ↓eCondF, ↓gIf_tt, ↓gIf_ff, ↓gIf_tf, ↓gIf_ft, ↓gIf_u, ↓gIfW_u, ↓gIfW_tt, ↓gIfW_ff, ↓gIfW_tf, ↓gIfW_ft, binI, divI, shiftI, add_mk, Nat.zero_add, cond_true, cond_false, decide_true, decide_false, Bool.not_true, Bool.not_false, Bool.and_true, Bool.true_and, Bool.and_false, Bool.false_and, Int.toNat_natCast, Nat.mul_one, e1]
    refine oublietteref07_Sum.leaf1 ⟨n + 1, by omega, by congr 1, (h1.tr (h2.tr h3)).tn f4 (fun x hx => by omega), (c3.ext (h2.tr h3)).fr f4 (by omega), c5, (o1.ext (h2.tr h3)).fr f4 (fun _ h => h.elim) (fun b' hb' hB => by omega)⟩ (by simp only [iv]; omega)
  · have e2 : (((64 * n + 64 : Nat) : Int) ≤ ((allF b).length : Int)) = False := eq_false cn
    simp only [↓eBinI, ↓eDiv, ↓eShift, ↓eBinS, ↓ePick, ↓eNot, ↓eNeg, ↓eConv, ↓eConvS, ↓eExt0, ↓eExt1, ↓eExt2, ↓eFA, ↓eIA, ↓eLenSl, ↓eCapSl, ↓eLenS, ↓eMin, ↓eMax, ↓eCondT, ↓eCondF, ↓gIf_tt, ↓gIf_ff, ↓gIf_tf, ↓gIf_ft, ↓gIf_u, ↓gIfW_u, ↓gIfW_tt, ↓gIfW_ff, ↓gIfW_tf, ↓gIfW_ft, binI, divI, shiftI, add_mk, Nat.zero_add, cond_true, cond_false, decide_true, decide_false, Bool.not_true, Bool.not_false, Bool.and_true, Bool.true_and, Bool.and_false, Bool.false_and, Int.toNat_natCast, Nat.mul_one, e2]
    have hn' : n = (allF b).length / 64 := by omega
    refine oublietteref07_Sum.loop2 (fun x7 x8 w' => ∃ i : Nat, i ≤ 8 ∧ x8 = .int .i64 i ∧ Ext w w' ∧ Cs w' g4 (us (hs (allF b) n)) ∧ G.Own .byte (fun _ => False) w.heap.size w' x7 (outF ((hs (allF b) n).take i)) ∧ (∀ g, Blk x7 g → g4 < g)) (fun _ x8 _ => 8 - (iv x8).toNat)
      ⟨0, by omega, rfl, h1, c4, G.Own.nil, by rintro g ⟨_, _, _, h, _⟩; cases h⟩ ?_
    rintro x7 x8 gg2 w2 ⟨i, hi, rfl, h2, c4, o2, hg⟩
    unfold oublietteref07_Sum.b2
    by_cases ci : (i : Int) < 8
    · have e0 : IntKind.i64.wrap ((i : Int) + 1) = ((i + 1 : Nat) : Int) := by rw [wrap64 (by omega) (by omega)]; omega
      have hlt : ((hs (allF b) n)[i]'(by omega)).toNat < 4294967296 := ((hs (allF b) n)[i]'(by omega)).isLt
      have e5 : IntKind.u64.wrap ((((hs (allF b) n)[i]'(by omega)).toNat : Nat) : Int) = ((((hs (allF b) n)[i]'(by omega)).toNat : Nat) : Int) := wrapU64 (by omega) (by omega)
      simp only [↓eBinI, ↓eDiv, ↓eShift, ↓eBinS, ↓ePick, ↓eNot, ↓eNeg, ↓eConv, ↓eConvS, ↓eExt0, ↓eExt1, ↓eExt2, ↓eFA, ↓eIA, ↓eLenSl, ↓eCapSl, ↓eLenS, ↓eMin, ↓eMax, ↓eCondT, ↓eCondF, ↓gIf_tt, ↓gIf_ff, ↓gIf_tf, ↓gIf_ft, ↓gIf_u, ↓gIfW_u, ↓gIfW_tt, ↓gIfW_ff, ↓gIfW_tf, ↓gIfW_ft, binI, divI, shiftI, add_mk, Nat.zero_add, cond_true, cond_false, decide_true, decide_false, Bool.not_true, Bool.not_false, Bool.and_true, Bool.true_and, Bool.and_false, Bool.false_and, Int.toNat_natCast, Nat.mul_one, ci, ↓eIAr, ↓c4.uW (show i < _ by omega), ↓eU64]
      repeat ((with_reducible refine And.intro ?_ ?_); · first | omega | exact True.intro)
      refine ref_Put_c (s := 4) (by omega) (by omega) (by omega) fun v3 w3 h3 o3 => ?_
      have hp := putF_len 4 ((hs (allF b) n)[i]'(by omega)).toNat
      have hol := outF_len ((hs (allF b) n).take i)
      have htl : ((hs (allF b) n).take i).length = i := by rw [List.length_take]; omega
      have l4 := c4.lt
      refine (o2.ext h3).cat (h2.tr h3).size (fun h => h) rfl rfl (o3.rd2 (D' := fun _ => True) (fun _ _ => trivial) (fun _ _ _ _ => trivial) (show (putF _ 4).length < _ by omega)) (fun cs h => h.flat rfl) (by show (2 * ((outF _).length + (putF _ 4).length) + 192) * 1 ≤ _; omega) fun v w4 hv hf hbk => ?_
      try simp only [↓eBinI, ↓eDiv, ↓eShift, ↓eBinS, ↓ePick, ↓eNot, ↓eNeg, ↓eConv, ↓eConvS, ↓eExt0, ↓eExt1, ↓eExt2, ↓eFA, ↓eIA, ↓eLenSl, ↓eCapSl, ↓eLenS, ↓eMin, ↓eMax, ↓eCondT, ↓eCondF, ↓gIf_tt, ↓gIf_ff, ↓gIf_tf, ↓gIf_ft, ↓gIf_u, ↓gIfW_u, ↓gIfW_tt, ↓gIfW_ff, ↓gIfW_tf, ↓gIfW_ft, binI, divI, shiftI, add_mk, Nat.zero_add, cond_true, cond_false, decide_true, decide_false, Bool.not_true, Bool.not_false, Bool.and_true, Bool.true_and, Bool.and_false, Bool.false_and, Int.toNat_natCast, Nat.mul_one, e0]
      refine oublietteref07_Sum.leaf2 ⟨i + 1, by omega, rfl, (h2.tr h3).tn hf (fun x hx => hx.2), (c4.ext h3).fr hf (fun hx => by have := hg _ hx.1; omega), ?_, ?_⟩ (by simp only [iv]; omega)
      · rw [List.take_succ_eq_append_getElem (by omega), outF_snoc]; exact hv
      · intro g hgb
        rcases hbk g hgb with h | h
        · exact hg g h
        · have := h3.size; omega
    · simp only [↓eBinI, ↓eDiv, ↓eShift, ↓eBinS, ↓ePick, ↓eNot, ↓eNeg, ↓eConv, ↓eConvS, ↓eExt0, ↓eExt1, ↓eExt2, ↓eFA, ↓eIA, ↓eLenSl, ↓eCapSl, ↓eLenS, ↓eMin, ↓eMax, ↓eCondT, ↓eCondF, ↓gIf_tt, ↓gIf_ff, ↓gIf_tf, ↓gIf_ft, ↓gIf_u, ↓gIfW_u, ↓gIfW_tt, ↓gIfW_ff, ↓gIfW_tf, ↓gIfW_ft, binI, divI, shiftI, add_mk, Nat.zero_add, cond_true, cond_false, decide_true, decide_false, Bool.not_true, Bool.not_false, Bool.and_true, Bool.true_and, Bool.and_false, Bool.false_and, Int.toNat_natCast, Nat.mul_one, ci]
      have : i = 8 := by omega
      subst this
      rw [List.take_of_length_le (by omega), hn'] at o2
      exact h _ _ h2 o2
end Go.Proofs.YtkpgmaiklfjjgaaGreatDoor
end
