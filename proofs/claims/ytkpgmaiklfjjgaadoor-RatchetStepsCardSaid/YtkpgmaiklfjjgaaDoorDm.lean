/-
  Keys that are derived, of both sides.
-/
import Derived.Test.YtkpgmaiklfjjgaaDoorDl
set_option linter.unusedSimpArgs false
set_option linter.unusedVariables false
namespace Go.Proofs.YtkpgmaiklfjjgaaDoor
open Go Go.G Go.RowKit
variable {X : KX} {w : World} {K : KV} {D D' : Nat → Prop}
theorem KT.fr {T : Nat → Prop} {w w' : World} (h : KT w) (e : Fr T w w') (hT : ¬ T 2) : KT w' := fun i hi => e.cell (h i hi) hT
theorem next_tail {w1 w2 : World} {v k : Value} {key info : List UInt8} {r : Nat} (h12 : Ext w1 w2) (o : G.Own .byte NoB w1.heap.size w2 v info) (c : Cs w2 r [.int .u8 1]) (hk : KT w1) (hkey : Rd (.slice .byte) D w1 [k] key) (hkl : key.length ≤ 1000) (hil : info.length ≤ 800)
    (h : ∀ v w', Ext w1 w' → G.Own .byte NoB w1.heap.size w' v (ofF key (info ++ [1])) → K v w') : pApp 5 1 1 [.int .u8 0] v (.slice (some ⟨r, 0, none⟩) 1 1) w2 fun t14 w => Ext w1 w ∧ pCall Tryd.prog 96 [k, t14] X w fun t15 w => Ext w1 w ∧ K t15 w := by
  refine o.push1 c (x := (1 : UInt8)) (show [_] = [_] from rfl) h12.size (fun h => h) rfl (by show (2 * (info.length + 1) + 192) * 1 ≤ _; omega) fun v' w' o' f' _ => ?_
  have h1 : Ext w1 w' := h12.tn f' (fun x hx => hx.2)
  refine ⟨h1, ?_⟩
  refine Of_c (hk.ext h1) (hkey.ext h1) hkl (own_rd o' (by show (info ++ [1]).length < _; simp; omega)) (by simp; omega) fun v2 w2 h2 o2 => ?_
  exact ⟨h1.tr h2, h _ _ (h1.tr h2) (o2.low h1.size)⟩
theorem two_rd {g : Nat} {v1 v2 : Value} {xs ys : List UInt8} (c : Cs w g [v1, v2]) (h1 : Rd (.slice .byte) D w [v1] xs) (h2 : Rd (.slice .byte) D' w [v2] ys) : Rd (.slice (.slice .byte)) Any1 w [.slice (some ⟨g, 0, none⟩) 2 2] [xs, ys] := by
  have hr : RdL (.slice .byte) Any1 w [v1, v2] [xs, ys] := ⟨[v1], [v2], rfl, h1.wide (fun _ _ => trivial), [v2], [], rfl, h2.wide (fun _ _ => trivial), rfl⟩
  exact Rd.of_rows hr (fun _ h => h) (show 2 ≤ 2 by omega) (show 2 < _ by omega) fun i u hi => ⟨_, rfl, rfl, trivial, by rw [add_mk, Nat.zero_add, c.c]; exact hi⟩
theorem nil_rd (D : Nat → Prop) (w : World) : Rd (.slice .byte) D w [.slice none 0 0] ([] : List UInt8) := ⟨none, 0, rfl, Nat.le_refl _, by show 0 < _; omega, fun h => absurd rfl h⟩
theorem next_c {g3 g8 g4 : Nat} {vk vi : Value} {key info : List UInt8} (c3 : Cs w g3 [vk]) (c8 : Cs w g8 [.slice none 0 0]) (c4 : Cs w g4 [vi]) (hk : KT w) (hvk : Rd (.slice .byte) D w [vk] key) (hvi : Rd (.slice .byte) D' w [vi] info) (hkl : key.length ≤ 1000) (hil : info.length ≤ 800)
    (h : ∀ v w', Ext w w' → G.Own .byte NoB w.heap.size w' v (ofF key (info ++ [1])) → K v w') : GCalls Tryd.prog 95 [.int .i64 1, .pointer (some ⟨g3, 0, none⟩), .pointer (some ⟨g8, 0, none⟩), .pointer (some ⟨g4, 0, none⟩)] K X w := by
  apply kdf_Expand_c1.calls; unfold kdf_Expand_c1.b
  refine draw_ fun w1 h1 => ?_
  rw [(c3.ext h1).e0, (c8.ext h1).e0, (c4.ext h1).e0]
  have e1 : IntKind.u8.wrap 1 = 1 := by decide
  simp only [↓eBinI, ↓eDiv, ↓eShift, ↓eBinS, ↓ePick, ↓eNot, ↓eNeg, ↓eConv, ↓eConvS, ↓eExt0, ↓eExt1, ↓eExt2, ↓eFA, ↓eIA, ↓eLenSl, ↓eCapSl, ↓eLenS, ↓eMin, ↓eMax, ↓eCondT, ↓eCondF, ↓gIf_tt, ↓gIf_ff, ↓gIf_tf, ↓gIf_ft, ↓gIf_u, ↓gIfW_u, ↓gIfW_tt, ↓gIfW_ff, ↓gIfW_tf, ↓gIfW_ft, binI, divI, shiftI, add_mk, Nat.zero_add, cond_true, cond_false, decide_true, decide_false, Bool.not_true, Bool.not_false, Bool.and_true, Bool.true_and, Bool.and_false, Bool.false_and, Int.toNat_natCast, Nat.mul_one, e1]
  have hk1 := hk.ext h1
  have r1 := hvk.ext h1
  have r2 := hvi.ext h1
  obtain ⟨ai, ci, ei, _, _⟩ := hvi.form
  have hfin : ∀ v w', Ext w1 w' → G.Own .byte NoB w1.heap.size w' v (ofF key (info ++ [1])) → K v w' := fun v w' a b => h v w' (h1.tr a) (b.low h1.size)
  have hfl : [([] : List UInt8), info].flatten = info := by simp
  have conc : ∀ {g : Nat} {w2 : World} {K2 : KV}, Ext w1 w2 → Cs w2 g [.slice none 0 0, vi] → (∀ v w3, Ext w2 w3 → G.Own .byte NoB w1.heap.size w3 v info → K2 v w3) → pCall Tryd.prog 97 [.slice (some ⟨g, 0, none⟩) 2 2] X w2 K2 := by
    intro g w2 K2 h12 c hk2
    refine Concat_c (two_rd c (nil_rd D w2) (r2.ext h12)) (show 2 ≤ _ by omega) (fun i hi => by
      match i, hi with
      | 0, _ => show 0 ≤ 1000; omega
      | 1, _ => show info.length ≤ 1000; omega) fun v w3 h3 o3 => ?_
    rw [hfl] at o3
    exact hk2 _ _ h3 (o3.low h12.size)
  have f2 : fillL (rowOf [.slice none 0 0] 2) [(0, 1, (.slice none 0 0)), (1, 1, vi)] = some [.slice none 0 0, vi] := fill2 rfl (by rw [ei]; rfl)
  refine ⟨?_, ?_⟩
  · refine Cs.bslice f2 fun g w2 hg h2 c2 => ?_
    refine ⟨h2, ?_, ?_⟩
    · refine conc h2 c2 fun v w3 h3 o3 => ?_
      refine ⟨h2.tr h3, ?_⟩
      refine bslice1 rfl fun r w4 hr h4 c4' => ?_
      exact ⟨(h2.tr h3).tr h4, next_tail ((h2.tr h3).tr h4) (o3.ext h4) c4' hk1 r1 hkl hil hfin⟩
    · refine bslice1 rfl fun r w3 hr h3 c3' => ?_
      refine ⟨h2.tr h3, ?_⟩
      refine conc (h2.tr h3) (c2.ext h3) fun v w4 h4 o4 => ?_
      exact ⟨(h2.tr h3).tr h4, next_tail ((h2.tr h3).tr h4) o4 (c3'.ext h4) hk1 r1 hkl hil hfin⟩
  · refine bslice1 rfl fun r w2 hr h2 c2' => ?_
    refine ⟨h2, ?_⟩
    refine Cs.bslice f2 fun g w3 hg h3 c3' => ?_
    refine ⟨h2.tr h3, ?_⟩
    refine conc (h2.tr h3) c3' fun v w4 h4 o4 => ?_
    exact ⟨(h2.tr h3).tr h4, next_tail ((h2.tr h3).tr h4) o4 ((c2'.ext h3).ext h4) hk1 r1 hkl hil hfin⟩
theorem Expand_c {xk xi : Value} {key info : List UInt8} (hk : KT w) (hvk : Rd (.slice .byte) D w [xk] key) (hvi : Rd (.slice .byte) D' w [xi] info) (hkl : key.length ≤ 1000) (hil : info.length ≤ 800)
    (h : ∀ v w', Ext w w' → Rd (.slice .byte) (w.heap.size ≤ ·) w' [v] (ofF key (info ++ [1])) → K (.tuple #[v, .int .i64 0]) w') : GCalls Tryd.prog 79 [xk, xi, .int .i64 32] K X w := by
  obtain ⟨ak, ck, ek, _, _⟩ := hvk.form
  obtain ⟨ai, ci, ei, _, _⟩ := hvi.form
  apply kdf_Expand.calls; unfold kdf_Expand.b
  refine boxV (by rw [ek]; rfl) fun g3 w1 hg1 h1 c1 => ?_
  refine boxV (by rw [ei]; rfl) fun g4 w2 hg2 h2 c2 => ?_
  simp only [↓eBinI, ↓eDiv, ↓eShift, ↓eBinS, ↓ePick, ↓eNot, ↓eNeg, ↓eConv, ↓eConvS, ↓eExt0, ↓eExt1, ↓eExt2, ↓eFA, ↓eIA, ↓eLenSl, ↓eCapSl, ↓eLenS, ↓eMin, ↓eMax, ↓eCondT, ↓eCondF, ↓gIf_tt, ↓gIf_ff, ↓gIf_tf, ↓gIf_ft, ↓gIf_u, ↓gIfW_u, ↓gIfW_tt, ↓gIfW_ff, ↓gIfW_tf, ↓gIfW_ft, binI, divI, shiftI, add_mk, Nat.zero_add, cond_true, cond_false, decide_true, decide_false, Bool.not_true, Bool.not_false, Bool.and_true, Bool.true_and, Bool.and_false, Bool.false_and, Int.toNat_natCast, Nat.mul_one, show decide ((32 : Int) < 1) = false from by decide, show decide ((32 : Int) > 8160) = false from by decide]
  refine boxC (cs := [.slice none 0 0]) fun g8 w3 hg3 h3 c3 => ?_
  have l1 := c1.lt; have l2 := c2.lt; have l3 := c3.lt
  have h13 := (h1.tr h2).tr h3
  refine kdf_Expand.loop1 (fun x6 x10 w' => x6 = .slice none 0 0 ∧ x10 = .int .i64 1 ∧ w' = w3) (fun _ _ _ => 0) ⟨rfl, rfl, rfl⟩ ?_
  rintro x6 x10 gg w' ⟨rfl, rfl, rfl⟩
  unfold kdf_Expand.b1
  refine (?_ : GCalls Tryd.prog 95 [.int .i64 1, .pointer (some ⟨g3, 0, none⟩), .pointer (some ⟨g8, 0, none⟩), .pointer (some ⟨g4, 0, none⟩)] _ X w')
  refine next_c ((c1.ext h2).ext h3) c3 (c2.ext h3) (hk.ext h13) (hvk.ext h13) (hvi.ext h13) hkl hil fun v w4 h4 o4 => ?_
  have hlen := ofF_len key (info ++ [1])
  obtain ⟨a4, cc4, e4, _⟩ := o4.form
  refine (c3.ext h4).set (i := 0) (by simp) (by rw [e4]; rfl) fun w5 c5 f5 => ?_
  have c5 : Cs w5 g8 [v] := c5
  rw [c5.c0]
  have z1 := h1.size; have z2 := h2.size; have z3 := h3.size; have z4 := h4.size
  have o5 : G.Own .byte NoB w'.heap.size w5 v (ofF key (info ++ [1])) := o4.fr f5 (fun _ h => h.elim) (fun b hb hB => by show ¬ b = g8; omega)
  have h05 : Ext w w5 := (h13.tr h4).tn f5 (fun x hx => by omega)
  refine (G.Own.nil (t := .byte) (D := NoB) (B := w.heap.size) (w := w5)).cat h05.size (fun h => h) rfl rfl (own_rd o5 (by show (ofF _ _).length < _; omega)) (fun cs h => h.flat rfl) (by show (2 * (0 + (ofF _ _).length) + 192) * 1 ≤ _; omega) fun v6 w6 o6 f6 _ => ?_
  have h06 : Ext w w6 := h05.tn f6 (fun x hx => hx.2)
  rw [List.nil_append] at o6
  have r6 := own_rd o6 (by show (ofF _ _).length < _; omega)
  obtain ⟨a6, c6, rfl, hc6⟩ := o6.form
  rw [hlen] at r6 hc6 ⊢
  simp only [↓eBinI, ↓eDiv, ↓eShift, ↓eBinS, ↓ePick, ↓eNot, ↓eNeg, ↓eConv, ↓eConvS, ↓eExt0, ↓eExt1, ↓eExt2, ↓eFA, ↓eIA, ↓eLenSl, ↓eCapSl, ↓eLenS, ↓eMin, ↓eMax, ↓eCondT, ↓eCondF, ↓gIf_tt, ↓gIf_ff, ↓gIf_tf, ↓gIf_ft, ↓gIf_u, ↓gIfW_u, ↓gIfW_tt, ↓gIfW_ff, ↓gIfW_tf, ↓gIfW_ft, binI, divI, shiftI, add_mk, Nat.zero_add, cond_true, cond_false, decide_true, decide_false, Bool.not_true, Bool.not_false, Bool.and_true, Bool.true_and, Bool.and_false, Bool.false_and, Int.toNat_natCast, Nat.mul_one, show decide (((32 : Nat) : Int) ≥ 32) = true from by decide]
  refine eSl (l := 0) (h := 32) (m := 32) bnd_none (bnd_int (by omega)) (bnd_int (by omega)) (by omega) (by omega) hc6 (by simp) ?_
  have hcut := r6.cut (l := 0) (e := 32) (m := 32) (by omega) (by omega) (by omega) hc6
  rw [List.drop_zero, List.take_of_length_le (by omega)] at hcut
  exact h _ _ h06 hcut
theorem ref_Expand_c {xk xi : Value} {key info : List UInt8} (hvk : Rd (.slice .byte) D w [xk] key) (hvi : Rd (.slice .byte) D' w [xi] info) (hkl : key.length ≤ 1000) (hil : info.length ≤ 800)
    (h : ∀ v w', Ext w w' → Rd (.slice .byte) (w.heap.size ≤ ·) w' [v] (ofF key (info ++ [1])) → K (.tuple #[v, .int .i64 0]) w') : GCalls Tryd.prog 47 [xk, xi, .int .i64 32] K X w := by
  apply oublietteref09_Expand.calls; unfold oublietteref09_Expand.b
  have hlen := ofF_len key (info ++ [1])
  simp only [↓eBinI, ↓eDiv, ↓eShift, ↓eBinS, ↓ePick, ↓eNot, ↓eNeg, ↓eConv, ↓eConvS, ↓eExt0, ↓eExt1, ↓eExt2, ↓eFA, ↓eIA, ↓eLenSl, ↓eCapSl, ↓eLenS, ↓eMin, ↓eMax, ↓eCondT, ↓eCondF, ↓gIf_tt, ↓gIf_ff, ↓gIf_tf, ↓gIf_ft, ↓gIf_u, ↓gIfW_u, ↓gIfW_tt, ↓gIfW_ff, ↓gIfW_tf, ↓gIfW_ft, binI, divI, shiftI, add_mk, Nat.zero_add, cond_true, cond_false, decide_true, decide_false, Bool.not_true, Bool.not_false, Bool.and_true, Bool.true_and, Bool.and_false, Bool.false_and, Int.toNat_natCast, Nat.mul_one, show decide ((32 : Int) < 1) = false from by decide, show decide ((32 : Int) > 8160) = false from by decide]
  refine oublietteref09_Expand.loop1 (fun x8 x9 x10 w' => Ext w w' ∧ ((x8 = .slice none 0 0 ∧ x9 = .slice none 0 0 ∧ x10 = .int .i64 1) ∨ (G.Own .byte NoB w.heap.size w' x8 (ofF key (info ++ [1])) ∧ x10 = .int .i64 2))) (fun _ _ x10 _ => (2 - iv x10).toNat) ⟨Fr.refl _ _, .inl ⟨rfl, rfl, rfl⟩⟩ ?_
  rintro x8 x9 x10 gg w1 ⟨h1, hc⟩
  unfold oublietteref09_Expand.b1
  rcases hc with ⟨rfl, rfl, rfl⟩ | ⟨ho, rfl⟩
  · have e1 : IntKind.u8.wrap 1 = 1 := by decide
    simp only [↓eBinI, ↓eDiv, ↓eShift, ↓eBinS, ↓ePick, ↓eNot, ↓eNeg, ↓eConv, ↓eConvS, ↓eExt0, ↓eExt1, ↓eExt2, ↓eFA, ↓eIA, ↓eLenSl, ↓eCapSl, ↓eLenS, ↓eMin, ↓eMax, ↓eCondT, ↓eCondF, ↓gIf_tt, ↓gIf_ff, ↓gIf_tf, ↓gIf_ft, ↓gIf_u, ↓gIfW_u, ↓gIfW_tt, ↓gIfW_ff, ↓gIfW_tf, ↓gIfW_ft, binI, divI, shiftI, add_mk, Nat.zero_add, cond_true, cond_false, decide_true, decide_false, Bool.not_true, Bool.not_false, Bool.and_true, Bool.true_and, Bool.and_false, Bool.false_and, Int.toNat_natCast, Nat.mul_one, show decide (((0 : Nat) : Int) < 32) = true from by decide, e1]
    refine ref01_Join_c (nil_rd D w1) (hvi.ext h1) (by show 0 + info.length ≤ _; omega) fun v2 w2 h2 o2 => ?_
    rw [List.nil_append] at o2
    refine bslice1 rfl fun r w3 hr h3 c3 => ?_
    have hrd : Rd (.slice .byte) Any1 w3 [.slice (some ⟨r, 0, none⟩) 1 1] [(1 : UInt8)] := Rd.of_rows (bv_rows Any1 w3 [1]) (fun _ h => h) (by simp) (by simp) fun i u hi => ⟨_, rfl, rfl, trivial, by rw [add_mk, Nat.zero_add, c3.c]; exact hi⟩
    refine ref01_Join_c (own_rd (o2.ext h3) (by show info.length < _; omega)) hrd (by show info.length + 1 ≤ _; omega) fun v4 w4 h4 o4 => ?_
    have h14 := ((h1.tr h2).tr h3).tr h4
    refine ref_Of_c (hvk.ext h14) hkl (own_rd o4 (by show (info ++ [1]).length < _; simp; omega)) (by simp; omega) fun v5 w5 h5 o5 => ?_
    refine (G.Own.nil (t := .byte) (D := NoB) (B := w.heap.size) (w := w5)).cat (h14.tr h5).size (fun h => h) rfl rfl (own_rd o5 (by show (ofF _ _).length < _; omega)) (fun cs h => h.flat rfl) (by show (2 * (0 + (ofF _ _).length) + 192) * 1 ≤ _; omega) fun v6 w6 o6 f6 _ => ?_
    rw [List.nil_append] at o6
    have e2 : IntKind.i64.wrap (1 + 1) = 2 := by decide
    rw [e2]
    exact oublietteref09_Expand.leaf1 ⟨(h14.tr h5).tn f6 (fun x hx => hx.2), .inr ⟨o6, rfl⟩⟩ (by simp [iv])
  · have r6 := own_rd ho (by show (ofF _ _).length < _; omega)
    obtain ⟨a6, c6, rfl, hc6⟩ := ho.form
    rw [hlen] at r6 hc6 ⊢
    simp only [↓eBinI, ↓eDiv, ↓eShift, ↓eBinS, ↓ePick, ↓eNot, ↓eNeg, ↓eConv, ↓eConvS, ↓eExt0, ↓eExt1, ↓eExt2, ↓eFA, ↓eIA, ↓eLenSl, ↓eCapSl, ↓eLenS, ↓eMin, ↓eMax, ↓eCondT, ↓eCondF, ↓gIf_tt, ↓gIf_ff, ↓gIf_tf, ↓gIf_ft, ↓gIf_u, ↓gIfW_u, ↓gIfW_tt, ↓gIfW_ff, ↓gIfW_tf, ↓gIfW_ft, binI, divI, shiftI, add_mk, Nat.zero_add, cond_true, cond_false, decide_true, decide_false, Bool.not_true, Bool.not_false, Bool.and_true, Bool.true_and, Bool.and_false, Bool.false_and, Int.toNat_natCast, Nat.mul_one, show decide (((32 : Nat) : Int) < 32) = false from by decide]
    refine eSl (l := 0) (h := 32) (m := c6) bnd_none (bnd_int (by omega)) bnd_none (by omega) (by omega) (by omega) (by simp) ?_
    have hcut := r6.cut (l := 0) (e := 32) (m := c6) (by omega) (by omega) (by omega) (by omega)
    rw [List.drop_zero, List.take_of_length_le (by omega)] at hcut
    exact h _ _ h1 hcut
end Go.Proofs.YtkpgmaiklfjjgaaDoor
