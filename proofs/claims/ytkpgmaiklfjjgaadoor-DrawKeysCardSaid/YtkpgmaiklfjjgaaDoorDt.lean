/-
  What is drawn, key by key, against the reference.
-/
import Derived.Test.YtkpgmaiklfjjgaaDoorDs
set_option linter.unusedSimpArgs false
set_option linter.unusedVariables false
namespace Go.Proofs.YtkpgmaiklfjjgaaDoor
open Go Go.G Go.RowKit
variable {X : KX} {w : World} {K : KV} {D D' : Nat → Prop}
theorem ref_Bytes_c {x : Value} {seed : List UInt8} {d l : Nat} (hx : Rd (.slice .byte) D w [x] seed) (hl : seed.length ≤ 1000) (hd : d < 50000) (h1 : 1 ≤ l) (h2 : l ≤ 4096)
    (h : ∀ v w', Ext w w' → Rd (.slice .byte) (w.heap.size ≤ ·) w' [v] ((bytesF seed d (cnt l)).take l) → K (.tuple #[v, .int .i64 ((d + cnt l : Nat) : Int)]) w') : GCalls Tryd.prog 26 [x, .int .i64 (d : Int), .int .i64 (l : Int)] K X w := by
  apply oublietteref14_Bytes.calls; unfold oublietteref14_Bytes.b
  have d1 : ¬ ((l : Int) < 1) := by omega
  have d2 : ¬ ((l : Int) > 4096) := by omega
  have hc : l ≤ 32 * cnt l ∧ 32 * cnt l < l + 32 := by unfold cnt; omega
  simp only [↓eBinI, ↓eDiv, ↓eShift, ↓eBinS, ↓ePick, ↓eNot, ↓eNeg, ↓eConv, ↓eConvS, ↓eExt0, ↓eExt1, ↓eExt2, ↓eFA, ↓eIA, ↓eLenSl, ↓eCapSl, ↓eLenS, ↓eMin, ↓eMax, ↓eCondT, ↓eCondF, ↓gIf_tt, ↓gIf_ff, ↓gIf_tf, ↓gIf_ft, ↓gIf_u, ↓gIfW_u, ↓gIfW_tt, ↓gIfW_ff, ↓gIfW_tf, ↓gIfW_ft, binI, divI, shiftI, add_mk, Nat.zero_add, cond_true, cond_false, decide_true, decide_false, Bool.not_true, Bool.not_false, Bool.and_true, Bool.true_and, Bool.and_false, Bool.false_and, Int.toNat_natCast, Nat.mul_one, d1, d2]
  refine oublietteref14_Bytes.loop1 (fun x1 x8 w' => ∃ j : Nat, j ≤ cnt l ∧ x1 = .int .i64 ((d + j : Nat) : Int) ∧ Ext w w' ∧ G.Own .byte NoB w.heap.size w' x8 (bytesF seed d j)) (fun x1 _ _ => d + cnt l - (iv x1).toNat) ⟨0, by omega, rfl, Fr.refl _ _, G.Own.nil⟩ ?_
  rintro x1 x8 gg w1 ⟨j, hj, rfl, k1, o1⟩
  unfold oublietteref14_Bytes.b1
  have hlen := bytesF_len seed d j
  obtain ⟨a1, c1, rfl, hc1⟩ := o1.form
  rw [hlen] at o1 hc1
  simp only [hlen]
  by_cases cj : ((32 * j : Nat) : Int) < (l : Int)
  · simp only [↓eBinI, ↓eDiv, ↓eShift, ↓eBinS, ↓ePick, ↓eNot, ↓eNeg, ↓eConv, ↓eConvS, ↓eExt0, ↓eExt1, ↓eExt2, ↓eFA, ↓eIA, ↓eLenSl, ↓eCapSl, ↓eLenS, ↓eMin, ↓eMax, ↓eCondT, ↓eCondF, ↓gIf_tt, ↓gIf_ff, ↓gIf_tf, ↓gIf_ft, ↓gIf_u, ↓gIfW_u, ↓gIfW_tt, ↓gIfW_ff, ↓gIfW_tf, ↓gIfW_ft, binI, divI, shiftI, add_mk, Nat.zero_add, cond_true, cond_false, decide_true, decide_false, Bool.not_true, Bool.not_false, Bool.and_true, Bool.true_and, Bool.and_false, Bool.false_and, Int.toNat_natCast, Nat.mul_one, cj]
    refine ref_At_c (hx.ext k1) hl (by omega) fun v2 w2 h2 r2 => ?_
    have hal := atF_len seed (d + j)
    refine (o1.ext h2).cat (k1.tr h2).size (fun h => h) rfl rfl r2 (fun cs h => h.flat rfl) (by show (2 * ((bytesF seed d j).length + (atF seed (d + j)).length) + 192) * 1 ≤ _; omega) fun v3 w3 o3 f3 _ => ?_
    rw [← bytesF_succ] at o3
    have e1 : IntKind.i64.wrap (((d + j : Nat) : Int) + 1) = ((d + (j + 1) : Nat) : Int) := by rw [wrap64 (by omega) (by omega)]; omega
    try simp only [↓eBinI, ↓eDiv, ↓eShift, ↓eBinS, ↓ePick, ↓eNot, ↓eNeg, ↓eConv, ↓eConvS, ↓eExt0, ↓eExt1, ↓eExt2, ↓eFA, ↓eIA, ↓eLenSl, ↓eCapSl, ↓eLenS, ↓eMin, ↓eMax, ↓eCondT, ↓eCondF, ↓gIf_tt, ↓gIf_ff, ↓gIf_tf, ↓gIf_ft, ↓gIf_u, ↓gIfW_u, ↓gIfW_tt, ↓gIfW_ff, ↓gIfW_tf, ↓gIfW_ft, binI, divI, shiftI, add_mk, Nat.zero_add, cond_true, cond_false, decide_true, decide_false, Bool.not_true, Bool.not_false, Bool.and_true, Bool.true_and, Bool.and_false, Bool.false_and, Int.toNat_natCast, Nat.mul_one, e1]
    exact oublietteref14_Bytes.leaf1 ⟨j + 1, by omega, by first | rfl | rw [e1], (k1.tr h2).tn f3 (fun x hx => hx.2), o3⟩ (by first | rw [e1] | skip; simp only [iv]; omega)
  · simp only [↓eBinI, ↓eDiv, ↓eShift, ↓eBinS, ↓ePick, ↓eNot, ↓eNeg, ↓eConv, ↓eConvS, ↓eExt0, ↓eExt1, ↓eExt2, ↓eFA, ↓eIA, ↓eLenSl, ↓eCapSl, ↓eLenS, ↓eMin, ↓eMax, ↓eCondT, ↓eCondF, ↓gIf_tt, ↓gIf_ff, ↓gIf_tf, ↓gIf_ft, ↓gIf_u, ↓gIfW_u, ↓gIfW_tt, ↓gIfW_ff, ↓gIfW_tf, ↓gIfW_ft, binI, divI, shiftI, add_mk, Nat.zero_add, cond_true, cond_false, decide_true, decide_false, Bool.not_true, Bool.not_false, Bool.and_true, Bool.true_and, Bool.and_false, Bool.false_and, Int.toNat_natCast, Nat.mul_one, cj]
    have : j = cnt l := by omega
    subst this
    have r1 := own_rd o1 (by show (bytesF _ _ _).length < _; omega)
    refine eSl (l := 0) (h := l) (m := c1) bnd_none (bnd_int (by omega)) bnd_none (by omega) (by omega) (by omega) (by simp) ?_
    have hcut := r1.cut (l := 0) (e := l) (m := c1) (by omega) (by omega) (by omega) (by omega)
    rw [List.drop_zero] at hcut
    exact h _ _ k1 hcut
theorem ref_BytesN_c {x : Value} {d l : Int} (hl : l < 1 ∨ l > 4096) (h : K (.tuple #[.slice none 0 0, .int .i64 d]) w) : GCalls Tryd.prog 26 [x, .int .i64 d, .int .i64 l] K X w := by
  apply oublietteref14_Bytes.calls; unfold oublietteref14_Bytes.b
  by_cases c1 : l < 1
  · simp only [↓eBinI, ↓eDiv, ↓eShift, ↓eBinS, ↓ePick, ↓eNot, ↓eNeg, ↓eConv, ↓eConvS, ↓eExt0, ↓eExt1, ↓eExt2, ↓eFA, ↓eIA, ↓eLenSl, ↓eCapSl, ↓eLenS, ↓eMin, ↓eMax, ↓eCondT, ↓eCondF, ↓gIf_tt, ↓gIf_ff, ↓gIf_tf, ↓gIf_ft, ↓gIf_u, ↓gIfW_u, ↓gIfW_tt, ↓gIfW_ff, ↓gIfW_tf, ↓gIfW_ft, binI, divI, shiftI, add_mk, Nat.zero_add, cond_true, cond_false, decide_true, decide_false, Bool.not_true, Bool.not_false, Bool.and_true, Bool.true_and, Bool.and_false, Bool.false_and, Int.toNat_natCast, Nat.mul_one, c1]; exact h
  · have c2 : l > 4096 := by omega
    simp only [↓eBinI, ↓eDiv, ↓eShift, ↓eBinS, ↓ePick, ↓eNot, ↓eNeg, ↓eConv, ↓eConvS, ↓eExt0, ↓eExt1, ↓eExt2, ↓eFA, ↓eIA, ↓eLenSl, ↓eCapSl, ↓eLenS, ↓eMin, ↓eMax, ↓eCondT, ↓eCondF, ↓gIf_tt, ↓gIf_ff, ↓gIf_tf, ↓gIf_ft, ↓gIf_u, ↓gIfW_u, ↓gIfW_tt, ↓gIfW_ff, ↓gIfW_tf, ↓gIfW_ft, binI, divI, shiftI, add_mk, Nat.zero_add, cond_true, cond_false, decide_true, decide_false, Bool.not_true, Bool.not_false, Bool.and_true, Bool.true_and, Bool.and_false, Bool.false_and, Int.toNat_natCast, Nat.mul_one, c1, c2]; exact h
theorem BytesZ_c {g : Nat} {l : Int} (hl : l < 1 ∨ l > 4096) (h : K (.slice none 0 0) w) : GCalls Tryd.prog 27 [.pointer (some ⟨g, 0, none⟩), .int .i64 l] K X w := by
  apply draw_Source_Bytes.calls; unfold draw_Source_Bytes.b
  by_cases c1 : l < 1
  · simp only [↓eBinI, ↓eDiv, ↓eShift, ↓eBinS, ↓ePick, ↓eNot, ↓eNeg, ↓eConv, ↓eConvS, ↓eExt0, ↓eExt1, ↓eExt2, ↓eFA, ↓eIA, ↓eLenSl, ↓eCapSl, ↓eLenS, ↓eMin, ↓eMax, ↓eCondT, ↓eCondF, ↓gIf_tt, ↓gIf_ff, ↓gIf_tf, ↓gIf_ft, ↓gIf_u, ↓gIfW_u, ↓gIfW_tt, ↓gIfW_ff, ↓gIfW_tf, ↓gIfW_ft, binI, divI, shiftI, add_mk, Nat.zero_add, cond_true, cond_false, decide_true, decide_false, Bool.not_true, Bool.not_false, Bool.and_true, Bool.true_and, Bool.and_false, Bool.false_and, Int.toNat_natCast, Nat.mul_one, ↓ePEqS, c1, show (false != false) = false from rfl]; exact h
  · have c2 : l > 4096 := by omega
    simp only [↓eBinI, ↓eDiv, ↓eShift, ↓eBinS, ↓ePick, ↓eNot, ↓eNeg, ↓eConv, ↓eConvS, ↓eExt0, ↓eExt1, ↓eExt2, ↓eFA, ↓eIA, ↓eLenSl, ↓eCapSl, ↓eLenS, ↓eMin, ↓eMax, ↓eCondT, ↓eCondF, ↓gIf_tt, ↓gIf_ff, ↓gIf_tf, ↓gIf_ft, ↓gIf_u, ↓gIfW_u, ↓gIfW_tt, ↓gIfW_ff, ↓gIfW_tf, ↓gIfW_ft, binI, divI, shiftI, add_mk, Nat.zero_add, cond_true, cond_false, decide_true, decide_false, Bool.not_true, Bool.not_false, Bool.and_true, Bool.true_and, Bool.and_false, Bool.false_and, Int.toNat_natCast, Nat.mul_one, ↓ePEqS, c1, c2, show (false != false) = false from rfl]; exact h
set_option maxHeartbeats 2000000 in
set_option maxRecDepth 100000 in
theorem DrawKeys_c {x y : Value} {seed : List UInt8} {ys : List Int} (hb : TB w) (hx : Rd (.slice .byte) D w [x] seed) (hy : Rd (.slice (.int .i64)) D' w [y] ys) (h : ∀ w', Ext w w' → K (.bool true) w') : GCalls Tryd.prog 5 [x, y] K X w := by
  have h2 := hb.kt.two
  obtain ⟨ax, cx, rfl, hcx, hlx⟩ := hx.form
  obtain ⟨ay, cy, rfl, hcy, hly⟩ := hy.form
  apply oubliettelaw14_DrawKeys.calls; unfold oubliettelaw14_DrawKeys.b
  by_cases c1 : (seed.length : Int) > 100
  · simp only [↓eBinI, ↓eDiv, ↓eShift, ↓eBinS, ↓ePick, ↓eNot, ↓eNeg, ↓eConv, ↓eConvS, ↓eExt0, ↓eExt1, ↓eExt2, ↓eFA, ↓eIA, ↓eLenSl, ↓eCapSl, ↓eLenS, ↓eMin, ↓eMax, ↓eCondT, ↓eCondF, ↓gIf_tt, ↓gIf_ff, ↓gIf_tf, ↓gIf_ft, ↓gIf_u, ↓gIfW_u, ↓gIfW_tt, ↓gIfW_ff, ↓gIfW_tf, ↓gIfW_ft, binI, divI, shiftI, add_mk, Nat.zero_add, cond_true, cond_false, decide_true, decide_false, Bool.not_true, Bool.not_false, Bool.and_true, Bool.true_and, Bool.and_false, Bool.false_and, Int.toNat_natCast, Nat.mul_one, c1]
    exact alive_c hb h
  by_cases c2 : (ys.length : Int) > 20
  · simp only [↓eBinI, ↓eDiv, ↓eShift, ↓eBinS, ↓ePick, ↓eNot, ↓eNeg, ↓eConv, ↓eConvS, ↓eExt0, ↓eExt1, ↓eExt2, ↓eFA, ↓eIA, ↓eLenSl, ↓eCapSl, ↓eLenS, ↓eMin, ↓eMax, ↓eCondT, ↓eCondF, ↓gIf_tt, ↓gIf_ff, ↓gIf_tf, ↓gIf_ft, ↓gIf_u, ↓gIfW_u, ↓gIfW_tt, ↓gIfW_ff, ↓gIfW_tf, ↓gIfW_ft, binI, divI, shiftI, add_mk, Nat.zero_add, cond_true, cond_false, decide_true, decide_false, Bool.not_true, Bool.not_false, Bool.and_true, Bool.true_and, Bool.and_false, Bool.false_and, Int.toNat_natCast, Nat.mul_one, c1, c2]
    exact alive_c hb h
  simp only [↓eBinI, ↓eDiv, ↓eShift, ↓eBinS, ↓ePick, ↓eNot, ↓eNeg, ↓eConv, ↓eConvS, ↓eExt0, ↓eExt1, ↓eExt2, ↓eFA, ↓eIA, ↓eLenSl, ↓eCapSl, ↓eLenS, ↓eMin, ↓eMax, ↓eCondT, ↓eCondF, ↓gIf_tt, ↓gIf_ff, ↓gIf_tf, ↓gIf_ft, ↓gIf_u, ↓gIfW_u, ↓gIfW_tt, ↓gIfW_ff, ↓gIfW_tf, ↓gIfW_ft, binI, divI, shiftI, add_mk, Nat.zero_add, cond_true, cond_false, decide_true, decide_false, Bool.not_true, Bool.not_false, Bool.and_true, Bool.true_and, Bool.and_false, Bool.false_and, Int.toNat_natCast, Nat.mul_one, c1, c2]
  refine New_c (by omega) hx (by omega) fun g1 b1 w1 h1 q1 q2 q3 s1 => ?_
  have z1 := h1.size; have l1 := s1.lt
  refine oubliettelaw14_DrawKeys.loop1 (fun x6 x7 w' => ∃ i d : Nat, i ≤ ys.length ∧ d ≤ 7 * i ∧ x7 = .int .i64 (i : Int) ∧ x6 = .int .i64 (d : Int) ∧ Ext w w' ∧ Src w' g1 b1 seed d) (fun _ x7 _ => ys.length - (iv x7).toNat) ⟨0, 0, by omega, by omega, rfl, rfl, h1, s1⟩ ?_
  rintro x6 x7 gg w2 ⟨i, d, hi, hd, rfl, rfl, k2, s2⟩
  unfold oubliettelaw14_DrawKeys.b1
  by_cases ci : (i : Int) < (ys.length : Int)
  · obtain ⟨bd, cc, uu, e1, _, _, q1', q2'⟩ := hy.idx rfl (i := i) (by omega)
    simp only [Value.slice.injEq] at e1
    obtain ⟨rfl, -, rfl⟩ := e1
    have hu : uu = .int .i64 ys[i] := by
      have := q2'.1
      simpa using this
    subst hu
    generalize hli : ys[i] = li at *
    have hq : ∀ w', Ext w w' → w'.cell? (bd.add i) = some (.int .i64 li) := fun w' e => e.cell q1'
    have e0 : IntKind.i64.wrap ((i : Int) + 1) = ((i + 1 : Nat) : Int) := by rw [wrap64 (by omega) (by omega)]; omega
    have J1 : ∀ (want got : Value) (xs : List UInt8) (d' : Nat) (gs : Nat → Value) (w' : World) (D1 D2 : Nat → Prop), Rd (.slice .byte) D1 w' [got] xs → Rd (.slice .byte) D2 w' [want] xs → Ext w w' → Src w' g1 b1 seed d' → d' ≤ 7 * (i + 1) →
        oubliettelaw14_DrawKeys.j1 (.slice ax seed.length cx) (.slice (some bd) ys.length cy) (.pointer (some ⟨g1, 0, none⟩)) (.int .i64 (d : Int)) (.int .i64 (i : Int)) want (.int .i64 (d' : Int)) got gs
          (oubliettelaw14_DrawKeys.N1 (fun x6 x7 w' => ∃ i d : Nat, i ≤ ys.length ∧ d ≤ 7 * i ∧ x7 = .int .i64 (i : Int) ∧ x6 = .int .i64 (d : Int) ∧ Ext w w' ∧ Src w' g1 b1 seed d) (fun _ x7 _ => ys.length - (iv x7).toNat) (.slice ax seed.length cx) (.slice (some bd) ys.length cy) (.pointer (some ⟨g1, 0, none⟩)) (.int .i64 (d : Int)) (.int .i64 (i : Int)) w2) K X w' := by
      intro want got xs d' gs w' D1 D2 r1 r2 k' s' hd'
      unfold oubliettelaw14_DrawKeys.j1
      refine Same_c r1 r2 fun w3 h3 => ?_
      simp only [decide_true]
      simp only [↓eBinI, ↓eDiv, ↓eShift, ↓eBinS, ↓ePick, ↓eNot, ↓eNeg, ↓eConv, ↓eConvS, ↓eExt0, ↓eExt1, ↓eExt2, ↓eFA, ↓eIA, ↓eLenSl, ↓eCapSl, ↓eLenS, ↓eMin, ↓eMax, ↓eCondT, ↓eCondF, ↓gIf_tt, ↓gIf_ff, ↓gIf_tf, ↓gIf_ft, ↓gIf_u, ↓gIfW_u, ↓gIfW_tt, ↓gIfW_ff, ↓gIfW_tf, ↓gIfW_ft, binI, divI, shiftI, add_mk, Nat.zero_add, cond_true, cond_false, decide_true, decide_false, Bool.not_true, Bool.not_false, Bool.and_true, Bool.true_and, Bool.and_false, Bool.false_and, Int.toNat_natCast, Nat.mul_one]
      refine Drawn_c (s'.ext h3) ?_
      simp only [↓eBinI, ↓eDiv, ↓eShift, ↓eBinS, ↓ePick, ↓eNot, ↓eNeg, ↓eConv, ↓eConvS, ↓eExt0, ↓eExt1, ↓eExt2, ↓eFA, ↓eIA, ↓eLenSl, ↓eCapSl, ↓eLenS, ↓eMin, ↓eMax, ↓eCondT, ↓eCondF, ↓gIf_tt, ↓gIf_ff, ↓gIf_tf, ↓gIf_ft, ↓gIf_u, ↓gIfW_u, ↓gIfW_tt, ↓gIfW_ff, ↓gIfW_tf, ↓gIfW_ft, binI, divI, shiftI, add_mk, Nat.zero_add, cond_true, cond_false, decide_true, decide_false, Bool.not_true, Bool.not_false, Bool.and_true, Bool.true_and, Bool.and_false, Bool.false_and, Int.toNat_natCast, Nat.mul_one, show (((d' : Nat) : Int) != (d' : Int)) = false from by simp, e0]
      exact oubliettelaw14_DrawKeys.leaf1 ⟨i + 1, d', by omega, by omega, rfl, rfl, k'.tr h3, s'.ext h3⟩ (by simp only [iv]; omega)
    have hq2 := hq w2 k2
    by_cases ca : li > 200 ∧ li ≤ 4096
    · obtain ⟨ca1, ca2⟩ := ca
      simp only [↓eBinI, ↓eDiv, ↓eShift, ↓eBinS, ↓ePick, ↓eNot, ↓eNeg, ↓eConv, ↓eConvS, ↓eExt0, ↓eExt1, ↓eExt2, ↓eFA, ↓eIA, ↓eLenSl, ↓eCapSl, ↓eLenS, ↓eMin, ↓eMax, ↓eCondT, ↓eCondF, ↓gIf_tt, ↓gIf_ff, ↓gIf_tf, ↓gIf_ft, ↓gIf_u, ↓gIfW_u, ↓gIfW_tt, ↓gIfW_ff, ↓gIfW_tf, ↓gIfW_ft, binI, divI, shiftI, add_mk, Nat.zero_add, cond_true, cond_false, decide_true, decide_false, Bool.not_true, Bool.not_false, Bool.and_true, Bool.true_and, Bool.and_false, Bool.false_and, Int.toNat_natCast, Nat.mul_one, ci, ↓eLdW, hq2, Option.some.injEq, exists_eq_left', ca1, ca2]
      repeat ((with_reducible refine And.intro ?_ ?_); · first | omega | exact True.intro)
      exact alive_c (hb.ext k2) fun w' e => h _ (k2.tr e)
    · have hstart : ∀ P : Prop, (P → (0 ≤ (i : Int) ∧ (i : Int) < (ys.length : Int) ∧ P)) := fun P hp => ⟨by omega, ci, hp⟩
      by_cases cz : li < 1 ∨ li > 4096
      · have c32 : (li == 32) = false := by rw [beq_eq_false_iff_ne]; omega
        by_cases cg : li > 200
        all_goals
          have cb : cg = cg := rfl
          by_cases ch : li ≤ 4096
          all_goals first
            | (exfalso; omega)
            | (simp only [↓eBinI, ↓eDiv, ↓eShift, ↓eBinS, ↓ePick, ↓eNot, ↓eNeg, ↓eConv, ↓eConvS, ↓eExt0, ↓eExt1, ↓eExt2, ↓eFA, ↓eIA, ↓eLenSl, ↓eCapSl, ↓eLenS, ↓eMin, ↓eMax, ↓eCondT, ↓eCondF, ↓gIf_tt, ↓gIf_ff, ↓gIf_tf, ↓gIf_ft, ↓gIf_u, ↓gIfW_u, ↓gIfW_tt, ↓gIfW_ff, ↓gIfW_tf, ↓gIfW_ft, binI, divI, shiftI, add_mk, Nat.zero_add, cond_true, cond_false, decide_true, decide_false, Bool.not_true, Bool.not_false, Bool.and_true, Bool.true_and, Bool.and_false, Bool.false_and, Int.toNat_natCast, Nat.mul_one, ci, ↓eLdW, hq2, Option.some.injEq, exists_eq_left', cg, ch, c32]
               repeat ((with_reducible refine And.intro ?_ ?_); · first | omega | exact True.intro)
               refine ref_BytesN_c cz ?_
               simp only [↓eBinI, ↓eDiv, ↓eShift, ↓eBinS, ↓ePick, ↓eNot, ↓eNeg, ↓eConv, ↓eConvS, ↓eExt0, ↓eExt1, ↓eExt2, ↓eFA, ↓eIA, ↓eLenSl, ↓eCapSl, ↓eLenS, ↓eMin, ↓eMax, ↓eCondT, ↓eCondF, ↓gIf_tt, ↓gIf_ff, ↓gIf_tf, ↓gIf_ft, ↓gIf_u, ↓gIfW_u, ↓gIfW_tt, ↓gIfW_ff, ↓gIfW_tf, ↓gIfW_ft, binI, divI, shiftI, add_mk, Nat.zero_add, cond_true, cond_false, decide_true, decide_false, Bool.not_true, Bool.not_false, Bool.and_true, Bool.true_and, Bool.and_false, Bool.false_and, Int.toNat_natCast, Nat.mul_one, ↓eLdW, hq2, Option.some.injEq, exists_eq_left', c32]
               repeat ((with_reducible refine And.intro ?_ ?_); · first | omega | exact True.intro)
               refine BytesZ_c cz ?_
               simp only [↓eBinI, ↓eDiv, ↓eShift, ↓eBinS, ↓ePick, ↓eNot, ↓eNeg, ↓eConv, ↓eConvS, ↓eExt0, ↓eExt1, ↓eExt2, ↓eFA, ↓eIA, ↓eLenSl, ↓eCapSl, ↓eLenS, ↓eMin, ↓eMax, ↓eCondT, ↓eCondF, ↓gIf_tt, ↓gIf_ff, ↓gIf_tf, ↓gIf_ft, ↓gIf_u, ↓gIfW_u, ↓gIfW_tt, ↓gIfW_ff, ↓gIfW_tf, ↓gIfW_ft, binI, divI, shiftI, add_mk, Nat.zero_add, cond_true, cond_false, decide_true, decide_false, Bool.not_true, Bool.not_false, Bool.and_true, Bool.true_and, Bool.and_false, Bool.false_and, Int.toNat_natCast, Nat.mul_one, ↓eLdW, hq2, Option.some.injEq, exists_eq_left', c32]
               repeat ((with_reducible refine And.intro ?_ ?_); · first | omega | exact True.intro)
               exact J1 _ _ [] d _ w2 _ _ (nil_rd NoB w2) (nil_rd NoB w2) k2 s2 (by omega))
      · have cg : ¬ li > 200 := by omega
        obtain ⟨m, rfl⟩ : ∃ m : Nat, li = (m : Int) := ⟨li.toNat, by omega⟩
        have hcm : m ≤ 32 * cnt m ∧ 32 * cnt m < m + 32 := by unfold cnt; omega
        simp only [↓eBinI, ↓eDiv, ↓eShift, ↓eBinS, ↓ePick, ↓eNot, ↓eNeg, ↓eConv, ↓eConvS, ↓eExt0, ↓eExt1, ↓eExt2, ↓eFA, ↓eIA, ↓eLenSl, ↓eCapSl, ↓eLenS, ↓eMin, ↓eMax, ↓eCondT, ↓eCondF, ↓gIf_tt, ↓gIf_ff, ↓gIf_tf, ↓gIf_ft, ↓gIf_u, ↓gIfW_u, ↓gIfW_tt, ↓gIfW_ff, ↓gIfW_tf, ↓gIfW_ft, binI, divI, shiftI, add_mk, Nat.zero_add, cond_true, cond_false, decide_true, decide_false, Bool.not_true, Bool.not_false, Bool.and_true, Bool.true_and, Bool.and_false, Bool.false_and, Int.toNat_natCast, Nat.mul_one, ci, ↓eLdW, hq2, Option.some.injEq, exists_eq_left', cg]
        repeat ((with_reducible refine And.intro ?_ ?_); · first | omega | exact True.intro)
        refine ref_Bytes_c (hx.ext k2) (by omega) (by omega) (by omega) (by omega) fun v3 w3 h3 r3 => ?_
        have k3 := k2.tr h3
        have hq3 := hq w3 k3
        simp only [↓eBinI, ↓eDiv, ↓eShift, ↓eBinS, ↓ePick, ↓eNot, ↓eNeg, ↓eConv, ↓eConvS, ↓eExt0, ↓eExt1, ↓eExt2, ↓eFA, ↓eIA, ↓eLenSl, ↓eCapSl, ↓eLenS, ↓eMin, ↓eMax, ↓eCondT, ↓eCondF, ↓gIf_tt, ↓gIf_ff, ↓gIf_tf, ↓gIf_ft, ↓gIf_u, ↓gIfW_u, ↓gIfW_tt, ↓gIfW_ff, ↓gIfW_tf, ↓gIfW_ft, binI, divI, shiftI, add_mk, Nat.zero_add, cond_true, cond_false, decide_true, decide_false, Bool.not_true, Bool.not_false, Bool.and_true, Bool.true_and, Bool.and_false, Bool.false_and, Int.toNat_natCast, Nat.mul_one, ↓eLdW, hq3, Option.some.injEq, exists_eq_left']
        repeat ((with_reducible refine And.intro ?_ ?_); · first | omega | exact True.intro)
        refine (hb.ext k3).bytes hb (by omega) (s2.ext h3) (by omega) (by omega) (by omega) (by omega) fun v4 w4 f4 s4 r4 => ?_
        have k4 : Ext w w4 := k3.tn f4 (fun x hx => by omega)
        have hq4 := hq w4 k4
        have z2 := k2.size; have z3 := h3.size; have z4 := f4.size
        have lg2 := s2.lt
        have r3 := r3.fr f4 (fun b hb => by show ¬ b = g1; omega)
        by_cases c32 : m = 32
        · subst c32
          have hc1 : cnt 32 = 1 := rfl
          rw [hc1] at *
          simp only [↓eBinI, ↓eDiv, ↓eShift, ↓eBinS, ↓ePick, ↓eNot, ↓eNeg, ↓eConv, ↓eConvS, ↓eExt0, ↓eExt1, ↓eExt2, ↓eFA, ↓eIA, ↓eLenSl, ↓eCapSl, ↓eLenS, ↓eMin, ↓eMax, ↓eCondT, ↓eCondF, ↓gIf_tt, ↓gIf_ff, ↓gIf_tf, ↓gIf_ft, ↓gIf_u, ↓gIfW_u, ↓gIfW_tt, ↓gIfW_ff, ↓gIfW_tf, ↓gIfW_ft, binI, divI, shiftI, add_mk, Nat.zero_add, cond_true, cond_false, decide_true, decide_false, Bool.not_true, Bool.not_false, Bool.and_true, Bool.true_and, Bool.and_false, Bool.false_and, Int.toNat_natCast, Nat.mul_one, ↓eLdW, hq4, Option.some.injEq, exists_eq_left', show ((((32 : Nat) : Int)) == 32) = true from by decide]
          repeat ((with_reducible refine And.intro ?_ ?_); · first | omega | exact True.intro)
          refine SClone_c s4 (by omega) fun g5 b5 w5 h5 p1 p2 p3 s5 => ?_
          have k5 := k4.tr h5
          have z5 := h5.size
          refine (hb.ext k5).draw (B := 0) hb (by omega) s5 (by omega) (by omega) fun v6 w6 f6 s6 r6 => ?_
          have k6 : Ext w w6 := k5.tn f6 (fun x hx => by omega)
          refine ref_At_c (hx.ext k6) (by omega) (by omega) fun v7 w7 h7 r7 => ?_
          refine Same_c (r6.ext h7) r7 fun w8 h8 => ?_
          simp only [show cnt 32 = 1 from rfl, decide_true]
          try simp only [↓eBinI, ↓eDiv, ↓eShift, ↓eBinS, ↓ePick, ↓eNot, ↓eNeg, ↓eConv, ↓eConvS, ↓eExt0, ↓eExt1, ↓eExt2, ↓eFA, ↓eIA, ↓eLenSl, ↓eCapSl, ↓eLenS, ↓eMin, ↓eMax, ↓eCondT, ↓eCondF, ↓gIf_tt, ↓gIf_ff, ↓gIf_tf, ↓gIf_ft, ↓gIf_u, ↓gIfW_u, ↓gIfW_tt, ↓gIfW_ff, ↓gIfW_tf, ↓gIfW_ft, binI, divI, shiftI, add_mk, Nat.zero_add, cond_true, cond_false, decide_true, decide_false, Bool.not_true, Bool.not_false, Bool.and_true, Bool.true_and, Bool.and_false, Bool.false_and, Int.toNat_natCast, Nat.mul_one]
          refine Drawn_c ((s6.ext h7).ext h8) ?_
          have ew : IntKind.i64.wrap (((d + 1 : Nat) : Int) + 1) = ((d + 1 + 1 : Nat) : Int) := by rw [wrap64 (by omega) (by omega)]; omega
          simp only [↓eBinI, ↓eDiv, ↓eShift, ↓eBinS, ↓ePick, ↓eNot, ↓eNeg, ↓eConv, ↓eConvS, ↓eExt0, ↓eExt1, ↓eExt2, ↓eFA, ↓eIA, ↓eLenSl, ↓eCapSl, ↓eLenS, ↓eMin, ↓eMax, ↓eCondT, ↓eCondF, ↓gIf_tt, ↓gIf_ff, ↓gIf_tf, ↓gIf_ft, ↓gIf_u, ↓gIfW_u, ↓gIfW_tt, ↓gIfW_ff, ↓gIfW_tf, ↓gIfW_ft, binI, divI, shiftI, add_mk, Nat.zero_add, cond_true, cond_false, decide_true, decide_false, Bool.not_true, Bool.not_false, Bool.and_true, Bool.true_and, Bool.and_false, Bool.false_and, Int.toNat_natCast, Nat.mul_one, show cnt 32 = 1 from rfl, ew, show (((d + 1 + 1 : Nat) : Int) != ((d + 1 + 1 : Nat) : Int)) = false from by simp]
          have h48 := (h7.tr h8)
          have l4 := s4.lt
          have s8 : Src w8 g1 b1 seed (d + 1) := ((s4.ext h5).fr f6 (by omega) (by obtain ⟨_, _, _, hlt⟩ := s4; omega)).ext h48
          refine J1 _ _ _ (d + 1) _ w8 _ _ (((((rd_bound r4).ext h5).fr f6 (fun b hb => by show ¬ b = g5; omega)).ext h48)) (((((rd_bound r3).ext h5).fr f6 (fun b hb => by show ¬ b = g5; omega)).ext h48)) ((k6.tr h7).tr h8) s8 (by omega)
        · have c32' : (((m : Nat) : Int) == 32) = false := by rw [beq_eq_false_iff_ne]; omega
          simp only [↓eBinI, ↓eDiv, ↓eShift, ↓eBinS, ↓ePick, ↓eNot, ↓eNeg, ↓eConv, ↓eConvS, ↓eExt0, ↓eExt1, ↓eExt2, ↓eFA, ↓eIA, ↓eLenSl, ↓eCapSl, ↓eLenS, ↓eMin, ↓eMax, ↓eCondT, ↓eCondF, ↓gIf_tt, ↓gIf_ff, ↓gIf_tf, ↓gIf_ft, ↓gIf_u, ↓gIfW_u, ↓gIfW_tt, ↓gIfW_ff, ↓gIfW_tf, ↓gIfW_ft, binI, divI, shiftI, add_mk, Nat.zero_add, cond_true, cond_false, decide_true, decide_false, Bool.not_true, Bool.not_false, Bool.and_true, Bool.true_and, Bool.and_false, Bool.false_and, Int.toNat_natCast, Nat.mul_one, ↓eLdW, hq4, Option.some.injEq, exists_eq_left', c32']
          repeat ((with_reducible refine And.intro ?_ ?_); · first | omega | exact True.intro)
          exact J1 _ _ _ (d + cnt m) _ w4 _ _ r4 r3 k4 s4 (by omega)
  · simp only [↓eBinI, ↓eDiv, ↓eShift, ↓eBinS, ↓ePick, ↓eNot, ↓eNeg, ↓eConv, ↓eConvS, ↓eExt0, ↓eExt1, ↓eExt2, ↓eFA, ↓eIA, ↓eLenSl, ↓eCapSl, ↓eLenS, ↓eMin, ↓eMax, ↓eCondT, ↓eCondF, ↓gIf_tt, ↓gIf_ff, ↓gIf_tf, ↓gIf_ft, ↓gIf_u, ↓gIfW_u, ↓gIfW_tt, ↓gIfW_ff, ↓gIfW_tf, ↓gIfW_ft, binI, divI, shiftI, add_mk, Nat.zero_add, cond_true, cond_false, decide_true, decide_false, Bool.not_true, Bool.not_false, Bool.and_true, Bool.true_and, Bool.and_false, Bool.false_and, Int.toNat_natCast, Nat.mul_one, ci]
    have z2 := k2.size
    have lg2 := s2.lt
    refine (hb.ext k2).draw (B := 0) hb (by omega) s2 (by omega) (by omega) fun v3 w3 f3 s3 r3 => ?_
    have k3 : Ext w w3 := k2.tn f3 (fun x hx => by omega)
    refine ref_At_c (hx.ext k3) (by omega) (by omega) fun v4 w4 h4 r4 => ?_
    refine Same_c (r3.ext h4) r4 fun w5 h5 => ?_
    have k5 := (k3.tr h4).tr h5
    simp only [decide_true]
    simp only [↓eBinI, ↓eDiv, ↓eShift, ↓eBinS, ↓ePick, ↓eNot, ↓eNeg, ↓eConv, ↓eConvS, ↓eExt0, ↓eExt1, ↓eExt2, ↓eFA, ↓eIA, ↓eLenSl, ↓eCapSl, ↓eLenS, ↓eMin, ↓eMax, ↓eCondT, ↓eCondF, ↓gIf_tt, ↓gIf_ff, ↓gIf_tf, ↓gIf_ft, ↓gIf_u, ↓gIfW_u, ↓gIfW_tt, ↓gIfW_ff, ↓gIfW_tf, ↓gIfW_ft, binI, divI, shiftI, add_mk, Nat.zero_add, cond_true, cond_false, decide_true, decide_false, Bool.not_true, Bool.not_false, Bool.and_true, Bool.true_and, Bool.and_false, Bool.false_and, Int.toNat_natCast, Nat.mul_one]
    refine At_c (hb.ext k5).kt (hb.ext k5).pt (hx.ext k5) (by omega) (by omega) fun v6 w6 h6 r6 => ?_
    try simp only [↓eBinI, ↓eDiv, ↓eShift, ↓eBinS, ↓ePick, ↓eNot, ↓eNeg, ↓eConv, ↓eConvS, ↓eExt0, ↓eExt1, ↓eExt2, ↓eFA, ↓eIA, ↓eLenSl, ↓eCapSl, ↓eLenS, ↓eMin, ↓eMax, ↓eCondT, ↓eCondF, ↓gIf_tt, ↓gIf_ff, ↓gIf_tf, ↓gIf_ft, ↓gIf_u, ↓gIfW_u, ↓gIfW_tt, ↓gIfW_ff, ↓gIfW_tf, ↓gIfW_ft, binI, divI, shiftI, add_mk, Nat.zero_add, cond_true, cond_false, decide_true, decide_false, Bool.not_true, Bool.not_false, Bool.and_true, Bool.true_and, Bool.and_false, Bool.false_and, Int.toNat_natCast, Nat.mul_one]
    refine ref_At_c (hx.ext (k5.tr h6)) (by omega) (by omega) fun v7 w7 h7 r7 => ?_
    try simp only [↓eBinI, ↓eDiv, ↓eShift, ↓eBinS, ↓ePick, ↓eNot, ↓eNeg, ↓eConv, ↓eConvS, ↓eExt0, ↓eExt1, ↓eExt2, ↓eFA, ↓eIA, ↓eLenSl, ↓eCapSl, ↓eLenS, ↓eMin, ↓eMax, ↓eCondT, ↓eCondF, ↓gIf_tt, ↓gIf_ff, ↓gIf_tf, ↓gIf_ft, ↓gIf_u, ↓gIfW_u, ↓gIfW_tt, ↓gIfW_ff, ↓gIfW_tf, ↓gIfW_ft, binI, divI, shiftI, add_mk, Nat.zero_add, cond_true, cond_false, decide_true, decide_false, Bool.not_true, Bool.not_false, Bool.and_true, Bool.true_and, Bool.and_false, Bool.false_and, Int.toNat_natCast, Nat.mul_one]
    refine Same_c (r6.ext h7) r7 fun w8 h8 => ?_
    have k8 := ((k5.tr h6).tr h7).tr h8
    simp only [decide_true]
    simp only [↓eBinI, ↓eDiv, ↓eShift, ↓eBinS, ↓ePick, ↓eNot, ↓eNeg, ↓eConv, ↓eConvS, ↓eExt0, ↓eExt1, ↓eExt2, ↓eFA, ↓eIA, ↓eLenSl, ↓eCapSl, ↓eLenS, ↓eMin, ↓eMax, ↓eCondT, ↓eCondF, ↓gIf_tt, ↓gIf_ff, ↓gIf_tf, ↓gIf_ft, ↓gIf_u, ↓gIfW_u, ↓gIfW_tt, ↓gIfW_ff, ↓gIfW_tf, ↓gIfW_ft, binI, divI, shiftI, add_mk, Nat.zero_add, cond_true, cond_false, decide_true, decide_false, Bool.not_true, Bool.not_false, Bool.and_true, Bool.true_and, Bool.and_false, Bool.false_and, Int.toNat_natCast, Nat.mul_one]
    refine alive_c (hb.ext k8) fun w9 h9 => ?_
    try simp only [↓eBinI, ↓eDiv, ↓eShift, ↓eBinS, ↓ePick, ↓eNot, ↓eNeg, ↓eConv, ↓eConvS, ↓eExt0, ↓eExt1, ↓eExt2, ↓eFA, ↓eIA, ↓eLenSl, ↓eCapSl, ↓eLenS, ↓eMin, ↓eMax, ↓eCondT, ↓eCondF, ↓gIf_tt, ↓gIf_ff, ↓gIf_tf, ↓gIf_ft, ↓gIf_u, ↓gIfW_u, ↓gIfW_tt, ↓gIfW_ff, ↓gIfW_tf, ↓gIfW_ft, binI, divI, shiftI, add_mk, Nat.zero_add, cond_true, cond_false, decide_true, decide_false, Bool.not_true, Bool.not_false, Bool.and_true, Bool.true_and, Bool.and_false, Bool.false_and, Int.toNat_natCast, Nat.mul_one]
    exact h _ (k8.tr h9)
end Go.Proofs.YtkpgmaiklfjjgaaDoor
