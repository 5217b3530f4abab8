/-
  The reference's terms that are put; acts on both sides.
  Acts on both sides; a table made of acts.
  What is derived: the least row that is closed; the plain law.
  Ranging over a map: an entry after the other, whichever comes.
-/
import Derived.Test.YtkpgmaiklfjjgaaMaak
import Derived.Maps.RangeRun
import Derived.Maps.Range
section
set_option linter.unusedSimpArgs false
set_option linter.unusedVariables false
set_option maxRecDepth 100000
namespace Go.Proofs.Ytkpgmaiklfjjgaa
open Go Go.G
variable {X : KX} {w : World} {K : KV} {D D' : Nat → Prop} {ns : List Node} {x0 : Value} {x : Node}
theorem idxOf_first {i : Nat} (hi : i < ns.length) (he : ns[i] = x) (hn : ∀ j (hj : j < i), ns[j]'(by omega) ≠ x) : ns.idxOf x = i := by
  unfold List.idxOf
  rw [List.findIdx_eq hi]
  exact ⟨by simp [he], fun j hj => by simpa using hn j hj⟩
theorem not_mem_all (hn : ∀ j (hj : j < ns.length), ns[j] ≠ x) : x ∉ ns := by
  intro hm
  obtain ⟨j, hj, e⟩ := List.mem_iff_getElem.1 hm
  exact hn j hj e
set_option maxHeartbeats 1000000 in
theorem put_loop {g3 : Nat} {e1 e2 e4 e5 e7 e8 e9 e10 e11 e12 e13 e14 e15 e16 e17 e18 e19 e20 e21 e22 e23 e24 e25 e26 e27 e28 e29 e30 e31 e32 e33 e34 e35 e36 e37 e38 e39 e40 e41 e42 e43 e44 e45 e46 e47 e48 e49 e50 e51 : Value} (ho : G.Own tNode NoB 0 w x0 ns) (hl : ns.length < 10000) (hg : GoodN ns) (hx : InN x) (hth : (partsOf x).all (thereN ns) = true) (c3 : Cs w g3 (nodeV x))
    (h : ∀ v w', Fr (fun b => Blk x0 b) w w' → G.Own tNode NoB 0 w' v (putN ns x) → (∀ b, Blk v b → Blk x0 b ∨ (w.heap.size ≤ b ∧ b < w'.heap.size)) → K (.tuple #[v, .int .i64 (putId ns x)]) w') :
    oublietteref15_Table_Put.I1 [x0, e1, e2, .pointer (some ⟨g3, 0, none⟩), e4, e5, .int .i64 0, e7, e8, e9, e10, e11, e12, e13, e14, e15, e16, e17, e18, e19, e20, e21, e22, e23, e24, e25, e26, e27, e28, e29, e30, e31, e32, e33, e34, e35, e36, e37, e38, e39, e40, e41, e42, e43, e44, e45, e46, e47, e48, e49, e50, e51] K X w := by
  have hr := nodeOwn ho (by omega)
  obtain ⟨a0, c0, rfl, _, _⟩ := hr.form
  refine oublietteref15_Table_Put.loop1 (fun x6 w' => ∃ i : Nat, i ≤ ns.length ∧ x6 = .int .i64 (i : Int) ∧ Ext w w' ∧ ∀ j (hj : j < i) (hjl : j < ns.length), ns[j] ≠ x) (fun x6 _ => ns.length - (iv x6).toNat) ⟨0, by omega, rfl, Fr.refl _ _, fun j hj => by omega⟩ ?_
  rintro x6 gg w1 ⟨i, hi, rfl, h1, hn⟩
  unfold oublietteref15_Table_Put.b1
  have e0 : IntKind.i64.wrap ((i : Int) + 1) = ((i + 1 : Nat) : Int) := by rw [wrap64 (by omega) (by omega)]; omega
  by_cases ci : (i : Int) < (ns.length : Int)
  · have hi' : i < ns.length := by omega
    obtain ⟨ad, c, e, s1, _, q'⟩ := nodeAt hr hi'
    simp only [Value.slice.injEq] at e
    obtain ⟨rfl, -, rfl⟩ := e
    simp only [↓eBinI, ↓eDiv, ↓eShift, ↓eBinS, ↓ePick, ↓eNot, ↓eNeg, ↓eConv, ↓eConvS, ↓eExt0, ↓eExt1, ↓eExt2, ↓eFA, ↓eIA, ↓eLenSl, ↓eCapSl, ↓eLenS, ↓eMin, ↓eMax, ↓eCondT, ↓eCondF, ↓gIf_tt, ↓gIf_ff, ↓gIf_tf, ↓gIf_ft, ↓gIf_u, ↓gIfW_u, ↓gIfW_tt, ↓gIfW_ff, ↓gIfW_tf, ↓gIfW_ft, binI, divI, shiftI, add_mk, Nat.zero_add, cond_true, cond_false, decide_true, decide_false, Bool.not_true, Bool.not_false, Bool.and_true, Bool.true_and, Bool.and_false, Bool.false_and, Int.toNat_natCast, Nat.mul_one, ci]
    refine draw_ fun w2 h2 => ?_
    have h12 := h1.tr h2
    have q := fun j u hj => h12.cell (q' j u hj)
    refine ⟨by omega, by omega, ?_⟩
    refine ⟨ad.add (i * 5), nodeV ns[i], rfl, rfl, fun w' f j hj => ?_, ?_⟩
    · rw [add_add _ _ _ s1, List.getElem?_eq_getElem (show j < (nodeV ns[i]).length from hj)]
      exact f.cell (q j _ (List.getElem?_eq_getElem _))
    show pLdN (Ext w2) 5 (.pointer (some ⟨g3, 0, none⟩)) _
    rw [(c3.ext h12).ldE (n := 5) rfl]
    refine eqNode (hg.inN (by omega) hi') hx ?_
    by_cases ce : ns[i] = x
    · rw [decide_eq_true ce]
      simp only [↓eBinI, ↓eDiv, ↓eShift, ↓eBinS, ↓ePick, ↓eNot, ↓eNeg, ↓eConv, ↓eConvS, ↓eExt0, ↓eExt1, ↓eExt2, ↓eFA, ↓eIA, ↓eLenSl, ↓eCapSl, ↓eLenS, ↓eMin, ↓eMax, ↓eCondT, ↓eCondF, ↓gIf_tt, ↓gIf_ff, ↓gIf_tf, ↓gIf_ft, ↓gIf_u, ↓gIfW_u, ↓gIfW_tt, ↓gIfW_ff, ↓gIfW_tf, ↓gIfW_ft, binI, divI, shiftI, add_mk, Nat.zero_add, cond_true, cond_false, decide_true, decide_false, Bool.not_true, Bool.not_false, Bool.and_true, Bool.true_and, Bool.and_false, Bool.false_and, Int.toNat_natCast, Nat.mul_one, e0]
      have hm : x ∈ ns := ce ▸ List.getElem_mem hi'
      have := h _ w2 (h12.mono (fun _ _ h => h.elim)) (by rw [(putN_in hth hm).1]; exact ho.ext h12) (fun b hb => .inl hb)
      rw [(putN_in hth hm).2, idxOf_first hi' ce (fun j hj => hn j hj (by omega))] at this
      rw [show ((i + 1 : Nat) : Int) = (i : Int) + 1 by omega]
      exact this
    · rw [decide_eq_false ce]
      simp only [↓eBinI, ↓eDiv, ↓eShift, ↓eBinS, ↓ePick, ↓eNot, ↓eNeg, ↓eConv, ↓eConvS, ↓eExt0, ↓eExt1, ↓eExt2, ↓eFA, ↓eIA, ↓eLenSl, ↓eCapSl, ↓eLenS, ↓eMin, ↓eMax, ↓eCondT, ↓eCondF, ↓gIf_tt, ↓gIf_ff, ↓gIf_tf, ↓gIf_ft, ↓gIf_u, ↓gIfW_u, ↓gIfW_tt, ↓gIfW_ff, ↓gIfW_tf, ↓gIfW_ft, binI, divI, shiftI, add_mk, Nat.zero_add, cond_true, cond_false, decide_true, decide_false, Bool.not_true, Bool.not_false, Bool.and_true, Bool.true_and, Bool.and_false, Bool.false_and, Int.toNat_natCast, Nat.mul_one, e0]
      refine oublietteref15_Table_Put.leaf1 ⟨i + 1, by omega, rfl, h12, fun j hj hjl => ?_⟩ (by simp only [iv]; omega)
      by_cases hji : j = i
      · subst hji; exact ce
      · exact hn j (by omega) hjl
  · have hi' : i = ns.length := by omega
    subst hi'
    have hm : x ∉ ns := not_mem_all fun j hj => hn j hj hj
    simp only [↓eBinI, ↓eDiv, ↓eShift, ↓eBinS, ↓ePick, ↓eNot, ↓eNeg, ↓eConv, ↓eConvS, ↓eExt0, ↓eExt1, ↓eExt2, ↓eFA, ↓eIA, ↓eLenSl, ↓eCapSl, ↓eLenS, ↓eMin, ↓eMax, ↓eCondT, ↓eCondF, ↓gIf_tt, ↓gIf_ff, ↓gIf_tf, ↓gIf_ft, ↓gIf_u, ↓gIfW_u, ↓gIfW_tt, ↓gIfW_ff, ↓gIfW_tf, ↓gIfW_ft, binI, divI, shiftI, add_mk, Nat.zero_add, cond_true, cond_false, decide_true, decide_false, Bool.not_true, Bool.not_false, Bool.and_true, Bool.true_and, Bool.and_false, Bool.false_and, Int.toNat_natCast, Nat.mul_one, ci]
    rw [(c3.ext h1).ld (n := 5) rfl]
    refine Cs.bslice (cs := nodeV x) (fillAgg rfl rfl) fun r w2 hr2 h2 c2 => ?_
    refine pushNode ((ho.ext h1).ext h2) (by omega) hx c2 fun v w3 f3 o3 b3 => ?_
    have z1 := h1.size; have z2 := h2.size; have z3 := f3.size
    simp only [↓eBinI, ↓eDiv, ↓eShift, ↓eBinS, ↓ePick, ↓eNot, ↓eNeg, ↓eConv, ↓eConvS, ↓eExt0, ↓eExt1, ↓eExt2, ↓eFA, ↓eIA, ↓eLenSl, ↓eCapSl, ↓eLenS, ↓eMin, ↓eMax, ↓eCondT, ↓eCondF, ↓gIf_tt, ↓gIf_ff, ↓gIf_tf, ↓gIf_ft, ↓gIf_u, ↓gIfW_u, ↓gIfW_tt, ↓gIfW_ff, ↓gIfW_tf, ↓gIfW_ft, binI, divI, shiftI, add_mk, Nat.zero_add, cond_true, cond_false, decide_true, decide_false, Bool.not_true, Bool.not_false, Bool.and_true, Bool.true_and, Bool.and_false, Bool.false_and, Int.toNat_natCast, Nat.mul_one, e0]
    have := h v w3 (((h1.tr h2).mono (fun _ _ h => h.elim)).trans f3 (fun _ _ h => h)) (by rw [(putN_new hth hm).1]; exact o3) (fun b hb => (b3 b hb).imp id (fun hh => by omega))
    rw [(putN_new hth hm).2] at this
    rw [show ((ns.length + 1 : Nat) : Int) = (ns.length : Int) + 1 by omega]
    exact this
set_option maxHeartbeats 1000000 in
theorem RPut_c (ho : G.Own tNode NoB 0 w x0 ns) (hl : ns.length < 10000) (hg : GoodN ns) (hnx : Norm x) (hx : InN x)
    (h : ∀ v w', Fr (fun b => Blk x0 b) w w' → G.Own tNode NoB 0 w' v (putN ns x) → (∀ b, Blk v b → Blk x0 b ∨ (w.heap.size ≤ b ∧ b < w'.heap.size)) → K (.tuple #[v, .int .i64 (putId ns x)]) w') : GCalls Try.prog 43 [x0, .agg ⟨nodeV x⟩] K X w := by
  have hr := nodeOwn ho (by omega)
  apply oublietteref15_Table_Put.calls; unfold oublietteref15_Table_Put.b
  refine boxC (cs := nodeV x) fun g3 w1 hg3 h1 c3 => ?_
  have z1 := h1.size
  have ho1 := ho.ext h1
  have c3' : Cs w1 g3 [.int .i64 x.1, .int .i64 x.2.1, .int .i64 x.2.2.1, strV x.2.2.2.1, .int .i64 x.2.2.2.2] := c3
  have hloop : (partsOf x).all (thereN ns) = true → ∀ v w', Fr (fun b => Blk x0 b) w1 w' → G.Own tNode NoB 0 w' v (putN ns x) → (∀ b, Blk v b → Blk x0 b ∨ (w1.heap.size ≤ b ∧ b < w'.heap.size)) → K (.tuple #[v, .int .i64 (putId ns x)]) w' := fun _ v w' f o b =>
    h v w' ((h1.mono (fun _ _ h => h.elim)).trans f (fun _ _ h => h)) o (fun c hc => (b c hc).imp id (fun hh => by omega))
  have hno : (partsOf x).all (thereN ns) = false → K (.tuple #[x0, .int .i64 0]) w1 := fun hh => by
    have := h x0 w1 (h1.mono (fun _ _ h => h.elim)) (by rw [(putN_no hh).1]; exact ho1) (fun b hb => .inl hb)
    rw [(putN_no hh).2] at this
    exact this
  rcases hnx with hk | hk | ⟨hk, hk2⟩
  · have hp : partsOf x = [] := by simp [partsOf, hk.1]
    rw [hp] at hno hloop
    have g3' : ¬ x.1 ≥ 3 := by omega
    have g4' : ¬ x.1 ≥ 4 := by omega
    simp only [↓eBinI, ↓eDiv, ↓eShift, ↓eBinS, ↓ePick, ↓eNot, ↓eNeg, ↓eConv, ↓eConvS, ↓eExt0, ↓eExt1, ↓eExt2, ↓eFA, ↓eIA, ↓eLenSl, ↓eCapSl, ↓eLenS, ↓eMin, ↓eMax, ↓eCondT, ↓eCondF, ↓gIf_tt, ↓gIf_ff, ↓gIf_tf, ↓gIf_ft, ↓gIf_u, ↓gIfW_u, ↓gIfW_tt, ↓gIfW_ff, ↓gIfW_tf, ↓gIfW_ft, binI, divI, shiftI, add_mk, Nat.zero_add, cond_true, cond_false, decide_true, decide_false, Bool.not_true, Bool.not_false, Bool.and_true, Bool.true_and, Bool.and_false, Bool.false_and, Int.toNat_natCast, Nat.mul_one, ↓c3'.c0, g3', g4']
    exact put_loop ho1 hl hg hx (by rw [hp]; rfl) c3 (hloop rfl)
  · have hp : partsOf x = [x.2.1] := by simp [partsOf, hk.1]
    have g3' : x.1 ≥ 3 := by omega
    have g4' : ¬ x.1 ≥ 4 := by omega
    simp only [↓eBinI, ↓eDiv, ↓eShift, ↓eBinS, ↓ePick, ↓eNot, ↓eNeg, ↓eConv, ↓eConvS, ↓eExt0, ↓eExt1, ↓eExt2, ↓eFA, ↓eIA, ↓eLenSl, ↓eCapSl, ↓eLenS, ↓eMin, ↓eMax, ↓eCondT, ↓eCondF, ↓gIf_tt, ↓gIf_ff, ↓gIf_tf, ↓gIf_ft, ↓gIf_u, ↓gIfW_u, ↓gIfW_tt, ↓gIfW_ff, ↓gIfW_tf, ↓gIfW_ft, binI, divI, shiftI, add_mk, Nat.zero_add, cond_true, cond_false, decide_true, decide_false, Bool.not_true, Bool.not_false, Bool.and_true, Bool.true_and, Bool.and_false, Bool.false_and, Int.toNat_natCast, Nat.mul_one, ↓c3'.c0, ↓c3'.c1, g3', g4']
    refine RThere_c (hr.ext h1) ?_
    cases ht : thereN ns x.2.1 with
    | false =>
      simp only [↓eBinI, ↓eDiv, ↓eShift, ↓eBinS, ↓ePick, ↓eNot, ↓eNeg, ↓eConv, ↓eConvS, ↓eExt0, ↓eExt1, ↓eExt2, ↓eFA, ↓eIA, ↓eLenSl, ↓eCapSl, ↓eLenS, ↓eMin, ↓eMax, ↓eCondT, ↓eCondF, ↓gIf_tt, ↓gIf_ff, ↓gIf_tf, ↓gIf_ft, ↓gIf_u, ↓gIfW_u, ↓gIfW_tt, ↓gIfW_ff, ↓gIfW_tf, ↓gIfW_ft, binI, divI, shiftI, add_mk, Nat.zero_add, cond_true, cond_false, decide_true, decide_false, Bool.not_true, Bool.not_false, Bool.and_true, Bool.true_and, Bool.and_false, Bool.false_and, Int.toNat_natCast, Nat.mul_one, ↓c3'.c0, g4']
      exact hno (by rw [hp]; simp [ht])
    | true =>
      simp only [↓eBinI, ↓eDiv, ↓eShift, ↓eBinS, ↓ePick, ↓eNot, ↓eNeg, ↓eConv, ↓eConvS, ↓eExt0, ↓eExt1, ↓eExt2, ↓eFA, ↓eIA, ↓eLenSl, ↓eCapSl, ↓eLenS, ↓eMin, ↓eMax, ↓eCondT, ↓eCondF, ↓gIf_tt, ↓gIf_ff, ↓gIf_tf, ↓gIf_ft, ↓gIf_u, ↓gIfW_u, ↓gIfW_tt, ↓gIfW_ff, ↓gIfW_tf, ↓gIfW_ft, binI, divI, shiftI, add_mk, Nat.zero_add, cond_true, cond_false, decide_true, decide_false, Bool.not_true, Bool.not_false, Bool.and_true, Bool.true_and, Bool.and_false, Bool.false_and, Int.toNat_natCast, Nat.mul_one, ↓c3'.c0, g4']
      have hth : (partsOf x).all (thereN ns) = true := by rw [hp]; simp [ht]
      exact put_loop ho1 hl hg hx hth c3 (hloop hth)
  · have c3n : ¬ x.1 < 3 := by rcases hk with hk | hk <;> omega
    have n3 : ¬ x.1 = 3 := by rcases hk with hk | hk <;> omega
    have hp : partsOf x = [x.2.1, x.2.2.1] := by simp [partsOf, c3n, n3]
    have g3' : x.1 ≥ 3 := by omega
    have g4' : x.1 ≥ 4 := by omega
    simp only [↓eBinI, ↓eDiv, ↓eShift, ↓eBinS, ↓ePick, ↓eNot, ↓eNeg, ↓eConv, ↓eConvS, ↓eExt0, ↓eExt1, ↓eExt2, ↓eFA, ↓eIA, ↓eLenSl, ↓eCapSl, ↓eLenS, ↓eMin, ↓eMax, ↓eCondT, ↓eCondF, ↓gIf_tt, ↓gIf_ff, ↓gIf_tf, ↓gIf_ft, ↓gIf_u, ↓gIfW_u, ↓gIfW_tt, ↓gIfW_ff, ↓gIfW_tf, ↓gIfW_ft, binI, divI, shiftI, add_mk, Nat.zero_add, cond_true, cond_false, decide_true, decide_false, Bool.not_true, Bool.not_false, Bool.and_true, Bool.true_and, Bool.and_false, Bool.false_and, Int.toNat_natCast, Nat.mul_one, ↓c3'.c0, ↓c3'.c1, g3', g4']
    refine RThere_c (hr.ext h1) ?_
    cases ht : thereN ns x.2.1 with
    | false =>
      simp only [↓eBinI, ↓eDiv, ↓eShift, ↓eBinS, ↓ePick, ↓eNot, ↓eNeg, ↓eConv, ↓eConvS, ↓eExt0, ↓eExt1, ↓eExt2, ↓eFA, ↓eIA, ↓eLenSl, ↓eCapSl, ↓eLenS, ↓eMin, ↓eMax, ↓eCondT, ↓eCondF, ↓gIf_tt, ↓gIf_ff, ↓gIf_tf, ↓gIf_ft, ↓gIf_u, ↓gIfW_u, ↓gIfW_tt, ↓gIfW_ff, ↓gIfW_tf, ↓gIfW_ft, binI, divI, shiftI, add_mk, Nat.zero_add, cond_true, cond_false, decide_true, decide_false, Bool.not_true, Bool.not_false, Bool.and_true, Bool.true_and, Bool.and_false, Bool.false_and, Int.toNat_natCast, Nat.mul_one]
      exact hno (by rw [hp]; simp [ht])
    | true =>
      simp only [↓eBinI, ↓eDiv, ↓eShift, ↓eBinS, ↓ePick, ↓eNot, ↓eNeg, ↓eConv, ↓eConvS, ↓eExt0, ↓eExt1, ↓eExt2, ↓eFA, ↓eIA, ↓eLenSl, ↓eCapSl, ↓eLenS, ↓eMin, ↓eMax, ↓eCondT, ↓eCondF, ↓gIf_tt, ↓gIf_ff, ↓gIf_tf, ↓gIf_ft, ↓gIf_u, ↓gIfW_u, ↓gIfW_tt, ↓gIfW_ff, ↓gIfW_tf, ↓gIfW_ft, binI, divI, shiftI, add_mk, Nat.zero_add, cond_true, cond_false, decide_true, decide_false, Bool.not_true, Bool.not_false, Bool.and_true, Bool.true_and, Bool.and_false, Bool.false_and, Int.toNat_natCast, Nat.mul_one, ↓c3'.c0, ↓c3'.c2, g4']
      refine RThere_c (hr.ext h1) ?_
      cases ht2 : thereN ns x.2.2.1 with
      | false =>
        simp only [↓eBinI, ↓eDiv, ↓eShift, ↓eBinS, ↓ePick, ↓eNot, ↓eNeg, ↓eConv, ↓eConvS, ↓eExt0, ↓eExt1, ↓eExt2, ↓eFA, ↓eIA, ↓eLenSl, ↓eCapSl, ↓eLenS, ↓eMin, ↓eMax, ↓eCondT, ↓eCondF, ↓gIf_tt, ↓gIf_ff, ↓gIf_tf, ↓gIf_ft, ↓gIf_u, ↓gIfW_u, ↓gIfW_tt, ↓gIfW_ff, ↓gIfW_tf, ↓gIfW_ft, binI, divI, shiftI, add_mk, Nat.zero_add, cond_true, cond_false, decide_true, decide_false, Bool.not_true, Bool.not_false, Bool.and_true, Bool.true_and, Bool.and_false, Bool.false_and, Int.toNat_natCast, Nat.mul_one]
        exact hno (by rw [hp]; simp [ht, ht2])
      | true =>
        simp only [↓eBinI, ↓eDiv, ↓eShift, ↓eBinS, ↓ePick, ↓eNot, ↓eNeg, ↓eConv, ↓eConvS, ↓eExt0, ↓eExt1, ↓eExt2, ↓eFA, ↓eIA, ↓eLenSl, ↓eCapSl, ↓eLenS, ↓eMin, ↓eMax, ↓eCondT, ↓eCondF, ↓gIf_tt, ↓gIf_ff, ↓gIf_tf, ↓gIf_ft, ↓gIf_u, ↓gIfW_u, ↓gIfW_tt, ↓gIfW_ff, ↓gIfW_tf, ↓gIfW_ft, binI, divI, shiftI, add_mk, Nat.zero_add, cond_true, cond_false, decide_true, decide_false, Bool.not_true, Bool.not_false, Bool.and_true, Bool.true_and, Bool.and_false, Bool.false_and, Int.toNat_natCast, Nat.mul_one]
        have hth : (partsOf x).all (thereN ns) = true := by rw [hp]; simp [ht, ht2]
        exact put_loop ho1 hl hg hx hth c3 (hloop hth)
end Go.Proofs.Ytkpgmaiklfjjgaa
end
section
set_option linter.unusedSimpArgs false
set_option linter.unusedVariables false
set_option maxRecDepth 100000
namespace Go.Proofs.Ytkpgmaiklfjjgaa
open Go Go.G
variable {X : KX} {w : World} {K : KV} {D D' : Nat → Prop} {ns : List Node} {x0 : Value}
def actL (x : Act) : List Value := [.int .i64 x.1, .int .i64 x.2.1, .int .i64 x.2.2.1, strV x.2.2.2]
def InA (x : Act) : Prop := InI x.1 ∧ InI x.2.1 ∧ InI x.2.2.1
theorem actRd {vs : List Value} {n : Act} (h : Rd tAct D w vs n) : vs = actL n ∧ InA n := by
  obtain ⟨a1, b1, rfl, _, _, h1, a2, b2, rfl, _, _, h2, a3, b3, rfl, _, _, h3, h4⟩ := h
  obtain ⟨rfl, p1, q1⟩ := h1
  obtain ⟨rfl, p2, q2⟩ := h2
  obtain ⟨rfl, p3, q3⟩ := h3
  obtain ⟨rfl, p4⟩ := h4
  exact ⟨rfl, ⟨p1, q1⟩, ⟨p2, q2⟩, ⟨p3, q3⟩⟩
theorem actAt {x : Value} {l : List Act} (hx : Rd (.slice tAct) D w [x] l) {i : Nat} (hi : i < l.length) : ∃ ad c, x = .slice (some ad) l.length c ∧ ad.spot = none ∧ D ad.block ∧ (∀ j u, (actL l[i])[j]? = some u → w.cell? (ad.add (i * 4 + j)) = some u) ∧ InA l[i] := by
  obtain ⟨ad, c', us, e1, s1, hd, hus, q1, r1⟩ := hx.idxN hi
  obtain ⟨rfl, h⟩ := actRd r1
  exact ⟨ad, c', e1, s1, hd, q1, h⟩
theorem ldAct {ad : Addr} {i : Nat} {x : Act} {K : KP} (s1 : ad.spot = none) (q : ∀ j u, (actL x)[j]? = some u → w.cell? (ad.add (i * 4 + j)) = some u) (h : K (actV x)) : pLdN (· = w) 4 (.pointer (some (ad.add (i * 4)))) K := by
  refine ⟨ad.add (i * 4), actL x, rfl, rfl, fun w' e j hj => ?_, h⟩
  subst e
  rw [add_add _ _ _ s1, List.getElem?_eq_getElem (show j < (actL x).length from hj)]
  exact q j _ (List.getElem?_eq_getElem _)
theorem nodeOf_in {x : Act} (h : InA x) (hs : x.2.2.2.length ≤ 1000000) : InN (nodeOf x) := by
  obtain ⟨h1, h2, h3⟩ := h
  have hk : ∀ k : Int, 0 ≤ k → k ≤ 5 → InI k := fun k a b => ⟨by omega, by omega⟩
  unfold nodeOf
  split
  · exact ⟨hk 2 (by omega) (by omega), hk 0 (by omega) (by omega), hk 0 (by omega) (by omega), hk 0 (by omega) (by omega), by show x.2.2.2.length ≤ _; omega⟩
  · split
    · exact ⟨hk 3 (by omega) (by omega), h2, hk 0 (by omega) (by omega), hk 0 (by omega) (by omega), by show x.2.2.2.length ≤ _; omega⟩
    · split
      · exact ⟨hk 4 (by omega) (by omega), h2, h3, hk 0 (by omega) (by omega), by show 0 ≤ _; omega⟩
      · exact ⟨hk 5 (by omega) (by omega), h2, h3, hk 0 (by omega) (by omega), by show 0 ≤ _; omega⟩
set_option maxHeartbeats 1000000 in
theorem Of_c {x : Act} (ho : G.Own tNode NoB 0 w x0 ns) (hl : ns.length < 10000) (hg : GoodN ns) (hx : InA x) (hs : x.2.2.2.length ≤ 1000000)
    (h : ∀ v w', Fr (fun b => Blk x0 b) w w' → G.Own tNode NoB 0 w' v (actN ns x) → (∀ b, Blk v b → Blk x0 b ∨ (w.heap.size ≤ b ∧ b < w'.heap.size)) → K (.tuple #[v, .int .i64 (actId ns x)]) w') : GCalls Try.prog 25 [x0, actV x] K X w := by
  apply oubliettelaw15_Of.calls; unfold oubliettelaw15_Of.b
  refine boxC (cs := [.int .i64 x.1, .int .i64 x.2.1, .int .i64 x.2.2.1, strV x.2.2.2]) fun g3 w1 hg3 h1 c1 => ?_
  have z1 := h1.size
  have ho := ho.ext h1
  have hin := nodeOf_in hx hs
  have h' : ∀ v w', Fr (fun b => Blk x0 b) w1 w' → G.Own tNode NoB 0 w' v (actN ns x) → (∀ b, Blk v b → Blk x0 b ∨ (w1.heap.size ≤ b ∧ b < w'.heap.size)) → K (.tuple #[v, .int .i64 (actId ns x)]) w' := fun v w' f o b =>
    h v w' ((h1.mono (fun _ _ h => h.elim)).trans f (fun _ _ h => h)) o (fun c hc => (b c hc).imp id (fun hh => by omega))
  by_cases k1 : x.1 = 1
  · have e : (x.1 == 1) = true := by simp [k1]
    simp only [↓eBinI, ↓eDiv, ↓eShift, ↓eBinS, ↓ePick, ↓eNot, ↓eNeg, ↓eConv, ↓eConvS, ↓eExt0, ↓eExt1, ↓eExt2, ↓eFA, ↓eIA, ↓eLenSl, ↓eCapSl, ↓eLenS, ↓eMin, ↓eMax, ↓eCondT, ↓eCondF, ↓gIf_tt, ↓gIf_ff, ↓gIf_tf, ↓gIf_ft, ↓gIf_u, ↓gIfW_u, ↓gIfW_tt, ↓gIfW_ff, ↓gIfW_tf, ↓gIfW_ft, binI, divI, shiftI, add_mk, Nat.zero_add, cond_true, cond_false, decide_true, decide_false, Bool.not_true, Bool.not_false, Bool.and_true, Bool.true_and, Bool.and_false, Bool.false_and, Int.toNat_natCast, Nat.mul_one, ↓c1.c0, e]
    rw [actN, actId, if_pos k1, if_pos k1] at h'
    refine RAtom_c ho hl fun v w' f o b => ?_
    refine ex20 (ex21 ?_)
    exact h' v w' f o b
  have e1 : (x.1 == 1) = false := by simpa using k1
  rw [actN, actId, if_neg k1, if_neg k1] at h'
  have hn := norm_of x
  by_cases k2 : x.1 = 2
  · have e2 : (x.1 == 2) = true := by simp [k2]
    simp only [↓eBinI, ↓eDiv, ↓eShift, ↓eBinS, ↓ePick, ↓eNot, ↓eNeg, ↓eConv, ↓eConvS, ↓eExt0, ↓eExt1, ↓eExt2, ↓eFA, ↓eIA, ↓eLenSl, ↓eCapSl, ↓eLenS, ↓eMin, ↓eMax, ↓eCondT, ↓eCondF, ↓gIf_tt, ↓gIf_ff, ↓gIf_tf, ↓gIf_ft, ↓gIf_u, ↓gIfW_u, ↓gIfW_tt, ↓gIfW_ff, ↓gIfW_tf, ↓gIfW_ft, binI, divI, shiftI, add_mk, Nat.zero_add, cond_true, cond_false, decide_true, decide_false, Bool.not_true, Bool.not_false, Bool.and_true, Bool.true_and, Bool.and_false, Bool.false_and, Int.toNat_natCast, Nat.mul_one, ↓c1.c0, e1, e2, ↓(Cs.c3 c1)]
    rw [nodeOf, if_pos k2] at h' hin hn
    refine ⟨nodeV (2, 0, 0, x.2.2.2, 0), by simp [fillL, one_cells, cutIn, Value.cells, nodeV, strV], ?_⟩
    refine RPut_c ho hl hg hn hin fun v w' f o b => ?_
    refine ex20 (ex21 ?_)
    exact h' v w' f o b
  have e2 : (x.1 == 2) = false := by simpa using k2
  by_cases k3 : x.1 = 3
  · have e3 : (x.1 == 3) = true := by simp [k3]
    simp only [↓eBinI, ↓eDiv, ↓eShift, ↓eBinS, ↓ePick, ↓eNot, ↓eNeg, ↓eConv, ↓eConvS, ↓eExt0, ↓eExt1, ↓eExt2, ↓eFA, ↓eIA, ↓eLenSl, ↓eCapSl, ↓eLenS, ↓eMin, ↓eMax, ↓eCondT, ↓eCondF, ↓gIf_tt, ↓gIf_ff, ↓gIf_tf, ↓gIf_ft, ↓gIf_u, ↓gIfW_u, ↓gIfW_tt, ↓gIfW_ff, ↓gIfW_tf, ↓gIfW_ft, binI, divI, shiftI, add_mk, Nat.zero_add, cond_true, cond_false, decide_true, decide_false, Bool.not_true, Bool.not_false, Bool.and_true, Bool.true_and, Bool.and_false, Bool.false_and, Int.toNat_natCast, Nat.mul_one, ↓c1.c0, ↓c1.c1, e1, e2, e3, ↓(Cs.c3 c1)]
    rw [nodeOf, if_neg k2, if_pos k3] at h' hin hn
    refine ⟨nodeV (3, x.2.1, 0, x.2.2.2, 0), by simp [fillL, one_cells, cutIn, Value.cells, nodeV, strV], ?_⟩
    refine RPut_c ho hl hg hn hin fun v w' f o b => ?_
    refine ex20 (ex21 ?_)
    exact h' v w' f o b
  have e3 : (x.1 == 3) = false := by simpa using k3
  by_cases k4 : x.1 = 4
  · have e4 : (x.1 == 4) = true := by simp [k4]
    simp only [↓eBinI, ↓eDiv, ↓eShift, ↓eBinS, ↓ePick, ↓eNot, ↓eNeg, ↓eConv, ↓eConvS, ↓eExt0, ↓eExt1, ↓eExt2, ↓eFA, ↓eIA, ↓eLenSl, ↓eCapSl, ↓eLenS, ↓eMin, ↓eMax, ↓eCondT, ↓eCondF, ↓gIf_tt, ↓gIf_ff, ↓gIf_tf, ↓gIf_ft, ↓gIf_u, ↓gIfW_u, ↓gIfW_tt, ↓gIfW_ff, ↓gIfW_tf, ↓gIfW_ft, binI, divI, shiftI, add_mk, Nat.zero_add, cond_true, cond_false, decide_true, decide_false, Bool.not_true, Bool.not_false, Bool.and_true, Bool.true_and, Bool.and_false, Bool.false_and, Int.toNat_natCast, Nat.mul_one, ↓c1.c0, ↓c1.c1, ↓c1.c2, e1, e2, e3, e4]
    rw [nodeOf, if_neg k2, if_neg k3, if_pos k4] at h' hin hn
    refine ⟨nodeV (4, x.2.1, x.2.2.1, [], 0), by simp [fillL, one_cells, cutIn, Value.cells, nodeV, strV], ?_⟩
    refine RPut_c ho hl hg hn hin fun v w' f o b => ?_
    refine ex20 (ex21 ?_)
    exact h' v w' f o b
  have e4 : (x.1 == 4) = false := by simpa using k4
  simp only [↓eBinI, ↓eDiv, ↓eShift, ↓eBinS, ↓ePick, ↓eNot, ↓eNeg, ↓eConv, ↓eConvS, ↓eExt0, ↓eExt1, ↓eExt2, ↓eFA, ↓eIA, ↓eLenSl, ↓eCapSl, ↓eLenS, ↓eMin, ↓eMax, ↓eCondT, ↓eCondF, ↓gIf_tt, ↓gIf_ff, ↓gIf_tf, ↓gIf_ft, ↓gIf_u, ↓gIfW_u, ↓gIfW_tt, ↓gIfW_ff, ↓gIfW_tf, ↓gIfW_ft, binI, divI, shiftI, add_mk, Nat.zero_add, cond_true, cond_false, decide_true, decide_false, Bool.not_true, Bool.not_false, Bool.and_true, Bool.true_and, Bool.and_false, Bool.false_and, Int.toNat_natCast, Nat.mul_one, ↓c1.c0, ↓c1.c1, ↓c1.c2, e1, e2, e3, e4]
  rw [nodeOf, if_neg k2, if_neg k3, if_neg k4] at h' hin hn
  refine ⟨nodeV (5, x.2.1, x.2.2.1, [], 0), by simp [fillL, one_cells, cutIn, Value.cells, nodeV, strV], ?_⟩
  refine RPut_c ho hl hg hn hin fun v w' f o b => ?_
  refine ex20 (ex21 ?_)
  exact h' v w' f o b
def actsN (l : List Act) : List Node := l.foldl actN []
theorem actN_len (ns : List Node) (a : Act) : (actN ns a).length ≤ ns.length + 1 := by
  unfold actN putN
  split
  · simp
  · split
    · split
      · omega
      · simp
    · omega
theorem actsN_succ {l : List Act} {i : Nat} (hi : i < l.length) : actsN (l.take (i + 1)) = actN (actsN (l.take i)) l[i] := by
  rw [actsN, List.take_succ_eq_append_getElem hi, List.foldl_append]; rfl
set_option maxHeartbeats 1000000 in
theorem made_c {x : Value} {l : List Act} (hx : Rd (.slice tAct) D w [x] l) (hl : l.length ≤ 1000) (hs : ∀ i (h : i < l.length), l[i].2.2.2.length ≤ 1000)
    (h : ∀ gT F v w', Ext w w' → (∀ b, F b → w.heap.size ≤ b) → (∀ b, Blk v b → w.heap.size ≤ b ∧ b < w'.heap.size ∧ ¬ F b) → Tab w' gT F (actsN l) → G.Own tNode NoB 0 w' v (actsN l) → (actsN l).length ≤ l.length → K (.tuple #[.pointer (some ⟨gT, 0, none⟩), v]) w') : GCalls Try.prog 8 [x] K X w := by
  apply oubliettelaw16_made.calls; unfold oubliettelaw16_made.b
  refine TNew_c fun gT F0 w1 h1 hF0 t1 => ?_
  have z1 := h1.size
  obtain ⟨ax, cx, rfl, _, _⟩ := hx.form
  refine oubliettelaw16_made.loop1 (fun x5 x6 w' => ∃ (i : Nat) (F : Nat → Prop), i ≤ l.length ∧ x6 = .int .i64 (i : Int) ∧ Ext w w' ∧ (∀ b, F b → w.heap.size ≤ b) ∧ (∀ b, Blk x5 b → w.heap.size ≤ b ∧ b < w'.heap.size ∧ ¬ F b) ∧ Tab w' gT F (actsN (l.take i)) ∧ G.Own tNode NoB 0 w' x5 (actsN (l.take i)) ∧ (actsN (l.take i)).length ≤ i)
    (fun _ x6 _ => l.length - (iv x6).toNat) ⟨0, F0, by omega, rfl, h1, hF0, fun b hb => (by obtain ⟨_, _, _, e, _⟩ := hb; cases e), t1, G.Own.nil, by simp [actsN]⟩ ?_
  rintro x5 x6 gg w2 ⟨i, F, hi, rfl, h2, hF, hv, ht, ho, hle⟩
  unfold oubliettelaw16_made.b1
  have z2 := h2.size
  by_cases ci : (i : Int) < (l.length : Int)
  · have hi' : i < l.length := by omega
    obtain ⟨ad, c, e, s1, _, q', hin⟩ := actAt hx hi'
    simp only [Value.slice.injEq] at e
    obtain ⟨rfl, -, rfl⟩ := e
    have hsi := hs i hi'
    have e0 : IntKind.i64.wrap ((i : Int) + 1) = ((i + 1 : Nat) : Int) := by rw [wrap64 (by omega) (by omega)]; omega
    simp only [↓eBinI, ↓eDiv, ↓eShift, ↓eBinS, ↓ePick, ↓eNot, ↓eNeg, ↓eConv, ↓eConvS, ↓eExt0, ↓eExt1, ↓eExt2, ↓eFA, ↓eIA, ↓eLenSl, ↓eCapSl, ↓eLenS, ↓eMin, ↓eMax, ↓eCondT, ↓eCondF, ↓gIf_tt, ↓gIf_ff, ↓gIf_tf, ↓gIf_ft, ↓gIf_u, ↓gIfW_u, ↓gIfW_tt, ↓gIfW_ff, ↓gIfW_tf, ↓gIfW_ft, binI, divI, shiftI, add_mk, Nat.zero_add, cond_true, cond_false, decide_true, decide_false, Bool.not_true, Bool.not_false, Bool.and_true, Bool.true_and, Bool.and_false, Bool.false_and, Int.toNat_natCast, Nat.mul_one, ci]
    refine ⟨by omega, by first | trivial | omega, ?_⟩
    refine ldAct s1 (fun j u hj => h2.cell (q' j u hj)) ?_
    refine Do_c ht hin.2.1 hin.2.2 (by omega) (by omega) fun w3 F' f3 hF' t3 => ?_
    have z3 := f3.size
    have hFw := ht.fp
    have h3 : Ext w w3 := h2.tn f3 (fun b hb => hF b hb)
    try simp only [↓eBinI, ↓eDiv, ↓eShift, ↓eBinS, ↓ePick, ↓eNot, ↓eNeg, ↓eConv, ↓eConvS, ↓eExt0, ↓eExt1, ↓eExt2, ↓eFA, ↓eIA, ↓eLenSl, ↓eCapSl, ↓eLenS, ↓eMin, ↓eMax, ↓eCondT, ↓eCondF, ↓gIf_tt, ↓gIf_ff, ↓gIf_tf, ↓gIf_ft, ↓gIf_u, ↓gIfW_u, ↓gIfW_tt, ↓gIfW_ff, ↓gIfW_tf, ↓gIfW_ft, binI, divI, shiftI, add_mk, Nat.zero_add, cond_true, cond_false, decide_true, decide_false, Bool.not_true, Bool.not_false, Bool.and_true, Bool.true_and, Bool.and_false, Bool.false_and, Int.toNat_natCast, Nat.mul_one]
    refine ⟨by omega, by first | trivial | omega, ?_⟩
    refine ldAct s1 (fun j u hj => h3.cell (q' j u hj)) ?_
    have ho3 := ho.fr f3 (fun _ h => h.elim) (fun b hb _ hh => (hv b hb).2.2 hh)
    refine Of_c ho3 (by omega) ht.good hin (by omega) fun v w4 f4 o4 b4 => ?_
    have z4 := f4.size
    refine ex20 (ex21 ?_)
    simp only [↓eBinI, ↓eDiv, ↓eShift, ↓eBinS, ↓ePick, ↓eNot, ↓eNeg, ↓eConv, ↓eConvS, ↓eExt0, ↓eExt1, ↓eExt2, ↓eFA, ↓eIA, ↓eLenSl, ↓eCapSl, ↓eLenS, ↓eMin, ↓eMax, ↓eCondT, ↓eCondF, ↓gIf_tt, ↓gIf_ff, ↓gIf_tf, ↓gIf_ft, ↓gIf_u, ↓gIfW_u, ↓gIfW_tt, ↓gIfW_ff, ↓gIfW_tf, ↓gIfW_ft, binI, divI, shiftI, add_mk, Nat.zero_add, cond_true, cond_false, decide_true, decide_false, Bool.not_true, Bool.not_false, Bool.and_true, Bool.true_and, Bool.and_false, Bool.false_and, Int.toNat_natCast, Nat.mul_one, e0]
    have hbv : ∀ b, Blk x5 b → ¬ F' b := fun b hb hh => by
      rcases hF' b hh with hh | hh
      · exact (hv b hb).2.2 hh
      · have := (hv b hb).2.1; omega
    have hF'w := t3.fp
    refine oubliettelaw16_made.leaf1 ⟨i + 1, F', by omega, rfl, h3.tn f4 (fun b hb => (hv b hb).1), fun b hb => ?_, fun b hb => ?_, ?_, by rw [actsN_succ hi']; exact o4, ?_⟩ (by simp only [iv]; omega)
    · rcases hF' b hb with hh | hh
      · exact hF b hh
      · omega
    · rcases b4 b hb with hh | hh
      · have := hv b hh; exact ⟨this.1, by omega, hbv b hh⟩
      · exact ⟨by omega, hh.2, fun hq => by have := hF'w b hq; omega⟩
    · rw [actsN_succ hi']
      exact t3.fr f4 (fun b hb hh => hbv b hh hb)
    · rw [actsN_succ hi']
      have := actN_len (actsN (l.take i)) l[i]
      omega
  · have hi' : i = l.length := by omega
    subst hi'
    rw [List.take_length] at ht ho hle
    simp only [↓eBinI, ↓eDiv, ↓eShift, ↓eBinS, ↓ePick, ↓eNot, ↓eNeg, ↓eConv, ↓eConvS, ↓eExt0, ↓eExt1, ↓eExt2, ↓eFA, ↓eIA, ↓eLenSl, ↓eCapSl, ↓eLenS, ↓eMin, ↓eMax, ↓eCondT, ↓eCondF, ↓gIf_tt, ↓gIf_ff, ↓gIf_tf, ↓gIf_ft, ↓gIf_u, ↓gIfW_u, ↓gIfW_tt, ↓gIfW_ff, ↓gIfW_tf, ↓gIfW_ft, binI, divI, shiftI, add_mk, Nat.zero_add, cond_true, cond_false, decide_true, decide_false, Bool.not_true, Bool.not_false, Bool.and_true, Bool.true_and, Bool.and_false, Bool.false_and, Int.toNat_natCast, Nat.mul_one, ci]
    exact h gT F x5 w2 h2 hF hv ht ho hle
theorem Light15_c {x : Value} {l : List Act} (hx : Rd (.slice tAct) D w [x] l) (h : ∀ r : Bool, (r = true → l.length ≤ 60 ∧ ∀ i (h : i < l.length), l[i].2.2.2.length ≤ 40) → K (.bool r) w) : GCalls Try.prog 20 [x] K X w := by
  obtain ⟨ax, cx, rfl, _, _⟩ := hx.form
  apply oubliettelaw15_Light.calls; unfold oubliettelaw15_Light.b
  by_cases d : (l.length : Int) > 60
  · simp only [↓eBinI, ↓eDiv, ↓eShift, ↓eBinS, ↓ePick, ↓eNot, ↓eNeg, ↓eConv, ↓eConvS, ↓eExt0, ↓eExt1, ↓eExt2, ↓eFA, ↓eIA, ↓eLenSl, ↓eCapSl, ↓eLenS, ↓eMin, ↓eMax, ↓eCondT, ↓eCondF, ↓gIf_tt, ↓gIf_ff, ↓gIf_tf, ↓gIf_ft, ↓gIf_u, ↓gIfW_u, ↓gIfW_tt, ↓gIfW_ff, ↓gIfW_tf, ↓gIfW_ft, binI, divI, shiftI, add_mk, Nat.zero_add, cond_true, cond_false, decide_true, decide_false, Bool.not_true, Bool.not_false, Bool.and_true, Bool.true_and, Bool.and_false, Bool.false_and, Int.toNat_natCast, Nat.mul_one, d]
    exact h false (fun h => by cases h)
  simp only [↓eBinI, ↓eDiv, ↓eShift, ↓eBinS, ↓ePick, ↓eNot, ↓eNeg, ↓eConv, ↓eConvS, ↓eExt0, ↓eExt1, ↓eExt2, ↓eFA, ↓eIA, ↓eLenSl, ↓eCapSl, ↓eLenS, ↓eMin, ↓eMax, ↓eCondT, ↓eCondF, ↓gIf_tt, ↓gIf_ff, ↓gIf_tf, ↓gIf_ft, ↓gIf_u, ↓gIfW_u, ↓gIfW_tt, ↓gIfW_ff, ↓gIfW_tf, ↓gIfW_ft, binI, divI, shiftI, add_mk, Nat.zero_add, cond_true, cond_false, decide_true, decide_false, Bool.not_true, Bool.not_false, Bool.and_true, Bool.true_and, Bool.and_false, Bool.false_and, Int.toNat_natCast, Nat.mul_one, d]
  refine oubliettelaw15_Light.loop1 (fun x3 w' => ∃ i : Nat, i ≤ l.length ∧ x3 = .int .i64 (i : Int) ∧ w' = w ∧ ∀ j (hj : j < i) (hjl : j < l.length), l[j].2.2.2.length ≤ 40) (fun x3 _ => l.length - (iv x3).toNat) ⟨0, by omega, rfl, rfl, fun j hj => by omega⟩ ?_
  rintro x3 gg w1 ⟨i, hi, rfl, rfl, hn⟩
  unfold oubliettelaw15_Light.b1
  by_cases ci : (i : Int) < (l.length : Int)
  · have hi' : i < l.length := by omega
    obtain ⟨ad, c, e, s1, _, q, hin⟩ := actAt hx hi'
    simp only [Value.slice.injEq] at e
    obtain ⟨rfl, -, rfl⟩ := e
    have q3 := q 3 _ rfl
    have a3 : (ad.add (i * 4)).add 3 = ad.add (i * 4 + 3) := by rw [add_add _ _ _ s1]
    have e0 : IntKind.i64.wrap ((i : Int) + 1) = ((i + 1 : Nat) : Int) := by rw [wrap64 (by omega) (by omega)]; omega
    simp only [↓eBinI, ↓eDiv, ↓eShift, ↓eBinS, ↓ePick, ↓eNot, ↓eNeg, ↓eConv, ↓eConvS, ↓eExt0, ↓eExt1, ↓eExt2, ↓eFA, ↓eIA, ↓eLenSl, ↓eCapSl, ↓eLenS, ↓eMin, ↓eMax, ↓eCondT, ↓eCondF, ↓gIf_tt, ↓gIf_ff, ↓gIf_tf, ↓gIf_ft, ↓gIf_u, ↓gIfW_u, ↓gIfW_tt, ↓gIfW_ff, ↓gIfW_tf, ↓gIfW_ft, binI, divI, shiftI, add_mk, Nat.zero_add, cond_true, cond_false, decide_true, decide_false, Bool.not_true, Bool.not_false, Bool.and_true, Bool.true_and, Bool.and_false, Bool.false_and, Int.toNat_natCast, Nat.mul_one, ci]
    refine ⟨by omega, by first | trivial | omega, ?_⟩
    simp only [a3, ↓eLdW, q3, Option.some.injEq, exists_eq_left']
    unfold strV
    have es : (⟨l[i].2.2.2.toArray⟩ : ByteArray).size = l[i].2.2.2.length := by show l[i].2.2.2.toArray.size = _; simp
    by_cases ck : (l[i].2.2.2.length : Int) > 40
    · simp only [↓eBinI, ↓eDiv, ↓eShift, ↓eBinS, ↓ePick, ↓eNot, ↓eNeg, ↓eConv, ↓eConvS, ↓eExt0, ↓eExt1, ↓eExt2, ↓eFA, ↓eIA, ↓eLenSl, ↓eCapSl, ↓eLenS, ↓eMin, ↓eMax, ↓eCondT, ↓eCondF, ↓gIf_tt, ↓gIf_ff, ↓gIf_tf, ↓gIf_ft, ↓gIf_u, ↓gIfW_u, ↓gIfW_tt, ↓gIfW_ff, ↓gIfW_tf, ↓gIfW_ft, binI, divI, shiftI, add_mk, Nat.zero_add, cond_true, cond_false, decide_true, decide_false, Bool.not_true, Bool.not_false, Bool.and_true, Bool.true_and, Bool.and_false, Bool.false_and, Int.toNat_natCast, Nat.mul_one, es, ck]
      exact h false (fun h => by cases h)
    · simp only [↓eBinI, ↓eDiv, ↓eShift, ↓eBinS, ↓ePick, ↓eNot, ↓eNeg, ↓eConv, ↓eConvS, ↓eExt0, ↓eExt1, ↓eExt2, ↓eFA, ↓eIA, ↓eLenSl, ↓eCapSl, ↓eLenS, ↓eMin, ↓eMax, ↓eCondT, ↓eCondF, ↓gIf_tt, ↓gIf_ff, ↓gIf_tf, ↓gIf_ft, ↓gIf_u, ↓gIfW_u, ↓gIfW_tt, ↓gIfW_ff, ↓gIfW_tf, ↓gIfW_ft, binI, divI, shiftI, add_mk, Nat.zero_add, cond_true, cond_false, decide_true, decide_false, Bool.not_true, Bool.not_false, Bool.and_true, Bool.true_and, Bool.and_false, Bool.false_and, Int.toNat_natCast, Nat.mul_one, es, ck, e0]
      refine oubliettelaw15_Light.leaf1 ⟨i + 1, by omega, rfl, rfl, fun j hj hjl => ?_⟩ (by simp only [iv]; omega)
      by_cases hji : j = i
      · subst hji; omega
      · exact hn j (by omega) hjl
  · simp only [↓eBinI, ↓eDiv, ↓eShift, ↓eBinS, ↓ePick, ↓eNot, ↓eNeg, ↓eConv, ↓eConvS, ↓eExt0, ↓eExt1, ↓eExt2, ↓eFA, ↓eIA, ↓eLenSl, ↓eCapSl, ↓eLenS, ↓eMin, ↓eMax, ↓eCondT, ↓eCondF, ↓gIf_tt, ↓gIf_ff, ↓gIf_tf, ↓gIf_ft, ↓gIf_u, ↓gIfW_u, ↓gIfW_tt, ↓gIfW_ff, ↓gIfW_tf, ↓gIfW_ft, binI, divI, shiftI, add_mk, Nat.zero_add, cond_true, cond_false, decide_true, decide_false, Bool.not_true, Bool.not_false, Bool.and_true, Bool.true_and, Bool.and_false, Bool.false_and, Int.toNat_natCast, Nat.mul_one, ci]
    exact h true (fun _ => ⟨by omega, fun j hj => hn j (by omega) hj⟩)
theorem light_c {x y : Value} {l : List Act} {ids : List Int} (hx : Rd (.slice tAct) D w [x] l) (hy : Rd (.slice (.int .i64)) D' w [y] ids) (h : ∀ r : Bool, (r = true → l.length ≤ 30 ∧ ids.length ≤ 20 ∧ ∀ i (h : i < l.length), l[i].2.2.2.length ≤ 40) → K (.bool r) w) : GCalls Try.prog 6 [x, y] K X w := by
  apply oubliettelaw16_light.calls; unfold oubliettelaw16_light.b
  refine Light15_c hx fun r hr => ?_
  obtain ⟨ax, cx, rfl, _, _⟩ := hx.form
  obtain ⟨ay, cy, rfl, _, _⟩ := hy.form
  cases r with
  | false =>
    simp only [↓eBinI, ↓eDiv, ↓eShift, ↓eBinS, ↓ePick, ↓eNot, ↓eNeg, ↓eConv, ↓eConvS, ↓eExt0, ↓eExt1, ↓eExt2, ↓eFA, ↓eIA, ↓eLenSl, ↓eCapSl, ↓eLenS, ↓eMin, ↓eMax, ↓eCondT, ↓eCondF, ↓gIf_tt, ↓gIf_ff, ↓gIf_tf, ↓gIf_ft, ↓gIf_u, ↓gIfW_u, ↓gIfW_tt, ↓gIfW_ff, ↓gIfW_tf, ↓gIfW_ft, binI, divI, shiftI, add_mk, Nat.zero_add, cond_true, cond_false, decide_true, decide_false, Bool.not_true, Bool.not_false, Bool.and_true, Bool.true_and, Bool.and_false, Bool.false_and, Int.toNat_natCast, Nat.mul_one]
    exact h false (fun h => by cases h)
  | true =>
    by_cases d1 : (l.length : Int) ≤ 30
    · by_cases d2 : (ids.length : Int) ≤ 20
      · simp only [↓eBinI, ↓eDiv, ↓eShift, ↓eBinS, ↓ePick, ↓eNot, ↓eNeg, ↓eConv, ↓eConvS, ↓eExt0, ↓eExt1, ↓eExt2, ↓eFA, ↓eIA, ↓eLenSl, ↓eCapSl, ↓eLenS, ↓eMin, ↓eMax, ↓eCondT, ↓eCondF, ↓gIf_tt, ↓gIf_ff, ↓gIf_tf, ↓gIf_ft, ↓gIf_u, ↓gIfW_u, ↓gIfW_tt, ↓gIfW_ff, ↓gIfW_tf, ↓gIfW_ft, binI, divI, shiftI, add_mk, Nat.zero_add, cond_true, cond_false, decide_true, decide_false, Bool.not_true, Bool.not_false, Bool.and_true, Bool.true_and, Bool.and_false, Bool.false_and, Int.toNat_natCast, Nat.mul_one, d1, d2]
        exact h true (fun _ => ⟨by omega, by omega, (hr rfl).2⟩)
      · simp only [↓eBinI, ↓eDiv, ↓eShift, ↓eBinS, ↓ePick, ↓eNot, ↓eNeg, ↓eConv, ↓eConvS, ↓eExt0, ↓eExt1, ↓eExt2, ↓eFA, ↓eIA, ↓eLenSl, ↓eCapSl, ↓eLenS, ↓eMin, ↓eMax, ↓eCondT, ↓eCondF, ↓gIf_tt, ↓gIf_ff, ↓gIf_tf, ↓gIf_ft, ↓gIf_u, ↓gIfW_u, ↓gIfW_tt, ↓gIfW_ff, ↓gIfW_tf, ↓gIfW_ft, binI, divI, shiftI, add_mk, Nat.zero_add, cond_true, cond_false, decide_true, decide_false, Bool.not_true, Bool.not_false, Bool.and_true, Bool.true_and, Bool.and_false, Bool.false_and, Int.toNat_natCast, Nat.mul_one, d1, d2]
        exact h false (fun h => by cases h)
    · simp only [↓eBinI, ↓eDiv, ↓eShift, ↓eBinS, ↓ePick, ↓eNot, ↓eNeg, ↓eConv, ↓eConvS, ↓eExt0, ↓eExt1, ↓eExt2, ↓eFA, ↓eIA, ↓eLenSl, ↓eCapSl, ↓eLenS, ↓eMin, ↓eMax, ↓eCondT, ↓eCondF, ↓gIf_tt, ↓gIf_ff, ↓gIf_tf, ↓gIf_ft, ↓gIf_u, ↓gIfW_u, ↓gIfW_tt, ↓gIfW_ff, ↓gIfW_tf, ↓gIfW_ft, binI, divI, shiftI, add_mk, Nat.zero_add, cond_true, cond_false, decide_true, decide_false, Bool.not_true, Bool.not_false, Bool.and_true, Bool.true_and, Bool.and_false, Bool.false_and, Int.toNat_natCast, Nat.mul_one, d1]
      exact h false (fun h => by cases h)
end Go.Proofs.Ytkpgmaiklfjjgaa
end
section
set_option linter.unusedSimpArgs false
set_option linter.unusedVariables false
set_option maxRecDepth 100000
namespace Go.Proofs.Ytkpgmaiklfjjgaa
open Go Go.G
def bit (d : List Bool) (i : Int) : Bool := (d[i.toNat]?).getD false
def wholeB (ns : List Node) (e : Int → Bool) (i : Nat) : Bool := match ns[i]? with
  | some x => !(x.1 == 1) && (partsOf x).all e
  | none => false
def openB (ns : List Node) (e : Int → Bool) (i : Nat) (j : Int) : Bool := match ns[i]? with
  | some x => x.1 == 5 && e ((i : Int) + 1) && e x.2.1 && x.2.2.1 == j
  | none => false
/-- What can be built of it, and what is opened by it, is in it. -/
def ClosedE (ns : List Node) (e : Int → Bool) : Prop := ∀ i, i < ns.length → (wholeB ns e i = true → e ((i : Int) + 1) = true) ∧ ∀ j, openB ns e i j = true → e j = true
/-- Between what was learned and all that is closed. -/
def Amid (ns : List Node) (S e : Int → Bool) : Prop := (∀ i, 1 ≤ i → i ≤ (ns.length : Int) → S i = true → e i = true) ∧ ∀ c, ClosedE ns c → (∀ i, 1 ≤ i → i ≤ (ns.length : Int) → S i = true → c i = true) → ∀ i, 1 ≤ i → i ≤ (ns.length : Int) → e i = true → c i = true
def Least (ns : List Node) (S e : Int → Bool) : Prop := ClosedE ns e ∧ Amid ns S e
theorem Least.same {ns : List Node} {S e f : Int → Bool} (h : Least ns S e) (k : Least ns S f) : ∀ i, 1 ≤ i → i ≤ (ns.length : Int) → e i = f i := by
  intro i h1 h2
  have a := h.2.2 f k.1 k.2.1 i h1 h2
  have b := k.2.2 e h.1 h.2.1 i h1 h2
  cases he : e i <;> cases hf : f i <;> simp_all
theorem bit_set {d : List Bool} {i j : Nat} {v : Bool} (hi : i < d.length) : bit (d.set i v) (j : Int) = if i = j then v else bit d (j : Int) := by
  unfold bit
  simp only [Int.toNat_natCast]
  rw [List.getElem?_set]
  by_cases h : i = j
  · subst h; simp [hi]
  · simp [h]
theorem bit_get {d : List Bool} {i : Nat} (hi : i < d.length) : bit d (i : Int) = d[i] := by
  unfold bit; simp [List.getElem?_eq_getElem hi]
theorem bit_rep {n : Nat} (i : Int) : bit (List.replicate n false) i = false := by
  unfold bit
  rw [List.getElem?_replicate]
  split <;> rfl
/-- Parts lie ahead of their term. -/
theorem part_lt {ns : List Node} (hg : GoodN ns) {i : Nat} (hi : i < ns.length) : ∀ p ∈ partsOf ns[i], 1 ≤ p ∧ p ≤ (i : Int) := by
  have ⟨hk, _⟩ := hg.form i hi
  intro p hp
  rcases hk with hk | hk | hk | ⟨hk, hk2⟩
  · rw [show partsOf ns[i] = [] by simp [partsOf, hk.1]] at hp; cases hp
  · rw [show partsOf ns[i] = [] by simp [partsOf, hk.1]] at hp; cases hp
  · rw [show partsOf ns[i] = [ns[i].2.1] by simp [partsOf, hk.1]] at hp
    obtain rfl := List.mem_singleton.1 hp
    exact ⟨hk.2.1, hk.2.2.1⟩
  · have c3 : ¬ ns[i].1 < 3 := by rcases hk with hk | hk <;> omega
    have n3 : ¬ ns[i].1 = 3 := by rcases hk with hk | hk <;> omega
    rw [show partsOf ns[i] = [ns[i].2.1, ns[i].2.2.1] by simp [partsOf, c3, n3]] at hp
    simp only [List.mem_cons, List.not_mem_nil, or_false] at hp
    rcases hp with rfl | rfl
    · exact ⟨hk2.1, hk2.2.1⟩
    · exact ⟨hk2.2.2.1, hk2.2.2.2.1⟩
theorem parts5 {ns : List Node} (hg : GoodN ns) {i : Nat} (hi : i < ns.length) (h5 : ns[i].1 = 5) : partsOf ns[i] = [ns[i].2.1, ns[i].2.2.1] ∧ 1 ≤ ns[i].2.1 ∧ ns[i].2.1 ≤ (i : Int) ∧ 1 ≤ ns[i].2.2.1 ∧ ns[i].2.2.1 ≤ (i : Int) := by
  have hp : partsOf ns[i] = [ns[i].2.1, ns[i].2.2.1] := by simp [partsOf, h5]
  have h := part_lt hg hi
  rw [hp] at h
  exact ⟨hp, (h _ (by simp)).1, (h _ (by simp)).2, (h _ (by simp)).1, (h _ (by simp)).2⟩
theorem wholeB_congr {ns : List Node} (hg : GoodN ns) {e f : Int → Bool} {i : Nat} (hi : i < ns.length) (h : ∀ p, 1 ≤ p → p ≤ (i : Int) → e p = f p) : wholeB ns e i = wholeB ns f i := by
  unfold wholeB
  rw [List.getElem?_eq_getElem hi]
  have hp := part_lt hg hi
  simp only
  congr 1
  have : ∀ l : List Int, (∀ p ∈ l, 1 ≤ p ∧ p ≤ (i : Int)) → l.all e = l.all f := by
    intro l
    induction l with
    | nil => intro _; rfl
    | cons a l ih =>
      intro hl
      rw [List.all_cons, List.all_cons, h a (hl a (by simp)).1 (hl a (by simp)).2, ih (fun p hp => hl p (by simp [hp]))]
  exact this _ hp
/-- The program's row, up to a place. -/
def BuiltTo (ns : List Node) (had out : List Bool) (i : Nat) : Prop :=
  out.length = ns.length + 1 ∧ (∀ j : Nat, j < i → j < ns.length → bit out ((j + 1 : Nat) : Int) = (bit had ((j + 1 : Nat) : Int) || wholeB ns (bit out) j)) ∧ (∀ j : Nat, i < j → bit out (j : Int) = false) ∧ bit out 0 = false
theorem BuiltTo.start (ns : List Node) (had : List Bool) : BuiltTo ns had (List.replicate (ns.length + 1) false) 0 :=
  ⟨by simp, fun j hj => by omega, fun j _ => bit_rep _, bit_rep _⟩
theorem BuiltTo.step {ns : List Node} {had out : List Bool} {i : Nat} (hg : GoodN ns) (h : BuiltTo ns had out i) (hi : i < ns.length) : BuiltTo ns had (out.set (i + 1) (bit had ((i + 1 : Nat) : Int) || wholeB ns (bit out) i)) (i + 1) := by
  obtain ⟨h1, h2, h3, h4⟩ := h
  have hle : i + 1 < out.length := by omega
  have hsame : ∀ p : Int, 1 ≤ p → p ≤ (i : Int) → bit (out.set (i + 1) (bit had ((i + 1 : Nat) : Int) || wholeB ns (bit out) i)) p = bit out p := fun p p1 p2 => by
    obtain ⟨q, rfl⟩ : ∃ q : Nat, p = (q : Int) := ⟨p.toNat, by omega⟩
    rw [bit_set hle, if_neg (by omega)]
  refine ⟨by simp [h1], fun j hj hjl => ?_, fun j hj => ?_, ?_⟩
  · by_cases e : j = i
    · subst e
      rw [bit_set hle, if_pos rfl, wholeB_congr hg hjl hsame]
    · rw [bit_set hle, if_neg (by omega), h2 j (by omega) hjl]
      congr 1
      exact (wholeB_congr hg hjl (fun p p1 p2 => hsame p p1 (by omega))).symm
  · rw [bit_set hle, if_neg (by omega)]
    exact h3 j (by omega)
  · have := bit_set (j := 0) (v := (bit had ((i + 1 : Nat) : Int) || wholeB ns (bit out) i)) hle
    rw [if_neg (by omega)] at this
    rw [show ((0 : Nat) : Int) = (0 : Int) from rfl] at this
    rw [this]; exact h4
theorem wholeB_mono {ns : List Node} {e f : Int → Bool} {i : Nat} (h : ∀ x, ns[i]? = some x → ∀ p ∈ partsOf x, e p = true → f p = true) (hw : wholeB ns e i = true) : wholeB ns f i = true := by
  unfold wholeB at hw ⊢
  cases hx : ns[i]? with
  | none => rw [hx] at hw; exact hw
  | some x =>
    rw [hx] at hw
    simp only [Bool.and_eq_true, List.all_eq_true] at hw ⊢
    exact ⟨hw.1, fun p hp => h x hx p hp (hw.2 p hp)⟩
/-- What is built lies amid, where what is had does. -/
theorem built_amid {ns : List Node} {S : Int → Bool} {had out : List Bool} (hg : GoodN ns) (hS : Amid ns S (bit had)) (h : BuiltTo ns had out ns.length) : Amid ns S (bit out) ∧ (∀ i, i < ns.length → wholeB ns (bit out) i = true → bit out ((i : Int) + 1) = true) ∧ ∀ i : Int, 1 ≤ i → i ≤ (ns.length : Int) → bit had i = true → bit out i = true := by
  obtain ⟨h1, h2, h3, h4⟩ := h
  have sup : ∀ i : Int, 1 ≤ i → i ≤ (ns.length : Int) → bit had i = true → bit out i = true := fun i i1 i2 hb => by
    obtain ⟨q, rfl⟩ : ∃ q : Nat, i = ((q + 1 : Nat) : Int) := ⟨(i - 1).toNat, by omega⟩
    rw [h2 q (by omega) (by omega), hb]; rfl
  refine ⟨⟨fun i i1 i2 hs => sup i i1 i2 (hS.1 i i1 i2 hs), fun c hc hsc => ?_⟩, fun i hi hw => ?_, sup⟩
  · have : ∀ k q : Nat, q < k → q < ns.length → bit out ((q + 1 : Nat) : Int) = true → c ((q + 1 : Nat) : Int) = true := by
      intro k
      induction k with
      | zero => intro q hq; omega
      | succ k ih =>
        intro q hq hql hb
        rw [h2 q hql hql] at hb
        rcases Bool.or_eq_true_iff.1 hb with hb | hb
        · exact hS.2 c hc hsc _ (by omega) (by omega) hb
        · have hp := part_lt hg hql
          have := (hc q hql).1 (wholeB_mono (fun x hx p hpx hbp => by
            rw [List.getElem?_eq_getElem hql] at hx
            cases hx
            have := hp p hpx
            obtain ⟨r, rfl⟩ : ∃ r : Nat, p = ((r + 1 : Nat) : Int) := ⟨(p - 1).toNat, by omega⟩
            exact ih r (by omega) (by omega) hbp) hb)
          rw [show ((q + 1 : Nat) : Int) = (q : Int) + 1 by omega]
          exact this
    intro i i1 i2 hb
    obtain ⟨q, rfl⟩ : ∃ q : Nat, i = ((q + 1 : Nat) : Int) := ⟨(i - 1).toNat, by omega⟩
    exact this (q + 1) q (by omega) (by omega) hb
  · have := h2 i hi hi
    rw [hw, Bool.or_true] at this
    rw [show ((i : Int) + 1) = ((i + 1 : Nat) : Int) by omega]
    exact this
end Go.Proofs.Ytkpgmaiklfjjgaa
end
section
set_option linter.unusedSimpArgs false
set_option linter.unusedVariables false
set_option linter.unusedSectionVars false
namespace Go.G
open Go Go.MapKept
variable {κ : Type} [DecidableEq κ] {enc : κ → Value} {w : World} {gm r : Nat} {l : List (κ × Value)} {P : Program} {T kt et : TypeId} {done : List κ}
/-- A range over the map at gm stands at r; these keys are done. -/
def RangeAt (enc : κ → Value) (w : World) (r gm : Nat) (l : List (κ × Value)) (done : List κ) : Prop :=
  ∃ es cl since seen c0, w.heap[gm]? = some (.map es cl) ∧ Stamped es cl ∧ es.toList.map (fun e => (e.key, e.val)) = l.map (fun p => (enc p.1, p.2)) ∧ w.heap[r]? = some (.mapIter (some gm) since seen c0) ∧ (∀ x ∈ es.toList, x.born < since) ∧ since ≤ c0 ∧ c0 ≤ cl ∧
    ∀ e ∈ es.toList, (seen.contains e.born = true ↔ ∃ k ∈ done, e.key = enc k)
/-- ... and the key that was handed out last. -/
def RangeLast (enc : κ → Value) (w : World) (r gm : Nat) (l : List (κ × Value)) (done : List κ) (k : κ) (v : Value) : Prop :=
  RangeAt enc w r gm l done ∧ ∃ es cl since seen e, w.heap[gm]? = some (.map es cl) ∧ w.heap[r]? = some (.mapIter (some gm) since (Array.push seen e.born) cl) ∧ e ∈ es.toList ∧ (es.toList.map (·.born)).Nodup ∧ e.key = enc k ∧ e.val = v
theorem RangeAt.map (h : RangeAt enc w r gm l done) : MapB enc w gm l := by
  obtain ⟨es, cl, since, seen, c0, h1, h2, h3, _⟩ := h
  exact ⟨es, cl, h1, h2, h3⟩
theorem RangeAt.fr {T : Nat → Prop} {w' : World} (h : RangeAt enc w r gm l done) (f : Fr T w w') (hr : ¬ T r) (hg : ¬ T gm) : RangeAt enc w' r gm l done := by
  obtain ⟨es, cl, since, seen, c0, h1, h2, h3, h4, h5⟩ := h
  exact ⟨es, cl, since, seen, c0, f.heap h1 hg, h2, h3, f.heap h4 hr, h5⟩
theorem RangeAt.lt (h : RangeAt enc w r gm l done) : r < w.heap.size ∧ gm < w.heap.size := by
  obtain ⟨es, cl, since, seen, c0, h1, h2, h3, h4, h5⟩ := h
  exact ⟨heap_lt h4, heap_lt h1⟩
theorem range_ {K : KV} (h : MapB enc w gm l) (hT : P.underlying T = some (.map kt et)) (hk : ∀ r w', w.heap.size = r → Ext w w' → RangeAt enc w' r gm l [] → K (.pointer (some ⟨r, 0, none⟩)) w') : pRun P (Instr.range T (.map (some gm))) w K := by
  obtain ⟨es, cl, hb, hs, hl⟩ := h
  refine ⟨_, w.alloc (.mapIter (some gm) cl #[] cl), ?_, hk _ _ rfl (Ext.alloc w _) ⟨es, cl, cl, #[], cl, (Ext.alloc w _).heap hb (fun h => h), hs, hl, alloc_new w _, fun x hx => hs.1 x hx, Nat.le_refl _, Nat.le_refl _, fun e he => by simp⟩⟩
  simp [Instr.range, Go.G.run_underlying hT, MapKept.run_getObj_map hb, Result.andThen, newObj, Sem.run]
theorem keyed_of {es : Array MapEntry} (h : es.toList.map (fun e => (e.key, e.val)) = l.map (fun p => (enc p.1, p.2))) {e : MapEntry} (he : e ∈ es.toList) : ∃ p ∈ l, e.key = enc p.1 ∧ e.val = p.2 := by
  have : (e.key, e.val) ∈ l.map (fun p => (enc p.1, p.2)) := by rw [← h]; exact List.mem_map.2 ⟨e, he, rfl⟩
  obtain ⟨p, hp, e⟩ := List.mem_map.1 this
  simp only [Prod.mk.injEq] at e
  exact ⟨p, hp, e.1.symm, e.2.symm⟩
theorem entry_of {es : Array MapEntry} (h : es.toList.map (fun e => (e.key, e.val)) = l.map (fun p => (enc p.1, p.2))) {p : κ × Value} (hp : p ∈ l) : ∃ e ∈ es.toList, e.key = enc p.1 ∧ e.val = p.2 := by
  have : (enc p.1, p.2) ∈ es.toList.map (fun e => (e.key, e.val)) := by rw [h]; exact List.mem_map.2 ⟨p, hp, rfl⟩
  obtain ⟨e, he, q⟩ := List.mem_map.1 this
  simp only [Prod.mk.injEq] at q
  exact ⟨e, he, q.1, q.2⟩
theorem born_inj {es : Array MapEntry} {cl : Nat} (hs : Stamped es cl) {a b : MapEntry} (ha : a ∈ es.toList) (hb : b ∈ es.toList) (h : a.born = b.born) : a = b := by
  have hn := hs.2.1
  obtain ⟨i, hi, rfl⟩ := List.mem_iff_getElem.1 ha
  obtain ⟨j, hj, rfl⟩ := List.mem_iff_getElem.1 hb
  have := (List.getElem_inj (i := i) (j := j) (h₀ := by simpa using hi) (h₁ := by simpa using hj) hn).1 (by simpa using h)
  subst this; rfl
theorem left_mem {es : Array MapEntry} {seen : Array Nat} {e : MapEntry} : e ∈ (leftOf es seen).toList ↔ e ∈ es.toList ∧ seen.contains e.born = false := by
  unfold leftOf
  simp
theorem left_less {es : Array MapEntry} {seen : Array Nat} {e : MapEntry} (he : e ∈ (leftOf es seen).toList) : (leftOf es (seen.push e.born)).size < (leftOf es seen).size := by
  have e1 : leftOf es (seen.push e.born) = (leftOf es seen).filter fun x => !decide (x.born = e.born) := by
    unfold leftOf
    rw [Array.filter_filter]
    congr 1
    funext x
    simp [Array.contains_push, Bool.and_comm]
  rw [e1]
  have h2 : ((leftOf es seen).filter fun x => !decide (x.born = e.born)).size = ((leftOf es seen).toList.filter fun x => !decide (x.born = e.born)).length := by
    rw [← Array.toList_filter, Array.length_toList]
  rw [h2, ← Array.length_toList, List.length_filter_lt_length_iff_exists]
  exact ⟨e, he, by simp⟩
/-- The next one: none is left, or any one of those that are. -/
theorem next_ {ty : TypeId} {K : KV} (hi : ∀ a b, enc a = enc b → a = b) (h : RangeAt enc w r gm l done) (h0 : (∀ p ∈ l, p.1 ∈ done) → K (.tuple #[.bool false]) w)
    (h1 : ∀ p ∈ l, p.1 ∉ done → ∀ w', Fr (· = r) w w' → RangeLast enc w' r gm l (p.1 :: done) p.1 p.2 → w'.rangeLeft gm r < w.rangeLeft gm r → K (.tuple #[.bool true, enc p.1, p.2]) w') : pRun P (Instr.next (.pointer (some ⟨r, 0, none⟩)) false ty) w K := by
  obtain ⟨es, cl, since, seen, c0, a1, a2, a3, a4, a5, a6, a7, a8⟩ := h
  have hne : gm ≠ r := fun e => by subst e; rw [a1] at a4; cases a4
  rcases run_next_at (P := P) w ty r gm since c0 seen es cl a4 a1 a5 a6 with ⟨b1, b2⟩ | ⟨e, b1, w1, b2, b3⟩
  · refine ⟨_, w, b2, h0 fun p hp => ?_⟩
    obtain ⟨e, he, e1, e2⟩ := entry_of a3 hp
    have hc : seen.contains e.born = true := by
      cases hc : seen.contains e.born with
      | true => rfl
      | false =>
        have := left_mem.2 ⟨he, hc⟩
        have e0 : leftOf es seen = #[] := Array.eq_empty_of_size_eq_zero b1
        rw [e0] at this
        simp at this
    obtain ⟨k, hk, hke⟩ := (a8 e he).1 hc
    have := hi _ _ (e1.symm.trans hke)
    rw [this]; exact hk
  · obtain ⟨he, hc⟩ := left_mem.1 b1
    obtain ⟨p, hp, e1, e2⟩ := keyed_of a3 he
    have hnd : p.1 ∉ done := fun hd => by
      have := (a8 e he).2 ⟨p.1, hd, e1⟩
      rw [hc] at this; cases this
    rw [e1, e2] at b3
    have hw1 : w1.heap = w.heap := by rcases b2 with rfl | rfl <;> rfl
    have x1 : Ext w w1 := by
      rcases b2 with rfl | rfl
      · exact Fr.refl _ _
      · exact Ext.drew w
    have hr1 : w1.heap[r]? = some (.mapIter (some gm) since seen c0) := by rw [hw1]; exact a4
    have hg1 : w1.heap[gm]? = some (.map es cl) := by rw [hw1]; exact a1
    have g1 : (ChangeMaps.setBlock w1 r (.mapIter (some gm) since (seen.push e.born) cl)).heap[gm]? = some (.map es cl) := by
      rw [show (ChangeMaps.setBlock w1 r (.mapIter (some gm) since (seen.push e.born) cl)).heap = w1.heap.setIfInBounds r _ from rfl, (heap_set hr1).2 gm hne]; exact hg1
    have g2 : (ChangeMaps.setBlock w1 r (.mapIter (some gm) since (seen.push e.born) cl)).heap[r]? = some (.mapIter (some gm) since (seen.push e.born) cl) := (heap_set hr1).1
    refine ⟨_, _, b3, h1 p hp hnd _ (x1.mono (fun _ _ h => h.elim) |>.trans Fr.setObj (fun _ _ h => h)) ⟨⟨es, cl, since, seen.push e.born, cl, g1, a2, a3, g2, a5, Nat.le_trans a6 a7, Nat.le_refl _, fun x hx => ?_⟩, es, cl, since, seen, e, g1, g2, he, a2.2.1, e1, e2⟩ ?_⟩
    · rw [Array.contains_push, Bool.or_eq_true, a8 x hx]
      constructor
      · rintro (⟨k, hk, hke⟩ | hb)
        · exact ⟨k, List.mem_cons_of_mem _ hk, hke⟩
        · have : x = e := born_inj a2 hx he (by simpa using hb)
          subst this
          exact ⟨p.1, by simp, e1⟩
      · rintro ⟨k, hk, hke⟩
        rcases List.mem_cons.1 hk with rfl | hk
        · right
          have : x = e := by
            obtain ⟨i, hi', rfl⟩ := List.mem_iff_getElem.1 hx
            obtain ⟨j, hj', rfl⟩ := List.mem_iff_getElem.1 he
            have hp3 := List.pairwise_iff_getElem.1 (List.pairwise_map.1 a2.2.2)
            rcases Nat.lt_trichotomy i j with c | c | c
            · exact absurd (hke.trans e1.symm) (hp3 i j hi' hj' c)
            · subst c; rfl
            · exact absurd (e1.trans hke.symm) (hp3 j i hj' hi' c)
          subst this; simp
        · exact .inl ⟨k, hk, hke⟩
    · have q1 : (ChangeMaps.setBlock w1 r (.mapIter (some gm) since (seen.push e.born) cl)).rangeLeft gm r = (leftOf es (seen.push e.born)).size := by
        unfold World.rangeLeft; rw [g1, g2]
      have q2 : w.rangeLeft gm r = (leftOf es seen).size := by unfold World.rangeLeft; rw [a1, a4]
      rw [q1, q2]
      exact left_less b1
/-- What was handed out last, read again. -/
theorem entry_ {K : KV} {k : κ} {v : Value} (h : RangeLast enc w r gm l done k v) (hk : K (.tuple #[enc k, v]) w) : pRun P (Instr.entry (.pointer (some ⟨r, 0, none⟩))) w K := by
  obtain ⟨_, es, cl, since, seen, e, a1, a2, a3, a4, a5, a6⟩ := h
  have := run_entry_at (P := P) w r gm since seen es cl e a2 a1 a3 a4
  rw [a5, a6] at this
  exact ⟨_, w, this, hk⟩
end Go.G
end
