/-
  Writes copied; the first ones.
-/
import Derived.Test.YtlolomdgchkibaaTe
set_option linter.unusedSimpArgs false
set_option linter.unusedVariables false
namespace Go.Proofs.Ytlolomdgchkibaa
open Go Go.G
variable {X : KX} {w : World} {K : KV} {D D' : Nat → Prop}
theorem trail_copied_c {x : Value} {l : List (Int × List UInt8)} (hx : Rd (.slice tWrite) D w [x] l) (hl : l.length ≤ 1000) (hs : ∀ i (h : i < l.length), l[i].2.length ≤ 1000)
    (h : ∀ v w' D', Ext w w' → Own tWrite D' w.heap.size w' v l → (∀ b, D' b → w.heap.size ≤ b ∧ b < w'.heap.size) → (∀ b, Blk v b → b < w'.heap.size) → K v w') : GCalls Try.prog 66 [x] K X w := by
  obtain ⟨a1, c1, rfl, hc1, hl1⟩ := hx.form
  apply trail_copied.calls; unfold trail_copied.b
  simp only [↓eBinI, ↓eDiv, ↓eShift, ↓eBinS, ↓ePick, ↓eNot, ↓eNeg, ↓eConv, ↓eConvS, ↓eExt0, ↓eExt1, ↓eExt2, ↓eFA, ↓eIA, ↓eLenSl, ↓eCapSl, ↓eLenS, ↓eMin, ↓eMax, ↓eCondT, ↓eCondF, ↓gIf_tt, ↓gIf_ff, ↓gIf_tf, ↓gIf_ft, ↓gIf_u, ↓gIfW_u, ↓gIfW_tt, ↓gIfW_ff, ↓gIfW_tf, ↓gIfW_ft, binI, divI, shiftI, add_mk, Nat.zero_add, cond_true, cond_false, decide_true, decide_false, Bool.not_true, Bool.not_false, Bool.and_true, Bool.true_and, Bool.and_false, Bool.false_and, Int.toNat_natCast, Nat.mul_one]
  refine trail_copied.loop1 (fun x2 x7 w' => ∃ (i : Nat) (D' : Nat → Prop), i ≤ l.length ∧ x7 = .int .i64 i ∧ Ext w w' ∧ Own tWrite D' w.heap.size w' x2 (l.take i) ∧ (∀ b, D' b → w.heap.size ≤ b ∧ b < w'.heap.size) ∧ (∀ b, Blk x2 b → b < w'.heap.size)) (fun _ x7 _ => l.length - (iv x7).toNat)
    ⟨0, fun _ => False, by omega, rfl, Fr.refl _ _, Own.nil, fun _ h => h.elim, by rintro b ⟨a', n', c', e, _⟩; cases e⟩ ?_
  rintro x2 x7 gg w1 ⟨i, D1, hi, rfl, h1, ho, hD1, hb1⟩
  unfold trail_copied.b1
  by_cases ci : (i : Int) < (l.length : Int)
  · obtain ⟨ad, c', us, e1, s1, _, hus, q1, r1⟩ := (hx.ext h1).idxN (i := i) (by omega)
    simp only [Value.slice.injEq] at e1
    obtain ⟨rfl, -, rfl⟩ := e1
    obtain ⟨va, vb, rfl, hva, hvb, r2, r3⟩ := r1
    obtain ⟨rfl, hp0, hp1⟩ := r2
    obtain ⟨a2, c2', rfl, hc2, hl2, hr3⟩ := r3
    have r3 : Rd (.slice .byte) D w1 [.slice a2 l[i].2.length c2'] l[i].2 := ⟨a2, c2', rfl, hc2, hl2, hr3⟩
    have hli := hs i (by omega)
    simp only [↓eBinI, ↓eDiv, ↓eShift, ↓eBinS, ↓ePick, ↓eNot, ↓eNeg, ↓eConv, ↓eConvS, ↓eExt0, ↓eExt1, ↓eExt2, ↓eFA, ↓eIA, ↓eLenSl, ↓eCapSl, ↓eLenS, ↓eMin, ↓eMax, ↓eCondT, ↓eCondF, ↓gIf_tt, ↓gIf_ff, ↓gIf_tf, ↓gIf_ft, ↓gIf_u, ↓gIfW_u, ↓gIfW_tt, ↓gIfW_ff, ↓gIfW_tf, ↓gIfW_ft, binI, divI, shiftI, add_mk, Nat.zero_add, cond_true, cond_false, decide_true, decide_false, Bool.not_true, Bool.not_false, Bool.and_true, Bool.true_and, Bool.and_false, Bool.false_and, Int.toNat_natCast, Nat.mul_one, ci]
    refine ⟨by omega, by first | trivial | omega, ?_⟩
    refine ⟨ad.add (i * 2), [.int .i64 l[i].1, .slice a2 l[i].2.length c2'], rfl, rfl, fun w' e j hj => ?_, ?_⟩
    · subst e
      rw [add_add _ _ _ s1]
      match j, hj with
      | 0, _ => exact q1 0 _ rfl
      | 1, _ => exact q1 1 _ rfl
    refine boxC fun g9 w2 hg9 h2 b2 => ?_
    refine b2.setN rfl rfl (by simp [one]) fun w3 b3 hf3 => ?_
    have h13 : Ext w1 w3 := h2.tn hf3 (fun x e => by omega)
    have hg9' : w1.heap.size = g9 := hg9
    have hnb : ¬ (Blk x2 g9 ∧ w.heap.size ≤ g9) := fun hh => by have := hb1 g9 hh.1; omega
    refine drawS (fun b => Blk x2 b ∧ w.heap.size ≤ b) fun w4 h4 => ?_
    have b4 := b3.ext h4
    have h14 := h13.tr h4
    simp only [↓eBinI, ↓eDiv, ↓eShift, ↓eBinS, ↓ePick, ↓eNot, ↓eNeg, ↓eConv, ↓eConvS, ↓eExt0, ↓eExt1, ↓eExt2, ↓eFA, ↓eIA, ↓eLenSl, ↓eCapSl, ↓eLenS, ↓eMin, ↓eMax, ↓eCondT, ↓eCondF, ↓gIf_tt, ↓gIf_ff, ↓gIf_tf, ↓gIf_ft, ↓gIf_u, ↓gIfW_u, ↓gIfW_tt, ↓gIfW_ff, ↓gIfW_tf, ↓gIfW_ft, binI, divI, shiftI, add_mk, Nat.zero_add, cond_true, cond_false, decide_true, decide_false, Bool.not_true, Bool.not_false, Bool.and_true, Bool.true_and, Bool.and_false, Bool.false_and, Int.toNat_natCast, Nat.mul_one, ↓b4.f (T := fun b => Blk x2 b ∧ w.heap.size ≤ b) (o := 0) hnb rfl, ↓b4.f (T := fun b => Blk x2 b ∧ w.heap.size ≤ b) (o := 1) hnb rfl]
    refine Clone_c (r3.ext h14) (by omega) fun v w5 h5 hv hone => ⟨h5.mono (fun _ _ h => h.elim), ?_⟩
    refine ⟨[.int .i64 l[i].1, v], fill2 rfl hone, ?_⟩
    refine Cs.bslice (cs := [.int .i64 l[i].1, v]) (fillAgg rfl rfl) fun r w6 hr h6 b6 => ⟨(h5.tr h6).mono (fun _ _ h => h.elim), ?_⟩
    have h16 := (h14.tr h5).tr h6
    have s14 := h14.size; have s5 := h5.size; have s6 := h6.size
    have hD2 : Own tWrite (fun b => D1 b ∨ (w4.heap.size ≤ b ∧ b < w6.heap.size)) w.heap.size w6 x2 (l.take i) := (ho.ext h16).wide2 (fun b hb => .inl hb) (fun b hb hB hn => by
      rintro (hd | hd)
      · exact hn hd
      · have := hb1 b hb; omega)
    have hvw : Rd (.slice .byte) (fun b => D1 b ∨ (w4.heap.size ≤ b ∧ b < w6.heap.size)) w6 [v] l[i].2 :=
      (hv.ext h6).rd2 (fun _ h => h.elim) (fun b _ h1 h2 => .inr ⟨h1, h2⟩) (by omega)
    have hrow : Rd tWrite (fun b => D1 b ∨ (w4.heap.size ≤ b ∧ b < w6.heap.size)) w6 [.int .i64 l[i].1, v] l[i] := ⟨[.int .i64 l[i].1], [v], rfl, rfl, rfl, ⟨rfl, hp0, hp1⟩, hvw⟩
    obtain ⟨T6, b6'⟩ := b6
    have s1 := h1.size
    refine hD2.push (by omega) (fun hd => by rcases hd with hd | hd; · have := hD1 _ hd; omega
                                             · omega) rfl rfl b6' hrow (by simp; omega) fun v' w7 ho' hf' hb' => ?_
    refine ⟨((h5.tr h6).mono (fun _ _ h => h.elim)).trans hf' (fun _ _ h => h), ?_⟩
    have s7 := hf'.size
    rw [wrap64 (by omega) (by omega)]
    refine trail_copied.leaf1 ⟨i + 1, (fun b => D1 b ∨ (w4.heap.size ≤ b ∧ b < w6.heap.size)), by omega, by simp, (h1.tr h16).tn hf' (fun x hx => hx.2), ?_, fun b hb => ?_, fun b hb => ?_⟩ (by simp only [iv]; omega)
    · rw [List.take_succ_eq_append_getElem (by omega)]; exact ho'
    · rcases hb with hb | hb
      · have := hD1 b hb; omega
      · omega
    · rcases hb' b hb with hb | hb
      · have := hb1 b hb; omega
      · omega
  · simp only [↓eBinI, ↓eDiv, ↓eShift, ↓eBinS, ↓ePick, ↓eNot, ↓eNeg, ↓eConv, ↓eConvS, ↓eExt0, ↓eExt1, ↓eExt2, ↓eFA, ↓eIA, ↓eLenSl, ↓eCapSl, ↓eLenS, ↓eMin, ↓eMax, ↓eCondT, ↓eCondF, ↓gIf_tt, ↓gIf_ff, ↓gIf_tf, ↓gIf_ft, ↓gIf_u, ↓gIfW_u, ↓gIfW_tt, ↓gIfW_ff, ↓gIfW_tf, ↓gIfW_ft, binI, divI, shiftI, add_mk, Nat.zero_add, cond_true, cond_false, decide_true, decide_false, Bool.not_true, Bool.not_false, Bool.and_true, Bool.true_and, Bool.and_false, Bool.false_and, Int.toNat_natCast, Nat.mul_one, ci]
    have : i = l.length := by omega
    subst this
    rw [List.take_length] at ho
    exact h _ w1 _ h1 ho hD1 hb1
def uptoN (n : Int) (len : Nat) : Nat := (max 0 (min n len)).toNat
theorem trail_Upto_c {x : Value} {l : List (Int × List UInt8)} {n : Int} (hx : Rd (.slice tWrite) D w [x] l) (hl : l.length ≤ 1000) (hs : ∀ i (h : i < l.length), l[i].2.length ≤ 1000)
    (h : ∀ v w' D', Ext w w' → Own tWrite D' w.heap.size w' v (l.take (uptoN n l.length)) → (∀ b, D' b → b < w'.heap.size) → K v w') : GCalls Try.prog 39 [x, .int .i64 n] K X w := by
  obtain ⟨a1, c1, rfl, hc1, hl1⟩ := hx.form
  apply trail_Upto.calls; unfold trail_Upto.b
  simp only [↓eBinI, ↓eDiv, ↓eShift, ↓eBinS, ↓ePick, ↓eNot, ↓eNeg, ↓eConv, ↓eConvS, ↓eExt0, ↓eExt1, ↓eExt2, ↓eFA, ↓eIA, ↓eLenSl, ↓eCapSl, ↓eLenS, ↓eMin, ↓eMax, ↓eCondT, ↓eCondF, ↓gIf_tt, ↓gIf_ff, ↓gIf_tf, ↓gIf_ft, ↓gIf_u, ↓gIfW_u, ↓gIfW_tt, ↓gIfW_ff, ↓gIfW_tf, ↓gIfW_ft, binI, divI, shiftI, add_mk, Nat.zero_add, cond_true, cond_false, decide_true, decide_false, Bool.not_true, Bool.not_false, Bool.and_true, Bool.true_and, Bool.and_false, Bool.false_and, Int.toNat_natCast, Nat.mul_one]
  have e1 : (if (0 : Int) < (if (l.length : Int) < n then (l.length : Int) else n) then (if (l.length : Int) < n then (l.length : Int) else n) else 0) = ((uptoN n l.length : Nat) : Int) := by
    unfold uptoN; split <;> split <;> omega
  have hk : uptoN n l.length ≤ l.length := by unfold uptoN; omega
  rw [e1]
  refine eSl bnd_none (bnd_int (by omega)) bnd_none (by omega) (by omega) (Nat.le_refl _) (by simp) ?_
  have hc := hx.cut (l := 0) (e := uptoN n l.length) (m := c1) (by omega) hk (by omega) (Nat.le_refl _)
  rw [List.drop_zero] at hc
  rw [Int.toNat_natCast]
  refine trail_copied_c hc (by rw [List.length_take]; omega) (fun i hi => ?_) fun v w' D' h1 h2 h3 _ => h v w' D' h1 h2 fun b hb => (h3 b hb).2
  rw [List.getElem_take]
  exact hs i (by rw [List.length_take] at hi; omega)
end Go.Proofs.Ytlolomdgchkibaa
