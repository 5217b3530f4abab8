/-
  Of each place the last write.
-/
import Derived.Test.YtlolomdgchkibaaTh
import Derived.Test.YtlolomdgchkibaaS21
import Derived.Test.YtlolomdgchkibaaGp
set_option linter.unusedSimpArgs false
set_option linter.unusedVariables false
namespace Go.Proofs.Ytlolomdgchkibaa
open Go Go.G
variable {X : KX} {w : World} {K : KV} {D D' : Nat → Prop}
/-- The value v reads as the last write at a place, of the first n. -/
def LastAt (D : Nat → Prop) (w : World) (l : List (Int × List UInt8)) (n : Nat) (k : Int) (v : Value) : Prop :=
  ∃ j, ∃ h : j < l.length, j < n ∧ l[j].1 = k ∧ (∀ i (hi : i < l.length), i < n → j < i → l[i].1 ≠ k) ∧ ∃ vs : List Value, v = .agg ⟨vs⟩ ∧ Rd tWrite D w vs l[j]
theorem trail_last_c {x : Value} {l : List (Int × List UInt8)} (hx : Rd (.slice tWrite) D w [x] l) (hD : ∀ b, D b → b < w.heap.size)
    (h : ∀ g m w', w.heap.size ≤ g → Ext w w' → MapB encI w' g m → m.map (·.1) = keysF (l.map (·.1)) → (∀ k v, mget m k = some v → LastAt D w' l l.length k v) → K (.map (some g)) w') : GCalls Try.prog 69 [x] K X w := by
  obtain ⟨a1, c1, rfl, hc1, hl1⟩ := hx.form
  apply trail_last.calls; unfold trail_last.b
  refine map_ (enc := encI) fun g w1 hg h1 hm => ?_
  simp only [↓eBinI, ↓eDiv, ↓eShift, ↓eBinS, ↓ePick, ↓eNot, ↓eNeg, ↓eConv, ↓eConvS, ↓eExt0, ↓eExt1, ↓eExt2, ↓eFA, ↓eIA, ↓eLenSl, ↓eCapSl, ↓eLenS, ↓eMin, ↓eMax, ↓eCondT, ↓eCondF, ↓gIf_tt, ↓gIf_ff, ↓gIf_tf, ↓gIf_ft, ↓gIf_u, ↓gIfW_u, ↓gIfW_tt, ↓gIfW_ff, ↓gIfW_tf, ↓gIfW_ft, binI, divI, shiftI, add_mk, Nat.zero_add, cond_true, cond_false, decide_true, decide_false, Bool.not_true, Bool.not_false, Bool.and_true, Bool.true_and, Bool.and_false, Bool.false_and, Int.toNat_natCast, Nat.mul_one]
  refine trail_last.loop1 (fun x9 w' => ∃ (i : Nat) (m : List (Int × Value)), i ≤ l.length ∧ x9 = .int .i64 i ∧ Ext w w' ∧ MapB encI w' g m ∧ m.map (·.1) = keysF ((l.take i).map (·.1)) ∧ (∀ k v, mget m k = some v → LastAt D w' l i k v)) (fun x9 _ => l.length - (iv x9).toNat)
    ⟨0, [], by omega, rfl, h1, hm, rfl, fun k v h => by cases h⟩ ?_
  rintro x9 gg w2 ⟨i, m, hi, rfl, h2, hm2, hk2, hl2⟩
  unfold trail_last.b1
  by_cases ci : (i : Int) < (l.length : Int)
  · obtain ⟨ad, c', us, e1, s1, _, hus, q1, r1⟩ := (hx.ext h2).idxN (i := i) (by omega)
    simp only [Value.slice.injEq] at e1
    obtain ⟨rfl, -, rfl⟩ := e1
    have r1' := r1
    obtain ⟨va, vb, rfl, hva, hvb, r2, r3⟩ := r1
    obtain ⟨rfl, hp0, hp1⟩ := r2
    obtain ⟨a2, c2', rfl, hc2, hl2', hr3⟩ := r3
    simp only [↓eBinI, ↓eDiv, ↓eShift, ↓eBinS, ↓ePick, ↓eNot, ↓eNeg, ↓eConv, ↓eConvS, ↓eExt0, ↓eExt1, ↓eExt2, ↓eFA, ↓eIA, ↓eLenSl, ↓eCapSl, ↓eLenS, ↓eMin, ↓eMax, ↓eCondT, ↓eCondF, ↓gIf_tt, ↓gIf_ff, ↓gIf_tf, ↓gIf_ft, ↓gIf_u, ↓gIfW_u, ↓gIfW_tt, ↓gIfW_ff, ↓gIfW_tf, ↓gIfW_ft, binI, divI, shiftI, add_mk, Nat.zero_add, cond_true, cond_false, decide_true, decide_false, Bool.not_true, Bool.not_false, Bool.and_true, Bool.true_and, Bool.and_false, Bool.false_and, Int.toNat_natCast, Nat.mul_one, ci]
    refine ⟨by omega, by first | trivial | omega, ?_⟩
    refine ⟨ad.add (i * 2), [.int .i64 l[i].1, .slice a2 l[i].2.length c2'], rfl, rfl, fun w' e j hj => ?_, ?_⟩
    · subst e
      rw [add_add _ _ _ s1]
      match j, hj with
      | 0, _ => exact q1 0 _ rfl
      | 1, _ => exact q1 1 _ rfl
    refine boxC fun g9 w3 hg9 h3 b3 => ?_
    refine b3.setN rfl rfl (by simp [one]) fun w4 b4 hf4 => ?_
    simp only [↓eBinI, ↓eDiv, ↓eShift, ↓eBinS, ↓ePick, ↓eNot, ↓eNeg, ↓eConv, ↓eConvS, ↓eExt0, ↓eExt1, ↓eExt2, ↓eFA, ↓eIA, ↓eLenSl, ↓eCapSl, ↓eLenS, ↓eMin, ↓eMax, ↓eCondT, ↓eCondF, ↓gIf_tt, ↓gIf_ff, ↓gIf_tf, ↓gIf_ft, ↓gIf_u, ↓gIfW_u, ↓gIfW_tt, ↓gIfW_ff, ↓gIfW_tf, ↓gIfW_ft, binI, divI, shiftI, add_mk, Nat.zero_add, cond_true, cond_false, decide_true, decide_false, Bool.not_true, Bool.not_false, Bool.and_true, Bool.true_and, Bool.and_false, Bool.false_and, Int.toNat_natCast, Nat.mul_one, ↓b4.c0, ↓b4.ld2]
    have hlt := hm2.lt
    have h24 : Ext w2 w4 := h3.tn hf4 (fun x e => by omega)
    have hm4 := hm2.ext h24
    refine eMapUpd (k := l[i].1) hm4 keyI Try.underlying69 Try.underlying3 fun w5 hm5 hf5 => ?_
    rw [wrap64 (by omega) (by omega)]
    have s1' := h1.size
    have h5 : Ext w w5 := (h2.tr h24).tn hf5 (fun x e => by omega)
    have hDg : ∀ b, D b → ¬ b = g := fun b hb e => by have := hD b hb; omega
    refine trail_last.leaf1 ⟨i + 1, _, by omega, by simp, h5, hm5, ?_, ?_⟩ (by simp only [iv]; omega)
    · rw [mput_keys, hk2, List.take_succ_eq_append_getElem (by omega), List.map_append, List.map_singleton, keysF_snoc]
    · intro k v hv
      rw [mget_put] at hv
      by_cases ek : l[i].1 = k
      · rw [if_pos ek] at hv
        cases hv
        exact ⟨i, by omega, by omega, ek, fun i' h1 h2 h3 => by omega, _, rfl, (r1'.ext h24).fr hf5 hDg⟩
      · rw [if_neg ek] at hv
        obtain ⟨j, hj, hji, e1, e2, vs, e3, e4⟩ := hl2 k v hv
        refine ⟨j, hj, by omega, e1, fun i' hi' h1 h2 => ?_, vs, e3, (e4.ext h24).fr hf5 hDg⟩
        by_cases e : i' = i
        · subst e; exact ek
        · exact e2 i' hi' (by omega) h2
  · simp only [↓eBinI, ↓eDiv, ↓eShift, ↓eBinS, ↓ePick, ↓eNot, ↓eNeg, ↓eConv, ↓eConvS, ↓eExt0, ↓eExt1, ↓eExt2, ↓eFA, ↓eIA, ↓eLenSl, ↓eCapSl, ↓eLenS, ↓eMin, ↓eMax, ↓eCondT, ↓eCondF, ↓gIf_tt, ↓gIf_ff, ↓gIf_tf, ↓gIf_ft, ↓gIf_u, ↓gIfW_u, ↓gIfW_tt, ↓gIfW_ff, ↓gIfW_tf, ↓gIfW_ft, binI, divI, shiftI, add_mk, Nat.zero_add, cond_true, cond_false, decide_true, decide_false, Bool.not_true, Bool.not_false, Bool.and_true, Bool.true_and, Bool.and_false, Bool.false_and, Int.toNat_natCast, Nat.mul_one, ci]
    have : i = l.length := by omega
    subst this
    rw [List.take_length] at hk2
    exact h g m w2 (by omega) h2 hm2 hk2 hl2
end Go.Proofs.Ytlolomdgchkibaa
