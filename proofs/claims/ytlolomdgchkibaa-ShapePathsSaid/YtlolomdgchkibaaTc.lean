/-
  The image of writes.
-/
import Derived.Test.YtlolomdgchkibaaTb
set_option linter.unusedSimpArgs false
set_option linter.unusedVariables false
namespace Go.Proofs.Ytlolomdgchkibaa
open Go Go.G
variable {X : KX} {w : World} {K : KV} {D D' : Nat → Prop}
abbrev tWrite : Ty := .pair (.int .i64) (.slice .byte)
theorem Clone_c {x : Value} {xs : List UInt8} (hx : Rd (.slice .byte) D w [x] xs) (hl : xs.length ≤ 1000000) (h : ∀ v w', Ext w w' → Own .byte (fun _ => False) w.heap.size w' v xs → one v = true → K v w') : GCalls Try.prog 65 [x] K X w := by
  obtain ⟨a1, c1, rfl, hc1, hl1⟩ := hx.form
  apply slices_Clone_byte_byte.calls; unfold slices_Clone_byte_byte.b
  cases a1 with
  | none =>
    refine ⟨true, rfl, ?_⟩
    rw [show (true != false) = true from rfl]
    simp only [↓eCondT]
    have : xs = [] := by
      obtain ⟨a, c, e, _, _, hne⟩ := hx
      by_cases hx0 : xs = []
      · exact hx0
      · obtain ⟨ad, e2, _⟩ := hne hx0
        simp at e; rw [← e.1] at e2; cases e2
    subst this
    exact h _ w (Fr.refl _ _) Own.nil rfl
  | some ad =>
    refine ⟨false, rfl, ?_⟩
    rw [show (false != false) = false from rfl]
    simp only [↓eCondF]
    refine Cs.bslice (cs := []) (by simp [fillL, rowOf]) fun g w1 hg h1 b1 => ?_
    obtain ⟨T, b1⟩ := b1
    have ho : Own .byte (fun _ => False) w.heap.size w1 (.slice (some ⟨g, 0, none⟩) 0 0) [] := .inl ⟨rfl, _, rfl⟩
    refine ho.cat h1.size (fun h => h) rfl rfl (hx.ext h1) (fun cs h => h.flat rfl) (by simp; omega) fun v w2 hv hf _ => ?_
    rw [List.nil_append] at hv
    refine h v w2 (h1.tn hf (fun x hx => hx.2)) hv ?_
    obtain ⟨a, c, rfl, _⟩ := hv.form
    rfl
/-- Behind these writes: what stands at each place. -/
def sector0 : List UInt8 := List.replicate 512 0
theorem sector0_len : sector0.length = 512 := by unfold sector0; exact List.length_replicate
def imgF (l : List (Int × List UInt8)) (size : Nat) : List (List UInt8) := (List.range size).map fun (p : Nat) => (l.foldl (fun (b : List UInt8) w => if w.1 = (p : Int) then w.2 else b) sector0)
def imageF (l : List (Int × List UInt8)) (size : Int) : List (List UInt8) := if size < 1 ∨ size > 1024 then [] else imgF l size.toNat
theorem img_len {l : List (Int × List UInt8)} {size : Nat} : (imgF l size).length = size := by simp [imgF]
theorem img_snoc {l : List (Int × List UInt8)} {size : Nat} {p : Int} {b : List UInt8} : imgF (l ++ [(p, b)]) size = if 0 ≤ p ∧ p < size then (imgF l size).set p.toNat b else imgF l size := by
  apply List.ext_getElem?
  intro i
  by_cases hi : i < size
  · unfold imgF
    split
    · rename_i hp
      by_cases e : i = p.toNat
      · subst e
        rw [List.getElem?_set_self (by simp; omega)]
        simp [hi, List.foldl_append]
        omega
      · rw [List.getElem?_set_ne (Ne.symm e)]
        simp [hi, List.foldl_append]
        intro h; omega
    · simp [hi, List.foldl_append]
      intro h; omega
  · rw [List.getElem?_eq_none (by rw [img_len]; omega), List.getElem?_eq_none (by split <;> simp [imgF] <;> omega)]
theorem img_nil {size : Nat} : imgF [] size = List.replicate size sector0 := by
  unfold imgF
  apply List.ext_getElem
  · simp
  · simp
theorem Image_c1_c {p size : Int} {g : Nat} (b : Cs w g [.int .i64 size]) (h : K (.bool (decide (p ≥ 0) && decide (p < size))) w) : GCalls Try.prog 64 [.int .i64 p, .pointer (some ⟨g, 0, none⟩)] K X w := by
  apply trail_Image_c1.calls; unfold trail_Image_c1.b
  by_cases c : p ≥ 0
  · simp only [↓eBinI, ↓eDiv, ↓eShift, ↓eBinS, ↓ePick, ↓eNot, ↓eNeg, ↓eConv, ↓eConvS, ↓eExt0, ↓eExt1, ↓eExt2, ↓eFA, ↓eIA, ↓eLenSl, ↓eCapSl, ↓eLenS, ↓eMin, ↓eMax, ↓eCondT, ↓eCondF, ↓gIf_tt, ↓gIf_ff, ↓gIf_tf, ↓gIf_ft, ↓gIf_u, ↓gIfW_u, ↓gIfW_tt, ↓gIfW_ff, ↓gIfW_tf, ↓gIfW_ft, binI, divI, shiftI, add_mk, Nat.zero_add, cond_true, cond_false, decide_true, decide_false, Bool.not_true, Bool.not_false, Bool.and_true, Bool.true_and, Bool.and_false, Bool.false_and, Int.toNat_natCast, Nat.mul_one, c, ↓b.c0] at h ⊢
    exact h
  · simp only [↓eBinI, ↓eDiv, ↓eShift, ↓eBinS, ↓ePick, ↓eNot, ↓eNeg, ↓eConv, ↓eConvS, ↓eExt0, ↓eExt1, ↓eExt2, ↓eFA, ↓eIA, ↓eLenSl, ↓eCapSl, ↓eLenS, ↓eMin, ↓eMax, ↓eCondT, ↓eCondF, ↓gIf_tt, ↓gIf_ff, ↓gIf_tf, ↓gIf_ft, ↓gIf_u, ↓gIfW_u, ↓gIfW_tt, ↓gIfW_ff, ↓gIfW_tf, ↓gIfW_ft, binI, divI, shiftI, add_mk, Nat.zero_add, cond_true, cond_false, decide_true, decide_false, Bool.not_true, Bool.not_false, Bool.and_true, Bool.true_and, Bool.and_false, Bool.false_and, Int.toNat_natCast, Nat.mul_one, c, ↓b.c0] at h ⊢
    exact h
theorem trail_Image_c {x : Value} {l : List (Int × List UInt8)} {size : Int} (hx : Rd (.slice tWrite) D w [x] l) (hD : ∀ b, D b → b < w.heap.size) (hl : l.length ≤ 1000) (hs : ∀ i (h : i < l.length), l[i].2.length ≤ 1000)
    (h : ∀ v w' D', Ext w w' → Own (.slice .byte) D' w.heap.size w' v (imageF l size) → K v w') : GCalls Try.prog 36 [x, .int .i64 size] K X w := by
  obtain ⟨a1, c1, rfl, hc1, hl1⟩ := hx.form
  apply trail_Image.calls; unfold trail_Image.b
  unfold imageF at h
  refine boxV rfl fun g3 w1 hg3 h1 b => ?_
  by_cases c : size < 1
  · simp only [↓eBinI, ↓eDiv, ↓eShift, ↓eBinS, ↓ePick, ↓eNot, ↓eNeg, ↓eConv, ↓eConvS, ↓eExt0, ↓eExt1, ↓eExt2, ↓eFA, ↓eIA, ↓eLenSl, ↓eCapSl, ↓eLenS, ↓eMin, ↓eMax, ↓eCondT, ↓eCondF, ↓gIf_tt, ↓gIf_ff, ↓gIf_tf, ↓gIf_ft, ↓gIf_u, ↓gIfW_u, ↓gIfW_tt, ↓gIfW_ff, ↓gIfW_tf, ↓gIfW_ft, binI, divI, shiftI, add_mk, Nat.zero_add, cond_true, cond_false, decide_true, decide_false, Bool.not_true, Bool.not_false, Bool.and_true, Bool.true_and, Bool.and_false, Bool.false_and, Int.toNat_natCast, Nat.mul_one, c, ↓b.c0, true_or, if_true] at h ⊢
    exact h _ w1 (fun _ => False) h1 Own.nil
  by_cases c2 : size > 1024
  · simp only [↓eBinI, ↓eDiv, ↓eShift, ↓eBinS, ↓ePick, ↓eNot, ↓eNeg, ↓eConv, ↓eConvS, ↓eExt0, ↓eExt1, ↓eExt2, ↓eFA, ↓eIA, ↓eLenSl, ↓eCapSl, ↓eLenS, ↓eMin, ↓eMax, ↓eCondT, ↓eCondF, ↓gIf_tt, ↓gIf_ff, ↓gIf_tf, ↓gIf_ft, ↓gIf_u, ↓gIfW_u, ↓gIfW_tt, ↓gIfW_ff, ↓gIfW_tf, ↓gIfW_ft, binI, divI, shiftI, add_mk, Nat.zero_add, cond_true, cond_false, decide_true, decide_false, Bool.not_true, Bool.not_false, Bool.and_true, Bool.true_and, Bool.and_false, Bool.false_and, Int.toNat_natCast, Nat.mul_one, c, c2, ↓b.c0, or_true, if_true] at h ⊢
    exact h _ w1 (fun _ => False) h1 Own.nil
  simp only [↓eBinI, ↓eDiv, ↓eShift, ↓eBinS, ↓ePick, ↓eNot, ↓eNeg, ↓eConv, ↓eConvS, ↓eExt0, ↓eExt1, ↓eExt2, ↓eFA, ↓eIA, ↓eLenSl, ↓eCapSl, ↓eLenS, ↓eMin, ↓eMax, ↓eCondT, ↓eCondF, ↓gIf_tt, ↓gIf_ff, ↓gIf_tf, ↓gIf_ft, ↓gIf_u, ↓gIfW_u, ↓gIfW_tt, ↓gIfW_ff, ↓gIfW_tf, ↓gIfW_ft, binI, divI, shiftI, add_mk, Nat.zero_add, cond_true, cond_false, decide_true, decide_false, Bool.not_true, Bool.not_false, Bool.and_true, Bool.true_and, Bool.and_false, Bool.false_and, Int.toNat_natCast, Nat.mul_one, c, c2, ↓b.c0, or_false, if_false] at h ⊢
  obtain ⟨n, rfl⟩ : ∃ n : Nat, size = n := ⟨size.toNat, by omega⟩
  simp only [Int.toNat_natCast] at h
  have hg3l := b.lt
  refine make_ (t := .slice .byte) (D := fun b => b ≠ w1.heap.size) (B := w.heap.size) (z := ([] : List UInt8)) (by omega) (by omega) (fun w => ⟨none, 0, rfl, by simp, by simp, fun h => absurd rfl h⟩) h1.size (by simp) fun g w2 hg h2 hsz hv => ?_
  subst hg
  have b2 := b.ext h2
  simp only [↓eBinI, ↓eDiv, ↓eShift, ↓eBinS, ↓ePick, ↓eNot, ↓eNeg, ↓eConv, ↓eConvS, ↓eExt0, ↓eExt1, ↓eExt2, ↓eFA, ↓eIA, ↓eLenSl, ↓eCapSl, ↓eLenS, ↓eMin, ↓eMax, ↓eCondT, ↓eCondF, ↓gIf_tt, ↓gIf_ff, ↓gIf_tf, ↓gIf_ft, ↓gIf_u, ↓gIfW_u, ↓gIfW_tt, ↓gIfW_ff, ↓gIfW_tf, ↓gIfW_ft, binI, divI, shiftI, add_mk, Nat.zero_add, cond_true, cond_false, decide_true, decide_false, Bool.not_true, Bool.not_false, Bool.and_true, Bool.true_and, Bool.and_false, Bool.false_and, Int.toNat_natCast, Nat.mul_one]
  refine trail_Image.loop1 (fun x20 w' => ∃ i : Nat, i ≤ n ∧ x20 = .int .i64 i ∧ Ext w1 w' ∧ w1.heap.size < w'.heap.size ∧ Cs w' g3 [.int .i64 (n : Int)] ∧ Own (.slice .byte) (fun b => b ≠ w1.heap.size) w.heap.size w' (.slice (some ⟨w1.heap.size, 0, none⟩) n n) (List.replicate i sector0 ++ List.replicate (n - i) [])) (fun x20 _ => n - (iv x20).toNat)
    ⟨0, by omega, rfl, h2, by omega, b2, by simpa using hv⟩ ?_
  rintro x20 gg w3 ⟨i, hi, rfl, h3, hs3, b3, ho⟩
  unfold trail_Image.b1
  by_cases ci : (i : Int) < (n : Int)
  · simp only [↓eBinI, ↓eDiv, ↓eShift, ↓eBinS, ↓ePick, ↓eNot, ↓eNeg, ↓eConv, ↓eConvS, ↓eExt0, ↓eExt1, ↓eExt2, ↓eFA, ↓eIA, ↓eLenSl, ↓eCapSl, ↓eLenS, ↓eMin, ↓eMax, ↓eCondT, ↓eCondF, ↓gIf_tt, ↓gIf_ff, ↓gIf_tf, ↓gIf_ft, ↓gIf_u, ↓gIfW_u, ↓gIfW_tt, ↓gIfW_ff, ↓gIfW_tf, ↓gIfW_ft, binI, divI, shiftI, add_mk, Nat.zero_add, cond_true, cond_false, decide_true, decide_false, Bool.not_true, Bool.not_false, Bool.and_true, Bool.true_and, Bool.and_false, Bool.false_and, Int.toNat_natCast, Nat.mul_one, ci]
    refine make_ (n := 512) (t := .byte) (D := fun _ => False) (B := w3.heap.size) (z := (0 : UInt8)) (by omega) (by decide) (fun w => rfl) (Nat.le_refl _) (fun h => h) fun g4 w4 hg4 h4 hsz4 hv4 => ?_
    subst hg4
    refine ⟨by omega, by first | trivial | omega, ?_⟩
    have hrd : Rd (.slice .byte) (fun b => b ≠ w1.heap.size) w4 [.slice (some ⟨w3.heap.size, 0, none⟩) 512 512] sector0 := hv4.rd (fun _ h => h.elim) (fun b hb => by omega) (by rw [List.length_replicate]; decide)
    refine (ho.ext h4).set1 rfl (by simp; omega) hrd fun w5 ho5 hf5 => ?_
    rw [wrap64 (by omega) (by omega)]
    refine trail_Image.leaf1 ⟨i + 1, by omega, by simp, (h3.tr h4).tn hf5 (fun x e => by omega), by have := h4.size; have := hf5.size; omega, (b3.ext h4).fr hf5 (fun e => by omega), ?_⟩ (by simp only [iv]; omega)
    have e : (List.replicate i sector0 ++ List.replicate (n - i) []).set i sector0 = List.replicate (i + 1) sector0 ++ List.replicate (n - (i + 1)) [] := by
      rw [List.set_append_right _ _ (by simp), List.length_replicate, Nat.sub_self, show n - i = (n - (i + 1)) + 1 by omega, List.replicate_succ, List.set_cons_zero, List.replicate_succ' (n := i)]
      simp
    rw [e] at ho5
    exact ho5
  · have hin : i = n := by omega
    subst hin
    rw [Nat.sub_self, List.replicate_zero, List.append_nil, ← img_nil] at ho
    simp only [↓eBinI, ↓eDiv, ↓eShift, ↓eBinS, ↓ePick, ↓eNot, ↓eNeg, ↓eConv, ↓eConvS, ↓eExt0, ↓eExt1, ↓eExt2, ↓eFA, ↓eIA, ↓eLenSl, ↓eCapSl, ↓eLenS, ↓eMin, ↓eMax, ↓eCondT, ↓eCondF, ↓gIf_tt, ↓gIf_ff, ↓gIf_tf, ↓gIf_ft, ↓gIf_u, ↓gIfW_u, ↓gIfW_tt, ↓gIfW_ff, ↓gIfW_tf, ↓gIfW_ft, binI, divI, shiftI, add_mk, Nat.zero_add, cond_true, cond_false, decide_true, decide_false, Bool.not_true, Bool.not_false, Bool.and_true, Bool.true_and, Bool.and_false, Bool.false_and, Int.toNat_natCast, Nat.mul_one, ci]
    refine trail_Image.loop2 (fun x31 w' => ∃ j : Nat, j ≤ l.length ∧ x31 = .int .i64 j ∧ Ext w1 w' ∧ w1.heap.size < w'.heap.size ∧ Cs w' g3 [.int .i64 (i : Int)] ∧ Own (.slice .byte) (fun b => b ≠ w1.heap.size) w.heap.size w' (.slice (some ⟨w1.heap.size, 0, none⟩) i i) (imgF (l.take j) i)) (fun x31 _ => l.length - (iv x31).toNat)
      ⟨0, by omega, rfl, h3, hs3, b3, by simpa using ho⟩ ?_
    rintro x31 gg2 w4 ⟨j, hj, rfl, h4, hs4, b4, ho4⟩
    unfold trail_Image.b2
    by_cases cj : (j : Int) < (l.length : Int)
    · have htk : l.take (j + 1) = l.take j ++ [(l[j].1, l[j].2)] := by rw [List.take_succ_eq_append_getElem (by omega)]
      obtain ⟨ad, c', us, e1, s1, _, hus, q1, r1⟩ := ((hx.ext h1).ext h4).idxN (i := j) (by omega)
      simp only [Value.slice.injEq] at e1
      obtain ⟨rfl, -, rfl⟩ := e1
      obtain ⟨va, vb, rfl, hva, hvb, r2, r3⟩ := r1
      obtain ⟨rfl, hp0, hp1⟩ := r2
      obtain ⟨a2, c2', rfl, hc2, hl2, hr3⟩ := r3
      have r3 : Rd (.slice .byte) D w4 [.slice a2 l[j].2.length c2'] l[j].2 := ⟨a2, c2', rfl, hc2, hl2, hr3⟩
      simp only [↓eBinI, ↓eDiv, ↓eShift, ↓eBinS, ↓ePick, ↓eNot, ↓eNeg, ↓eConv, ↓eConvS, ↓eExt0, ↓eExt1, ↓eExt2, ↓eFA, ↓eIA, ↓eLenSl, ↓eCapSl, ↓eLenS, ↓eMin, ↓eMax, ↓eCondT, ↓eCondF, ↓gIf_tt, ↓gIf_ff, ↓gIf_tf, ↓gIf_ft, ↓gIf_u, ↓gIfW_u, ↓gIfW_tt, ↓gIfW_ff, ↓gIfW_tf, ↓gIfW_ft, binI, divI, shiftI, add_mk, Nat.zero_add, cond_true, cond_false, decide_true, decide_false, Bool.not_true, Bool.not_false, Bool.and_true, Bool.true_and, Bool.and_false, Bool.false_and, Int.toNat_natCast, Nat.mul_one, cj]
      refine ⟨by omega, trivial, ?_⟩
      have hlj := hs j (by omega)
      refine ⟨ad.add (j * 2), [.int .i64 l[j].1, .slice a2 l[j].2.length c2'], rfl, rfl, fun w' e i hi => ?_, ?_⟩
      · subst e
        rw [add_add _ _ _ s1]
        match i, hi with
        | 0, _ => exact q1 0 _ rfl
        | 1, _ => exact q1 1 _ rfl
      refine boxC fun g9 w5 hg9 h5 b5 => ?_
      refine b5.setN rfl rfl (by simp [one]) fun w6 b6 hf6 => ?_
      have h46 : Ext w4 w6 := h5.tn hf6 (fun x e => by omega)
      simp only [↓eBinI, ↓eDiv, ↓eShift, ↓eBinS, ↓ePick, ↓eNot, ↓eNeg, ↓eConv, ↓eConvS, ↓eExt0, ↓eExt1, ↓eExt2, ↓eFA, ↓eIA, ↓eLenSl, ↓eCapSl, ↓eLenS, ↓eMin, ↓eMax, ↓eCondT, ↓eCondF, ↓gIf_tt, ↓gIf_ff, ↓gIf_tf, ↓gIf_ft, ↓gIf_u, ↓gIfW_u, ↓gIfW_tt, ↓gIfW_ff, ↓gIfW_tf, ↓gIfW_ft, binI, divI, shiftI, add_mk, Nat.zero_add, cond_true, cond_false, decide_true, decide_false, Bool.not_true, Bool.not_false, Bool.and_true, Bool.true_and, Bool.and_false, Bool.false_and, Int.toNat_natCast, Nat.mul_one, ↓b6.c0]
      have b36 := b4.ext h46
      have ho6 := ho4.ext h46
      have hs6 := h46.size
      refine (?_ : pCall Try.prog 64 [.int .i64 l[j].1, .pointer (some ⟨g3, 0, none⟩)] X w6 _)
      refine Image_c1_c b36 ?_
      by_cases cp : l[j].1 ≥ 0 ∧ l[j].1 < (i : Int)
      · rw [decide_eq_true cp.1, decide_eq_true cp.2]
        simp only [↓eBinI, ↓eDiv, ↓eShift, ↓eBinS, ↓ePick, ↓eNot, ↓eNeg, ↓eConv, ↓eConvS, ↓eExt0, ↓eExt1, ↓eExt2, ↓eFA, ↓eIA, ↓eLenSl, ↓eCapSl, ↓eLenS, ↓eMin, ↓eMax, ↓eCondT, ↓eCondF, ↓gIf_tt, ↓gIf_ff, ↓gIf_tf, ↓gIf_ft, ↓gIf_u, ↓gIfW_u, ↓gIfW_tt, ↓gIfW_ff, ↓gIfW_tf, ↓gIfW_ft, binI, divI, shiftI, add_mk, Nat.zero_add, cond_true, cond_false, decide_true, decide_false, Bool.not_true, Bool.not_false, Bool.and_true, Bool.true_and, Bool.and_false, Bool.false_and, Int.toNat_natCast, Nat.mul_one]
        refine draw_ fun w7 h7 => ?_
        have b7 := b6.ext h7
        simp only [↓eBinI, ↓eDiv, ↓eShift, ↓eBinS, ↓ePick, ↓eNot, ↓eNeg, ↓eConv, ↓eConvS, ↓eExt0, ↓eExt1, ↓eExt2, ↓eFA, ↓eIA, ↓eLenSl, ↓eCapSl, ↓eLenS, ↓eMin, ↓eMax, ↓eCondT, ↓eCondF, ↓gIf_tt, ↓gIf_ff, ↓gIf_tf, ↓gIf_ft, ↓gIf_u, ↓gIfW_u, ↓gIfW_tt, ↓gIfW_ff, ↓gIfW_tf, ↓gIfW_ft, binI, divI, shiftI, add_mk, Nat.zero_add, cond_true, cond_false, decide_true, decide_false, Bool.not_true, Bool.not_false, Bool.and_true, Bool.true_and, Bool.and_false, Bool.false_and, Int.toNat_natCast, Nat.mul_one, ↓b7.e0, ↓b7.e1]
        have h17 := (h4.tr h46).tr h7
        refine Clone_c ((r3.ext h46).ext h7) (by omega) fun v w8 h8 hv hone => ⟨h8, ?_⟩
        refine ⟨cp.1, by first | trivial | omega, ?_⟩
        have hrd : Rd (.slice .byte) (fun b => b ≠ w1.heap.size) w8 [v] l[j].2 := hv.rd (fun _ h => h.elim) (fun b hb => by have := h7.size; omega) (by omega)
        refine ((ho6.ext h7).ext h8).set1 rfl (by rw [img_len]; omega) hrd fun w9 ho9 hf9 => anew_ ?_
        have hw9 := hf9.size
        have hw8 := h8.size
        have hw7 := h7.size
        unfold trail_Image.j1
        simp only [↓eBinI, ↓eDiv, ↓eShift, ↓eBinS, ↓ePick, ↓eNot, ↓eNeg, ↓eConv, ↓eConvS, ↓eExt0, ↓eExt1, ↓eExt2, ↓eFA, ↓eIA, ↓eLenSl, ↓eCapSl, ↓eLenS, ↓eMin, ↓eMax, ↓eCondT, ↓eCondF, ↓gIf_tt, ↓gIf_ff, ↓gIf_tf, ↓gIf_ft, ↓gIf_u, ↓gIfW_u, ↓gIfW_tt, ↓gIfW_ff, ↓gIfW_tf, ↓gIfW_ft, binI, divI, shiftI, add_mk, Nat.zero_add, cond_true, cond_false, decide_true, decide_false, Bool.not_true, Bool.not_false, Bool.and_true, Bool.true_and, Bool.and_false, Bool.false_and, Int.toNat_natCast, Nat.mul_one]
        rw [wrap64 (by omega) (by omega)]
        refine trail_Image.leaf2 ⟨j + 1, by omega, by simp, (h17.tr h8).tn hf9 (fun x e => by omega), by omega, ((b36.ext h7).ext h8).fr hf9 (fun e => by omega), ?_⟩ (by simp only [iv]; omega)
        rw [htk, img_snoc, if_pos cp]
        exact ho9
      · have e : (decide (l[j].1 ≥ 0) && decide (l[j].1 < (i : Int))) = false := by
          rw [Bool.and_eq_false_iff, decide_eq_false_iff_not, decide_eq_false_iff_not]; omega
        rw [e]
        simp only [↓eBinI, ↓eDiv, ↓eShift, ↓eBinS, ↓ePick, ↓eNot, ↓eNeg, ↓eConv, ↓eConvS, ↓eExt0, ↓eExt1, ↓eExt2, ↓eFA, ↓eIA, ↓eLenSl, ↓eCapSl, ↓eLenS, ↓eMin, ↓eMax, ↓eCondT, ↓eCondF, ↓gIf_tt, ↓gIf_ff, ↓gIf_tf, ↓gIf_ft, ↓gIf_u, ↓gIfW_u, ↓gIfW_tt, ↓gIfW_ff, ↓gIfW_tf, ↓gIfW_ft, binI, divI, shiftI, add_mk, Nat.zero_add, cond_true, cond_false, decide_true, decide_false, Bool.not_true, Bool.not_false, Bool.and_true, Bool.true_and, Bool.and_false, Bool.false_and, Int.toNat_natCast, Nat.mul_one]
        unfold trail_Image.j1
        simp only [↓eBinI, ↓eDiv, ↓eShift, ↓eBinS, ↓ePick, ↓eNot, ↓eNeg, ↓eConv, ↓eConvS, ↓eExt0, ↓eExt1, ↓eExt2, ↓eFA, ↓eIA, ↓eLenSl, ↓eCapSl, ↓eLenS, ↓eMin, ↓eMax, ↓eCondT, ↓eCondF, ↓gIf_tt, ↓gIf_ff, ↓gIf_tf, ↓gIf_ft, ↓gIf_u, ↓gIfW_u, ↓gIfW_tt, ↓gIfW_ff, ↓gIfW_tf, ↓gIfW_ft, binI, divI, shiftI, add_mk, Nat.zero_add, cond_true, cond_false, decide_true, decide_false, Bool.not_true, Bool.not_false, Bool.and_true, Bool.true_and, Bool.and_false, Bool.false_and, Int.toNat_natCast, Nat.mul_one]
        rw [wrap64 (by omega) (by omega)]
        refine trail_Image.leaf2 ⟨j + 1, by omega, by simp, h4.tr h46, by omega, b36, ?_⟩ (by simp only [iv]; omega)
        rw [htk, img_snoc, if_neg cp]
        exact ho6
    · simp only [↓eBinI, ↓eDiv, ↓eShift, ↓eBinS, ↓ePick, ↓eNot, ↓eNeg, ↓eConv, ↓eConvS, ↓eExt0, ↓eExt1, ↓eExt2, ↓eFA, ↓eIA, ↓eLenSl, ↓eCapSl, ↓eLenS, ↓eMin, ↓eMax, ↓eCondT, ↓eCondF, ↓gIf_tt, ↓gIf_ff, ↓gIf_tf, ↓gIf_ft, ↓gIf_u, ↓gIfW_u, ↓gIfW_tt, ↓gIfW_ff, ↓gIfW_tf, ↓gIfW_ft, binI, divI, shiftI, add_mk, Nat.zero_add, cond_true, cond_false, decide_true, decide_false, Bool.not_true, Bool.not_false, Bool.and_true, Bool.true_and, Bool.and_false, Bool.false_and, Int.toNat_natCast, Nat.mul_one, cj]
      have : j = l.length := by omega
      subst this
      rw [List.take_length] at ho4
      exact h _ w4 _ (h1.tr h4) ho4
end Go.Proofs.Ytlolomdgchkibaa
