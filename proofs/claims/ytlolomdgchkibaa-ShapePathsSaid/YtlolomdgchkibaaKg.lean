/-
  The slots below a page.
-/
import Derived.Test.YtlolomdgchkibaaKf
set_option linter.unusedSimpArgs false
set_option linter.unusedVariables false
namespace Go.Proofs.Ytlolomdgchkibaa
open Go Go.G
variable {X : KX} {w : World} {K : KV} {a d l : Int}
def dwn (a d l : Int) : Nat → Int → Int → Int × Int
  | 0, f, s => (f, s)
  | n + 1, f, s => if f < nodesF a d l then dwn a d l n (childF a d l f 0) (childF a d l s (a - 1)) else (f, s)
def slotsF (a d l f : Int) (n : Nat) : List Int := (List.range n).map fun (i : Nat) => slotF a d l (f + i)
def underF (a d l p : Int) : List Int := bif thereF a d l p then slotsF a d l (dwn a d l 22 p p).1 ((dwn a d l 22 p p).2 - (dwn a d l 22 p p).1 + 1).toNat else []
theorem child_bd {n k : Int} (hr : rightF a d l = true) (h0 : 0 ≤ n ∨ -1 ≤ n) (h1 : n ≤ 84) : -1 ≤ childF a d l n k ∧ childF a d l n k ≤ 84 := by
  have hb := right_bd hr
  have hn := @nodesF_bd a d l
  unfold childF
  split
  · omega
  · rename_i h
    rcases three hb.1 hb.2.1 with e | e | e <;> subst e <;> omega
theorem slot_bd {p : Int} (h : p ≤ 84) : -1 ≤ slotF a d l p ∧ slotF a d l p ≤ 84 := by
  have hn := @nodesF_bd a d l
  unfold slotF
  split <;> omega
theorem dwn_bd (hr : rightF a d l = true) : ∀ (n : Nat) (f s : Int), 0 ≤ f → f ≤ 84 → -1 ≤ s → s ≤ 84 → 0 ≤ (dwn a d l n f s).1 ∧ (dwn a d l n f s).1 ≤ 84 ∧ -1 ≤ (dwn a d l n f s).2 ∧ (dwn a d l n f s).2 ≤ 84
  | 0, f, s, h0, h1, h2, h3 => ⟨h0, h1, h2, h3⟩
  | n + 1, f, s, h0, h1, h2, h3 => by
    have hb := right_bd hr
    unfold dwn
    split
    · rename_i hf
      have b1 := child_bd (k := 0) hr (.inl h0) h1
      have b2 := child_bd (n := s) (k := a - 1) hr (.inr h2) h3
      have : 0 ≤ childF a d l f 0 := by
        unfold childF
        rw [if_neg (by omega)]
        have : 0 ≤ a * f := Int.mul_nonneg (by omega) h0
        omega
      exact dwn_bd hr n _ _ this b1.2 b2.1 b2.2
    · exact ⟨h0, h1, h2, h3⟩
theorem slots_succ {f : Int} {n : Nat} : slotsF a d l f (n + 1) = slotsF a d l f n ++ [slotF a d l (f + n)] := by
  unfold slotsF; rw [List.range_succ, List.map_append]; rfl
theorem under_le {p : Int} : (underF a d l p).length ≤ 86 := by
  cases h : thereF a d l p with
  | false => unfold underF; simp [h]
  | true =>
    have hb := there_bd h
    have := dwn_bd hb.2.2.2.1 22 p p hb.1 hb.2.1 (by omega) hb.2.1
    unfold underF slotsF; simp only [h, cond_true, List.length_map, List.length_range]; omega
theorem shape_Under_c {p : Int} (h : ∀ v w', Ext w w' → Ints w.heap.size w' v (underF a d l p) → (∀ b, Blk v b → w.heap.size ≤ b ∧ b < w'.heap.size) → K v w') : GCalls Try.prog 33 [geo a d l, .int .i64 p] K X w := by
  apply shape_Under.calls; unfold shape_Under.b
  refine boxC fun g w1 _ h1 b => ?_
  simp only [↓eBinI, ↓eDiv, ↓eShift, ↓eBinS, ↓ePick, ↓eNot, ↓eNeg, ↓eConv, ↓eConvS, ↓eExt0, ↓eExt1, ↓eExt2, ↓eFA, ↓eIA, ↓eLenSl, ↓eCapSl, ↓eLenS, ↓eMin, ↓eMax, ↓eCondT, ↓eCondF, ↓gIf_tt, ↓gIf_ff, ↓gIf_tf, ↓gIf_ft, ↓gIf_u, ↓gIfW_u, ↓gIfW_tt, ↓gIfW_ff, ↓gIfW_tf, ↓gIfW_ft, binI, divI, shiftI, add_mk, Nat.zero_add, cond_true, cond_false, decide_true, decide_false, Bool.not_true, Bool.not_false, Bool.and_true, Bool.true_and, Bool.and_false, Bool.false_and, Int.toNat_natCast, Nat.mul_one, ↓b.ld3]
  refine shape_there_c fun w2 h2 => ?_
  replace b := b.ext h2
  have bq := b
  have hg := b.lt
  have h12 := h1.tr h2
  unfold underF at h
  cases ht : thereF a d l p with
  | false =>
    simp only [↓eBinI, ↓eDiv, ↓eShift, ↓eBinS, ↓ePick, ↓eNot, ↓eNeg, ↓eConv, ↓eConvS, ↓eExt0, ↓eExt1, ↓eExt2, ↓eFA, ↓eIA, ↓eLenSl, ↓eCapSl, ↓eLenS, ↓eMin, ↓eMax, ↓eCondT, ↓eCondF, ↓gIf_tt, ↓gIf_ff, ↓gIf_tf, ↓gIf_ft, ↓gIf_u, ↓gIfW_u, ↓gIfW_tt, ↓gIfW_ff, ↓gIfW_tf, ↓gIfW_ft, binI, divI, shiftI, add_mk, Nat.zero_add, cond_true, cond_false, decide_true, decide_false, Bool.not_true, Bool.not_false, Bool.and_true, Bool.true_and, Bool.and_false, Bool.false_and, Int.toNat_natCast, Nat.mul_one, ht] at h ⊢
    exact h _ w2 h12 Own.nil (by rintro b ⟨a', n', c', e, _⟩; cases e)
  | true =>
    have hb := there_bd ht
    have hr := hb.2.2.2.1
    have hn := @nodesF_bd a d l
    have hd := dwn_bd hr 22 p p hb.1 hb.2.1 (by omega) hb.2.1
    simp only [↓eBinI, ↓eDiv, ↓eShift, ↓eBinS, ↓ePick, ↓eNot, ↓eNeg, ↓eConv, ↓eConvS, ↓eExt0, ↓eExt1, ↓eExt2, ↓eFA, ↓eIA, ↓eLenSl, ↓eCapSl, ↓eLenS, ↓eMin, ↓eMax, ↓eCondT, ↓eCondF, ↓gIf_tt, ↓gIf_ff, ↓gIf_tf, ↓gIf_ft, ↓gIf_u, ↓gIfW_u, ↓gIfW_tt, ↓gIfW_ff, ↓gIfW_tf, ↓gIfW_ft, binI, divI, shiftI, add_mk, Nat.zero_add, cond_true, cond_false, decide_true, decide_false, Bool.not_true, Bool.not_false, Bool.and_true, Bool.true_and, Bool.and_false, Bool.false_and, Int.toNat_natCast, Nat.mul_one, ht] at h ⊢
    refine shape_Under.loop1 (fun x5 x6 w' => ∃ (n : Nat) (f s : Int), dwn a d l n f s = dwn a d l 22 p p ∧ nodesF a d l - f < n ∧ 0 ≤ f ∧ f ≤ 84 ∧ -1 ≤ s ∧ s ≤ 84 ∧ x5 = .int .i64 f ∧ x6 = .int .i64 s ∧ Ext w2 w') (fun x5 _ _ => (21 - iv x5).toNat)
      ⟨22, p, p, rfl, by omega, hb.1, hb.2.1, by omega, hb.2.1, rfl, rfl, Fr.refl _ _⟩ ?_
    rintro x5 x6 gg w3 ⟨n, f, s, hdw, hfu, f0, f1, s0, s1, rfl, rfl, h3⟩
    replace b := b.ext h3
    unfold shape_Under.b1
    simp only [↓eBinI, ↓eDiv, ↓eShift, ↓eBinS, ↓ePick, ↓eNot, ↓eNeg, ↓eConv, ↓eConvS, ↓eExt0, ↓eExt1, ↓eExt2, ↓eFA, ↓eIA, ↓eLenSl, ↓eCapSl, ↓eLenS, ↓eMin, ↓eMax, ↓eCondT, ↓eCondF, ↓gIf_tt, ↓gIf_ff, ↓gIf_tf, ↓gIf_ft, ↓gIf_u, ↓gIfW_u, ↓gIfW_tt, ↓gIfW_ff, ↓gIfW_tf, ↓gIfW_ft, binI, divI, shiftI, add_mk, Nat.zero_add, cond_true, cond_false, decide_true, decide_false, Bool.not_true, Bool.not_false, Bool.and_true, Bool.true_and, Bool.and_false, Bool.false_and, Int.toNat_natCast, Nat.mul_one, ↓b.ld3]
    refine geom_Nodes_c fun w4 h4 => ?_
    replace b := b.ext h4
    by_cases c : f < nodesF a d l
    · simp only [↓eBinI, ↓eDiv, ↓eShift, ↓eBinS, ↓ePick, ↓eNot, ↓eNeg, ↓eConv, ↓eConvS, ↓eExt0, ↓eExt1, ↓eExt2, ↓eFA, ↓eIA, ↓eLenSl, ↓eCapSl, ↓eLenS, ↓eMin, ↓eMax, ↓eCondT, ↓eCondF, ↓gIf_tt, ↓gIf_ff, ↓gIf_tf, ↓gIf_ft, ↓gIf_u, ↓gIfW_u, ↓gIfW_tt, ↓gIfW_ff, ↓gIfW_tf, ↓gIfW_ft, binI, divI, shiftI, add_mk, Nat.zero_add, cond_true, cond_false, decide_true, decide_false, Bool.not_true, Bool.not_false, Bool.and_true, Bool.true_and, Bool.and_false, Bool.false_and, Int.toNat_natCast, Nat.mul_one, c]
      refine draw_ fun w5 h5 => ?_
      replace b := b.ext h5
      simp only [↓eBinI, ↓eDiv, ↓eShift, ↓eBinS, ↓ePick, ↓eNot, ↓eNeg, ↓eConv, ↓eConvS, ↓eExt0, ↓eExt1, ↓eExt2, ↓eFA, ↓eIA, ↓eLenSl, ↓eCapSl, ↓eLenS, ↓eMin, ↓eMax, ↓eCondT, ↓eCondF, ↓gIf_tt, ↓gIf_ff, ↓gIf_tf, ↓gIf_ft, ↓gIf_u, ↓gIfW_u, ↓gIfW_tt, ↓gIfW_ff, ↓gIfW_tf, ↓gIfW_ft, binI, divI, shiftI, add_mk, Nat.zero_add, cond_true, cond_false, decide_true, decide_false, Bool.not_true, Bool.not_false, Bool.and_true, Bool.true_and, Bool.and_false, Bool.false_and, Int.toNat_natCast, Nat.mul_one, ↓b.le3, ↓b.e0]
      refine shape_Child_c fun w6 h6 => ⟨h6, ?_⟩
      rw [wrap64 (by omega) (by omega)]
      refine shape_Child_c fun w7 h7 => ⟨h6.tr h7, ?_⟩
      have b1 := child_bd (k := 0) hr (.inl f0) f1
      have b2 := child_bd (n := s) (k := a - 1) hr (.inr s0) s1
      have hlt : f < childF a d l f 0 := by
        unfold childF
        rw [if_neg (by omega)]
        have : 1 * f ≤ a * f := Int.mul_le_mul_of_nonneg_right (by omega) f0
        omega
      obtain ⟨m, rfl⟩ : ∃ m, n = m + 1 := ⟨n - 1, by omega⟩
      refine shape_Under.leaf1 ⟨m, _, _, ?_, ?_, ?_, b1.2, b2.1, b2.2, rfl, rfl, ((h3.tr h4).tr h5).tr (h6.tr h7)⟩ (by simp only [iv]; omega)
      · rw [← hdw]; conv => rhs; rw [dwn]
        rw [if_pos c]
      · omega
      · omega
    · simp only [↓eBinI, ↓eDiv, ↓eShift, ↓eBinS, ↓ePick, ↓eNot, ↓eNeg, ↓eConv, ↓eConvS, ↓eExt0, ↓eExt1, ↓eExt2, ↓eFA, ↓eIA, ↓eLenSl, ↓eCapSl, ↓eLenS, ↓eMin, ↓eMax, ↓eCondT, ↓eCondF, ↓gIf_tt, ↓gIf_ff, ↓gIf_tf, ↓gIf_ft, ↓gIf_u, ↓gIfW_u, ↓gIfW_tt, ↓gIfW_ff, ↓gIfW_tf, ↓gIfW_ft, binI, divI, shiftI, add_mk, Nat.zero_add, cond_true, cond_false, decide_true, decide_false, Bool.not_true, Bool.not_false, Bool.and_true, Bool.true_and, Bool.and_false, Bool.false_and, Int.toNat_natCast, Nat.mul_one, c]
      have hend : dwn a d l 22 p p = (f, s) := by
        rw [← hdw]
        cases n with
        | zero => rfl
        | succ m => rw [dwn, if_neg c]
      rw [hend] at h hd
      have h24 := h3.tr h4
      refine shape_Under.loop2 (fun x4 x7 w' => ∃ (i : Nat), (i : Int) ≤ (s - f + 1).toNat ∧ x7 = .int .i64 (f + i) ∧ Ext w2 w' ∧ Ints w2.heap.size w' x4 (slotsF a d l f i) ∧ (∀ b, Blk x4 b → w2.heap.size ≤ b ∧ b < w'.heap.size)) (fun _ x7 _ => (86 - iv x7).toNat)
        ⟨0, by omega, by simp, h24, Own.nil, by rintro b ⟨a', n', c', e, _⟩; cases e⟩ ?_
      rintro x4 x7 gg w5 ⟨i, hi, rfl, h5, ho, hbl⟩
      have bw5 := bq.ext h5
      unfold shape_Under.b2
      by_cases c2 : f + (i : Int) ≤ s
      · simp only [↓eBinI, ↓eDiv, ↓eShift, ↓eBinS, ↓ePick, ↓eNot, ↓eNeg, ↓eConv, ↓eConvS, ↓eExt0, ↓eExt1, ↓eExt2, ↓eFA, ↓eIA, ↓eLenSl, ↓eCapSl, ↓eLenS, ↓eMin, ↓eMax, ↓eCondT, ↓eCondF, ↓gIf_tt, ↓gIf_ff, ↓gIf_tf, ↓gIf_ft, ↓gIf_u, ↓gIfW_u, ↓gIfW_tt, ↓gIfW_ff, ↓gIfW_tf, ↓gIfW_ft, binI, divI, shiftI, add_mk, Nat.zero_add, cond_true, cond_false, decide_true, decide_false, Bool.not_true, Bool.not_false, Bool.and_true, Bool.true_and, Bool.and_false, Bool.false_and, Int.toNat_natCast, Nat.mul_one, c2, ↓bw5.ld3]
        refine shape_Slot_c fun w6 h6 => ?_
        refine bslice1 rfl fun r w7 _ h7 br => ?_
        have hs := slot_bd (a := a) (d := d) (l := l) (p := f + i) (by omega)
        refine (ho.ext (h6.tr h7)).push1 br (rdInt (by omega) (by omega)) (Nat.le_trans h5.size (h6.tr h7).size) (fun h => h) rfl (by simp [slotsF]; omega) fun v' w8 ho' hf' hb' => ?_
        rw [wrap64 (by omega) (by omega)]
        refine shape_Under.leaf2 ⟨i + 1, by omega, by congr 1; omega, (h5.tr (h6.tr h7)).tn hf' (fun x hx => hx.2), by rw [slots_succ]; exact ho', fun b hb => ?_⟩ (by simp only [iv]; omega)
        have q1 := (h6.tr h7).size; have q2 := h5.size; have q3 := hf'.size
        rcases hb' b hb with h | h
        · have := hbl b h; omega
        · omega
      · simp only [↓eBinI, ↓eDiv, ↓eShift, ↓eBinS, ↓ePick, ↓eNot, ↓eNeg, ↓eConv, ↓eConvS, ↓eExt0, ↓eExt1, ↓eExt2, ↓eFA, ↓eIA, ↓eLenSl, ↓eCapSl, ↓eLenS, ↓eMin, ↓eMax, ↓eCondT, ↓eCondF, ↓gIf_tt, ↓gIf_ff, ↓gIf_tf, ↓gIf_ft, ↓gIf_u, ↓gIfW_u, ↓gIfW_tt, ↓gIfW_ff, ↓gIfW_tf, ↓gIfW_ft, binI, divI, shiftI, add_mk, Nat.zero_add, cond_true, cond_false, decide_true, decide_false, Bool.not_true, Bool.not_false, Bool.and_true, Bool.true_and, Bool.and_false, Bool.false_and, Int.toNat_natCast, Nat.mul_one, c2]
        have : i = (s - f + 1).toNat := by omega
        subst this
        exact h _ w5 (h12.tr h5) (ho.low h12.size) fun b hb => by have := hbl b hb; have := h12.size; omega
end Go.Proofs.Ytlolomdgchkibaa
