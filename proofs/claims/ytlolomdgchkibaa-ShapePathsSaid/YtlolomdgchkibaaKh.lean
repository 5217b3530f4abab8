/-
  What the law on whole trees hands back.
-/
import Derived.Test.YtlolomdgchkibaaKg
import Derived.Test.YtlolomdgchkibaaS5
set_option maxRecDepth 100000
set_option linter.unusedSimpArgs false
set_option linter.unusedVariables false
namespace Go.Proofs.Ytlolomdgchkibaa
open Go Go.G
variable {X : KX} {w : World} {K : KV} {a d l : Int}
def levelF (a d l p : Int) : Int := if thereF a d l p then (lvF a p : Int) else -1
def whole1 (a d l p : Int) : Bool := childF a d l (parentF a d l p) (whichF a d l p) == p && levelF a d l p == levelF a d l (parentF a d l p) + 1
def allF (a d l n : Int) (k : Nat) : List Int := (List.range k).flatMap fun (i : Nat) => underF a d l (childF a d l n i)
def whole2 (a d l n : Int) : Bool := allF a d l n a.toNat == underF a d l n && slotF a d l n == -1 && (allF a d l n a.toNat).length ≤ 300
section
variable (hr : rightF a d l = true) (hq : rightF a d 64 = true)
include hr hq
theorem nodes_l : nodesF a d l = nodesF a d 64 := by unfold nodesF; rw [hr, hq]
theorem leaves_l : leavesF a d l = leavesF a d 64 := by unfold leavesF; rw [hr, hq]
theorem there_l : thereF a d l = thereF a d 64 := by funext p; unfold thereF pagesF; rw [nodes_l hr hq, leaves_l hr hq]
theorem child_l : childF a d l = childF a d 64 := by funext n k; unfold childF; rw [nodes_l hr hq]
theorem parent_l : parentF a d l = parentF a d 64 := by funext p; unfold parentF; rw [there_l hr hq]
theorem which_l : whichF a d l = whichF a d 64 := by funext p; unfold whichF; rw [there_l hr hq]
theorem slot_l : slotF a d l = slotF a d 64 := by funext p; unfold slotF; rw [there_l hr hq, nodes_l hr hq]
theorem dwn_l : ∀ n f s, dwn a d l n f s = dwn a d 64 n f s
  | 0, _, _ => rfl
  | n + 1, f, s => by unfold dwn; rw [nodes_l hr hq, child_l hr hq, dwn_l n]
theorem under_l : underF a d l = underF a d 64 := by funext p; unfold underF slotsF; simp only [there_l hr hq, dwn_l hr hq, slot_l hr hq]
theorem whole1_l : whole1 a d l = whole1 a d 64 := by funext p; unfold whole1 levelF; simp only [there_l hr hq, child_l hr hq, parent_l hr hq, which_l hr hq]
theorem whole2_l : whole2 a d l = whole2 a d 64 := by funext p; unfold whole2 allF; simp only [child_l hr hq, under_l hr hq, slot_l hr hq]
end
def check1 : Bool := [2, 3, 4].all fun a => [1, 2, 3].all fun d => (List.range 85).all fun p => p == 0 || !(thereF a d 64 p) || whole1 a d 64 p
def check2 : Bool := [2, 3, 4].all fun a => [1, 2, 3].all fun d => (List.range 22).all fun p => decide (¬ ((p : Nat) : Int) < nodesF a d 64) || whole2 a d 64 p
theorem check1_true : check1 = true := by decide +kernel
theorem check2_true : check2 = true := by decide +kernel
theorem right64 (hr : rightF a d l = true) : rightF a d 64 = true ∧ a ∈ [2, 3, 4] ∧ d ∈ [1, 2, 3] := by
  have hb := right_bd hr
  refine ⟨?_, ?_, ?_⟩
  · unfold rightF; simp; omega
  · simp; omega
  · simp; omega
theorem whole1_true {p : Int} (hp : 1 ≤ p) (ht : thereF a d l p = true) : whole1 a d l p = true := by
  have hb := there_bd ht
  have hr := hb.2.2.2.1
  obtain ⟨hq, ha, hd⟩ := right64 hr
  rw [whole1_l hr hq]
  rw [there_l hr hq] at ht
  have h := check1_true
  unfold check1 at h
  have h := List.all_eq_true.1 (List.all_eq_true.1 (List.all_eq_true.1 h a ha) d hd) p.toNat (by simp; omega)
  have hpp : ((p.toNat : Nat) : Int) = p := by omega
  have h0 : (p.toNat == 0) = false := by simp; omega
  rw [hpp, ht, h0] at h
  simpa using h
theorem whole2_true {p : Int} (hp : 0 ≤ p) (ht : p < nodesF a d l) : whole2 a d l p = true := by
  obtain ⟨hr, h1, _⟩ := nodesF_pos hp ht
  obtain ⟨hq, ha, hd⟩ := right64 hr
  rw [whole2_l hr hq]
  rw [nodes_l hr hq] at ht
  have h := check2_true
  unfold check2 at h
  have h := List.all_eq_true.1 (List.all_eq_true.1 (List.all_eq_true.1 h a ha) d hd) p.toNat (by simp; omega)
  have hpp : ((p.toNat : Nat) : Int) = p := by omega
  rw [hpp, decide_eq_false (by omega)] at h
  simpa using h
theorem pages_le : pagesF a d l ≤ 85 := by
  unfold pagesF
  cases hr : rightF a d l with
  | false => unfold nodesF leavesF; simp [hr]
  | true =>
    have h := @nodesF_bd a d l; have h' := @leavesF_bd a d l; omega
theorem law27_Whole_c (h : ∀ w', Ext w w' → K (.bool true) w') : GCalls Try.prog 5 [geo a d l] K X w := by
  apply oubliettelaw27_ShapeWhole.calls; unfold oubliettelaw27_ShapeWhole.b
  refine boxC fun g w1 hg h1 b => ?_
  have hpl := @pages_le a d l
  have hnl := @nodesF_bd a d l
  refine oubliettelaw27_ShapeWhole.loop1 (fun x3 w' => ∃ p : Nat, 1 ≤ p ∧ p ≤ 86 ∧ x3 = .int .i64 p ∧ Ext w1 w') (fun x3 _ => (86 - iv x3).toNat) ⟨1, by omega, by omega, rfl, Fr.refl _ _⟩ ?_
  rintro x3 gg w2 ⟨p, hp1, hp2, rfl, h2⟩
  have b2 := b.ext h2
  unfold oubliettelaw27_ShapeWhole.b1
  simp only [↓eBinI, ↓eDiv, ↓eShift, ↓eBinS, ↓ePick, ↓eNot, ↓eNeg, ↓eConv, ↓eConvS, ↓eExt0, ↓eExt1, ↓eExt2, ↓eFA, ↓eIA, ↓eLenSl, ↓eCapSl, ↓eLenS, ↓eMin, ↓eMax, ↓eCondT, ↓eCondF, ↓gIf_tt, ↓gIf_ff, ↓gIf_tf, ↓gIf_ft, ↓gIf_u, ↓gIfW_u, ↓gIfW_tt, ↓gIfW_ff, ↓gIfW_tf, ↓gIfW_ft, binI, divI, shiftI, add_mk, Nat.zero_add, cond_true, cond_false, decide_true, decide_false, Bool.not_true, Bool.not_false, Bool.and_true, Bool.true_and, Bool.and_false, Bool.false_and, Int.toNat_natCast, Nat.mul_one, ↓b2.ld3]
  refine ref21_Pages_c fun w3 h3 => ?_
  have h23 := h2.tr h3
  by_cases c : (p : Int) < pagesF a d l
  · have ht : thereF a d l p = true := by unfold thereF; simp [c]
    have hw := whole1_true (a := a) (d := d) (l := l) (p := p) (by omega) ht
    simp only [whole1, Bool.and_eq_true, beq_iff_eq] at hw
    simp only [↓eBinI, ↓eDiv, ↓eShift, ↓eBinS, ↓ePick, ↓eNot, ↓eNeg, ↓eConv, ↓eConvS, ↓eExt0, ↓eExt1, ↓eExt2, ↓eFA, ↓eIA, ↓eLenSl, ↓eCapSl, ↓eLenS, ↓eMin, ↓eMax, ↓eCondT, ↓eCondF, ↓gIf_tt, ↓gIf_ff, ↓gIf_tf, ↓gIf_ft, ↓gIf_u, ↓gIfW_u, ↓gIfW_tt, ↓gIfW_ff, ↓gIfW_tf, ↓gIfW_ft, binI, divI, shiftI, add_mk, Nat.zero_add, cond_true, cond_false, decide_true, decide_false, Bool.not_true, Bool.not_false, Bool.and_true, Bool.true_and, Bool.and_false, Bool.false_and, Int.toNat_natCast, Nat.mul_one, c]
    refine draw_ fun w4 h4 => ?_
    have b4 := (b2.ext h3).ext h4
    simp only [↓b4.le3]
    refine shape_Parent_c fun w5 h5 => ⟨h5, ?_⟩
    refine shape_Which_c fun w6 h6 => ⟨h5.tr h6, ?_⟩
    refine shape_Child_c fun w7 h7 => ⟨(h5.tr h6).tr h7, ?_⟩
    have h47 := (h5.tr h6).tr h7
    have e : (childF a d l (parentF a d l p) (whichF a d l p) != (p : Int)) = false := by rw [bne_eq_false_iff_eq]; exact hw.1
    simp only [↓eBinI, ↓eDiv, ↓eShift, ↓eBinS, ↓ePick, ↓eNot, ↓eNeg, ↓eConv, ↓eConvS, ↓eExt0, ↓eExt1, ↓eExt2, ↓eFA, ↓eIA, ↓eLenSl, ↓eCapSl, ↓eLenS, ↓eMin, ↓eMax, ↓eCondT, ↓eCondF, ↓gIf_tt, ↓gIf_ff, ↓gIf_tf, ↓gIf_ft, ↓gIf_u, ↓gIfW_u, ↓gIfW_tt, ↓gIfW_ff, ↓gIfW_tf, ↓gIfW_ft, binI, divI, shiftI, add_mk, Nat.zero_add, cond_true, cond_false, decide_true, decide_false, Bool.not_true, Bool.not_false, Bool.and_true, Bool.true_and, Bool.and_false, Bool.false_and, Int.toNat_natCast, Nat.mul_one, e, ↓b4.le3]
    refine shape_Level_c fun w8 h8 => ⟨h47.tr h8, ?_⟩
    refine shape_Parent_c fun w9 h9 => ⟨(h47.tr h8).tr h9, ?_⟩
    refine shape_Level_c fun wa ha => ⟨((h47.tr h8).tr h9).tr ha, ?_⟩
    have h4a := ((h47.tr h8).tr h9).tr ha
    have hw2 := hw.2
    unfold levelF at hw2
    have hle : -1 ≤ (if thereF a d l (parentF a d l p) = true then (lvF a (parentF a d l p) : Int) else -1) ∧ (if thereF a d l (parentF a d l p) = true then (lvF a (parentF a d l p) : Int) else -1) ≤ 3 := by
      split
      · rename_i ht'; have := lv_spec ht'; omega
      · omega
    have e2 : ((if thereF a d l p = true then (lvF a p : Int) else -1) != IntKind.i64.wrap ((if thereF a d l (parentF a d l p) = true then (lvF a (parentF a d l p) : Int) else -1) + 1)) = false := by
      rw [wrap64 (by omega) (by omega), bne_eq_false_iff_eq]; exact hw2
    simp only [↓eBinI, ↓eDiv, ↓eShift, ↓eBinS, ↓ePick, ↓eNot, ↓eNeg, ↓eConv, ↓eConvS, ↓eExt0, ↓eExt1, ↓eExt2, ↓eFA, ↓eIA, ↓eLenSl, ↓eCapSl, ↓eLenS, ↓eMin, ↓eMax, ↓eCondT, ↓eCondF, ↓gIf_tt, ↓gIf_ff, ↓gIf_tf, ↓gIf_ft, ↓gIf_u, ↓gIfW_u, ↓gIfW_tt, ↓gIfW_ff, ↓gIfW_tf, ↓gIfW_ft, binI, divI, shiftI, add_mk, Nat.zero_add, cond_true, cond_false, decide_true, decide_false, Bool.not_true, Bool.not_false, Bool.and_true, Bool.true_and, Bool.and_false, Bool.false_and, Int.toNat_natCast, Nat.mul_one, e2]
    rw [wrap64 (by omega) (by omega)]
    exact oubliettelaw27_ShapeWhole.leaf1 ⟨p + 1, by omega, by omega, by simp, (h23.tr h4).tr h4a⟩ (by simp only [iv]; omega)
  · simp only [↓eBinI, ↓eDiv, ↓eShift, ↓eBinS, ↓ePick, ↓eNot, ↓eNeg, ↓eConv, ↓eConvS, ↓eExt0, ↓eExt1, ↓eExt2, ↓eFA, ↓eIA, ↓eLenSl, ↓eCapSl, ↓eLenS, ↓eMin, ↓eMax, ↓eCondT, ↓eCondF, ↓gIf_tt, ↓gIf_ff, ↓gIf_tf, ↓gIf_ft, ↓gIf_u, ↓gIfW_u, ↓gIfW_tt, ↓gIfW_ff, ↓gIfW_tf, ↓gIfW_ft, binI, divI, shiftI, add_mk, Nat.zero_add, cond_true, cond_false, decide_true, decide_false, Bool.not_true, Bool.not_false, Bool.and_true, Bool.true_and, Bool.and_false, Bool.false_and, Int.toNat_natCast, Nat.mul_one, c]
    refine oubliettelaw27_ShapeWhole.loop2 (fun x4 w' => ∃ n : Nat, n ≤ 22 ∧ x4 = .int .i64 n ∧ Ext w1 w') (fun x4 _ => (22 - iv x4).toNat) ⟨0, by omega, rfl, h23⟩ ?_
    rintro x4 gg2 w4 ⟨n, hn, rfl, h4⟩
    have b4 := b.ext h4
    unfold oubliettelaw27_ShapeWhole.b2
    simp only [↓eBinI, ↓eDiv, ↓eShift, ↓eBinS, ↓ePick, ↓eNot, ↓eNeg, ↓eConv, ↓eConvS, ↓eExt0, ↓eExt1, ↓eExt2, ↓eFA, ↓eIA, ↓eLenSl, ↓eCapSl, ↓eLenS, ↓eMin, ↓eMax, ↓eCondT, ↓eCondF, ↓gIf_tt, ↓gIf_ff, ↓gIf_tf, ↓gIf_ft, ↓gIf_u, ↓gIfW_u, ↓gIfW_tt, ↓gIfW_ff, ↓gIfW_tf, ↓gIfW_ft, binI, divI, shiftI, add_mk, Nat.zero_add, cond_true, cond_false, decide_true, decide_false, Bool.not_true, Bool.not_false, Bool.and_true, Bool.true_and, Bool.and_false, Bool.false_and, Int.toNat_natCast, Nat.mul_one, ↓b4.ld3]
    refine ref21_Nodes_c fun w5 h5 => ?_
    have h15 := h4.tr h5
    by_cases cn : (n : Int) < nodesF a d l
    · simp only [↓eBinI, ↓eDiv, ↓eShift, ↓eBinS, ↓ePick, ↓eNot, ↓eNeg, ↓eConv, ↓eConvS, ↓eExt0, ↓eExt1, ↓eExt2, ↓eFA, ↓eIA, ↓eLenSl, ↓eCapSl, ↓eLenS, ↓eMin, ↓eMax, ↓eCondT, ↓eCondF, ↓gIf_tt, ↓gIf_ff, ↓gIf_tf, ↓gIf_ft, ↓gIf_u, ↓gIfW_u, ↓gIfW_tt, ↓gIfW_ff, ↓gIfW_tf, ↓gIfW_ft, binI, divI, shiftI, add_mk, Nat.zero_add, cond_true, cond_false, decide_true, decide_false, Bool.not_true, Bool.not_false, Bool.and_true, Bool.true_and, Bool.and_false, Bool.false_and, Int.toNat_natCast, Nat.mul_one, cn]
      obtain ⟨hr, hn20, ha2, ha4⟩ := nodesF_pos (a := a) (d := d) (l := l) (n := n) (by omega) cn
      have hw := whole2_true (a := a) (d := d) (l := l) (p := n) (by omega) cn
      simp only [whole2, Bool.and_eq_true, beq_iff_eq, decide_eq_true_eq] at hw
      refine oubliettelaw27_ShapeWhole.loop3 (fun x5 x6 w' => ∃ k : Nat, (k : Int) ≤ a ∧ x6 = .int .i64 k ∧ Ext w1 w' ∧ Ints w1.heap.size w' x5 (allF a d l n k) ∧ (allF a d l n k).length ≤ 86 * k ∧ (∀ b, Blk x5 b → w1.heap.size ≤ b)) (fun _ x6 _ => (a - iv x6).toNat)
        ⟨0, by omega, rfl, h15, Own.nil, by simp [allF], by rintro b ⟨a', n', c', e, _⟩; cases e⟩ ?_
      rintro x5 x6 gg3 w6 ⟨k, hk, rfl, h6, ho, hlen, hbl⟩
      have b6 := b.ext h6
      have hgl := b.lt
      unfold oubliettelaw27_ShapeWhole.b3
      simp only [↓eBinI, ↓eDiv, ↓eShift, ↓eBinS, ↓ePick, ↓eNot, ↓eNeg, ↓eConv, ↓eConvS, ↓eExt0, ↓eExt1, ↓eExt2, ↓eFA, ↓eIA, ↓eLenSl, ↓eCapSl, ↓eLenS, ↓eMin, ↓eMax, ↓eCondT, ↓eCondF, ↓gIf_tt, ↓gIf_ff, ↓gIf_tf, ↓gIf_ft, ↓gIf_u, ↓gIfW_u, ↓gIfW_tt, ↓gIfW_ff, ↓gIfW_tf, ↓gIfW_ft, binI, divI, shiftI, add_mk, Nat.zero_add, cond_true, cond_false, decide_true, decide_false, Bool.not_true, Bool.not_false, Bool.and_true, Bool.true_and, Bool.and_false, Bool.false_and, Int.toNat_natCast, Nat.mul_one, ↓b6.c0]
      by_cases ck : (k : Int) < a
      · simp only [↓eBinI, ↓eDiv, ↓eShift, ↓eBinS, ↓ePick, ↓eNot, ↓eNeg, ↓eConv, ↓eConvS, ↓eExt0, ↓eExt1, ↓eExt2, ↓eFA, ↓eIA, ↓eLenSl, ↓eCapSl, ↓eLenS, ↓eMin, ↓eMax, ↓eCondT, ↓eCondF, ↓gIf_tt, ↓gIf_ff, ↓gIf_tf, ↓gIf_ft, ↓gIf_u, ↓gIfW_u, ↓gIfW_tt, ↓gIfW_ff, ↓gIfW_tf, ↓gIfW_ft, binI, divI, shiftI, add_mk, Nat.zero_add, cond_true, cond_false, decide_true, decide_false, Bool.not_true, Bool.not_false, Bool.and_true, Bool.true_and, Bool.and_false, Bool.false_and, Int.toNat_natCast, Nat.mul_one, ck]
        refine drawS (fun b => Blk x5 b ∧ w1.heap.size ≤ b) fun w7 h7 => ?_
        have b7 := b6.ext h7
        have hT : ¬ (Blk x5 g ∧ w1.heap.size ≤ g) := fun h => by omega
        simp only [↓b7.t3 (T := fun b => Blk x5 b ∧ w1.heap.size ≤ b) hT]
        refine shape_Child_c fun w8 h8 => ⟨h8.mono (fun _ _ h => h.elim), ?_⟩
        refine shape_Under_c fun v w9 h9 hv hvb => ⟨(h8.tr h9).mono (fun _ _ h => h.elim), ?_⟩
        have h79 := h8.tr h9
        have hul := @under_le a d l (childF a d l n k)
        have s16 := h6.size; have s67 := h7.size; have s79 := h79.size
        refine (ho.ext (h7.tr h79)).cat (by omega) (fun h => h) rfl rfl (D' := fun _ => True) (hv.rd (fun _ _ => trivial) (fun _ _ => trivial) (by omega)) (fun cs h => h.flat rfl) (by omega) fun v' wa ho' hf hb' => ?_
        refine ⟨(h79.mono (fun _ _ h => h.elim)).trans hf (fun _ _ h => h), ?_⟩
        rw [wrap64 (by omega) (by omega)]
        have hall : allF a d l n (k + 1) = allF a d l n k ++ underF a d l (childF a d l n k) := by
          unfold allF; rw [List.range_succ, List.flatMap_append]; simp
        refine oubliettelaw27_ShapeWhole.leaf3 ⟨k + 1, by omega, by simp, ((h6.tr h7).tr h79).tn hf (fun x hx => hx.2), by rw [hall]; exact ho', by rw [hall, List.length_append]; omega, fun b hb => ?_⟩ (by simp only [iv]; omega)
        rcases hb' b hb with h | h
        · exact hbl b h
        · omega
      · simp only [↓eBinI, ↓eDiv, ↓eShift, ↓eBinS, ↓ePick, ↓eNot, ↓eNeg, ↓eConv, ↓eConvS, ↓eExt0, ↓eExt1, ↓eExt2, ↓eFA, ↓eIA, ↓eLenSl, ↓eCapSl, ↓eLenS, ↓eMin, ↓eMax, ↓eCondT, ↓eCondF, ↓gIf_tt, ↓gIf_ff, ↓gIf_tf, ↓gIf_ft, ↓gIf_u, ↓gIfW_u, ↓gIfW_tt, ↓gIfW_ff, ↓gIfW_tf, ↓gIfW_ft, binI, divI, shiftI, add_mk, Nat.zero_add, cond_true, cond_false, decide_true, decide_false, Bool.not_true, Bool.not_false, Bool.and_true, Bool.true_and, Bool.and_false, Bool.false_and, Int.toNat_natCast, Nat.mul_one, ck, ↓b6.ld3]
        have : k = a.toNat := by omega
        subst this
        refine shape_Under_c fun v w7 h7 hv hvb => ?_
        have hul := @under_le a d l (n : Int)
        refine Ints_c (D := fun _ => True) (D' := fun _ => True) ((ho.ext h7).rd (fun _ _ => trivial) (fun _ _ => trivial) (by omega)) (hv.rd (fun _ _ => trivial) (fun _ _ => trivial) (by omega)) fun w8 h8 => ?_
        have b8 := (b6.ext h7).ext h8
        rw [decide_eq_true hw.1.1]
        simp only [↓eBinI, ↓eDiv, ↓eShift, ↓eBinS, ↓ePick, ↓eNot, ↓eNeg, ↓eConv, ↓eConvS, ↓eExt0, ↓eExt1, ↓eExt2, ↓eFA, ↓eIA, ↓eLenSl, ↓eCapSl, ↓eLenS, ↓eMin, ↓eMax, ↓eCondT, ↓eCondF, ↓gIf_tt, ↓gIf_ff, ↓gIf_tf, ↓gIf_ft, ↓gIf_u, ↓gIfW_u, ↓gIfW_tt, ↓gIfW_ff, ↓gIfW_tf, ↓gIfW_ft, binI, divI, shiftI, add_mk, Nat.zero_add, cond_true, cond_false, decide_true, decide_false, Bool.not_true, Bool.not_false, Bool.and_true, Bool.true_and, Bool.and_false, Bool.false_and, Int.toNat_natCast, Nat.mul_one, ↓b8.ld3]
        refine shape_Slot_c fun w9 h9 => ?_
        rw [hw.1.2]
        simp only [↓eBinI, ↓eDiv, ↓eShift, ↓eBinS, ↓ePick, ↓eNot, ↓eNeg, ↓eConv, ↓eConvS, ↓eExt0, ↓eExt1, ↓eExt2, ↓eFA, ↓eIA, ↓eLenSl, ↓eCapSl, ↓eLenS, ↓eMin, ↓eMax, ↓eCondT, ↓eCondF, ↓gIf_tt, ↓gIf_ff, ↓gIf_tf, ↓gIf_ft, ↓gIf_u, ↓gIfW_u, ↓gIfW_tt, ↓gIfW_ff, ↓gIfW_tf, ↓gIfW_ft, binI, divI, shiftI, add_mk, Nat.zero_add, cond_true, cond_false, decide_true, decide_false, Bool.not_true, Bool.not_false, Bool.and_true, Bool.true_and, Bool.and_false, Bool.false_and, Int.toNat_natCast, Nat.mul_one, bne_self_eq_false]
        rw [wrap64 (by omega) (by omega)]
        exact oubliettelaw27_ShapeWhole.leaf2 ⟨n + 1, by omega, by simp, ((h6.tr h7).tr h8).tr h9⟩ (by simp only [iv]; omega)
    · simp only [↓eBinI, ↓eDiv, ↓eShift, ↓eBinS, ↓ePick, ↓eNot, ↓eNeg, ↓eConv, ↓eConvS, ↓eExt0, ↓eExt1, ↓eExt2, ↓eFA, ↓eIA, ↓eLenSl, ↓eCapSl, ↓eLenS, ↓eMin, ↓eMax, ↓eCondT, ↓eCondF, ↓gIf_tt, ↓gIf_ff, ↓gIf_tf, ↓gIf_ft, ↓gIf_u, ↓gIfW_u, ↓gIfW_tt, ↓gIfW_ff, ↓gIfW_tf, ↓gIfW_ft, binI, divI, shiftI, add_mk, Nat.zero_add, cond_true, cond_false, decide_true, decide_false, Bool.not_true, Bool.not_false, Bool.and_true, Bool.true_and, Bool.and_false, Bool.false_and, Int.toNat_natCast, Nat.mul_one, cn, ↓(b4.ext h5).ld3]
      refine shape_Parent_c fun w6 h6 => ?_
      have e : parentF a d l 0 = -1 := by unfold parentF; rw [if_pos (.inr rfl)]
      simp only [↓eBinI, ↓eDiv, ↓eShift, ↓eBinS, ↓ePick, ↓eNot, ↓eNeg, ↓eConv, ↓eConvS, ↓eExt0, ↓eExt1, ↓eExt2, ↓eFA, ↓eIA, ↓eLenSl, ↓eCapSl, ↓eLenS, ↓eMin, ↓eMax, ↓eCondT, ↓eCondF, ↓gIf_tt, ↓gIf_ff, ↓gIf_tf, ↓gIf_ft, ↓gIf_u, ↓gIfW_u, ↓gIfW_tt, ↓gIfW_ff, ↓gIfW_tf, ↓gIfW_ft, binI, divI, shiftI, add_mk, Nat.zero_add, cond_true, cond_false, decide_true, decide_false, Bool.not_true, Bool.not_false, Bool.and_true, Bool.true_and, Bool.and_false, Bool.false_and, Int.toNat_natCast, Nat.mul_one, e, beq_self_eq_true]
      refine law27_alive_c fun w7 h7 => ?_
      exact h w7 ((h1.tr h15).tr (h6.tr h7))
end Go.Proofs.Ytlolomdgchkibaa
