/-
  Paths, the slots below a page, the pages of slots: the document's and the program's; and what the law on them hands back.
-/
import Derived.Test.YtlolomdgchkibaaKj
set_option maxRecDepth 100000
set_option linter.unusedSimpArgs false
set_option linter.unusedVariables false
namespace Go.Proofs.Ytlolomdgchkibaa
open Go Go.G
variable {X : KX} {w : World} {K : KV} {a d l : Int} {D : Nat → Prop}
theorem parent_bd {p : Int} : -1 ≤ parentF a d l p ∧ parentF a d l p ≤ 85 := by
  unfold parentF
  split
  · omega
  · rename_i h
    have ht : thereF a d l p = true := by cases h1 : thereF a d l p <;> simp_all
    have hb := there_bd ht
    rw [Int.tdiv_eq_ediv_of_nonneg (by omega)]
    have := Int.ediv_le_self a (show 0 ≤ p - 1 by omega)
    have := Int.ediv_nonneg (show 0 ≤ p - 1 by omega) (show 0 ≤ a by omega)
    omega
theorem parent_lt {p : Int} (h : p > 0) : parentF a d l p < p := by
  unfold parentF
  split
  · omega
  · rename_i h1
    have ht : thereF a d l p = true := by cases h2 : thereF a d l p <;> simp_all
    have hb := there_bd ht
    rw [Int.tdiv_eq_ediv_of_nonneg (by omega)]
    have := Int.ediv_le_self a (show 0 ≤ p - 1 by omega)
    omega
theorem leafF_bd {s : Int} : -1 ≤ leafF a d l s ∧ leafF a d l s ≤ 85 := by
  unfold leafF
  have := @nodesF_bd a d l
  have h64 := @leaves_le a d l
  split <;> omega
theorem path_len (s : Int) : (pathF a d l s).length ≤ 4 := by
  unfold pathF
  split
  · simp
  · rw [List.length_reverse]; exact up_le
theorem rpL_step {n : Nat} {p : Int} {out : List Int} (h : p > 0) : rpL a d l (n + 1) p out = rpL a d l n (parentF a d l p) (parentF a d l p :: out) := by
  conv => lhs; unfold rpL
  rw [if_pos h]
theorem rpL_stop {n : Nat} {p : Int} {out : List Int} (h : ¬ p > 0) : rpL a d l n p out = out := by
  cases n with
  | zero => rfl
  | succ n => unfold rpL; rw [if_neg h]
theorem ref27_Path_c {s : Int} (h : ∀ v w', Ext w w' → Own (.int .i64) (fun _ => False) w.heap.size w' v (pathF a d l s) → (∀ b, Blk v b → b < w'.heap.size) → K v w') : GCalls Try.prog 48 [geo a d l, .int .i64 s] K X w := by
  apply oublietteref27_Path.calls; unfold oublietteref27_Path.b
  refine boxC fun g w1 _ h1 b => ?_
  simp only [↓eBinI, ↓eDiv, ↓eShift, ↓eBinS, ↓ePick, ↓eNot, ↓eNeg, ↓eConv, ↓eConvS, ↓eExt0, ↓eExt1, ↓eExt2, ↓eFA, ↓eIA, ↓eLenSl, ↓eCapSl, ↓eLenS, ↓eMin, ↓eMax, ↓eCondT, ↓eCondF, ↓gIf_tt, ↓gIf_ff, ↓gIf_tf, ↓gIf_ft, ↓gIf_u, ↓gIfW_u, ↓gIfW_tt, ↓gIfW_ff, ↓gIfW_tf, ↓gIfW_ft, binI, divI, shiftI, add_mk, Nat.zero_add, cond_true, cond_false, decide_true, decide_false, Bool.not_true, Bool.not_false, Bool.and_true, Bool.true_and, Bool.and_false, Bool.false_and, Int.toNat_natCast, Nat.mul_one, ↓b.ld3]
  refine ref27_Leaf_c fun w2 h2 => ?_
  replace b := b.ext h2
  have h12 := h1.tr h2
  rw [← path_law] at h
  unfold rpathF at h
  simp only [↓eBinI, ↓eDiv, ↓eShift, ↓eBinS, ↓ePick, ↓eNot, ↓eNeg, ↓eConv, ↓eConvS, ↓eExt0, ↓eExt1, ↓eExt2, ↓eFA, ↓eIA, ↓eLenSl, ↓eCapSl, ↓eLenS, ↓eMin, ↓eMax, ↓eCondT, ↓eCondF, ↓gIf_tt, ↓gIf_ff, ↓gIf_tf, ↓gIf_ft, ↓gIf_u, ↓gIfW_u, ↓gIfW_tt, ↓gIfW_ff, ↓gIfW_tf, ↓gIfW_ft, binI, divI, shiftI, add_mk, Nat.zero_add, cond_true, cond_false, decide_true, decide_false, Bool.not_true, Bool.not_false, Bool.and_true, Bool.true_and, Bool.and_false, Bool.false_and, Int.toNat_natCast, Nat.mul_one]
  by_cases c : leafF a d l s < 0
  · simp only [↓eBinI, ↓eDiv, ↓eShift, ↓eBinS, ↓ePick, ↓eNot, ↓eNeg, ↓eConv, ↓eConvS, ↓eExt0, ↓eExt1, ↓eExt2, ↓eFA, ↓eIA, ↓eLenSl, ↓eCapSl, ↓eLenS, ↓eMin, ↓eMax, ↓eCondT, ↓eCondF, ↓gIf_tt, ↓gIf_ff, ↓gIf_tf, ↓gIf_ft, ↓gIf_u, ↓gIfW_u, ↓gIfW_tt, ↓gIfW_ff, ↓gIfW_tf, ↓gIfW_ft, binI, divI, shiftI, add_mk, Nat.zero_add, cond_true, cond_false, decide_true, decide_false, Bool.not_true, Bool.not_false, Bool.and_true, Bool.true_and, Bool.and_false, Bool.false_and, Int.toNat_natCast, Nat.mul_one, c]
    rw [if_pos c] at h
    exact h _ w2 h12 Own.nil (by rintro b ⟨a', n', c', e, _⟩; cases e)
  · simp only [↓eBinI, ↓eDiv, ↓eShift, ↓eBinS, ↓ePick, ↓eNot, ↓eNeg, ↓eConv, ↓eConvS, ↓eExt0, ↓eExt1, ↓eExt2, ↓eFA, ↓eIA, ↓eLenSl, ↓eCapSl, ↓eLenS, ↓eMin, ↓eMax, ↓eCondT, ↓eCondF, ↓gIf_tt, ↓gIf_ff, ↓gIf_tf, ↓gIf_ft, ↓gIf_u, ↓gIfW_u, ↓gIfW_tt, ↓gIfW_ff, ↓gIfW_tf, ↓gIfW_ft, binI, divI, shiftI, add_mk, Nat.zero_add, cond_true, cond_false, decide_true, decide_false, Bool.not_true, Bool.not_false, Bool.and_true, Bool.true_and, Bool.and_false, Bool.false_and, Int.toNat_natCast, Nat.mul_one, c]
    rw [if_neg c] at h
    refine oublietteref27_Path.loop1 (fun x5 x6 w' => ∃ (k : Nat) (p : Int) (out : List Int), x6 = .int .i64 p ∧ Ext w w' ∧ Cs w' g [.int .i64 a, .int .i64 d, .int .i64 l] ∧ Own (.int .i64) (fun _ => False) w.heap.size w' x5 out ∧ (∀ b, Blk x5 b → b < w'.heap.size) ∧ (∀ b, Blk x5 b → b ≠ g) ∧
        out.length + p.toNat ≤ 86 ∧ -1 ≤ p ∧ p ≤ k ∧ rpL a d l k p out = rpL a d l 86 (leafF a d l s) []) (fun _ x6 _ => (iv x6 + 1).toNat)
      ⟨86, _, [], rfl, h12, b, Own.nil, (by rintro b ⟨a', n', c', e, _⟩; cases e), (by rintro b ⟨a', n', c', e, _⟩; cases e), by have := @leafF_bd a d l s; simp; omega, leafF_bd.1, by have := @leafF_bd a d l s; omega, rfl⟩ ?_
    rintro x5 x6 gg w3 ⟨k, p, out, rfl, h3, b3, o3, hb3, hg3, hk, hp0, hp1, hrp⟩
    unfold oublietteref27_Path.b1
    by_cases cp : p > 0
    · simp only [↓eBinI, ↓eDiv, ↓eShift, ↓eBinS, ↓ePick, ↓eNot, ↓eNeg, ↓eConv, ↓eConvS, ↓eExt0, ↓eExt1, ↓eExt2, ↓eFA, ↓eIA, ↓eLenSl, ↓eCapSl, ↓eLenS, ↓eMin, ↓eMax, ↓eCondT, ↓eCondF, ↓gIf_tt, ↓gIf_ff, ↓gIf_tf, ↓gIf_ft, ↓gIf_u, ↓gIfW_u, ↓gIfW_tt, ↓gIfW_ff, ↓gIfW_tf, ↓gIfW_ft, binI, divI, shiftI, add_mk, Nat.zero_add, cond_true, cond_false, decide_true, decide_false, Bool.not_true, Bool.not_false, Bool.and_true, Bool.true_and, Bool.and_false, Bool.false_and, Int.toNat_natCast, Nat.mul_one, cp, ↓b3.ld3]
      refine ref27_Parent_c fun w4 h4 => ?_
      have hpb := @parent_bd a d l p
      have hpl := @parent_lt a d l p cp
      have hone : G.one (.int .i64 (parentF a d l p)) = true := rfl
      refine bslice1 hone fun r w5 hr5 h5' b5 => ?_
      have hr1 : Own (.int .i64) (fun _ => False) w4.heap.size w5 (.slice (some ⟨r, 0, none⟩) 1 1) [parentF a d l p] := by
        obtain ⟨T, b5⟩ := b5
        exact .inr ⟨r, 1, _, T, (0, 0), [.int .i64 (parentF a d l p)], [], rfl, by omega, fun h => h, b5, fun o _ _ h => by simp at h, rfl, rfl, RdL.single (rdInt (by omega) (by omega))⟩
      have s3 := h3.size; have s4 := h4.size; have s5 := h5'.size
      have ro : Rd (.slice (.int .i64)) (fun b => b < w4.heap.size) w5 [x5] out := ((o3.ext h4).ext h5').rd2 (fun _ h => h.elim) (fun b hb _ _ => by have := hb3 b hb; omega) (by omega)
      refine hr1.cat (by omega) (fun h => h) rfl rfl ro (fun cs hh => hh.flat rfl) (by simp; omega) fun v6 w6 o6 hf6 hb6 => ?_
      have h36 : Ext w3 w6 := (h4.tr h5').tn hf6 (fun x hx => by omega)
      have s6 := hf6.size
      obtain ⟨k, rfl⟩ : ∃ k', k = k' + 1 := ⟨k - 1, by omega⟩
      have hbn : ∀ b, Blk v6 b → w4.heap.size ≤ b ∧ b < w6.heap.size := fun b hb => by
        rcases hb6 b hb with hb | hb
        · obtain ⟨a', n', c', e, rfl⟩ := hb
          simp at e
          rw [← e.1]
          have := b5.lt
          show w4.heap.size ≤ r ∧ r < w6.heap.size
          omega
        · omega
      have hgl := b3.lt
      refine oublietteref27_Path.leaf1 ⟨k, _, parentF a d l p :: out, rfl, h3.tr h36, b3.ext h36, o6.low (by omega), fun b hb => (hbn b hb).2, fun b hb e => by have := hbn b hb; omega, by simp; omega, hpb.1, by omega, ?_⟩ (by simp only [iv]; omega)
      rw [← hrp, rpL_step cp]
    · simp only [↓eBinI, ↓eDiv, ↓eShift, ↓eBinS, ↓ePick, ↓eNot, ↓eNeg, ↓eConv, ↓eConvS, ↓eExt0, ↓eExt1, ↓eExt2, ↓eFA, ↓eIA, ↓eLenSl, ↓eCapSl, ↓eLenS, ↓eMin, ↓eMax, ↓eCondT, ↓eCondF, ↓gIf_tt, ↓gIf_ff, ↓gIf_tf, ↓gIf_ft, ↓gIf_u, ↓gIfW_u, ↓gIfW_tt, ↓gIfW_ff, ↓gIfW_tf, ↓gIfW_ft, binI, divI, shiftI, add_mk, Nat.zero_add, cond_true, cond_false, decide_true, decide_false, Bool.not_true, Bool.not_false, Bool.and_true, Bool.true_and, Bool.and_false, Bool.false_and, Int.toNat_natCast, Nat.mul_one, cp]
      rw [← hrp, rpL_stop cp] at h
      exact h _ w3 h3 o3 hb3
theorem runder_len (p : Int) : (runderF a d l p).length ≤ 64 := by
  unfold runderF
  rw [List.length_map]
  refine Nat.le_trans (List.length_filter_le _ _) ?_
  have := @leaves_le a d l
  rw [List.length_range]; omega
theorem leaves_nn : 0 ≤ leavesF a d l := by
  unfold leavesF
  cases hr : rightF a d l with
  | false => simp
  | true => have h' := @leavesF_bd a d l; unfold leavesF at h'; simp only [hr, cond_true] at h' ⊢; omega
theorem ref27_Under_c {p : Int} (h : ∀ v w', Ext w w' → Own (.int .i64) (fun _ => False) w.heap.size w' v (underF a d l p) → (∀ b, Blk v b → b < w'.heap.size) → K v w') : GCalls Try.prog 51 [geo a d l, .int .i64 p] K X w := by
  apply oublietteref27_Under.calls; unfold oublietteref27_Under.b
  rw [← under_law] at h
  refine boxC fun g w1 _ h1 b => ?_
  obtain ⟨n, hn⟩ : ∃ n : Nat, leavesF a d l = n := ⟨(leavesF a d l).toNat, by have := @leaves_nn a d l; omega⟩
  have h64 := @leaves_le a d l
  let pr : Nat → Bool := fun s => leafF a d l s == p || (pathF a d l s).contains p
  have hru : runderF a d l p = ((List.range n).filter pr).map fun (s : Nat) => (s : Int) := by unfold runderF; rw [hn]; rfl
  rw [hru] at h
  refine oublietteref27_Under.loop1 (fun x5 x6 w' => ∃ (i : Nat), i ≤ n ∧ x6 = .int .i64 i ∧ Ext w w' ∧ Cs w' g [.int .i64 a, .int .i64 d, .int .i64 l] ∧ Own (.int .i64) (fun _ => False) w.heap.size w' x5 (((List.range i).filter pr).map fun (s : Nat) => (s : Int)) ∧ (∀ b, Blk x5 b → b < w'.heap.size) ∧ (∀ b, Blk x5 b → b ≠ g)) (fun _ x6 _ => n - (iv x6).toNat)
    ⟨0, by omega, rfl, h1, b, Own.nil, (by rintro b ⟨a', n', c', e, _⟩; cases e), (by rintro b ⟨a', n', c', e, _⟩; cases e)⟩ ?_
  rintro x5 x6 gg w2 ⟨i, hi, rfl, h2, b2, o2, hb2, hg2⟩
  unfold oublietteref27_Under.b1
  simp only [↓b2.ld3]
  refine ref21_Leaves_c fun w3 h3 => ?_
  rw [hn]
  have b3 := b2.ext h3
  by_cases ci : (i : Int) < (n : Int)
  · simp only [↓eBinI, ↓eDiv, ↓eShift, ↓eBinS, ↓ePick, ↓eNot, ↓eNeg, ↓eConv, ↓eConvS, ↓eExt0, ↓eExt1, ↓eExt2, ↓eFA, ↓eIA, ↓eLenSl, ↓eCapSl, ↓eLenS, ↓eMin, ↓eMax, ↓eCondT, ↓eCondF, ↓gIf_tt, ↓gIf_ff, ↓gIf_tf, ↓gIf_ft, ↓gIf_u, ↓gIfW_u, ↓gIfW_tt, ↓gIfW_ff, ↓gIfW_tf, ↓gIfW_ft, binI, divI, shiftI, add_mk, Nat.zero_add, cond_true, cond_false, decide_true, decide_false, Bool.not_true, Bool.not_false, Bool.and_true, Bool.true_and, Bool.and_false, Bool.false_and, Int.toNat_natCast, Nat.mul_one, ci, ↓b3.ld3]
    refine ref27_Leaf_c fun w4 h4 => ?_
    have b4 := b3.ext h4
    have hsn : ((List.range (i + 1)).filter pr).map (fun (s : Nat) => (s : Int)) = if pr i then ((List.range i).filter pr).map (fun (s : Nat) => (s : Int)) ++ [(i : Int)] else ((List.range i).filter pr).map (fun (s : Nat) => (s : Int)) := by
      rw [List.range_succ, List.filter_append, List.map_append]
      by_cases hp : pr i = true
      · rw [if_pos hp, List.filter_cons_of_pos hp]; rfl
      · rw [if_neg hp, List.filter_cons_of_neg hp]; simp
    have hlen : (((List.range i).filter pr).map fun (s : Nat) => (s : Int)).length ≤ 64 := by
      rw [List.length_map]; refine Nat.le_trans (List.length_filter_le _ _) ?_; rw [List.length_range]; omega
    have h24 := h3.tr h4
    have s2 := h2.size; have s24 := h24.size; have hgl := b2.lt
    generalize hN : oublietteref27_Under.N1 _ _ _ _ _ _ _ = N
    have fin : ∀ v G w', Ext w w' → Cs w' g [.int .i64 a, .int .i64 d, .int .i64 l] → Own (.int .i64) (fun _ => False) w.heap.size w' v (((List.range (i + 1)).filter pr).map fun (s : Nat) => (s : Int)) → (∀ b, Blk v b → b < w'.heap.size) → (∀ b, Blk v b → b ≠ g) →
        oublietteref27_Under.j1 (.int .i64 p) (.pointer (some ⟨g, 0, none⟩)) v (.int .i64 (i : Int)) G N K X w' := fun v G w' g1 g2 g3 g4 g5 => by
      unfold oublietteref27_Under.j1
      simp only [↓eBinI, ↓eDiv, ↓eShift, ↓eBinS, ↓ePick, ↓eNot, ↓eNeg, ↓eConv, ↓eConvS, ↓eExt0, ↓eExt1, ↓eExt2, ↓eFA, ↓eIA, ↓eLenSl, ↓eCapSl, ↓eLenS, ↓eMin, ↓eMax, ↓eCondT, ↓eCondF, ↓gIf_tt, ↓gIf_ff, ↓gIf_tf, ↓gIf_ft, ↓gIf_u, ↓gIfW_u, ↓gIfW_tt, ↓gIfW_ff, ↓gIfW_tf, ↓gIfW_ft, binI, divI, shiftI, add_mk, Nat.zero_add, cond_true, cond_false, decide_true, decide_false, Bool.not_true, Bool.not_false, Bool.and_true, Bool.true_and, Bool.and_false, Bool.false_and, Int.toNat_natCast, Nat.mul_one]
      rw [wrap64 (by omega) (by omega), ← hN]
      exact oublietteref27_Under.leaf1 ⟨i + 1, by omega, by simp, g1, g2, g3, g4, g5⟩ (by simp only [iv]; omega)
    have push : ∀ w5 (G : Value → Value → Nat → Value), Ext w2 w5 → pr i = true → pBSlice 3 1 (rowOf [.int .i64 0] 1) [(0, 1, .int .i64 (i : Int))] w5 fun t27 w => pApp 3 1 8 [.int .i64 0] x5 t27 w fun t28 w =>
        oublietteref27_Under.j1 (.int .i64 p) (.pointer (some ⟨g, 0, none⟩)) t28 (.int .i64 (i : Int)) (G t27 t28) N K X w := fun w5 G h5 hp => by
      refine bslice1 rfl fun r w6 hr6 h6 b6 => ?_
      have s5 := h5.size; have s6 := h6.size
      refine ((o2.ext h5).ext h6).push1 b6 (rdInt (by omega) (by omega)) (by omega) (fun h => h) rfl (by omega) fun v7 w7 o7 hf7 hb7 => ?_
      have s7 := hf7.size
      have h26 := h5.tr h6
      refine fin _ _ w7 ((h2.tr h26).tn hf7 (fun x hx => hx.2)) ((b2.ext h26).fr hf7 (fun hx => hg2 _ hx.1 rfl)) ?_ (fun b hb => ?_) (fun b hb e => ?_)
      · rw [hsn, if_pos hp]; exact o7
      · rcases hb7 b hb with hb | hb
        · have := hb2 b hb; omega
        · omega
      · rcases hb7 b hb with hb | hb
        · exact hg2 b hb e
        · omega
    have skip : ∀ w5 (G : Nat → Value), Ext w2 w5 → pr i = false → oublietteref27_Under.j1 (.int .i64 p) (.pointer (some ⟨g, 0, none⟩)) x5 (.int .i64 (i : Int)) G N K X w5 := fun w5 G h5 hp => by
      have s5 := h5.size
      refine fin _ _ w5 (h2.tr h5) (b2.ext h5) ?_ (fun b hb => by have := hb2 b hb; omega) hg2
      rw [hsn, if_neg (by rw [hp]; simp)]; exact o2.ext h5
    by_cases ce : leafF a d l i = p
    · have e : (leafF a d l i == p) = true := by simpa using ce
      simp only [↓eBinI, ↓eDiv, ↓eShift, ↓eBinS, ↓ePick, ↓eNot, ↓eNeg, ↓eConv, ↓eConvS, ↓eExt0, ↓eExt1, ↓eExt2, ↓eFA, ↓eIA, ↓eLenSl, ↓eCapSl, ↓eLenS, ↓eMin, ↓eMax, ↓eCondT, ↓eCondF, ↓gIf_tt, ↓gIf_ff, ↓gIf_tf, ↓gIf_ft, ↓gIf_u, ↓gIfW_u, ↓gIfW_tt, ↓gIfW_ff, ↓gIfW_tf, ↓gIfW_ft, binI, divI, shiftI, add_mk, Nat.zero_add, cond_true, cond_false, decide_true, decide_false, Bool.not_true, Bool.not_false, Bool.and_true, Bool.true_and, Bool.and_false, Bool.false_and, Int.toNat_natCast, Nat.mul_one, e]
      exact push w4 (fun t27 t28 => _) h24 (by show (leafF a d l i == p || (pathF a d l i).contains p) = true; rw [e]; rfl)
    · have e : (leafF a d l i == p) = false := by simpa using ce
      simp only [↓eBinI, ↓eDiv, ↓eShift, ↓eBinS, ↓ePick, ↓eNot, ↓eNeg, ↓eConv, ↓eConvS, ↓eExt0, ↓eExt1, ↓eExt2, ↓eFA, ↓eIA, ↓eLenSl, ↓eCapSl, ↓eLenS, ↓eMin, ↓eMax, ↓eCondT, ↓eCondF, ↓gIf_tt, ↓gIf_ff, ↓gIf_tf, ↓gIf_ft, ↓gIf_u, ↓gIfW_u, ↓gIfW_tt, ↓gIfW_ff, ↓gIfW_tf, ↓gIfW_ft, binI, divI, shiftI, add_mk, Nat.zero_add, cond_true, cond_false, decide_true, decide_false, Bool.not_true, Bool.not_false, Bool.and_true, Bool.true_and, Bool.and_false, Bool.false_and, Int.toNat_natCast, Nat.mul_one, e, ↓b4.ld3]
      refine ref27_Path_c fun v5 w5 h5 o5 hb5 => ?_
      have pl := path_len (a := a) (d := d) (l := l) i
      refine ref01_Has_c (o5.rd2 (D' := fun _ => True) (fun _ _ => trivial) (fun _ _ _ _ => trivial) (by omega)) fun w6 h6 => ?_
      have h26 := (h24.tr h5).tr h6
      by_cases cm : p ∈ pathF a d l i
      · simp only [↓eBinI, ↓eDiv, ↓eShift, ↓eBinS, ↓ePick, ↓eNot, ↓eNeg, ↓eConv, ↓eConvS, ↓eExt0, ↓eExt1, ↓eExt2, ↓eFA, ↓eIA, ↓eLenSl, ↓eCapSl, ↓eLenS, ↓eMin, ↓eMax, ↓eCondT, ↓eCondF, ↓gIf_tt, ↓gIf_ff, ↓gIf_tf, ↓gIf_ft, ↓gIf_u, ↓gIfW_u, ↓gIfW_tt, ↓gIfW_ff, ↓gIfW_tf, ↓gIfW_ft, binI, divI, shiftI, add_mk, Nat.zero_add, cond_true, cond_false, decide_true, decide_false, Bool.not_true, Bool.not_false, Bool.and_true, Bool.true_and, Bool.and_false, Bool.false_and, Int.toNat_natCast, Nat.mul_one, decide_eq_true cm]
        exact push w6 (fun t27 t28 => _) h26 (by show (leafF a d l i == p || (pathF a d l i).contains p) = true; rw [e, List.contains_iff_mem.2 cm]; rfl)
      · simp only [↓eBinI, ↓eDiv, ↓eShift, ↓eBinS, ↓ePick, ↓eNot, ↓eNeg, ↓eConv, ↓eConvS, ↓eExt0, ↓eExt1, ↓eExt2, ↓eFA, ↓eIA, ↓eLenSl, ↓eCapSl, ↓eLenS, ↓eMin, ↓eMax, ↓eCondT, ↓eCondF, ↓gIf_tt, ↓gIf_ff, ↓gIf_tf, ↓gIf_ft, ↓gIf_u, ↓gIfW_u, ↓gIfW_tt, ↓gIfW_ff, ↓gIfW_tf, ↓gIfW_ft, binI, divI, shiftI, add_mk, Nat.zero_add, cond_true, cond_false, decide_true, decide_false, Bool.not_true, Bool.not_false, Bool.and_true, Bool.true_and, Bool.and_false, Bool.false_and, Int.toNat_natCast, Nat.mul_one, decide_eq_false cm]
        refine skip w6 _ h26 ?_
        show (leafF a d l i == p || (pathF a d l i).contains p) = false
        rw [e]
        have : (pathF a d l i).contains p = false := by rw [← Bool.not_eq_true, List.contains_iff_mem]; exact cm
        rw [this]; rfl
  · simp only [↓eBinI, ↓eDiv, ↓eShift, ↓eBinS, ↓ePick, ↓eNot, ↓eNeg, ↓eConv, ↓eConvS, ↓eExt0, ↓eExt1, ↓eExt2, ↓eFA, ↓eIA, ↓eLenSl, ↓eCapSl, ↓eLenS, ↓eMin, ↓eMax, ↓eCondT, ↓eCondF, ↓gIf_tt, ↓gIf_ff, ↓gIf_tf, ↓gIf_ft, ↓gIf_u, ↓gIfW_u, ↓gIfW_tt, ↓gIfW_ff, ↓gIfW_tf, ↓gIfW_ft, binI, divI, shiftI, add_mk, Nat.zero_add, cond_true, cond_false, decide_true, decide_false, Bool.not_true, Bool.not_false, Bool.and_true, Bool.true_and, Bool.and_false, Bool.false_and, Int.toNat_natCast, Nat.mul_one, ci]
    have : i = n := by omega
    subst this
    exact h _ w3 (h2.tr h3) (o2.ext h3) (fun b hb => by have := hb2 b hb; have := h3.size; omega)
end Go.Proofs.Ytlolomdgchkibaa
