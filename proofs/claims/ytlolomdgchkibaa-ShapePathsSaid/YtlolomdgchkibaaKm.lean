/-
  The document's pages of slots; and what the law on paths hands back.
-/
import Derived.Test.YtlolomdgchkibaaKl
set_option maxRecDepth 100000
set_option linter.unusedSimpArgs false
set_option linter.unusedVariables false
namespace Go.Proofs.Ytlolomdgchkibaa
open Go Go.G
variable {X : KX} {w : World} {K : KV} {a d l : Int} {D : Nat → Prop}
theorem pages_nn : 0 ≤ pagesF a d l := by
  unfold pagesF
  have h1 := @leaves_nn a d l
  have h2 := @nodesF_bd a d l
  omega
theorem ref27_Touched_c {y : Value} {sl : List Int} (hy : Rd (.slice (.int .i64)) D w [y] sl) (hl : sl.length ≤ 100)
    (h : ∀ v w', Ext w w' → Own (.int .i64) (fun _ => False) w.heap.size w' v (touchF a d l sl) → K v w') : GCalls Try.prog 50 [geo a d l, y] K X w := by
  apply oublietteref27_Touched.calls; unfold oublietteref27_Touched.b
  refine boxC fun g w1 _ h1 b => ?_
  obtain ⟨n, hn⟩ : ∃ n : Nat, pagesF a d l = n := ⟨(pagesF a d l).toNat, by have := @pages_nn a d l; omega⟩
  have h85 := @pages_le a d l
  obtain ⟨pr, hpr⟩ : ∃ pr : Nat → Bool, pr = fun (p : Nat) => (underF a d l p).any fun u => sl.contains u := ⟨_, rfl⟩
  have htf : touchF a d l sl = ((List.range n).filter pr).map fun (p : Nat) => (p : Int) := by unfold touchF; rw [hn, hpr]; rfl
  rw [htf] at h
  refine oublietteref27_Touched.loop1 (fun x5 x6 w' => ∃ (i : Nat), i ≤ n ∧ x6 = .int .i64 i ∧ Ext w w' ∧ Cs w' g [.int .i64 a, .int .i64 d, .int .i64 l] ∧ Own (.int .i64) (fun _ => False) w.heap.size w' x5 (((List.range i).filter pr).map fun (s : Nat) => (s : Int)) ∧ (∀ b, Blk x5 b → b < w'.heap.size) ∧ (∀ b, Blk x5 b → b ≠ g)) (fun _ x6 _ => n - (iv x6).toNat)
    ⟨0, by omega, rfl, h1, b, Own.nil, (by rintro b ⟨a', n', c', e, _⟩; cases e), (by rintro b ⟨a', n', c', e, _⟩; cases e)⟩ ?_
  rintro x5 x6 gg w2 ⟨i, hi, rfl, h2, b2, o2, hb2, hg2⟩
  unfold oublietteref27_Touched.b1
  simp only [↓b2.ld3]
  refine ref21_Pages_c fun w3 h3 => ?_
  rw [hn]
  have b3 := b2.ext h3
  by_cases ci : (i : Int) < (n : Int)
  · simp only [↓eBinI, ↓eDiv, ↓eShift, ↓eBinS, ↓ePick, ↓eNot, ↓eNeg, ↓eConv, ↓eConvS, ↓eExt0, ↓eExt1, ↓eExt2, ↓eFA, ↓eIA, ↓eLenSl, ↓eCapSl, ↓eLenS, ↓eMin, ↓eMax, ↓eCondT, ↓eCondF, ↓gIf_tt, ↓gIf_ff, ↓gIf_tf, ↓gIf_ft, ↓gIf_u, ↓gIfW_u, ↓gIfW_tt, ↓gIfW_ff, ↓gIfW_tf, ↓gIfW_ft, binI, divI, shiftI, add_mk, Nat.zero_add, cond_true, cond_false, decide_true, decide_false, Bool.not_true, Bool.not_false, Bool.and_true, Bool.true_and, Bool.and_false, Bool.false_and, Int.toNat_natCast, Nat.mul_one, ci, ↓b3.ld3]
    refine ref27_Under_c fun v4 w4 h4 o4 hb4 => ?_
    have b4 := b3.ext h4
    have hsn : ((List.range (i + 1)).filter pr).map (fun (s : Nat) => (s : Int)) = if pr i then ((List.range i).filter pr).map (fun (s : Nat) => (s : Int)) ++ [(i : Int)] else ((List.range i).filter pr).map (fun (s : Nat) => (s : Int)) := by
      rw [List.range_succ, List.filter_append, List.map_append]
      by_cases hp : pr i = true
      · rw [if_pos hp, List.filter_cons_of_pos hp]; rfl
      · rw [if_neg hp, List.filter_cons_of_neg hp]; simp
    have hlen : (((List.range i).filter pr).map fun (s : Nat) => (s : Int)).length ≤ 85 := by
      rw [List.length_map]; refine Nat.le_trans (List.length_filter_le _ _) ?_; rw [List.length_range]; omega
    have h24 := h3.tr h4
    have s2 := h2.size; have s24 := h24.size; have hgl := b2.lt
    generalize hN : oublietteref27_Touched.N1 _ _ _ _ _ _ _ = N
    have fin : ∀ v G w', Ext w w' → Cs w' g [.int .i64 a, .int .i64 d, .int .i64 l] → Own (.int .i64) (fun _ => False) w.heap.size w' v (((List.range (i + 1)).filter pr).map fun (s : Nat) => (s : Int)) → (∀ b, Blk v b → b < w'.heap.size) → (∀ b, Blk v b → b ≠ g) →
        oublietteref27_Touched.j1 y (.pointer (some ⟨g, 0, none⟩)) v (.int .i64 (i : Int)) G N K X w' := fun v G w' g1 g2 g3 g4 g5 => by
      unfold oublietteref27_Touched.j1
      simp only [↓eBinI, ↓eDiv, ↓eShift, ↓eBinS, ↓ePick, ↓eNot, ↓eNeg, ↓eConv, ↓eConvS, ↓eExt0, ↓eExt1, ↓eExt2, ↓eFA, ↓eIA, ↓eLenSl, ↓eCapSl, ↓eLenS, ↓eMin, ↓eMax, ↓eCondT, ↓eCondF, ↓gIf_tt, ↓gIf_ff, ↓gIf_tf, ↓gIf_ft, ↓gIf_u, ↓gIfW_u, ↓gIfW_tt, ↓gIfW_ff, ↓gIfW_tf, ↓gIfW_ft, binI, divI, shiftI, add_mk, Nat.zero_add, cond_true, cond_false, decide_true, decide_false, Bool.not_true, Bool.not_false, Bool.and_true, Bool.true_and, Bool.and_false, Bool.false_and, Int.toNat_natCast, Nat.mul_one]
      rw [wrap64 (by omega) (by omega), ← hN]
      exact oublietteref27_Touched.leaf1 ⟨i + 1, by omega, by simp, g1, g2, g3, g4, g5⟩ (by simp only [iv]; omega)
    obtain ⟨us, hus⟩ : ∃ us, underF a d l (i : Int) = us := ⟨_, rfl⟩
    have hpi : pr i = us.any fun u => sl.contains u := by rw [hpr, ← hus]
    rw [hus] at o4
    have usl : us.length ≤ 86 := by rw [← hus]; exact under_le
    have ru : Rd (.slice (.int .i64)) (fun _ => True) w4 [v4] us := o4.rd2 (fun _ h => h.elim) (fun _ _ _ _ => trivial) (by omega)
    obtain ⟨au, cu, rfl, hcu, _⟩ := ru.form
    refine oublietteref27_Touched.loop2 (fun x7 x9 w' => ∃ (j : Nat), j ≤ us.length ∧ x9 = .int .i64 j ∧ x7 = .bool ((us.take j).any fun u => sl.contains u) ∧ Ext w4 w') (fun _ x9 _ => us.length - (iv x9).toNat)
      ⟨0, by omega, rfl, by simp, Fr.refl _ _⟩ ?_
    rintro x7 x9 gg2 w5 ⟨j, hj, rfl, rfl, h5⟩
    unfold oublietteref27_Touched.b2
    simp only [↓eBinI, ↓eDiv, ↓eShift, ↓eBinS, ↓ePick, ↓eNot, ↓eNeg, ↓eConv, ↓eConvS, ↓eExt0, ↓eExt1, ↓eExt2, ↓eFA, ↓eIA, ↓eLenSl, ↓eCapSl, ↓eLenS, ↓eMin, ↓eMax, ↓eCondT, ↓eCondF, ↓gIf_tt, ↓gIf_ff, ↓gIf_tf, ↓gIf_ft, ↓gIf_u, ↓gIfW_u, ↓gIfW_tt, ↓gIfW_ff, ↓gIfW_tf, ↓gIfW_ft, binI, divI, shiftI, add_mk, Nat.zero_add, cond_true, cond_false, decide_true, decide_false, Bool.not_true, Bool.not_false, Bool.and_true, Bool.true_and, Bool.and_false, Bool.false_and, Int.toNat_natCast, Nat.mul_one]
    by_cases cj : (j : Int) < (us.length : Int)
    · have hj' : j < us.length := by omega
      obtain ⟨bq, kq, u2, e2, _, _, q2, r2⟩ := (ru.ext h5).idx rfl (i := j) hj'
      simp only [Value.slice.injEq] at e2
      obtain ⟨rfl, -, rfl⟩ := e2
      have v2 := r2.1
      simp only [List.cons.injEq, and_true] at v2
      subst v2
      have hany : (us.take (j + 1)).any (fun u => sl.contains u) = ((us.take j).any (fun u => sl.contains u) || sl.contains us[j]) := by
        rw [List.take_succ_eq_append_getElem hj', List.any_append]; simp
      cases ha : (us.take j).any fun u => sl.contains u with
      | true =>
        simp only [↓eBinI, ↓eDiv, ↓eShift, ↓eBinS, ↓ePick, ↓eNot, ↓eNeg, ↓eConv, ↓eConvS, ↓eExt0, ↓eExt1, ↓eExt2, ↓eFA, ↓eIA, ↓eLenSl, ↓eCapSl, ↓eLenS, ↓eMin, ↓eMax, ↓eCondT, ↓eCondF, ↓gIf_tt, ↓gIf_ff, ↓gIf_tf, ↓gIf_ft, ↓gIf_u, ↓gIfW_u, ↓gIfW_tt, ↓gIfW_ff, ↓gIfW_tf, ↓gIfW_ft, binI, divI, shiftI, add_mk, Nat.zero_add, cond_true, cond_false, decide_true, decide_false, Bool.not_true, Bool.not_false, Bool.and_true, Bool.true_and, Bool.and_false, Bool.false_and, Int.toNat_natCast, Nat.mul_one, cj]
        rw [wrap64 (by omega) (by omega)]
        exact oublietteref27_Touched.leaf2 ⟨j + 1, by omega, by simp, by rw [hany, ha]; rfl, h5⟩ (by simp only [iv]; omega)
      | false =>
        simp only [↓eBinI, ↓eDiv, ↓eShift, ↓eBinS, ↓ePick, ↓eNot, ↓eNeg, ↓eConv, ↓eConvS, ↓eExt0, ↓eExt1, ↓eExt2, ↓eFA, ↓eIA, ↓eLenSl, ↓eCapSl, ↓eLenS, ↓eMin, ↓eMax, ↓eCondT, ↓eCondF, ↓gIf_tt, ↓gIf_ff, ↓gIf_tf, ↓gIf_ft, ↓gIf_u, ↓gIfW_u, ↓gIfW_tt, ↓gIfW_ff, ↓gIfW_tf, ↓gIfW_ft, binI, divI, shiftI, add_mk, Nat.zero_add, cond_true, cond_false, decide_true, decide_false, Bool.not_true, Bool.not_false, Bool.and_true, Bool.true_and, Bool.and_false, Bool.false_and, Int.toNat_natCast, Nat.mul_one, cj, ↓eLdW, q2, Option.some.injEq, exists_eq_left']
        refine ⟨by omega, by first | trivial | omega, ?_⟩
        refine ref01_Has_c (((hy.ext h2).ext h24).ext h5) fun w6 h6 => ?_
        rw [wrap64 (by omega) (by omega)]
        refine oublietteref27_Touched.leaf2 ⟨j + 1, by omega, by simp, ?_, h5.tr h6⟩ (by simp only [iv]; omega)
        rw [hany, ha, Bool.false_or]
        congr 1
        rw [Bool.eq_iff_iff, decide_eq_true_iff, List.contains_iff_mem]
    · simp only [↓eBinI, ↓eDiv, ↓eShift, ↓eBinS, ↓ePick, ↓eNot, ↓eNeg, ↓eConv, ↓eConvS, ↓eExt0, ↓eExt1, ↓eExt2, ↓eFA, ↓eIA, ↓eLenSl, ↓eCapSl, ↓eLenS, ↓eMin, ↓eMax, ↓eCondT, ↓eCondF, ↓gIf_tt, ↓gIf_ff, ↓gIf_tf, ↓gIf_ft, ↓gIf_u, ↓gIfW_u, ↓gIfW_tt, ↓gIfW_ff, ↓gIfW_tf, ↓gIfW_ft, binI, divI, shiftI, add_mk, Nat.zero_add, cond_true, cond_false, decide_true, decide_false, Bool.not_true, Bool.not_false, Bool.and_true, Bool.true_and, Bool.and_false, Bool.false_and, Int.toNat_natCast, Nat.mul_one, cj]
      have : j = us.length := by omega
      subst this
      rw [List.take_length, ← hpi]
      have h25 := h24.tr h5
      have s25 := h25.size
      cases hp : pr i with
      | true =>
        simp only [↓eBinI, ↓eDiv, ↓eShift, ↓eBinS, ↓ePick, ↓eNot, ↓eNeg, ↓eConv, ↓eConvS, ↓eExt0, ↓eExt1, ↓eExt2, ↓eFA, ↓eIA, ↓eLenSl, ↓eCapSl, ↓eLenS, ↓eMin, ↓eMax, ↓eCondT, ↓eCondF, ↓gIf_tt, ↓gIf_ff, ↓gIf_tf, ↓gIf_ft, ↓gIf_u, ↓gIfW_u, ↓gIfW_tt, ↓gIfW_ff, ↓gIfW_tf, ↓gIfW_ft, binI, divI, shiftI, add_mk, Nat.zero_add, cond_true, cond_false, decide_true, decide_false, Bool.not_true, Bool.not_false, Bool.and_true, Bool.true_and, Bool.and_false, Bool.false_and, Int.toNat_natCast, Nat.mul_one]
        refine bslice1 rfl fun r w6 hr6 h6 b6 => ?_
        have s6 := h6.size
        refine ((o2.ext h25).ext h6).push1 b6 (rdInt (by omega) (by omega)) (by omega) (fun h => h) rfl (by omega) fun v7 w7 o7 hf7 hb7 => ?_
        have s7 := hf7.size
        have h26 := h25.tr h6
        refine fin _ _ w7 ((h2.tr h26).tn hf7 (fun x hx => hx.2)) ((b2.ext h26).fr hf7 (fun hx => hg2 _ hx.1 rfl)) ?_ (fun b hb => ?_) (fun b hb e => ?_)
        · rw [hsn, if_pos hp]; exact o7
        · rcases hb7 b hb with hb | hb
          · have := hb2 b hb; omega
          · omega
        · rcases hb7 b hb with hb | hb
          · exact hg2 b hb e
          · omega
      | false =>
        simp only [↓eBinI, ↓eDiv, ↓eShift, ↓eBinS, ↓ePick, ↓eNot, ↓eNeg, ↓eConv, ↓eConvS, ↓eExt0, ↓eExt1, ↓eExt2, ↓eFA, ↓eIA, ↓eLenSl, ↓eCapSl, ↓eLenS, ↓eMin, ↓eMax, ↓eCondT, ↓eCondF, ↓gIf_tt, ↓gIf_ff, ↓gIf_tf, ↓gIf_ft, ↓gIf_u, ↓gIfW_u, ↓gIfW_tt, ↓gIfW_ff, ↓gIfW_tf, ↓gIfW_ft, binI, divI, shiftI, add_mk, Nat.zero_add, cond_true, cond_false, decide_true, decide_false, Bool.not_true, Bool.not_false, Bool.and_true, Bool.true_and, Bool.and_false, Bool.false_and, Int.toNat_natCast, Nat.mul_one]
        refine fin _ _ w5 (h2.tr h25) (b2.ext h25) ?_ (fun b hb => by have := hb2 b hb; omega) hg2
        rw [hsn, if_neg (by rw [hp]; simp)]; exact o2.ext h25
  · simp only [↓eBinI, ↓eDiv, ↓eShift, ↓eBinS, ↓ePick, ↓eNot, ↓eNeg, ↓eConv, ↓eConvS, ↓eExt0, ↓eExt1, ↓eExt2, ↓eFA, ↓eIA, ↓eLenSl, ↓eCapSl, ↓eLenS, ↓eMin, ↓eMax, ↓eCondT, ↓eCondF, ↓gIf_tt, ↓gIf_ff, ↓gIf_tf, ↓gIf_ft, ↓gIf_u, ↓gIfW_u, ↓gIfW_tt, ↓gIfW_ff, ↓gIfW_tf, ↓gIfW_ft, binI, divI, shiftI, add_mk, Nat.zero_add, cond_true, cond_false, decide_true, decide_false, Bool.not_true, Bool.not_false, Bool.and_true, Bool.true_and, Bool.and_false, Bool.false_and, Int.toNat_natCast, Nat.mul_one, ci]
    have : i = n := by omega
    subst this
    exact h _ w3 (h2.tr h3) (o2.ext h3)
theorem touch_len (sl : List Int) : (touchF a d l sl).length ≤ 85 := by
  unfold touchF
  rw [List.length_map]
  refine Nat.le_trans (List.length_filter_le _ _) ?_
  have := @pages_le a d l
  rw [List.length_range]; omega
theorem law27_Paths_c {y : Value} {sl : List Int} {s p : Int} (hy : Rd (.slice (.int .i64)) D w [y] sl) (hD : ∀ b, D b → b < w.heap.size) (h : ∀ w', Ext w w' → K (.bool true) w') : GCalls Try.prog 9 [geo a d l, .int .i64 s, .int .i64 p, y] K X w := by
  obtain ⟨a1, c1, rfl, hc1, hl1⟩ := hy.form
  apply oubliettelaw27_ShapePaths.calls; unfold oubliettelaw27_ShapePaths.b
  refine boxC fun g w1 _ h1 b => ?_
  have away : ∀ w', Ext w w' → GCalls Try.prog 30 [] (fun v w => K v w) X w' := fun w' h' => law27_alive_c fun w2 h2 => h w2 (h'.tr h2)
  by_cases c : (sl.length : Int) > 20
  · simp only [↓eBinI, ↓eDiv, ↓eShift, ↓eBinS, ↓ePick, ↓eNot, ↓eNeg, ↓eConv, ↓eConvS, ↓eExt0, ↓eExt1, ↓eExt2, ↓eFA, ↓eIA, ↓eLenSl, ↓eCapSl, ↓eLenS, ↓eMin, ↓eMax, ↓eCondT, ↓eCondF, ↓gIf_tt, ↓gIf_ff, ↓gIf_tf, ↓gIf_ft, ↓gIf_u, ↓gIfW_u, ↓gIfW_tt, ↓gIfW_ff, ↓gIfW_tf, ↓gIfW_ft, binI, divI, shiftI, add_mk, Nat.zero_add, cond_true, cond_false, decide_true, decide_false, Bool.not_true, Bool.not_false, Bool.and_true, Bool.true_and, Bool.and_false, Bool.false_and, Int.toNat_natCast, Nat.mul_one, c]
    exact away w1 h1
  simp only [↓eBinI, ↓eDiv, ↓eShift, ↓eBinS, ↓ePick, ↓eNot, ↓eNeg, ↓eConv, ↓eConvS, ↓eExt0, ↓eExt1, ↓eExt2, ↓eFA, ↓eIA, ↓eLenSl, ↓eCapSl, ↓eLenS, ↓eMin, ↓eMax, ↓eCondT, ↓eCondF, ↓gIf_tt, ↓gIf_ff, ↓gIf_tf, ↓gIf_ft, ↓gIf_u, ↓gIfW_u, ↓gIfW_tt, ↓gIfW_ff, ↓gIfW_tf, ↓gIfW_ft, binI, divI, shiftI, add_mk, Nat.zero_add, cond_true, cond_false, decide_true, decide_false, Bool.not_true, Bool.not_false, Bool.and_true, Bool.true_and, Bool.and_false, Bool.false_and, Int.toNat_natCast, Nat.mul_one, c]
  refine draw_ fun w2 h2 => ?_
  have b2 := b.ext h2
  have g2 := h1.tr h2
  have lt : ∀ {w'}, Ext w w' → ∀ b, D b → b < w'.heap.size := fun h' b hb => by have := hD b hb; have := h'.size; omega
  simp only [↓b2.le3]
  refine shape_Path_c fun v3 w3 h3 o3 => ⟨h3, ?_⟩
  refine ref27_Path_c fun v4 w4 h4 o4 _ => ⟨h3.tr h4, ?_⟩
  have pl := path_len (a := a) (d := d) (l := l) s
  refine Ints_c (D := fun _ => True) (D' := fun _ => True) ((o3.ext h4).rd2 (fun _ _ => trivial) (fun _ _ _ _ => trivial) (by omega)) (o4.rd2 (fun _ _ => trivial) (fun _ _ _ _ => trivial) (by omega)) fun w5 h5 => ⟨(h3.tr h4).tr h5, ?_⟩
  have g5 := ((h3.tr h4).tr h5)
  rw [decide_eq_true rfl]
  simp only [↓eBinI, ↓eDiv, ↓eShift, ↓eBinS, ↓ePick, ↓eNot, ↓eNeg, ↓eConv, ↓eConvS, ↓eExt0, ↓eExt1, ↓eExt2, ↓eFA, ↓eIA, ↓eLenSl, ↓eCapSl, ↓eLenS, ↓eMin, ↓eMax, ↓eCondT, ↓eCondF, ↓gIf_tt, ↓gIf_ff, ↓gIf_tf, ↓gIf_ft, ↓gIf_u, ↓gIfW_u, ↓gIfW_tt, ↓gIfW_ff, ↓gIfW_tf, ↓gIfW_ft, binI, divI, shiftI, add_mk, Nat.zero_add, cond_true, cond_false, decide_true, decide_false, Bool.not_true, Bool.not_false, Bool.and_true, Bool.true_and, Bool.and_false, Bool.false_and, Int.toNat_natCast, Nat.mul_one, ↓b2.le3]
  refine shape_Touched_c (hy.ext (g2.tr g5)) (lt (g2.tr g5)) (by omega) fun v6 w6 h6 o6 => ⟨g5.tr h6, ?_⟩
  have g6 := g5.tr h6
  refine ref27_Touched_c (hy.ext (g2.tr g6)) (by omega) fun v7 w7 h7 o7 => ⟨g6.tr h7, ?_⟩
  have g7 := g6.tr h7
  have tl := touch_len (a := a) (d := d) (l := l) sl
  refine Ints_c (D := fun _ => True) (D' := fun _ => True) ((o6.ext h7).rd2 (fun _ _ => trivial) (fun _ _ _ _ => trivial) (by omega)) (o7.rd2 (fun _ _ => trivial) (fun _ _ _ _ => trivial) (by omega)) fun w8 h8 => ⟨g7.tr h8, ?_⟩
  have g8 := g7.tr h8
  rw [decide_eq_true rfl]
  simp only [↓eBinI, ↓eDiv, ↓eShift, ↓eBinS, ↓ePick, ↓eNot, ↓eNeg, ↓eConv, ↓eConvS, ↓eExt0, ↓eExt1, ↓eExt2, ↓eFA, ↓eIA, ↓eLenSl, ↓eCapSl, ↓eLenS, ↓eMin, ↓eMax, ↓eCondT, ↓eCondF, ↓gIf_tt, ↓gIf_ff, ↓gIf_tf, ↓gIf_ft, ↓gIf_u, ↓gIfW_u, ↓gIfW_tt, ↓gIfW_ff, ↓gIfW_tf, ↓gIfW_ft, binI, divI, shiftI, add_mk, Nat.zero_add, cond_true, cond_false, decide_true, decide_false, Bool.not_true, Bool.not_false, Bool.and_true, Bool.true_and, Bool.and_false, Bool.false_and, Int.toNat_natCast, Nat.mul_one, ↓b2.le3]
  refine shape_Under_c fun v9 w9 h9 o9 _ => ⟨g8.tr h9, ?_⟩
  have g9 := g8.tr h9
  refine ref27_Under_c fun v10 w10 h10 o10 _ => ⟨g9.tr h10, ?_⟩
  have g10 := g9.tr h10
  have ul := under_le (a := a) (d := d) (l := l) (p := p)
  refine Ints_c (D := fun _ => True) (D' := fun _ => True) ((o9.ext h10).rd2 (fun _ _ => trivial) (fun _ _ _ _ => trivial) (by omega)) (o10.rd2 (fun _ _ => trivial) (fun _ _ _ _ => trivial) (by omega)) fun w11 h11 => ⟨g10.tr h11, ?_⟩
  have g11 := g10.tr h11
  rw [decide_eq_true rfl]
  simp only [↓eBinI, ↓eDiv, ↓eShift, ↓eBinS, ↓ePick, ↓eNot, ↓eNeg, ↓eConv, ↓eConvS, ↓eExt0, ↓eExt1, ↓eExt2, ↓eFA, ↓eIA, ↓eLenSl, ↓eCapSl, ↓eLenS, ↓eMin, ↓eMax, ↓eCondT, ↓eCondF, ↓gIf_tt, ↓gIf_ff, ↓gIf_tf, ↓gIf_ft, ↓gIf_u, ↓gIfW_u, ↓gIfW_tt, ↓gIfW_ff, ↓gIfW_tf, ↓gIfW_ft, binI, divI, shiftI, add_mk, Nat.zero_add, cond_true, cond_false, decide_true, decide_false, Bool.not_true, Bool.not_false, Bool.and_true, Bool.true_and, Bool.and_false, Bool.false_and, Int.toNat_natCast, Nat.mul_one]
  refine law27_alive_c fun w12 h12 => ⟨g11.tr h12, ?_⟩
  exact h w12 (g2.tr (g11.tr h12))
end Go.Proofs.Ytlolomdgchkibaa
