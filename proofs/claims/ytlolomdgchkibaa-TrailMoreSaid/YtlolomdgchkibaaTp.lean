/-
  What the law on more writes hands back.
-/
import Derived.Test.YtlolomdgchkibaaTm
set_option linter.unusedSimpArgs false
set_option linter.unusedVariables false
namespace Go.Proofs.Ytlolomdgchkibaa
open Go Go.G
variable {X : KX} {w : World} {K : KV} {D D' : Nat → Prop}
theorem img_more {a b : List (Int × List UInt8)} {size : Nat} {i : Nat} (h : (imgF a size)[i]? ≠ (imgF (a ++ b) size)[i]?) : (i : Int) ∈ b.map (·.1) := by
  by_cases hi : i < size
  · unfold imgF at h
    rw [List.getElem?_map, List.getElem?_map, List.getElem?_range hi] at h
    simp only [Option.map_some, ne_eq, Option.some.injEq, List.foldl_append] at h
    generalize a.foldl (fun (b : List UInt8) w => if w.1 = (i : Int) then w.2 else b) sector0 = s at h
    have : ∀ (b : List (Int × List UInt8)) (s : List UInt8), (i : Int) ∉ b.map (·.1) → b.foldl (fun (b : List UInt8) w => if w.1 = (i : Int) then w.2 else b) s = s := by
      intro b
      induction b with
      | nil => intro s _; rfl
      | cons r b ih =>
        intro s hn
        simp only [List.map_cons, List.mem_cons, not_or] at hn
        rw [List.foldl_cons, if_neg (fun e => hn.1 e.symm), ih _ hn.2]
    by_cases hm : (i : Int) ∈ b.map (·.1)
    · exact hm
    · exact absurd (this b s hm).symm h
  · rw [List.getElem?_eq_none (by rw [img_len]; omega), List.getElem?_eq_none (by rw [img_len]; omega)] at h
    exact absurd rfl h
theorem diff_more {l : List (Int × List UInt8)} {size : Nat} {n m : Nat} : ∀ d ∈ diffF (imgF (l.take n) size) (imgF l size) m, d ∈ placesF ((l.drop n).map (·.1)) := by
  intro d hd
  unfold diffF at hd
  obtain ⟨i, hi, rfl⟩ := List.mem_map.1 hd
  have := (List.mem_filter.1 hi).2
  rw [bne_iff_ne] at this
  rw [(places_spec _).2]
  refine img_more (a := l.take n) (size := size) ?_
  rw [List.take_append_drop]; exact this
theorem img_row {l : List (Int × List UInt8)} {size : Nat} (hs : ∀ i (h : i < l.length), l[i].2.length ≤ 600) : ∀ i (h : i < (imgF l size).length), (imgF l size)[i].length ≤ 600 := by
  intro i hi
  have : ∀ (l : List (Int × List UInt8)) (s : List UInt8), s.length ≤ 600 → (∀ r ∈ l, r.2.length ≤ 600) → (l.foldl (fun (b : List UInt8) w => if w.1 = (i : Int) then w.2 else b) s).length ≤ 600 := by
    intro l
    induction l with
    | nil => intro s h _; exact h
    | cons r l ih =>
      intro s h hr
      rw [List.foldl_cons]
      refine ih _ ?_ (fun x hx => hr x (by simp [hx]))
      split
      · exact hr r (by simp)
      · exact h
  have e : (imgF l size)[i] = l.foldl (fun (b : List UInt8) w => if w.1 = (i : Int) then w.2 else b) sector0 := by simp [imgF]
  rw [e]
  refine this l sector0 (by rw [sector0_len]; omega) (fun r hr => ?_)
  obtain ⟨j, hj, rfl⟩ := List.getElem_of_mem hr
  exact hs j hj
theorem law20_More_c {x : Value} {l : List (Int × List UInt8)} {size n : Int} (hx : Rd (.slice tWrite) D w [x] l) (hD : ∀ b, D b → b < w.heap.size)
    (h : ∀ w', Ext w w' → K (.bool true) w') : GCalls Try.prog 7 [x, .int .i64 size, .int .i64 n] K X w := by
  obtain ⟨a1, c1, rfl, hc1, hl1⟩ := hx.form
  apply oubliettelaw20_TrailMore.calls; unfold oubliettelaw20_TrailMore.b
  refine law20_light_c hx fun w1 h1 => ?_
  have away : ∀ w', Ext w w' → GCalls Try.prog 11 [] (fun v w => K v w) X w' := fun w' h' => law20_alive_c fun w2 h2 => h w2 (h'.tr h2)
  cases cl : lightF l with
  | false =>
    simp only [↓eBinI, ↓eDiv, ↓eShift, ↓eBinS, ↓ePick, ↓eNot, ↓eNeg, ↓eConv, ↓eConvS, ↓eExt0, ↓eExt1, ↓eExt2, ↓eFA, ↓eIA, ↓eLenSl, ↓eCapSl, ↓eLenS, ↓eMin, ↓eMax, ↓eCondT, ↓eCondF, ↓gIf_tt, ↓gIf_ff, ↓gIf_tf, ↓gIf_ft, ↓gIf_u, ↓gIfW_u, ↓gIfW_tt, ↓gIfW_ff, ↓gIfW_tf, ↓gIfW_ft, binI, divI, shiftI, add_mk, Nat.zero_add, cond_true, cond_false, decide_true, decide_false, Bool.not_true, Bool.not_false, Bool.and_true, Bool.true_and, Bool.and_false, Bool.false_and, Int.toNat_natCast, Nat.mul_one]
    exact away w1 h1
  | true =>
  obtain ⟨hl, hs⟩ := light_spec cl
  by_cases d1 : size < 1
  · simp only [↓eBinI, ↓eDiv, ↓eShift, ↓eBinS, ↓ePick, ↓eNot, ↓eNeg, ↓eConv, ↓eConvS, ↓eExt0, ↓eExt1, ↓eExt2, ↓eFA, ↓eIA, ↓eLenSl, ↓eCapSl, ↓eLenS, ↓eMin, ↓eMax, ↓eCondT, ↓eCondF, ↓gIf_tt, ↓gIf_ff, ↓gIf_tf, ↓gIf_ft, ↓gIf_u, ↓gIfW_u, ↓gIfW_tt, ↓gIfW_ff, ↓gIfW_tf, ↓gIfW_ft, binI, divI, shiftI, add_mk, Nat.zero_add, cond_true, cond_false, decide_true, decide_false, Bool.not_true, Bool.not_false, Bool.and_true, Bool.true_and, Bool.and_false, Bool.false_and, Int.toNat_natCast, Nat.mul_one, d1]
    exact away w1 h1
  by_cases d2 : size > 20
  · simp only [↓eBinI, ↓eDiv, ↓eShift, ↓eBinS, ↓ePick, ↓eNot, ↓eNeg, ↓eConv, ↓eConvS, ↓eExt0, ↓eExt1, ↓eExt2, ↓eFA, ↓eIA, ↓eLenSl, ↓eCapSl, ↓eLenS, ↓eMin, ↓eMax, ↓eCondT, ↓eCondF, ↓gIf_tt, ↓gIf_ff, ↓gIf_tf, ↓gIf_ft, ↓gIf_u, ↓gIfW_u, ↓gIfW_tt, ↓gIfW_ff, ↓gIfW_tf, ↓gIfW_ft, binI, divI, shiftI, add_mk, Nat.zero_add, cond_true, cond_false, decide_true, decide_false, Bool.not_true, Bool.not_false, Bool.and_true, Bool.true_and, Bool.and_false, Bool.false_and, Int.toNat_natCast, Nat.mul_one, d1, d2]
    exact away w1 h1
  by_cases d3 : n < 0
  · simp only [↓eBinI, ↓eDiv, ↓eShift, ↓eBinS, ↓ePick, ↓eNot, ↓eNeg, ↓eConv, ↓eConvS, ↓eExt0, ↓eExt1, ↓eExt2, ↓eFA, ↓eIA, ↓eLenSl, ↓eCapSl, ↓eLenS, ↓eMin, ↓eMax, ↓eCondT, ↓eCondF, ↓gIf_tt, ↓gIf_ff, ↓gIf_tf, ↓gIf_ft, ↓gIf_u, ↓gIfW_u, ↓gIfW_tt, ↓gIfW_ff, ↓gIfW_tf, ↓gIfW_ft, binI, divI, shiftI, add_mk, Nat.zero_add, cond_true, cond_false, decide_true, decide_false, Bool.not_true, Bool.not_false, Bool.and_true, Bool.true_and, Bool.and_false, Bool.false_and, Int.toNat_natCast, Nat.mul_one, d1, d2, d3]
    exact away w1 h1
  by_cases d4 : n > (l.length : Int)
  · simp only [↓eBinI, ↓eDiv, ↓eShift, ↓eBinS, ↓ePick, ↓eNot, ↓eNeg, ↓eConv, ↓eConvS, ↓eExt0, ↓eExt1, ↓eExt2, ↓eFA, ↓eIA, ↓eLenSl, ↓eCapSl, ↓eLenS, ↓eMin, ↓eMax, ↓eCondT, ↓eCondF, ↓gIf_tt, ↓gIf_ff, ↓gIf_tf, ↓gIf_ft, ↓gIf_u, ↓gIfW_u, ↓gIfW_tt, ↓gIfW_ff, ↓gIfW_tf, ↓gIfW_ft, binI, divI, shiftI, add_mk, Nat.zero_add, cond_true, cond_false, decide_true, decide_false, Bool.not_true, Bool.not_false, Bool.and_true, Bool.true_and, Bool.and_false, Bool.false_and, Int.toNat_natCast, Nat.mul_one, d1, d2, d3, d4]
    exact away w1 h1
  simp only [↓eBinI, ↓eDiv, ↓eShift, ↓eBinS, ↓ePick, ↓eNot, ↓eNeg, ↓eConv, ↓eConvS, ↓eExt0, ↓eExt1, ↓eExt2, ↓eFA, ↓eIA, ↓eLenSl, ↓eCapSl, ↓eLenS, ↓eMin, ↓eMax, ↓eCondT, ↓eCondF, ↓gIf_tt, ↓gIf_ff, ↓gIf_tf, ↓gIf_ft, ↓gIf_u, ↓gIfW_u, ↓gIfW_tt, ↓gIfW_ff, ↓gIfW_tf, ↓gIfW_ft, binI, divI, shiftI, add_mk, Nat.zero_add, cond_true, cond_false, decide_true, decide_false, Bool.not_true, Bool.not_false, Bool.and_true, Bool.true_and, Bool.and_false, Bool.false_and, Int.toNat_natCast, Nat.mul_one, d1, d2, d3, d4]
  obtain ⟨k, rfl⟩ : ∃ k : Nat, n = k := ⟨n.toNat, by omega⟩
  obtain ⟨sz, rfl⟩ : ∃ k : Nat, size = k := ⟨size.toNat, by omega⟩
  have hk : uptoN (k : Int) l.length = k := by unfold uptoN; omega
  have im : ∀ l : List (Int × List UInt8), imageF l (sz : Int) = imgF l sz := fun l => by unfold imageF; rw [if_neg (by omega), Int.toNat_natCast]
  have lt : ∀ {w'}, Ext w w' → ∀ b, D b → b < w'.heap.size := fun h' b hb => by have := hD b hb; have := h'.size; omega
  refine trail_Upto_c (hx.ext h1) (by omega) (fun i hi => by have := hs i hi; omega) fun v2 w2 D2 h2 o2 hb2 => ?_
  rw [hk] at o2
  have g2 := h1.tr h2
  have r2 : Rd (.slice tWrite) (fun b => b < w2.heap.size) w2 [v2] (l.take k) := o2.rd2 (fun b hb => hb2 b hb) (fun b _ _ hb => hb) (by rw [List.length_take]; omega)
  refine trail_Image_c r2 (fun b hb => hb) (by rw [List.length_take]; omega) (fun i hi => by rw [List.getElem_take]; rw [List.length_take] at hi; have := hs i (by omega); omega) fun v3 w3 D3 h3 o3 => ?_
  have g3 := g2.tr h3
  refine trail_Image_c (hx.ext g3) (lt g3) (by omega) (fun i hi => by have := hs i hi; omega) fun v4 w4 D4 h4 o4 => ?_
  have g4 := g3.tr h4
  rw [im] at o3 o4
  have l3 : (imgF (l.take k) sz).length = sz := img_len
  have l4 : (imgF l sz).length = sz := img_len
  refine trail_Diff_c (D := fun _ => True) (D' := fun _ => True) ((o3.ext h4).rd2 (fun _ _ => trivial) (fun _ _ _ _ => trivial) (by omega)) (o4.rd2 (fun _ _ => trivial) (fun _ _ _ _ => trivial) (by omega)) ⟨by omega, by omega⟩ (fun i h h' => by have := img_row (size := sz) (l := l.take k) (fun i hi => by rw [List.getElem_take]; rw [List.length_take] at hi; exact hs i (by omega)) i h; have := img_row (size := sz) hs i h'; omega) fun v5 w5 h5 o5 => ?_
  have g5 := g4.tr h5
  refine eSl (bnd_int (by omega)) bnd_none bnd_none (by omega) (by omega) (Nat.le_refl _) (by simp) ?_
  have hc := hx.cut (l := k) (e := l.length) (m := c1) (by omega) (Nat.le_refl _) hc1 (Nat.le_refl _)
  rw [List.take_length] at hc
  rw [Int.toNat_natCast]
  refine trail_Places_c (hc.ext g5) (lt g5) (by rw [List.length_drop]; omega) fun v6 w6 h6 o6 => ?_
  have g6 := g5.tr h6
  obtain ⟨dd, hdd⟩ : ∃ dd, diffF (imgF (l.take k) sz) (imgF l sz) (max (imgF (l.take k) sz).length (imgF l sz).length) = dd := ⟨_, rfl⟩
  have hin : ∀ d ∈ dd, d ∈ placesF ((l.drop k).map (·.1)) := fun d hd => diff_more (m := max (imgF (l.take k) sz).length (imgF l sz).length) d (by rw [hdd]; exact hd)
  have dl : dd.length ≤ 20 := by rw [← hdd]; exact Nat.le_trans diff_len (by omega)
  rw [hdd] at o5
  have pl := placesF_len ((l.drop k).map (·.1))
  rw [List.length_map, List.length_drop] at pl
  have rd5 : Rd (.slice (.int .i64)) (fun _ => True) w6 [v5] dd := (o5.ext h6).rd2 (fun _ _ => trivial) (fun _ _ _ _ => trivial) (by omega)
  have rd6 : Rd (.slice (.int .i64)) (fun _ => True) w6 [v6] (placesF ((l.drop k).map (·.1))) := o6.rd2 (fun _ _ => trivial) (fun _ _ _ _ => trivial) (by omega)
  obtain ⟨a5, c5, rfl, hc5, _⟩ := rd5.form
  refine oubliettelaw20_TrailMore.loop1 (fun x9 w' => ∃ i : Nat, i ≤ dd.length ∧ x9 = .int .i64 i ∧ Ext w6 w') (fun x9 _ => dd.length - (iv x9).toNat) ⟨0, by omega, rfl, Fr.refl _ _⟩ ?_
  rintro x9 gg w7 ⟨i, hi, rfl, h7⟩
  unfold oubliettelaw20_TrailMore.b1
  simp only [↓eBinI, ↓eDiv, ↓eShift, ↓eBinS, ↓ePick, ↓eNot, ↓eNeg, ↓eConv, ↓eConvS, ↓eExt0, ↓eExt1, ↓eExt2, ↓eFA, ↓eIA, ↓eLenSl, ↓eCapSl, ↓eLenS, ↓eMin, ↓eMax, ↓eCondT, ↓eCondF, ↓gIf_tt, ↓gIf_ff, ↓gIf_tf, ↓gIf_ft, ↓gIf_u, ↓gIfW_u, ↓gIfW_tt, ↓gIfW_ff, ↓gIfW_tf, ↓gIfW_ft, binI, divI, shiftI, add_mk, Nat.zero_add, cond_true, cond_false, decide_true, decide_false, Bool.not_true, Bool.not_false, Bool.and_true, Bool.true_and, Bool.and_false, Bool.false_and, Int.toNat_natCast, Nat.mul_one]
  by_cases ci : (i : Int) < (dd.length : Int)
  · obtain ⟨b1, k1, u1, e1, s1, -, q1, r1⟩ := (rd5.ext h7).idx rfl (i := i) (by omega)
    simp only [Value.slice.injEq] at e1
    obtain ⟨rfl, -, rfl⟩ := e1
    have v1 := r1.1
    simp only [List.cons.injEq, and_true] at v1
    subst v1
    simp only [↓eBinI, ↓eDiv, ↓eShift, ↓eBinS, ↓ePick, ↓eNot, ↓eNeg, ↓eConv, ↓eConvS, ↓eExt0, ↓eExt1, ↓eExt2, ↓eFA, ↓eIA, ↓eLenSl, ↓eCapSl, ↓eLenS, ↓eMin, ↓eMax, ↓eCondT, ↓eCondF, ↓gIf_tt, ↓gIf_ff, ↓gIf_tf, ↓gIf_ft, ↓gIf_u, ↓gIfW_u, ↓gIfW_tt, ↓gIfW_ff, ↓gIfW_tf, ↓gIfW_ft, binI, divI, shiftI, add_mk, Nat.zero_add, cond_true, cond_false, decide_true, decide_false, Bool.not_true, Bool.not_false, Bool.and_true, Bool.true_and, Bool.and_false, Bool.false_and, Int.toNat_natCast, Nat.mul_one, ci, ↓eLdW, q1, Option.some.injEq, exists_eq_left']
    refine ⟨by omega, by first | trivial | omega, ?_⟩
    refine ref01_Has_c (rd6.ext h7) fun w8 h8 => ?_
    rw [decide_eq_true (hin _ (List.getElem_mem _))]
    simp only [↓eBinI, ↓eDiv, ↓eShift, ↓eBinS, ↓ePick, ↓eNot, ↓eNeg, ↓eConv, ↓eConvS, ↓eExt0, ↓eExt1, ↓eExt2, ↓eFA, ↓eIA, ↓eLenSl, ↓eCapSl, ↓eLenS, ↓eMin, ↓eMax, ↓eCondT, ↓eCondF, ↓gIf_tt, ↓gIf_ff, ↓gIf_tf, ↓gIf_ft, ↓gIf_u, ↓gIfW_u, ↓gIfW_tt, ↓gIfW_ff, ↓gIfW_tf, ↓gIfW_ft, binI, divI, shiftI, add_mk, Nat.zero_add, cond_true, cond_false, decide_true, decide_false, Bool.not_true, Bool.not_false, Bool.and_true, Bool.true_and, Bool.and_false, Bool.false_and, Int.toNat_natCast, Nat.mul_one]
    rw [wrap64 (by omega) (by omega)]
    exact oubliettelaw20_TrailMore.leaf1 ⟨i + 1, by omega, by simp, h7.tr h8⟩ (by simp only [iv]; omega)
  · simp only [↓eBinI, ↓eDiv, ↓eShift, ↓eBinS, ↓ePick, ↓eNot, ↓eNeg, ↓eConv, ↓eConvS, ↓eExt0, ↓eExt1, ↓eExt2, ↓eFA, ↓eIA, ↓eLenSl, ↓eCapSl, ↓eLenS, ↓eMin, ↓eMax, ↓eCondT, ↓eCondF, ↓gIf_tt, ↓gIf_ff, ↓gIf_tf, ↓gIf_ft, ↓gIf_u, ↓gIfW_u, ↓gIfW_tt, ↓gIfW_ff, ↓gIfW_tf, ↓gIfW_ft, binI, divI, shiftI, add_mk, Nat.zero_add, cond_true, cond_false, decide_true, decide_false, Bool.not_true, Bool.not_false, Bool.and_true, Bool.true_and, Bool.and_false, Bool.false_and, Int.toNat_natCast, Nat.mul_one, ci]
    have g7 := g6.tr h7
    refine trail_Image_c (hx.ext g7) (lt g7) (by omega) (fun i hi => by have := hs i hi; omega) fun v8 w8 D8 h8 o8 => ?_
    have g8 := g7.tr h8
    refine trail_Image_c (hx.ext g8) (lt g8) (by omega) (fun i hi => by have := hs i hi; omega) fun v9 w9 D9 h9 o9 => ?_
    have g9 := g8.tr h9
    rw [im] at o8 o9
    refine trail_Diff_c (D := fun _ => True) (D' := fun _ => True) ((o8.ext h9).rd2 (fun _ _ => trivial) (fun _ _ _ _ => trivial) (by omega)) (o9.rd2 (fun _ _ => trivial) (fun _ _ _ _ => trivial) (by omega)) ⟨by omega, by omega⟩ (fun i h h' => by have := img_row (size := sz) hs i h'; omega) fun v10 w10 h10 o10 => ?_
    have hn : diffF (imgF l sz) (imgF l sz) (max (imgF l sz).length (imgF l sz).length) = [] := (diff_nil rfl).2 rfl
    rw [hn] at o10
    obtain ⟨a10, c10, rfl, _⟩ := o10.form
    simp only [↓eBinI, ↓eDiv, ↓eShift, ↓eBinS, ↓ePick, ↓eNot, ↓eNeg, ↓eConv, ↓eConvS, ↓eExt0, ↓eExt1, ↓eExt2, ↓eFA, ↓eIA, ↓eLenSl, ↓eCapSl, ↓eLenS, ↓eMin, ↓eMax, ↓eCondT, ↓eCondF, ↓gIf_tt, ↓gIf_ff, ↓gIf_tf, ↓gIf_ft, ↓gIf_u, ↓gIfW_u, ↓gIfW_tt, ↓gIfW_ff, ↓gIfW_tf, ↓gIfW_ft, binI, divI, shiftI, add_mk, Nat.zero_add, cond_true, cond_false, decide_true, decide_false, Bool.not_true, Bool.not_false, Bool.and_true, Bool.true_and, Bool.and_false, Bool.false_and, Int.toNat_natCast, Nat.mul_one, List.length_nil]
    have e0 : (((0 : Nat) : Int) == 0) = true := by decide
    simp only [e0, ↓eBinI, ↓eDiv, ↓eShift, ↓eBinS, ↓ePick, ↓eNot, ↓eNeg, ↓eConv, ↓eConvS, ↓eExt0, ↓eExt1, ↓eExt2, ↓eFA, ↓eIA, ↓eLenSl, ↓eCapSl, ↓eLenS, ↓eMin, ↓eMax, ↓eCondT, ↓eCondF, ↓gIf_tt, ↓gIf_ff, ↓gIf_tf, ↓gIf_ft, ↓gIf_u, ↓gIfW_u, ↓gIfW_tt, ↓gIfW_ff, ↓gIfW_tf, ↓gIfW_ft, binI, divI, shiftI, add_mk, Nat.zero_add, cond_true, cond_false, decide_true, decide_false, Bool.not_true, Bool.not_false, Bool.and_true, Bool.true_and, Bool.and_false, Bool.false_and, Int.toNat_natCast, Nat.mul_one]
    refine law20_alive_c fun w11 h11 => ?_
    exact h w11 ((g9.tr h10).tr h11)
end Go.Proofs.Ytlolomdgchkibaa
