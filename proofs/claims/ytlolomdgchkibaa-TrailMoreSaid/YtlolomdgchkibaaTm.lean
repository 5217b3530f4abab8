/-
  What the law on images hands back.
-/
import Derived.Test.YtlolomdgchkibaaTl
set_option linter.unusedSimpArgs false
set_option linter.unusedVariables false
namespace Go.Proofs.Ytlolomdgchkibaa
open Go Go.G
variable {X : KX} {w : World} {K : KV} {D D' : Nat → Prop}
theorem light_spec {l : List (Int × List UInt8)} (h : lightF l = true) : l.length ≤ 60 ∧ ∀ i (hi : i < l.length), l[i].2.length ≤ 600 := by
  unfold lightF at h
  simp only [Bool.and_eq_true, decide_eq_true_eq, List.all_eq_true] at h
  exact ⟨h.1, fun i hi => h.2 _ (List.getElem_mem hi)⟩
theorem imageF_len {l : List (Int × List UInt8)} {size : Int} (h : ¬ (size > 20 ∧ size ≤ 1024)) : (imageF l size).length ≤ 20 := by
  unfold imageF
  split
  · simp
  · rw [img_len]; omega
theorem law20_Images_c {x : Value} {l : List (Int × List UInt8)} {size n place : Int} (hx : Rd (.slice tWrite) D w [x] l) (hD : ∀ b, D b → b < w.heap.size)
    (h : ∀ w', Ext w w' → K (.bool true) w') : GCalls Try.prog 6 [x, .int .i64 size, .int .i64 n, .int .i64 place] K X w := by
  obtain ⟨a1, c1, rfl, hc1, hl1⟩ := hx.form
  apply oubliettelaw20_TrailImages.calls; unfold oubliettelaw20_TrailImages.b
  refine law20_light_c hx fun w1 h1 => ?_
  have away : ∀ w', Ext w w' → GCalls Try.prog 11 [] (fun v w => K v w) X w' := fun w' h' => law20_alive_c fun w2 h2 => h w2 (h'.tr h2)
  cases cl : lightF l with
  | false =>
    simp only [↓eBinI, ↓eDiv, ↓eShift, ↓eBinS, ↓ePick, ↓eNot, ↓eNeg, ↓eConv, ↓eConvS, ↓eExt0, ↓eExt1, ↓eExt2, ↓eFA, ↓eIA, ↓eLenSl, ↓eCapSl, ↓eLenS, ↓eMin, ↓eMax, ↓eCondT, ↓eCondF, ↓gIf_tt, ↓gIf_ff, ↓gIf_tf, ↓gIf_ft, ↓gIf_u, ↓gIfW_u, ↓gIfW_tt, ↓gIfW_ff, ↓gIfW_tf, ↓gIfW_ft, binI, divI, shiftI, add_mk, Nat.zero_add, cond_true, cond_false, decide_true, decide_false, Bool.not_true, Bool.not_false, Bool.and_true, Bool.true_and, Bool.and_false, Bool.false_and, Int.toNat_natCast, Nat.mul_one]
    exact away w1 h1
  | true =>
  obtain ⟨hl, hs⟩ := light_spec cl
  by_cases cs : size > 20 ∧ size ≤ 1024
  · obtain ⟨c1, c2⟩ := cs
    simp only [↓eBinI, ↓eDiv, ↓eShift, ↓eBinS, ↓ePick, ↓eNot, ↓eNeg, ↓eConv, ↓eConvS, ↓eExt0, ↓eExt1, ↓eExt2, ↓eFA, ↓eIA, ↓eLenSl, ↓eCapSl, ↓eLenS, ↓eMin, ↓eMax, ↓eCondT, ↓eCondF, ↓gIf_tt, ↓gIf_ff, ↓gIf_tf, ↓gIf_ft, ↓gIf_u, ↓gIfW_u, ↓gIfW_tt, ↓gIfW_ff, ↓gIfW_tf, ↓gIfW_ft, binI, divI, shiftI, add_mk, Nat.zero_add, cond_true, cond_false, decide_true, decide_false, Bool.not_true, Bool.not_false, Bool.and_true, Bool.true_and, Bool.and_false, Bool.false_and, Int.toNat_natCast, Nat.mul_one, c1, c2]
    exact away w1 h1
  have e1 : (if (0 : Int) < (if (l.length : Int) < n then (l.length : Int) else n) then (if (l.length : Int) < n then (l.length : Int) else n) else 0) = ((uptoN n l.length : Nat) : Int) := by
    unfold uptoN; split <;> split <;> omega
  have hk : uptoN n l.length ≤ l.length := by unfold uptoN; omega
  have il := imageF_len (l := l) cs
  have hd : ¬ size > 20 ∨ (size > 20 ∧ ¬ size ≤ 1024) := by omega
  rcases hd with d1 | ⟨d1, d2⟩
  all_goals
    first
      | simp only [↓eBinI, ↓eDiv, ↓eShift, ↓eBinS, ↓ePick, ↓eNot, ↓eNeg, ↓eConv, ↓eConvS, ↓eExt0, ↓eExt1, ↓eExt2, ↓eFA, ↓eIA, ↓eLenSl, ↓eCapSl, ↓eLenS, ↓eMin, ↓eMax, ↓eCondT, ↓eCondF, ↓gIf_tt, ↓gIf_ff, ↓gIf_tf, ↓gIf_ft, ↓gIf_u, ↓gIfW_u, ↓gIfW_tt, ↓gIfW_ff, ↓gIfW_tf, ↓gIfW_ft, binI, divI, shiftI, add_mk, Nat.zero_add, cond_true, cond_false, decide_true, decide_false, Bool.not_true, Bool.not_false, Bool.and_true, Bool.true_and, Bool.and_false, Bool.false_and, Int.toNat_natCast, Nat.mul_one, d1, d2, e1]
      | simp only [↓eBinI, ↓eDiv, ↓eShift, ↓eBinS, ↓ePick, ↓eNot, ↓eNeg, ↓eConv, ↓eConvS, ↓eExt0, ↓eExt1, ↓eExt2, ↓eFA, ↓eIA, ↓eLenSl, ↓eCapSl, ↓eLenS, ↓eMin, ↓eMax, ↓eCondT, ↓eCondF, ↓gIf_tt, ↓gIf_ff, ↓gIf_tf, ↓gIf_ft, ↓gIf_u, ↓gIfW_u, ↓gIfW_tt, ↓gIfW_ff, ↓gIfW_tf, ↓gIfW_ft, binI, divI, shiftI, add_mk, Nat.zero_add, cond_true, cond_false, decide_true, decide_false, Bool.not_true, Bool.not_false, Bool.and_true, Bool.true_and, Bool.and_false, Bool.false_and, Int.toNat_natCast, Nat.mul_one, d1, e1]
    refine draw_ fun w2 h2 => ?_
    have g2 := h1.tr h2
    have lt : ∀ {w'}, Ext w w' → ∀ b, D b → b < w'.heap.size := fun h' b hb => by have := hD b hb; have := h'.size; omega
    refine trail_Image_c (hx.ext g2) (lt g2) (by omega) (fun i hi => by have := hs i hi; omega) fun v3 w3 D3 h3 o3 => ⟨h3, ?_⟩
    have g3 := g2.tr h3
    refine ref20_Image_c (hx.ext g3) (lt g3) (by omega) fun v4 w4 D4 h4 o4 => ⟨h3.tr h4, ?_⟩
    have g4 := g3.tr h4
    refine ref20_Rows_c (D := fun _ => True) (D' := fun _ => True) ((o3.ext h4).rd2 (fun _ _ => trivial) (fun _ _ _ _ => trivial) (by omega)) (o4.rd2 (fun _ _ => trivial) (fun _ _ _ _ => trivial) (by omega)) ⟨by omega, by omega⟩ fun w5 h5 => ⟨(h3.tr h4).tr h5, ?_⟩
    have g5 := g4.tr h5
    rw [decide_eq_true rfl]
    simp only [↓eBinI, ↓eDiv, ↓eShift, ↓eBinS, ↓ePick, ↓eNot, ↓eNeg, ↓eConv, ↓eConvS, ↓eExt0, ↓eExt1, ↓eExt2, ↓eFA, ↓eIA, ↓eLenSl, ↓eCapSl, ↓eLenS, ↓eMin, ↓eMax, ↓eCondT, ↓eCondF, ↓gIf_tt, ↓gIf_ff, ↓gIf_tf, ↓gIf_ft, ↓gIf_u, ↓gIfW_u, ↓gIfW_tt, ↓gIfW_ff, ↓gIfW_tf, ↓gIfW_ft, binI, divI, shiftI, add_mk, Nat.zero_add, cond_true, cond_false, decide_true, decide_false, Bool.not_true, Bool.not_false, Bool.and_true, Bool.true_and, Bool.and_false, Bool.false_and, Int.toNat_natCast, Nat.mul_one]
    refine eSl bnd_none (bnd_int (by omega)) bnd_none (by omega) (by omega) (Nat.le_refl _) (by simp) ?_
    have hc := hx.cut (l := 0) (e := uptoN n l.length) (m := c1) (by omega) hk (by omega) (Nat.le_refl _)
    rw [List.drop_zero] at hc
    rw [Int.toNat_natCast]
    refine trail_Upto_c (hx.ext g5) (by omega) (fun i hi => by have := hs i hi; omega) fun v6 w6 D6 h6 o6 _ => ⟨((h3.tr h4).tr h5).tr h6, ?_⟩
    have g6 := g5.tr h6
    refine ref19_Writes_c (D := fun _ => True) (o6.rd2 (fun _ _ => trivial) (fun _ _ _ _ => trivial) (by rw [List.length_take]; omega)) (hc.ext g6) fun w7 h7 => ⟨(((h3.tr h4).tr h5).tr h6).tr h7, ?_⟩
    have g7 := g6.tr h7
    rw [decide_eq_true rfl]
    simp only [↓eBinI, ↓eDiv, ↓eShift, ↓eBinS, ↓ePick, ↓eNot, ↓eNeg, ↓eConv, ↓eConvS, ↓eExt0, ↓eExt1, ↓eExt2, ↓eFA, ↓eIA, ↓eLenSl, ↓eCapSl, ↓eLenS, ↓eMin, ↓eMax, ↓eCondT, ↓eCondF, ↓gIf_tt, ↓gIf_ff, ↓gIf_tf, ↓gIf_ft, ↓gIf_u, ↓gIfW_u, ↓gIfW_tt, ↓gIfW_ff, ↓gIfW_tf, ↓gIfW_ft, binI, divI, shiftI, add_mk, Nat.zero_add, cond_true, cond_false, decide_true, decide_false, Bool.not_true, Bool.not_false, Bool.and_true, Bool.true_and, Bool.and_false, Bool.false_and, Int.toNat_natCast, Nat.mul_one]
    refine trail_Places_c (hx.ext g7) (lt g7) (by omega) fun v8 w8 h8 o8 => ⟨((((h3.tr h4).tr h5).tr h6).tr h7).tr h8, ?_⟩
    have g8 := g7.tr h8
    refine ref20_Places_c (hx.ext g8) (by omega) fun v9 w9 h9 o9 _ => ⟨(((((h3.tr h4).tr h5).tr h6).tr h7).tr h8).tr h9, ?_⟩
    have g9 := g8.tr h9
    have pl := placesF_len (l.map (·.1))
    rw [List.length_map] at pl
    refine Ints_c (D := fun _ => True) (D' := fun _ => True) ((o8.ext h9).rd2 (fun _ _ => trivial) (fun _ _ _ _ => trivial) (by omega)) (o9.rd2 (fun _ _ => trivial) (fun _ _ _ _ => trivial) (by omega)) fun w10 h10 => ⟨((((((h3.tr h4).tr h5).tr h6).tr h7).tr h8).tr h9).tr h10, ?_⟩
    have g10 := g9.tr h10
    rw [decide_eq_true rfl]
    simp only [↓eBinI, ↓eDiv, ↓eShift, ↓eBinS, ↓ePick, ↓eNot, ↓eNeg, ↓eConv, ↓eConvS, ↓eExt0, ↓eExt1, ↓eExt2, ↓eFA, ↓eIA, ↓eLenSl, ↓eCapSl, ↓eLenS, ↓eMin, ↓eMax, ↓eCondT, ↓eCondF, ↓gIf_tt, ↓gIf_ff, ↓gIf_tf, ↓gIf_ft, ↓gIf_u, ↓gIfW_u, ↓gIfW_tt, ↓gIfW_ff, ↓gIfW_tf, ↓gIfW_ft, binI, divI, shiftI, add_mk, Nat.zero_add, cond_true, cond_false, decide_true, decide_false, Bool.not_true, Bool.not_false, Bool.and_true, Bool.true_and, Bool.and_false, Bool.false_and, Int.toNat_natCast, Nat.mul_one]
    refine trail_Of_c (hx.ext g10) (by omega) (fun i hi => by have := hs i hi; omega) fun v11 w11 D11 h11 o11 => ⟨(((((((h3.tr h4).tr h5).tr h6).tr h7).tr h8).tr h9).tr h10).tr h11, ?_⟩
    have g11 := g10.tr h11
    refine ref20_Of_c (hx.ext g11) (lt g11) (by omega) fun v12 w12 h12 o12 => ⟨((((((((h3.tr h4).tr h5).tr h6).tr h7).tr h8).tr h9).tr h10).tr h11).tr h12, ?_⟩
    have g12 := g11.tr h12
    have ol := ofF_len l place
    refine ref20_Rows_c (D := fun _ => True) (D' := fun _ => True) ((o11.ext h12).rd2 (fun _ _ => trivial) (fun _ _ _ _ => trivial) (by omega)) (o12.rd2 (fun _ _ => trivial) (fun _ _ _ _ => trivial) (by omega)) ⟨by omega, by omega⟩ fun w13 h13 => ⟨(((((((((h3.tr h4).tr h5).tr h6).tr h7).tr h8).tr h9).tr h10).tr h11).tr h12).tr h13, ?_⟩
    have g13 := g12.tr h13
    rw [decide_eq_true rfl]
    simp only [↓eBinI, ↓eDiv, ↓eShift, ↓eBinS, ↓ePick, ↓eNot, ↓eNeg, ↓eConv, ↓eConvS, ↓eExt0, ↓eExt1, ↓eExt2, ↓eFA, ↓eIA, ↓eLenSl, ↓eCapSl, ↓eLenS, ↓eMin, ↓eMax, ↓eCondT, ↓eCondF, ↓gIf_tt, ↓gIf_ff, ↓gIf_tf, ↓gIf_ft, ↓gIf_u, ↓gIfW_u, ↓gIfW_tt, ↓gIfW_ff, ↓gIfW_tf, ↓gIfW_ft, binI, divI, shiftI, add_mk, Nat.zero_add, cond_true, cond_false, decide_true, decide_false, Bool.not_true, Bool.not_false, Bool.and_true, Bool.true_and, Bool.and_false, Bool.false_and, Int.toNat_natCast, Nat.mul_one]
    refine law20_alive_c fun w14 h14 => ⟨((((((((((h3.tr h4).tr h5).tr h6).tr h7).tr h8).tr h9).tr h10).tr h11).tr h12).tr h13).tr h14, ?_⟩
    exact h w14 (g13.tr h14)
end Go.Proofs.Ytlolomdgchkibaa
