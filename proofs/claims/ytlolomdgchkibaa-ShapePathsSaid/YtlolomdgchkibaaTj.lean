/-
  The document's places: each once, in order.
-/
import Derived.Test.YtlolomdgchkibaaTi
set_option linter.unusedSimpArgs false
set_option linter.unusedVariables false
namespace Go.Proofs.Ytlolomdgchkibaa
open Go Go.G
variable {X : KX} {w : World} {K : KV} {D D' : Nat → Prop}
theorem bslice0 {E : Nat} {z : List Value} {w : World} {K : KV} (h : ∀ g w', w.heap.size = g → Ext w w' → g < w'.heap.size → K (.slice (some ⟨g, 0, none⟩) 0 0) w') : pBSlice E 0 (rowOf z 0) [] w K :=
  ⟨[], by simp [rowOf, fillL], h _ _ rfl (Ext.alloc w _) (by rw [size_alloc]; exact Nat.lt_succ_self _)⟩
/-- A number put where it belongs, if it isn't there. -/
def insF (p : Int) : List Int → List Int
  | [] => [p]
  | a :: l => if a < p then a :: insF p l else if a = p then a :: l else p :: a :: l
theorem insF_len (p : Int) : ∀ l : List Int, (insF p l).length ≤ l.length + 1
  | [] => by simp [insF]
  | a :: l => by
    have := insF_len p l
    unfold insF; split
    · simp; omega
    · split <;> simp
theorem insF_at (p : Int) : ∀ (l : List Int) (k : Nat), k ≤ l.length → (∀ j (h : j < l.length), j < k → l[j] < p) → (∀ h : k < l.length, ¬ l[k] < p) →
    insF p l = if h : k < l.length then (if l[k] = p then l else l.take k ++ [p] ++ l.drop k) else l.take k ++ [p] ++ l.drop k
  | [], k, hk, _, _ => by
    have : k = 0 := by simpa using hk
    subst this; rfl
  | a :: l, 0, _, _, h2 => by
    have h2 := h2 (by simp)
    simp only [List.getElem_cons_zero] at h2
    simp only [insF, if_neg h2]
    simp
  | a :: l, k + 1, hk, h1, h2 => by
    have h0 := h1 0 (by simp) (by omega)
    simp only [List.getElem_cons_zero] at h0
    have ih := insF_at p l k (by simpa using hk) (fun j hj hjk => h1 (j + 1) (Nat.succ_lt_succ hj) (by omega)) (fun h => h2 (Nat.succ_lt_succ h))
    simp only [insF, if_pos h0, ih, List.length_cons, List.getElem_cons_succ, List.take_succ_cons, List.drop_succ_cons]
    by_cases c : k < l.length
    · rw [dif_pos c, dif_pos (by omega)]
      split <;> simp
    · rw [dif_neg c, dif_neg (by omega)]
      simp
def placesF (ps : List Int) : List Int := ps.foldl (fun out p => insF p out) []
theorem placesF_len (ps : List Int) : (placesF ps).length ≤ ps.length := by
  have : ∀ (ps acc : List Int), (ps.foldl (fun out p => insF p out) acc).length ≤ acc.length + ps.length := fun ps => by
    induction ps with
    | nil => intro acc; simp
    | cons p ps ih => intro acc; have := ih (insF p acc); have := insF_len p acc; simp; omega
  simpa [placesF] using this ps []
theorem ref20_Places_c {x : Value} {l : List (Int × List UInt8)} (hx : Rd (.slice tWrite) D w [x] l) (hl : l.length ≤ 1000)
    (h : ∀ v w', Ext w w' → Own (.int .i64) (fun _ => False) w.heap.size w' v (placesF (l.map (·.1))) → (∀ b, Blk v b → b < w'.heap.size) → K v w') : GCalls Try.prog 41 [x] K X w := by
  obtain ⟨a1, c1, rfl, hc1, hl1⟩ := hx.form
  apply oublietteref20_Places.calls; unfold oublietteref20_Places.b
  refine oublietteref20_Places.loop1 (fun x3 x4 w' => ∃ (i : Nat), i ≤ l.length ∧ x4 = .int .i64 i ∧ Ext w w' ∧ Own (.int .i64) (fun _ => False) w.heap.size w' x3 (placesF ((l.take i).map (·.1))) ∧ (∀ b, Blk x3 b → b < w'.heap.size)) (fun _ x4 _ => l.length - (iv x4).toNat)
    ⟨0, by omega, rfl, Fr.refl _ _, Own.nil, by rintro b ⟨a', n', c', e, _⟩; cases e⟩ ?_
  rintro x3 x4 gg w1 ⟨i, hi, rfl, h1, ho, hb1⟩
  unfold oublietteref20_Places.b1
  simp only [↓eBinI, ↓eDiv, ↓eShift, ↓eBinS, ↓ePick, ↓eNot, ↓eNeg, ↓eConv, ↓eConvS, ↓eExt0, ↓eExt1, ↓eExt2, ↓eFA, ↓eIA, ↓eLenSl, ↓eCapSl, ↓eLenS, ↓eMin, ↓eMax, ↓eCondT, ↓eCondF, ↓gIf_tt, ↓gIf_ff, ↓gIf_tf, ↓gIf_ft, ↓gIf_u, ↓gIfW_u, ↓gIfW_tt, ↓gIfW_ff, ↓gIfW_tf, ↓gIfW_ft, binI, divI, shiftI, add_mk, Nat.zero_add, cond_true, cond_false, decide_true, decide_false, Bool.not_true, Bool.not_false, Bool.and_true, Bool.true_and, Bool.and_false, Bool.false_and, Int.toNat_natCast, Nat.mul_one]
  by_cases ci : (i : Int) < (l.length : Int)
  · simp only [↓eBinI, ↓eDiv, ↓eShift, ↓eBinS, ↓ePick, ↓eNot, ↓eNeg, ↓eConv, ↓eConvS, ↓eExt0, ↓eExt1, ↓eExt2, ↓eFA, ↓eIA, ↓eLenSl, ↓eCapSl, ↓eLenS, ↓eMin, ↓eMax, ↓eCondT, ↓eCondF, ↓gIf_tt, ↓gIf_ff, ↓gIf_tf, ↓gIf_ft, ↓gIf_u, ↓gIfW_u, ↓gIfW_tt, ↓gIfW_ff, ↓gIfW_tf, ↓gIfW_ft, binI, divI, shiftI, add_mk, Nat.zero_add, cond_true, cond_false, decide_true, decide_false, Bool.not_true, Bool.not_false, Bool.and_true, Bool.true_and, Bool.and_false, Bool.false_and, Int.toNat_natCast, Nat.mul_one, ci]
    obtain ⟨out, hout⟩ : ∃ out, placesF ((l.take i).map (·.1)) = out := ⟨_, rfl⟩
    rw [hout] at ho
    have hol : out.length ≤ i := by
      have := placesF_len ((l.take i).map (·.1))
      rw [hout] at this; simp at this; omega
    obtain ⟨pp, hp⟩ : ∃ pp, (l[i]'(by omega)).1 = pp := ⟨_, rfl⟩
    have hnext : placesF ((l.take (i + 1)).map (·.1)) = insF pp out := by
      rw [List.take_succ_eq_append_getElem (by omega), List.map_append, List.map_singleton, hp]
      unfold placesF at hout ⊢
      rw [List.foldl_append, hout]; rfl
    obtain ⟨a3, c3, rfl, hc3⟩ := ho.form
    refine oublietteref20_Places.loop2 (fun x5 w' => ∃ k : Nat, k ≤ out.length ∧ x5 = .int .i64 k ∧ Ext w1 w' ∧ (∀ j (h : j < out.length), j < k → out[j] < pp)) (fun x5 _ => out.length - (iv x5).toNat)
      ⟨0, by omega, rfl, Fr.refl _ _, fun j _ h => by omega⟩ ?_
    rintro x5 gg2 w2 ⟨k, hk, rfl, h2, hlt⟩
    unfold oublietteref20_Places.b2
    refine draw_ fun w3 h3 => ?_
    have h13 := h2.tr h3
    have ho3 := ho.ext h13
    have hrd : Rd (.slice (.int .i64)) (fun b => b < w1.heap.size) w3 [.slice a3 out.length c3] out := ho3.rd2 (fun _ h => h.elim) (fun b hb _ _ => hb1 b hb) (by omega)
    obtain ⟨b2, k2, p2, k2', e2, q2, q2', r2, hp0, hp1⟩ := idxWrite ((hx.ext h1).ext h13) (i := i) (by omega)
    simp only [Value.slice.injEq] at e2
    obtain ⟨rfl, -, rfl⟩ := e2
    rw [hp] at q2
    have done : ∀ w4 v gg, Ext w3 w4 → Own (.int .i64) (fun _ => False) w.heap.size w4 v (insF pp out) → (∀ b, Blk v b → b < w4.heap.size) →
        oublietteref20_Places.j1 (.slice (some b2) l.length c1) v (.int .i64 i) gg (oublietteref20_Places.N1 (fun x3 x4 w' => ∃ (i : Nat), i ≤ l.length ∧ x4 = .int .i64 i ∧ Ext w w' ∧ Own (.int .i64) (fun _ => False) w.heap.size w' x3 (placesF ((l.take i).map (·.1))) ∧ (∀ b, Blk x3 b → b < w'.heap.size)) (fun _ x4 _ => l.length - (iv x4).toNat) (.slice (some b2) l.length c1) (.slice a3 out.length c3) (.int .i64 i) w1) K X w4 := by
      intro w4 v gg h4 hv hvb
      unfold oublietteref20_Places.j1
      simp only [↓eBinI, ↓eDiv, ↓eShift, ↓eBinS, ↓ePick, ↓eNot, ↓eNeg, ↓eConv, ↓eConvS, ↓eExt0, ↓eExt1, ↓eExt2, ↓eFA, ↓eIA, ↓eLenSl, ↓eCapSl, ↓eLenS, ↓eMin, ↓eMax, ↓eCondT, ↓eCondF, ↓gIf_tt, ↓gIf_ff, ↓gIf_tf, ↓gIf_ft, ↓gIf_u, ↓gIfW_u, ↓gIfW_tt, ↓gIfW_ff, ↓gIfW_tf, ↓gIfW_ft, binI, divI, shiftI, add_mk, Nat.zero_add, cond_true, cond_false, decide_true, decide_false, Bool.not_true, Bool.not_false, Bool.and_true, Bool.true_and, Bool.and_false, Bool.false_and, Int.toNat_natCast, Nat.mul_one]
      rw [wrap64 (by omega) (by omega)]
      exact oublietteref20_Places.leaf1 ⟨i + 1, by omega, by simp, (h1.tr h13).tr h4, by rw [hnext]; exact hv, hvb⟩ (by simp only [iv]; omega)
    have put : (∀ h : k < out.length, ¬ out[k] < pp) → (∀ h : k < out.length, out[k] ≠ pp) → ∀ (w4 : World) (Kf : Value → Value → Value → Value → Value → Value → Value → Value → World → Prop), Ext w3 w4 →
        (∀ t47 t50 t51 t57 t58 t59 t63 v w', Ext w3 w' → Own (.int .i64) (fun _ => False) w.heap.size w' v (insF pp out) → (∀ b, Blk v b → b < w'.heap.size) → Kf t47 t50 t51 t57 t58 t59 t63 v w') →
        pBSlice 3 0 (rowOf [.int .i64 0] 0) [] w4 fun t47 w =>
          pSl 1 (.slice a3 out.length c3) none (some (.int .i64 k)) none fun t50 =>
          pApp 3 1 8 [.int .i64 0] t47 t50 w fun t51 w =>
          0 ≤ (i : Int) ∧ (i : Int) < (l.length : Int) ∧
          pLd (· = w) (.pointer (some (b2.add (i * 2)))) fun t57 =>
          pBSlice 3 1 (rowOf [.int .i64 0] 1) [(0, 1, t57)] w fun t58 w =>
          pApp 3 1 8 [.int .i64 0] t51 t58 w fun t59 w =>
          pSl 1 (.slice a3 out.length c3) (some (.int .i64 k)) none none fun t63 =>
          pApp 3 1 8 [.int .i64 0] t59 t63 w fun t64 w => Kf t47 t50 t51 t57 t58 t59 t63 t64 w := by
      intro hn hne w4 Kf h4 hKf
      have s1 := h1.size; have s13 := h13.size; have s4 := h4.size
      refine bslice0 fun g5 w5 hg5 h5 h5' => ?_
      refine eSl bnd_none (bnd_int (by omega)) bnd_none (by omega) (by omega) (Nat.le_refl _) (by simp) ?_
      have hc := hrd.cut (l := 0) (e := k) (m := c3) (by omega) hk (by omega) (Nat.le_refl _)
      rw [List.drop_zero] at hc
      rw [Int.toNat_natCast]
      have s5 := h5.size
      refine Own.cat (t := .int .i64) (D := fun _ => False) (B := w4.heap.size) (xs := []) (.inl ⟨rfl, _, rfl⟩) (by omega) (fun h => h) rfl rfl ((hc.ext h4).ext h5) (fun cs hh => hh.flat rfl) (by simp; omega) fun v6 w6 ho6 hf6 hb6 => ?_
      have h46 : Ext w4 w6 := h5.tn hf6 (fun x hx => hx.2)
      have q := (h4.tr h46).cell q2
      refine ⟨by omega, by omega, ?_⟩
      simp only [↓eBinI, ↓eDiv, ↓eShift, ↓eBinS, ↓ePick, ↓eNot, ↓eNeg, ↓eConv, ↓eConvS, ↓eExt0, ↓eExt1, ↓eExt2, ↓eFA, ↓eIA, ↓eLenSl, ↓eCapSl, ↓eLenS, ↓eMin, ↓eMax, ↓eCondT, ↓eCondF, ↓gIf_tt, ↓gIf_ff, ↓gIf_tf, ↓gIf_ft, ↓gIf_u, ↓gIfW_u, ↓gIfW_tt, ↓gIfW_ff, ↓gIfW_tf, ↓gIfW_ft, binI, divI, shiftI, add_mk, Nat.zero_add, cond_true, cond_false, decide_true, decide_false, Bool.not_true, Bool.not_false, Bool.and_true, Bool.true_and, Bool.and_false, Bool.false_and, Int.toNat_natCast, Nat.mul_one, add_zero, ↓eLdW, q, Option.some.injEq, exists_eq_left']
      refine bslice1 rfl fun r w7 hr h7 b7 => ?_
      have s46 := h46.size; have s7 := h7.size
      have hppr : Rd (.int .i64) (fun _ => False) w7 [.int .i64 pp] pp := by subst hp; exact ⟨rfl, hp0, hp1⟩
      refine (ho6.ext h7).push1 b7 hppr (by omega) (fun h => h) rfl (by simp; omega) fun v8 w8 ho8 hf8 hb8 => ?_
      have h48 : Ext w4 w8 := (h46.tr h7).tn hf8 (fun x hx => hx.2)
      refine eSl (bnd_int (by omega)) bnd_none bnd_none (by omega) (by omega) (Nat.le_refl _) (by simp) ?_
      have hc2 := hrd.cut (l := k) (e := out.length) (m := c3) hk (Nat.le_refl _) hc3 (Nat.le_refl _)
      rw [Int.toNat_natCast]
      have s48 := h48.size
      refine ho8.cat (by omega) (fun h => h) rfl rfl ((hc2.ext h4).ext h48) (fun cs hh => hh.flat rfl) (by simp; omega) fun v9 w9 ho9 hf9 hb9 => ?_
      have h49 : Ext w4 w9 := h48.tn hf9 (fun x hx => hx.2)
      have s9 := h49.size; have s79 := hf9.size; have s78 := hf8.size; have s56 := hf6.size
      refine hKf _ _ _ _ _ _ _ v9 w9 (h4.tr h49) ?_ fun b hb => ?_
      · rw [insF_at pp out k hk hlt hn]
        rw [List.take_length] at ho9
        have ho9 := ho9.low (B' := w.heap.size) (by omega)
        by_cases ck : k < out.length
        · rw [dif_pos ck, if_neg (hne ck)]; simpa using ho9
        · rw [dif_neg ck]; simpa using ho9
      · rcases hb9 b hb with hb | hb
        · rcases hb8 b hb with hb | hb
          · rcases hb6 b hb with hb | hb
            · obtain ⟨a', n', c', e, rfl⟩ := hb
              simp at e
              rw [← e.1]; show g5 < _; omega
            · omega
          · omega
        · omega
    by_cases ck : (k : Int) < (out.length : Int)
    · obtain ⟨b4, k4, u, e1, _, _, q1, r1⟩ := hrd.idx rfl (i := k) (by omega)
      simp only [Value.slice.injEq] at e1
      obtain ⟨rfl, -, rfl⟩ := e1
      have v1 := r1.1
      simp only [List.cons.injEq, and_true] at v1
      subst v1
      simp only [↓eBinI, ↓eDiv, ↓eShift, ↓eBinS, ↓ePick, ↓eNot, ↓eNeg, ↓eConv, ↓eConvS, ↓eExt0, ↓eExt1, ↓eExt2, ↓eFA, ↓eIA, ↓eLenSl, ↓eCapSl, ↓eLenS, ↓eMin, ↓eMax, ↓eCondT, ↓eCondF, ↓gIf_tt, ↓gIf_ff, ↓gIf_tf, ↓gIf_ft, ↓gIf_u, ↓gIfW_u, ↓gIfW_tt, ↓gIfW_ff, ↓gIfW_tf, ↓gIfW_ft, binI, divI, shiftI, add_mk, Nat.zero_add, cond_true, cond_false, decide_true, decide_false, Bool.not_true, Bool.not_false, Bool.and_true, Bool.true_and, Bool.and_false, Bool.false_and, Int.toNat_natCast, Nat.mul_one, ck, add_zero, ↓eLdE q1, ↓eLdE q2]
      refine ⟨by omega, by first | trivial | omega, by omega, by first | trivial | omega, ?_⟩
      by_cases cl : out[k] < pp
      · simp only [↓eBinI, ↓eDiv, ↓eShift, ↓eBinS, ↓ePick, ↓eNot, ↓eNeg, ↓eConv, ↓eConvS, ↓eExt0, ↓eExt1, ↓eExt2, ↓eFA, ↓eIA, ↓eLenSl, ↓eCapSl, ↓eLenS, ↓eMin, ↓eMax, ↓eCondT, ↓eCondF, ↓gIf_tt, ↓gIf_ff, ↓gIf_tf, ↓gIf_ft, ↓gIf_u, ↓gIfW_u, ↓gIfW_tt, ↓gIfW_ff, ↓gIfW_tf, ↓gIfW_ft, binI, divI, shiftI, add_mk, Nat.zero_add, cond_true, cond_false, decide_true, decide_false, Bool.not_true, Bool.not_false, Bool.and_true, Bool.true_and, Bool.and_false, Bool.false_and, Int.toNat_natCast, Nat.mul_one, cl]
        rw [wrap64 (by omega) (by omega)]
        refine oublietteref20_Places.leaf2 ⟨k + 1, by omega, by simp, h13, fun j hj hjk => ?_⟩ (by simp only [iv]; omega)
        by_cases e : j = k
        · subst e; exact cl
        · exact hlt j hj (by omega)
      · simp only [↓eBinI, ↓eDiv, ↓eShift, ↓eBinS, ↓ePick, ↓eNot, ↓eNeg, ↓eConv, ↓eConvS, ↓eExt0, ↓eExt1, ↓eExt2, ↓eFA, ↓eIA, ↓eLenSl, ↓eCapSl, ↓eLenS, ↓eMin, ↓eMax, ↓eCondT, ↓eCondF, ↓gIf_tt, ↓gIf_ff, ↓gIf_tf, ↓gIf_ft, ↓gIf_u, ↓gIfW_u, ↓gIfW_tt, ↓gIfW_ff, ↓gIfW_tf, ↓gIfW_ft, binI, divI, shiftI, add_mk, Nat.zero_add, cond_true, cond_false, decide_true, decide_false, Bool.not_true, Bool.not_false, Bool.and_true, Bool.true_and, Bool.and_false, Bool.false_and, Int.toNat_natCast, Nat.mul_one, cl]
        refine draw_ fun w4 h4 => ?_
        have ek : ((k : Int) == (out.length : Int)) = false := by rw [beq_eq_false_iff_ne]; omega
        have q1' := h4.cell q1
        have q2' := h4.cell q2
        simp only [↓eBinI, ↓eDiv, ↓eShift, ↓eBinS, ↓ePick, ↓eNot, ↓eNeg, ↓eConv, ↓eConvS, ↓eExt0, ↓eExt1, ↓eExt2, ↓eFA, ↓eIA, ↓eLenSl, ↓eCapSl, ↓eLenS, ↓eMin, ↓eMax, ↓eCondT, ↓eCondF, ↓gIf_tt, ↓gIf_ff, ↓gIf_tf, ↓gIf_ft, ↓gIf_u, ↓gIfW_u, ↓gIfW_tt, ↓gIfW_ff, ↓gIfW_tf, ↓gIfW_ft, binI, divI, shiftI, add_mk, Nat.zero_add, cond_true, cond_false, decide_true, decide_false, Bool.not_true, Bool.not_false, Bool.and_true, Bool.true_and, Bool.and_false, Bool.false_and, Int.toNat_natCast, Nat.mul_one, ek, add_zero, ↓eLdE q1', ↓eLdE q2']
        refine ⟨by omega, by omega, by omega, by omega, ?_⟩
        by_cases ce : out[k] = pp
        · have e : (out[k] != pp) = false := by simpa using ce
          simp only [↓eBinI, ↓eDiv, ↓eShift, ↓eBinS, ↓ePick, ↓eNot, ↓eNeg, ↓eConv, ↓eConvS, ↓eExt0, ↓eExt1, ↓eExt2, ↓eFA, ↓eIA, ↓eLenSl, ↓eCapSl, ↓eLenS, ↓eMin, ↓eMax, ↓eCondT, ↓eCondF, ↓gIf_tt, ↓gIf_ff, ↓gIf_tf, ↓gIf_ft, ↓gIf_u, ↓gIfW_u, ↓gIfW_tt, ↓gIfW_ff, ↓gIfW_tf, ↓gIfW_ft, binI, divI, shiftI, add_mk, Nat.zero_add, cond_true, cond_false, decide_true, decide_false, Bool.not_true, Bool.not_false, Bool.and_true, Bool.true_and, Bool.and_false, Bool.false_and, Int.toNat_natCast, Nat.mul_one, e]
          refine done w4 _ _ h4 ?_ (fun b hb => ?_)
          · rw [insF_at pp out k hk hlt (fun _ => cl), dif_pos (by omega), if_pos ce]
            exact ho3.ext h4
          · have := hb1 b hb; have := h13.size; have := h4.size; omega
        · have e : (out[k] != pp) = true := by simpa using ce
          simp only [↓eBinI, ↓eDiv, ↓eShift, ↓eBinS, ↓ePick, ↓eNot, ↓eNeg, ↓eConv, ↓eConvS, ↓eExt0, ↓eExt1, ↓eExt2, ↓eFA, ↓eIA, ↓eLenSl, ↓eCapSl, ↓eLenS, ↓eMin, ↓eMax, ↓eCondT, ↓eCondF, ↓gIf_tt, ↓gIf_ff, ↓gIf_tf, ↓gIf_ft, ↓gIf_u, ↓gIfW_u, ↓gIfW_tt, ↓gIfW_ff, ↓gIfW_tf, ↓gIfW_ft, binI, divI, shiftI, add_mk, Nat.zero_add, cond_true, cond_false, decide_true, decide_false, Bool.not_true, Bool.not_false, Bool.and_true, Bool.true_and, Bool.and_false, Bool.false_and, Int.toNat_natCast, Nat.mul_one, e]
          exact put (fun _ => cl) (fun _ => ce) w4 _ h4 (fun _ _ _ _ _ _ _ v w' g1 g2 g3 => done w' v _ g1 g2 g3)
    · simp only [↓eBinI, ↓eDiv, ↓eShift, ↓eBinS, ↓ePick, ↓eNot, ↓eNeg, ↓eConv, ↓eConvS, ↓eExt0, ↓eExt1, ↓eExt2, ↓eFA, ↓eIA, ↓eLenSl, ↓eCapSl, ↓eLenS, ↓eMin, ↓eMax, ↓eCondT, ↓eCondF, ↓gIf_tt, ↓gIf_ff, ↓gIf_tf, ↓gIf_ft, ↓gIf_u, ↓gIfW_u, ↓gIfW_tt, ↓gIfW_ff, ↓gIfW_tf, ↓gIfW_ft, binI, divI, shiftI, add_mk, Nat.zero_add, cond_true, cond_false, decide_true, decide_false, Bool.not_true, Bool.not_false, Bool.and_true, Bool.true_and, Bool.and_false, Bool.false_and, Int.toNat_natCast, Nat.mul_one, ck]
      refine draw_ fun w4 h4 => ?_
      have ek : ((k : Int) == (out.length : Int)) = true := by rw [beq_iff_eq]; omega
      simp only [↓eBinI, ↓eDiv, ↓eShift, ↓eBinS, ↓ePick, ↓eNot, ↓eNeg, ↓eConv, ↓eConvS, ↓eExt0, ↓eExt1, ↓eExt2, ↓eFA, ↓eIA, ↓eLenSl, ↓eCapSl, ↓eLenS, ↓eMin, ↓eMax, ↓eCondT, ↓eCondF, ↓gIf_tt, ↓gIf_ff, ↓gIf_tf, ↓gIf_ft, ↓gIf_u, ↓gIfW_u, ↓gIfW_tt, ↓gIfW_ff, ↓gIfW_tf, ↓gIfW_ft, binI, divI, shiftI, add_mk, Nat.zero_add, cond_true, cond_false, decide_true, decide_false, Bool.not_true, Bool.not_false, Bool.and_true, Bool.true_and, Bool.and_false, Bool.false_and, Int.toNat_natCast, Nat.mul_one, ek]
      exact put (fun h => by omega) (fun h => by omega) w4 _ h4 (fun _ _ _ _ _ _ _ v w' g1 g2 g3 => done w' v _ g1 g2 g3)
  · simp only [↓eBinI, ↓eDiv, ↓eShift, ↓eBinS, ↓ePick, ↓eNot, ↓eNeg, ↓eConv, ↓eConvS, ↓eExt0, ↓eExt1, ↓eExt2, ↓eFA, ↓eIA, ↓eLenSl, ↓eCapSl, ↓eLenS, ↓eMin, ↓eMax, ↓eCondT, ↓eCondF, ↓gIf_tt, ↓gIf_ff, ↓gIf_tf, ↓gIf_ft, ↓gIf_u, ↓gIfW_u, ↓gIfW_tt, ↓gIfW_ff, ↓gIfW_tf, ↓gIfW_ft, binI, divI, shiftI, add_mk, Nat.zero_add, cond_true, cond_false, decide_true, decide_false, Bool.not_true, Bool.not_false, Bool.and_true, Bool.true_and, Bool.and_false, Bool.false_and, Int.toNat_natCast, Nat.mul_one, ci]
    have : i = l.length := by omega
    subst this
    rw [List.take_length] at ho
    exact h _ w1 h1 ho hb1
end Go.Proofs.Ytlolomdgchkibaa
