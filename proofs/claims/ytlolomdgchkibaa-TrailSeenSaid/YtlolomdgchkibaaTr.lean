/-
  What is hidden, struck.
-/
import Derived.Test.YtlolomdgchkibaaTq
set_option linter.unusedSimpArgs false
set_option linter.unusedVariables false
namespace Go.Proofs.Ytlolomdgchkibaa
open Go Go.G
variable {X : KX} {w : World} {K : KV} {D D' : Nat → Prop}
/-- An element of what is owned, as its cells. -/
theorem Own.el {t : Ty} {B g n c i : Nat} {xs : List t.D} (h : Own t D B w (.slice (some ⟨g, 0, none⟩) n c) xs) (hi : i < xs.length) :
    ∃ us : List Value, us.length = t.n ∧ (∀ j, j < t.n → w.cell? ((⟨g, i * t.n, none⟩ : Addr).add j) = us[j]?) ∧ Rd t D w us xs[i] := by
  rcases h with ⟨rfl, a, e⟩ | ⟨g', c', cs, T, fz, old, rest, e, h1, h2, h3, h3', h4, h5, h6⟩
  · simp at hi
  · simp only [Value.slice.injEq, Option.some.injEq, Addr.mk.injEq, and_true] at e
    obtain ⟨rfl, -, rfl⟩ := e
    obtain ⟨us, e1, e2, e3⟩ := h6.get i hi
    refine ⟨us, e1, fun j hj => ?_, e2⟩
    have hu : us[j]? = some (us[j]'(by omega)) := List.getElem?_eq_getElem (by omega)
    have := e3 j _ hu
    rw [add_mk, cell_mk h3, hu, ← Array.getElem?_toList, h4, List.getElem?_append_left (List.getElem?_eq_some_iff.1 this).1]
    exact this
theorem Own.el_ld {t : Ty} {B g n c i m : Nat} {xs : List t.D} {K : KP} (h : Own t D B w (.slice (some ⟨g, 0, none⟩) n c) xs) (hi : i < xs.length) (hm : m = t.n) (k : ∀ us : List Value, us.length = t.n → Rd t D w us xs[i] → K (.agg ⟨us⟩)) :
    pLdN (· = w) m (.pointer (some ⟨g, i * t.n, none⟩)) K := by
  obtain ⟨us, h1, h2, h3⟩ := Own.el h hi
  subst hm
  exact ⟨_, us, rfl, h1, fun w' e j hj => by subst e; exact h2 j hj, k us h1 h3⟩
theorem filter_snoc {α : Type} {p : α → Bool} {l : List α} {i : Nat} (hi : i < l.length) : (l.take (i + 1)).filter p = if p l[i] then (l.take i).filter p ++ [l[i]] else (l.take i).filter p := by
  rw [List.take_succ_eq_append_getElem hi, List.filter_append]
  by_cases h : p l[i]
  · rw [if_pos h, List.filter_cons_of_pos h]; rfl
  · rw [if_neg h, List.filter_cons_of_neg h]; simp
theorem DeleteW_c {g0 n0 c0 gh : Nat} {l : List (Int × List UInt8)} {hid : List Int} {vh : Value} {B : Nat} {D2 : Nat → Prop} (ho : Own tWrite D B w (.slice (some ⟨g0, 0, none⟩) n0 c0) l) (hD : ∀ b, D b → b < B) (hBw : B ≤ w.heap.size)
    (hg : Cs w gh [vh]) (hgh : gh < B) (hh : Rd (.slice (.int .i64)) D2 w [vh] hid) (hD2 : ∀ b, D2 b → b < B) (hl : l.length ≤ 1000)
    (h : ∀ v w', Fr (fun b => B ≤ b) w w' → Own tWrite D B w' v (l.filter fun r => !decide (r.1 ∈ hid)) → K v w') : GCalls Try.prog 72 [.slice (some ⟨g0, 0, none⟩) n0 c0, .func (.func 70) #[] #[.pointer (some ⟨gh, 0, none⟩)]] K X w := by
  have hf := ho.form
  obtain ⟨_, c1, e0, hc1⟩ := hf
  simp only [Value.slice.injEq] at e0
  obtain ⟨-, rfl, rfl⟩ := e0
  apply slices_DeleteFunc_api_Write_api_Write.calls; unfold slices_DeleteFunc_api_Write_api_Write.b
  refine (?_ : GCalls Try.prog 85 [.slice (some ⟨g0, 0, none⟩) l.length c0, .func (.func 70) #[] #[.pointer (some ⟨gh, 0, none⟩)]] _ X w)
  apply slices_IndexFunc_api_Write_api_Write.calls; unfold slices_IndexFunc_api_Write_api_Write.b
  simp only [↓eBinI, ↓eDiv, ↓eShift, ↓eBinS, ↓ePick, ↓eNot, ↓eNeg, ↓eConv, ↓eConvS, ↓eExt0, ↓eExt1, ↓eExt2, ↓eFA, ↓eIA, ↓eLenSl, ↓eCapSl, ↓eLenS, ↓eMin, ↓eMax, ↓eCondT, ↓eCondF, ↓gIf_tt, ↓gIf_ff, ↓gIf_tf, ↓gIf_ft, ↓gIf_u, ↓gIfW_u, ↓gIfW_tt, ↓gIfW_ff, ↓gIfW_tf, ↓gIfW_ft, binI, divI, shiftI, add_mk, Nat.zero_add, cond_true, cond_false, decide_true, decide_false, Bool.not_true, Bool.not_false, Bool.and_true, Bool.true_and, Bool.and_false, Bool.false_and, Int.toNat_natCast, Nat.mul_one]
  refine slices_IndexFunc_api_Write_api_Write.loop1 (fun x8 w' => ∃ i : Nat, i ≤ l.length ∧ x8 = .int .i64 i ∧ Ext w w' ∧ (l.take i).filter (fun r => !decide (r.1 ∈ hid)) = l.take i) (fun x8 _ => l.length - (iv x8).toNat) ⟨0, by omega, rfl, Fr.refl _ _, rfl⟩ ?_
  rintro x8 gg w1 ⟨i, hi, rfl, h1, ht⟩
  unfold slices_IndexFunc_api_Write_api_Write.b1
  simp only [↓eBinI, ↓eDiv, ↓eShift, ↓eBinS, ↓ePick, ↓eNot, ↓eNeg, ↓eConv, ↓eConvS, ↓eExt0, ↓eExt1, ↓eExt2, ↓eFA, ↓eIA, ↓eLenSl, ↓eCapSl, ↓eLenS, ↓eMin, ↓eMax, ↓eCondT, ↓eCondF, ↓gIf_tt, ↓gIf_ff, ↓gIf_tf, ↓gIf_ft, ↓gIf_u, ↓gIfW_u, ↓gIfW_tt, ↓gIfW_ff, ↓gIfW_tf, ↓gIfW_ft, binI, divI, shiftI, add_mk, Nat.zero_add, cond_true, cond_false, decide_true, decide_false, Bool.not_true, Bool.not_false, Bool.and_true, Bool.true_and, Bool.and_false, Bool.false_and, Int.toNat_natCast, Nat.mul_one]
  by_cases ci : (i : Int) < (l.length : Int)
  · have hi' : i < l.length := by omega
    simp only [↓eBinI, ↓eDiv, ↓eShift, ↓eBinS, ↓ePick, ↓eNot, ↓eNeg, ↓eConv, ↓eConvS, ↓eExt0, ↓eExt1, ↓eExt2, ↓eFA, ↓eIA, ↓eLenSl, ↓eCapSl, ↓eLenS, ↓eMin, ↓eMax, ↓eCondT, ↓eCondF, ↓gIf_tt, ↓gIf_ff, ↓gIf_tf, ↓gIf_ft, ↓gIf_u, ↓gIfW_u, ↓gIfW_tt, ↓gIfW_ff, ↓gIfW_tf, ↓gIfW_ft, binI, divI, shiftI, add_mk, Nat.zero_add, cond_true, cond_false, decide_true, decide_false, Bool.not_true, Bool.not_false, Bool.and_true, Bool.true_and, Bool.and_false, Bool.false_and, Int.toNat_natCast, Nat.mul_one, ci]
    refine ⟨by omega, by first | trivial | omega, ?_⟩
    refine Own.el_ld (ho.ext h1) hi' rfl fun us hus hr => ?_
    refine covert_c (hg.ext h1) (hh.ext h1) hr fun w2 h2 => ?_
    have hsn := filter_snoc (p := fun r : Int × List UInt8 => !decide (r.1 ∈ hid)) hi'
    by_cases ce : l[i].1 ∈ hid
    · have e : decide (l[i].1 ∈ hid) = true := decide_eq_true ce
      have e2 : ((i : Int) == -1) = false := by rw [beq_eq_false_iff_ne]; omega
      simp only [↓eBinI, ↓eDiv, ↓eShift, ↓eBinS, ↓ePick, ↓eNot, ↓eNeg, ↓eConv, ↓eConvS, ↓eExt0, ↓eExt1, ↓eExt2, ↓eFA, ↓eIA, ↓eLenSl, ↓eCapSl, ↓eLenS, ↓eMin, ↓eMax, ↓eCondT, ↓eCondF, ↓gIf_tt, ↓gIf_ff, ↓gIf_tf, ↓gIf_ft, ↓gIf_u, ↓gIfW_u, ↓gIfW_tt, ↓gIfW_ff, ↓gIfW_tf, ↓gIfW_ft, binI, divI, shiftI, add_mk, Nat.zero_add, cond_true, cond_false, decide_true, decide_false, Bool.not_true, Bool.not_false, Bool.and_true, Bool.true_and, Bool.and_false, Bool.false_and, Int.toNat_natCast, Nat.mul_one, e, e2]
      rw [wrap64 (by omega) (by omega)]
      have h12 := h1.tr h2
      refine slices_DeleteFunc_api_Write_api_Write.loop1 (fun x5 x6 w' => ∃ (a j : Nat) (ys : List (Int × List UInt8)), a < j ∧ j ≤ l.length ∧ x5 = .int .i64 a ∧ x6 = .int .i64 j ∧ Fr (fun b => B ≤ b) w w' ∧ Own tWrite D B w' (.slice (some ⟨g0, 0, none⟩) l.length c0) ys ∧ ys.length = l.length ∧
          ys.take a = (l.take j).filter (fun r => !decide (r.1 ∈ hid)) ∧ ys.drop j = l.drop j) (fun _ x6 _ => l.length - (iv x6).toNat)
        ⟨i, i + 1, l, by omega, by omega, rfl, by simp, h12.mono (fun _ _ h => h.elim), ho.ext h12, rfl, by rw [hsn, if_neg (by simp [ce]), ht], rfl⟩ ?_
      rintro x5 x6 gg2 w3 ⟨a, j, ys, haj, hj, rfl, rfl, h3, ho3, hyl, hta, hdr⟩
      unfold slices_DeleteFunc_api_Write_api_Write.b1
      simp only [↓eBinI, ↓eDiv, ↓eShift, ↓eBinS, ↓ePick, ↓eNot, ↓eNeg, ↓eConv, ↓eConvS, ↓eExt0, ↓eExt1, ↓eExt2, ↓eFA, ↓eIA, ↓eLenSl, ↓eCapSl, ↓eLenS, ↓eMin, ↓eMax, ↓eCondT, ↓eCondF, ↓gIf_tt, ↓gIf_ff, ↓gIf_tf, ↓gIf_ft, ↓gIf_u, ↓gIfW_u, ↓gIfW_tt, ↓gIfW_ff, ↓gIfW_tf, ↓gIfW_ft, binI, divI, shiftI, add_mk, Nat.zero_add, cond_true, cond_false, decide_true, decide_false, Bool.not_true, Bool.not_false, Bool.and_true, Bool.true_and, Bool.and_false, Bool.false_and, Int.toNat_natCast, Nat.mul_one]
      have sh := h3.size
      by_cases cj : (j : Int) < (l.length : Int)
      · have hj' : j < l.length := by omega
        simp only [↓eBinI, ↓eDiv, ↓eShift, ↓eBinS, ↓ePick, ↓eNot, ↓eNeg, ↓eConv, ↓eConvS, ↓eExt0, ↓eExt1, ↓eExt2, ↓eFA, ↓eIA, ↓eLenSl, ↓eCapSl, ↓eLenS, ↓eMin, ↓eMax, ↓eCondT, ↓eCondF, ↓gIf_tt, ↓gIf_ff, ↓gIf_tf, ↓gIf_ft, ↓gIf_u, ↓gIfW_u, ↓gIfW_tt, ↓gIfW_ff, ↓gIfW_tf, ↓gIfW_ft, binI, divI, shiftI, add_mk, Nat.zero_add, cond_true, cond_false, decide_true, decide_false, Bool.not_true, Bool.not_false, Bool.and_true, Bool.true_and, Bool.and_false, Bool.false_and, Int.toNat_natCast, Nat.mul_one, cj]
        refine ⟨by omega, by first | trivial | omega, ?_⟩
        have hyj : ys[j]'(by omega) = l[j] := by
          have := congrArg (fun l => l[0]?) hdr
          simpa [List.getElem?_drop, List.getElem?_eq_getElem hj', List.getElem?_eq_getElem (show j < ys.length by omega)] using this
        refine Own.el_ld ho3 (by omega) rfl fun us2 hus2 hr2 => ?_
        rw [hyj] at hr2
        refine boxC fun g7 w4 hg7 h4 b4 => ?_
        refine b4.setN (l' := us2) (by rw [hus2]; rfl) hus2 hr2.allOne fun w5 b5 hf5 => ?_
        have h35 : Ext w3 w5 := h4.tn hf5 (fun x e => by omega)
        have hT : ∀ b, D2 b → ¬ B ≤ b := fun b hb => by have := hD2 b hb; omega
        have hTD : ∀ b, D b → ¬ B ≤ b := fun b hb => by have := hD b hb; omega
        simp only [↓b5.ld (show us2.length = 2 from hus2)]
        refine covert_c ((hg.fr h3 (by omega)).ext h35) ((hh.fr h3 hT).ext h35) (hr2.ext h35) fun w6 h6 => ?_
        have h36 := h35.tr h6
        have h06 : Fr (fun b => B ≤ b) w w6 := h3.trans h36 (fun _ _ h => h.elim)
        have hsn2 := filter_snoc (p := fun r : Int × List UInt8 => !decide (r.1 ∈ hid)) hj'
        by_cases cf : l[j].1 ∈ hid
        · have e : decide (l[j].1 ∈ hid) = true := decide_eq_true cf
          simp only [↓eBinI, ↓eDiv, ↓eShift, ↓eBinS, ↓ePick, ↓eNot, ↓eNeg, ↓eConv, ↓eConvS, ↓eExt0, ↓eExt1, ↓eExt2, ↓eFA, ↓eIA, ↓eLenSl, ↓eCapSl, ↓eLenS, ↓eMin, ↓eMax, ↓eCondT, ↓eCondF, ↓gIf_tt, ↓gIf_ff, ↓gIf_tf, ↓gIf_ft, ↓gIf_u, ↓gIfW_u, ↓gIfW_tt, ↓gIfW_ff, ↓gIfW_tf, ↓gIfW_ft, binI, divI, shiftI, add_mk, Nat.zero_add, cond_true, cond_false, decide_true, decide_false, Bool.not_true, Bool.not_false, Bool.and_true, Bool.true_and, Bool.and_false, Bool.false_and, Int.toNat_natCast, Nat.mul_one, e]
          unfold slices_DeleteFunc_api_Write_api_Write.j1
          simp only [↓eBinI, ↓eDiv, ↓eShift, ↓eBinS, ↓ePick, ↓eNot, ↓eNeg, ↓eConv, ↓eConvS, ↓eExt0, ↓eExt1, ↓eExt2, ↓eFA, ↓eIA, ↓eLenSl, ↓eCapSl, ↓eLenS, ↓eMin, ↓eMax, ↓eCondT, ↓eCondF, ↓gIf_tt, ↓gIf_ff, ↓gIf_tf, ↓gIf_ft, ↓gIf_u, ↓gIfW_u, ↓gIfW_tt, ↓gIfW_ff, ↓gIfW_tf, ↓gIfW_ft, binI, divI, shiftI, add_mk, Nat.zero_add, cond_true, cond_false, decide_true, decide_false, Bool.not_true, Bool.not_false, Bool.and_true, Bool.true_and, Bool.and_false, Bool.false_and, Int.toNat_natCast, Nat.mul_one]
          rw [wrap64 (by omega) (by omega)]
          refine slices_DeleteFunc_api_Write_api_Write.leaf1 ⟨a, j + 1, ys, by omega, by omega, rfl, by simp, h06, ho3.ext h36, hyl, ?_, ?_⟩ (by simp only [iv]; omega)
          · rw [hsn2, if_neg (by simp [cf])]; exact hta
          · rw [← List.drop_drop, hdr, List.drop_drop]
        · have e : decide (l[j].1 ∈ hid) = false := decide_eq_false cf
          simp only [↓eBinI, ↓eDiv, ↓eShift, ↓eBinS, ↓ePick, ↓eNot, ↓eNeg, ↓eConv, ↓eConvS, ↓eExt0, ↓eExt1, ↓eExt2, ↓eFA, ↓eIA, ↓eLenSl, ↓eCapSl, ↓eLenS, ↓eMin, ↓eMax, ↓eCondT, ↓eCondF, ↓gIf_tt, ↓gIf_ff, ↓gIf_tf, ↓gIf_ft, ↓gIf_u, ↓gIfW_u, ↓gIfW_tt, ↓gIfW_ff, ↓gIfW_tf, ↓gIfW_ft, binI, divI, shiftI, add_mk, Nat.zero_add, cond_true, cond_false, decide_true, decide_false, Bool.not_true, Bool.not_false, Bool.and_true, Bool.true_and, Bool.and_false, Bool.false_and, Int.toNat_natCast, Nat.mul_one, e, ↓(b5.ext h6).ld (show us2.length = 2 from hus2)]
          refine ⟨by omega, by omega, ?_⟩
          refine Own.setN (t := tWrite) (i := a) (ho3.ext h36) (by omega) rfl rfl (hr2.ext h36) fun w7 ho7 hf7 => ?_
          unfold slices_DeleteFunc_api_Write_api_Write.j1
          simp only [↓eBinI, ↓eDiv, ↓eShift, ↓eBinS, ↓ePick, ↓eNot, ↓eNeg, ↓eConv, ↓eConvS, ↓eExt0, ↓eExt1, ↓eExt2, ↓eFA, ↓eIA, ↓eLenSl, ↓eCapSl, ↓eLenS, ↓eMin, ↓eMax, ↓eCondT, ↓eCondF, ↓gIf_tt, ↓gIf_ff, ↓gIf_tf, ↓gIf_ft, ↓gIf_u, ↓gIfW_u, ↓gIfW_tt, ↓gIfW_ff, ↓gIfW_tf, ↓gIfW_ft, binI, divI, shiftI, add_mk, Nat.zero_add, cond_true, cond_false, decide_true, decide_false, Bool.not_true, Bool.not_false, Bool.and_true, Bool.true_and, Bool.and_false, Bool.false_and, Int.toNat_natCast, Nat.mul_one]
          rw [wrap64 (by omega) (by omega), wrap64 (by omega) (by omega)]
          have hgB : B ≤ g0 := by
            rcases ho3 with ⟨e, _⟩ | ⟨g', _, _, _, _, _, _, e, h1, _⟩
            · rw [e] at hyl; simp at hyl; omega
            · simp at e; omega
          refine slices_DeleteFunc_api_Write_api_Write.leaf1 ⟨a + 1, j + 1, ys.set a l[j], by omega, by omega, by simp, by simp, h06.trans (hf7.mono (fun b _ e => by show B ≤ b; have : b = g0 := e; omega)) (fun _ _ h => h), ho7, by simpa using hyl, ?_, ?_⟩ (by simp only [iv]; omega)
          · rw [hsn2, if_pos (by simp [cf]), ← hta, List.take_succ_eq_append_getElem (by simp; omega), List.take_set_of_le (by omega)]
            simp
          · rw [List.drop_set_of_lt (by omega), ← List.drop_drop, hdr, List.drop_drop]
      · simp only [↓eBinI, ↓eDiv, ↓eShift, ↓eBinS, ↓ePick, ↓eNot, ↓eNeg, ↓eConv, ↓eConvS, ↓eExt0, ↓eExt1, ↓eExt2, ↓eFA, ↓eIA, ↓eLenSl, ↓eCapSl, ↓eLenS, ↓eMin, ↓eMax, ↓eCondT, ↓eCondF, ↓gIf_tt, ↓gIf_ff, ↓gIf_tf, ↓gIf_ft, ↓gIf_u, ↓gIfW_u, ↓gIfW_tt, ↓gIfW_ff, ↓gIfW_tf, ↓gIfW_ft, binI, divI, shiftI, add_mk, Nat.zero_add, cond_true, cond_false, decide_true, decide_false, Bool.not_true, Bool.not_false, Bool.and_true, Bool.true_and, Bool.and_false, Bool.false_and, Int.toNat_natCast, Nat.mul_one, cj]
        have : j = l.length := by omega
        subst this
        rw [List.take_length] at hta
        refine eSl (bnd_int (by omega)) bnd_none bnd_none (by omega) (by omega) (Nat.le_refl _) (by simp) ?_
        rw [Int.toNat_natCast]
        refine Own.clear (t := tWrite) (zero := [.int .i64 0, .slice none 0 0]) ho3 (by omega) Try.underlying40 (by kernel_rfl) (by kernel_rfl) rfl (by simp [Go.G.one]) fun w4 ho4 hf4 => ?_
        have hgB : B ≤ g0 := by
          rcases ho3 with ⟨e, _⟩ | ⟨g', _, _, _, _, _, _, e, h1, _⟩
          · rw [e] at hyl; simp at hyl; omega
          · simp at e; omega
        refine eSl bnd_none (bnd_int (by omega)) bnd_none (by omega) (by omega) (Nat.le_refl _) (by simp) ?_
        rw [Int.toNat_natCast]
        have hv : (if c0 = 0 then some (⟨g0, 0, none⟩ : Addr) else (some (⟨g0, 0, none⟩ : Addr)).map (·.add (0 * 2))) = some ⟨g0, 0, none⟩ := by
          split
          · rfl
          · simp [Addr.add]
        rw [hv, Nat.sub_zero, Nat.sub_zero]
        rw [hta] at ho4
        exact h _ w4 (h3.trans (hf4.mono (fun b _ e => by show B ≤ b; have : b = g0 := e; omega)) (fun _ _ h => h)) ho4
    · have e : decide (l[i].1 ∈ hid) = false := decide_eq_false ce
      simp only [↓eBinI, ↓eDiv, ↓eShift, ↓eBinS, ↓ePick, ↓eNot, ↓eNeg, ↓eConv, ↓eConvS, ↓eExt0, ↓eExt1, ↓eExt2, ↓eFA, ↓eIA, ↓eLenSl, ↓eCapSl, ↓eLenS, ↓eMin, ↓eMax, ↓eCondT, ↓eCondF, ↓gIf_tt, ↓gIf_ff, ↓gIf_tf, ↓gIf_ft, ↓gIf_u, ↓gIfW_u, ↓gIfW_tt, ↓gIfW_ff, ↓gIfW_tf, ↓gIfW_ft, binI, divI, shiftI, add_mk, Nat.zero_add, cond_true, cond_false, decide_true, decide_false, Bool.not_true, Bool.not_false, Bool.and_true, Bool.true_and, Bool.and_false, Bool.false_and, Int.toNat_natCast, Nat.mul_one, e]
      rw [wrap64 (by omega) (by omega)]
      refine slices_IndexFunc_api_Write_api_Write.leaf1 ⟨i + 1, by omega, by simp, h1.tr h2, ?_⟩ (by simp only [iv]; omega)
      rw [hsn, if_pos (by simp [ce]), ht, ← List.take_succ_eq_append_getElem hi']
  · simp only [↓eBinI, ↓eDiv, ↓eShift, ↓eBinS, ↓ePick, ↓eNot, ↓eNeg, ↓eConv, ↓eConvS, ↓eExt0, ↓eExt1, ↓eExt2, ↓eFA, ↓eIA, ↓eLenSl, ↓eCapSl, ↓eLenS, ↓eMin, ↓eMax, ↓eCondT, ↓eCondF, ↓gIf_tt, ↓gIf_ff, ↓gIf_tf, ↓gIf_ft, ↓gIf_u, ↓gIfW_u, ↓gIfW_tt, ↓gIfW_ff, ↓gIfW_tf, ↓gIfW_ft, binI, divI, shiftI, add_mk, Nat.zero_add, cond_true, cond_false, decide_true, decide_false, Bool.not_true, Bool.not_false, Bool.and_true, Bool.true_and, Bool.and_false, Bool.false_and, Int.toNat_natCast, Nat.mul_one, ci]
    have : i = l.length := by omega
    subst this
    rw [List.take_length] at ht
    have e2 : ((-1 : Int) == -1) = true := by decide
    simp only [↓eBinI, ↓eDiv, ↓eShift, ↓eBinS, ↓ePick, ↓eNot, ↓eNeg, ↓eConv, ↓eConvS, ↓eExt0, ↓eExt1, ↓eExt2, ↓eFA, ↓eIA, ↓eLenSl, ↓eCapSl, ↓eLenS, ↓eMin, ↓eMax, ↓eCondT, ↓eCondF, ↓gIf_tt, ↓gIf_ff, ↓gIf_tf, ↓gIf_ft, ↓gIf_u, ↓gIfW_u, ↓gIfW_tt, ↓gIfW_ff, ↓gIfW_tf, ↓gIfW_ft, binI, divI, shiftI, add_mk, Nat.zero_add, cond_true, cond_false, decide_true, decide_false, Bool.not_true, Bool.not_false, Bool.and_true, Bool.true_and, Bool.and_false, Bool.false_and, Int.toNat_natCast, Nat.mul_one, e2]
    refine h _ w1 (h1.mono (fun _ _ h => h.elim)) ?_
    rw [ht]; exact ho.ext h1
end Go.Proofs.Ytlolomdgchkibaa
