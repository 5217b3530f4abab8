/-
  What a chain refuses.
  The reference's key of a gen; whether a number is among numbers.
  The plain law on a chain: which gens it can still tell, and which keys it tells of them.
  append that stays where it is; slices.Delete of one.
  A gen that was skipped is told.
-/
import Derived.Test.YtkpgmaiklfjjgaaDoorMoaz
section
set_option linter.unusedSimpArgs false
set_option linter.unusedVariables false
namespace Go.Proofs.YtkpgmaiklfjjgaaDoor
open Go Go.G Go.RowKit
variable {X : KX} {w : World} {K : KV} {D D' D1 D2 D3 D4 D5 D6 : Nat → Prop}
set_option maxHeartbeats 1000000 in
theorem AtUsed_c {xs : Value} {g0 gen win : Int} {vc vs : Value} {cur : List UInt8} {sk : List (Int × List UInt8)} (hc : Rd (.slice .byte) D w [vc] cur) (hv : Rd (.slice tSkip) D' w [vs] sk)
    (hw1 : 1 ≤ win) (hw8 : win ≤ 8) (hg0 : 0 ≤ g0) (hg : 0 ≤ gen) (hgm : gen < 1073741824) (hlt : gen < g0) (hp : placeF sk gen < 0)
    (h : ∀ w', Ext w w' → K (.tuple #[.slice none 0 0, chainV 0 (.slice none 0 0) (.slice none 0 0), .int .i64 9]) w') :
    GCalls Tryd.prog 21 [xs, chainV g0 vc vs, .int .i64 gen, .int .i64 win] K X w := by
  have oc := one_of_rd hc
  have os := one_of_rd hv
  apply ratchet_At.calls; unfold ratchet_At.b
  refine boxC (cs := [.int .i64 g0, vc, vs]) fun g5 w1 hg5 h1 c1 => ?_
  refine boxC (cs := [.int .i64 0, .slice none 0 0, .slice none 0 0]) fun g9 w2 hg9 h2 c2 => ?_
  have z1 := h1.size; have z2 := h2.size; have l1 := c1.lt; have l2 := c2.lt
  have h12 := h1.tr h2
  have c1 := c1.ext h2
  rw [c1.ld3]
  refine (?_ : GCalls Tryd.prog 49 [chainV g0 vc vs, .int .i64 gen] _ X w2)
  refine place_c (hv.ext h12) fun w3 h3 => ?_
  have z3 := h3.size
  have h13 := h12.tr h3
  have c1 := c1.ext h3
  have c2 := c2.ext h3
  have d1 : ¬ (win < 1) := by omega
  have d2 : ¬ (win > 8) := by omega
  have d3 : ¬ (gen < 0) := by omega
  have d4 : ¬ (gen ≥ 1073741824) := by omega
  have d5 : ¬ (g0 < 0) := by omega
  simp only [↓eBinI, ↓eDiv, ↓eShift, ↓eBinS, ↓ePick, ↓eNot, ↓eNeg, ↓eConv, ↓eConvS, ↓eExt0, ↓eExt1, ↓eExt2, ↓eFA, ↓eIA, ↓eLenSl, ↓eCapSl, ↓eLenS, ↓eMin, ↓eMax, ↓eCondT, ↓eCondF, ↓gIf_tt, ↓gIf_ff, ↓gIf_tf, ↓gIf_ft, ↓gIf_u, ↓gIfW_u, ↓gIfW_tt, ↓gIfW_ff, ↓gIfW_tf, ↓gIfW_ft, binI, divI, shiftI, add_mk, Nat.zero_add, cond_true, cond_false, decide_true, decide_false, Bool.not_true, Bool.not_false, Bool.and_true, Bool.true_and, Bool.and_false, Bool.false_and, Int.toNat_natCast, Nat.mul_one, d1, d2, d3, d4, ↓c1.c0, d5, hlt, hp]
  refine ⟨[.int .i64 0, .slice none 0 0, .slice none 0 0], rfl, ?_⟩
  refine c2.setN (l' := [.int .i64 0, .slice none 0 0, .slice none 0 0]) rfl rfl (allOne3 rfl rfl rfl) fun we ce fe => ?_
  rw [ce.ld3]
  exact h _ (h13.tn fe (fun x hx => by omega))
set_option maxHeartbeats 1000000 in
theorem AtWindow_c {xs : Value} {g0 gen win : Int} {vc vs : Value} {cur : List UInt8} {sk : List (Int × List UInt8)} (hc : Rd (.slice .byte) D w [vc] cur) (hv : Rd (.slice tSkip) D' w [vs] sk)
    (hw1 : 1 ≤ win) (hw8 : win ≤ 8) (hg0 : 0 ≤ g0) (hg : 0 ≤ gen) (hgm : gen < 1073741824) (hge : g0 ≤ gen) (hgw : gen - g0 > win)
    (h : ∀ w', Ext w w' → K (.tuple #[.slice none 0 0, chainV 0 (.slice none 0 0) (.slice none 0 0), .int .i64 10]) w') :
    GCalls Tryd.prog 21 [xs, chainV g0 vc vs, .int .i64 gen, .int .i64 win] K X w := by
  have oc := one_of_rd hc
  have os := one_of_rd hv
  apply ratchet_At.calls; unfold ratchet_At.b
  refine boxC (cs := [.int .i64 g0, vc, vs]) fun g5 w1 hg5 h1 c1 => ?_
  refine boxC (cs := [.int .i64 0, .slice none 0 0, .slice none 0 0]) fun g9 w2 hg9 h2 c2 => ?_
  have z1 := h1.size; have z2 := h2.size; have l1 := c1.lt; have l2 := c2.lt
  have h12 := h1.tr h2
  have c1 := c1.ext h2
  rw [c1.ld3]
  refine (?_ : GCalls Tryd.prog 49 [chainV g0 vc vs, .int .i64 gen] _ X w2)
  refine place_c (hv.ext h12) fun w3 h3 => ?_
  have z3 := h3.size
  have h13 := h12.tr h3
  have c1 := c1.ext h3
  have c2 := c2.ext h3
  have d1 : ¬ (win < 1) := by omega
  have d2 : ¬ (win > 8) := by omega
  have d3 : ¬ (gen < 0) := by omega
  have d4 : ¬ (gen ≥ 1073741824) := by omega
  have d5 : ¬ (g0 < 0) := by omega
  have d6 : ¬ (gen < g0) := by omega
  have e1 : IntKind.i64.wrap (gen - g0) = gen - g0 := wrap64 (by omega) (by omega)
  simp only [↓eBinI, ↓eDiv, ↓eShift, ↓eBinS, ↓ePick, ↓eNot, ↓eNeg, ↓eConv, ↓eConvS, ↓eExt0, ↓eExt1, ↓eExt2, ↓eFA, ↓eIA, ↓eLenSl, ↓eCapSl, ↓eLenS, ↓eMin, ↓eMax, ↓eCondT, ↓eCondF, ↓gIf_tt, ↓gIf_ff, ↓gIf_tf, ↓gIf_ft, ↓gIf_u, ↓gIfW_u, ↓gIfW_tt, ↓gIfW_ff, ↓gIfW_tf, ↓gIfW_ft, binI, divI, shiftI, add_mk, Nat.zero_add, cond_true, cond_false, decide_true, decide_false, Bool.not_true, Bool.not_false, Bool.and_true, Bool.true_and, Bool.and_false, Bool.false_and, Int.toNat_natCast, Nat.mul_one, d1, d2, d3, d4, ↓c1.c0, d5, d6, e1, hgw]
  refine ⟨[.int .i64 0, .slice none 0 0, .slice none 0 0], rfl, ?_⟩
  refine c2.setN (l' := [.int .i64 0, .slice none 0 0, .slice none 0 0]) rfl rfl (allOne3 rfl rfl rfl) fun we ce fe => ?_
  rw [ce.ld3]
  exact h _ (h13.tn fe (fun x hx => by omega))
end Go.Proofs.YtkpgmaiklfjjgaaDoor
end
section
set_option linter.unusedSimpArgs false
set_option linter.unusedVariables false
namespace Go.Proofs.YtkpgmaiklfjjgaaDoor
open Go Go.G Go.RowKit
variable {X : KX} {w : World} {K : KV} {D D' : Nat → Prop}
theorem ref01_Has_c {x : Value} {xs : List Int} {n : Int} (hx : Rd (.slice (.int .i64)) D w [x] xs) (h : ∀ w', Ext w w' → K (.bool (decide (n ∈ xs))) w') : GCalls Tryd.prog 22 [x, .int .i64 n] K X w := by
  obtain ⟨a1, c1, rfl, hc1, hl1⟩ := hx.form
  apply oublietteref01_Has.calls; unfold oublietteref01_Has.b
  refine oublietteref01_Has.loop1 (fun x5 w' => ∃ i : Nat, i ≤ xs.length ∧ x5 = .int .i64 i ∧ n ∉ xs.take i ∧ Ext w w') (fun x5 _ => xs.length - (iv x5).toNat) ⟨0, by omega, rfl, by simp, Fr.refl _ _⟩ ?_
  rintro x5 gg w1 ⟨i, hi, rfl, ht, h1⟩
  unfold oublietteref01_Has.b1
  simp only [↓eBinI, ↓eDiv, ↓eShift, ↓eBinS, ↓ePick, ↓eNot, ↓eNeg, ↓eConv, ↓eConvS, ↓eExt0, ↓eExt1, ↓eExt2, ↓eFA, ↓eIA, ↓eLenSl, ↓eCapSl, ↓eLenS, ↓eMin, ↓eMax, ↓eCondT, ↓eCondF, ↓gIf_tt, ↓gIf_ff, ↓gIf_tf, ↓gIf_ft, ↓gIf_u, ↓gIfW_u, ↓gIfW_tt, ↓gIfW_ff, ↓gIfW_tf, ↓gIfW_ft, binI, divI, shiftI, add_mk, Nat.zero_add, cond_true, cond_false, decide_true, decide_false, Bool.not_true, Bool.not_false, Bool.and_true, Bool.true_and, Bool.and_false, Bool.false_and, Int.toNat_natCast, Nat.mul_one]
  by_cases ci : (i : Int) < (xs.length : Int)
  · obtain ⟨b1, k1, u1, e1, s1, -, q1, r1⟩ := (hx.ext h1).idx rfl (i := i) (by omega)
    simp only [Value.slice.injEq] at e1
    obtain ⟨rfl, -, rfl⟩ := e1
    have v1 := r1.1
    simp only [List.cons.injEq, and_true] at v1
    subst v1
    simp only [↓eBinI, ↓eDiv, ↓eShift, ↓eBinS, ↓ePick, ↓eNot, ↓eNeg, ↓eConv, ↓eConvS, ↓eExt0, ↓eExt1, ↓eExt2, ↓eFA, ↓eIA, ↓eLenSl, ↓eCapSl, ↓eLenS, ↓eMin, ↓eMax, ↓eCondT, ↓eCondF, ↓gIf_tt, ↓gIf_ff, ↓gIf_tf, ↓gIf_ft, ↓gIf_u, ↓gIfW_u, ↓gIfW_tt, ↓gIfW_ff, ↓gIfW_tf, ↓gIfW_ft, binI, divI, shiftI, add_mk, Nat.zero_add, cond_true, cond_false, decide_true, decide_false, Bool.not_true, Bool.not_false, Bool.and_true, Bool.true_and, Bool.and_false, Bool.false_and, Int.toNat_natCast, Nat.mul_one, ci, ↓eLdW, q1, Option.some.injEq, exists_eq_left']
    refine ⟨by omega, by first | trivial | omega, ?_⟩
    by_cases cx : xs[i] = n
    · have e : (xs[i] == n) = true := by simpa using cx
      simp only [↓eBinI, ↓eDiv, ↓eShift, ↓eBinS, ↓ePick, ↓eNot, ↓eNeg, ↓eConv, ↓eConvS, ↓eExt0, ↓eExt1, ↓eExt2, ↓eFA, ↓eIA, ↓eLenSl, ↓eCapSl, ↓eLenS, ↓eMin, ↓eMax, ↓eCondT, ↓eCondF, ↓gIf_tt, ↓gIf_ff, ↓gIf_tf, ↓gIf_ft, ↓gIf_u, ↓gIfW_u, ↓gIfW_tt, ↓gIfW_ff, ↓gIfW_tf, ↓gIfW_ft, binI, divI, shiftI, add_mk, Nat.zero_add, cond_true, cond_false, decide_true, decide_false, Bool.not_true, Bool.not_false, Bool.and_true, Bool.true_and, Bool.and_false, Bool.false_and, Int.toNat_natCast, Nat.mul_one, e]
      have hk := h w1 h1
      rw [decide_eq_true (by rw [← cx]; exact List.getElem_mem _)] at hk
      exact hk
    · have e : (xs[i] == n) = false := by simpa using cx
      simp only [↓eBinI, ↓eDiv, ↓eShift, ↓eBinS, ↓ePick, ↓eNot, ↓eNeg, ↓eConv, ↓eConvS, ↓eExt0, ↓eExt1, ↓eExt2, ↓eFA, ↓eIA, ↓eLenSl, ↓eCapSl, ↓eLenS, ↓eMin, ↓eMax, ↓eCondT, ↓eCondF, ↓gIf_tt, ↓gIf_ff, ↓gIf_tf, ↓gIf_ft, ↓gIf_u, ↓gIfW_u, ↓gIfW_tt, ↓gIfW_ff, ↓gIfW_tf, ↓gIfW_ft, binI, divI, shiftI, add_mk, Nat.zero_add, cond_true, cond_false, decide_true, decide_false, Bool.not_true, Bool.not_false, Bool.and_true, Bool.true_and, Bool.and_false, Bool.false_and, Int.toNat_natCast, Nat.mul_one, e]
      rw [wrap64 (by omega) (by omega)]
      refine oublietteref01_Has.leaf1 ⟨i + 1, by omega, by simp, ?_, h1⟩ (by simp only [iv]; omega)
      rw [List.take_succ_eq_append_getElem (by omega)]
      intro hm
      rcases List.mem_append.1 hm with hm | hm
      · exact ht hm
      · exact cx ((List.mem_singleton.1 hm).symm)
  · simp only [↓eBinI, ↓eDiv, ↓eShift, ↓eBinS, ↓ePick, ↓eNot, ↓eNeg, ↓eConv, ↓eConvS, ↓eExt0, ↓eExt1, ↓eExt2, ↓eFA, ↓eIA, ↓eLenSl, ↓eCapSl, ↓eLenS, ↓eMin, ↓eMax, ↓eCondT, ↓eCondF, ↓gIf_tt, ↓gIf_ff, ↓gIf_tf, ↓gIf_ft, ↓gIf_u, ↓gIfW_u, ↓gIfW_tt, ↓gIfW_ff, ↓gIfW_tf, ↓gIfW_ft, binI, divI, shiftI, add_mk, Nat.zero_add, cond_true, cond_false, decide_true, decide_false, Bool.not_true, Bool.not_false, Bool.and_true, Bool.true_and, Bool.and_false, Bool.false_and, Int.toNat_natCast, Nat.mul_one, ci]
    have hk := h w1 h1
    have : i = xs.length := by omega
    subst this
    rw [List.take_length] at ht
    rw [decide_eq_false ht] at hk
    exact hk
theorem ref_Chain_c {x : Value} {cur : List UInt8} {n : Nat} (hx : Rd (.slice .byte) D w [x] cur) (hl : cur.length ≤ 1000) (hn : n ≤ 1000)
    (h : ∀ v w', Ext w w' → Rd (.slice .byte) (w.heap.size ≤ ·) w' [v] (curF cur n) → K v w') : GCalls Tryd.prog 52 [x, .string ⟨#[110, 101, 120, 116]⟩, .int .i64 n] K X w := by
  apply oublietteref09_Chain.calls; unfold oublietteref09_Chain.b
  refine bslice0 fun g w1 hg h1 l1 => ?_
  have ho : G.Own .byte (fun _ => False) w.heap.size w1 (.slice (some ⟨g, 0, none⟩) 0 0) [] := .inl ⟨rfl, _, rfl⟩
  refine ho.cat h1.size (fun h => h) rfl rfl (hx.ext h1) (fun cs h => h.flat rfl) (by simp; omega) fun v w2 hv hf _ => ?_
  rw [List.nil_append] at hv
  have h2 : Ext w w2 := h1.tn hf (fun x hx => hx.2)
  refine oublietteref09_Chain.loop1 (fun x7 x8 w' => ∃ i : Nat, i ≤ n ∧ x8 = .int .i64 i ∧ Ext w w' ∧ Rd (.slice .byte) (w.heap.size ≤ ·) w' [x7] (curF cur i)) (fun _ x8 _ => n - (iv x8).toNat)
    ⟨0, by omega, rfl, h2, own_rd hv (by show cur.length < _; omega)⟩ ?_
  rintro x7 x8 gg w3 ⟨i, hi, rfl, h3, hr⟩
  unfold oublietteref09_Chain.b1
  by_cases ci : (i : Int) < (n : Int)
  · have ck : (i : Int) < 1000 := by omega
    simp only [↓eBinI, ↓eDiv, ↓eShift, ↓eBinS, ↓ePick, ↓eNot, ↓eNeg, ↓eConv, ↓eConvS, ↓eExt0, ↓eExt1, ↓eExt2, ↓eFA, ↓eIA, ↓eLenSl, ↓eCapSl, ↓eLenS, ↓eMin, ↓eMax, ↓eCondT, ↓eCondF, ↓gIf_tt, ↓gIf_ff, ↓gIf_tf, ↓gIf_ft, ↓gIf_u, ↓gIfW_u, ↓gIfW_tt, ↓gIfW_ff, ↓gIfW_tf, ↓gIfW_ft, binI, divI, shiftI, add_mk, Nat.zero_add, cond_true, cond_false, decide_true, decide_false, Bool.not_true, Bool.not_false, Bool.and_true, Bool.true_and, Bool.and_false, Bool.false_and, Int.toNat_natCast, Nat.mul_one, ci, ck]
    refine ref_Derive_c (l := ⟨#[110, 101, 120, 116]⟩) hr (curF_len hl i) (show 4 ≤ 200 by omega) fun v' w4 h4 r4 => ?_
    rw [wrap64 (by omega) (by omega)]
    exact oublietteref09_Chain.leaf1 ⟨i + 1, by omega, by simp, h3.tr h4, r4.wide (fun b hb => Nat.le_trans h3.size hb)⟩ (by simp only [iv]; omega)
  · simp only [↓eBinI, ↓eDiv, ↓eShift, ↓eBinS, ↓ePick, ↓eNot, ↓eNeg, ↓eConv, ↓eConvS, ↓eExt0, ↓eExt1, ↓eExt2, ↓eFA, ↓eIA, ↓eLenSl, ↓eCapSl, ↓eLenS, ↓eMin, ↓eMax, ↓eCondT, ↓eCondF, ↓gIf_tt, ↓gIf_ff, ↓gIf_tf, ↓gIf_ft, ↓gIf_u, ↓gIfW_u, ↓gIfW_tt, ↓gIfW_ff, ↓gIfW_tf, ↓gIfW_ft, binI, divI, shiftI, add_mk, Nat.zero_add, cond_true, cond_false, decide_true, decide_false, Bool.not_true, Bool.not_false, Bool.and_true, Bool.true_and, Bool.and_false, Bool.false_and, Int.toNat_natCast, Nat.mul_one, ci]
    have : i = n := by omega
    subst this
    exact h _ _ h3 hr
theorem ref33_Key_c {x : Value} {cur : List UInt8} {n : Nat} (hx : Rd (.slice .byte) D w [x] cur) (hl : cur.length ≤ 1000) (hn : n ≤ 1000)
    (h : ∀ v w', Ext w w' → Rd (.slice .byte) (w.heap.size ≤ ·) w' [v] (deriveF (curF cur n) keyL) → K v w') : GCalls Tryd.prog 23 [x, .int .i64 n] K X w := by
  apply oublietteref33_Key.calls; unfold oublietteref33_Key.b
  refine ref_Chain_c hx hl hn fun v w1 h1 r1 => ?_
  refine ref_Derive_c (l := ⟨#[107, 101, 121]⟩) r1 (curF_len hl n) (show 3 ≤ 200 by omega) fun v' w2 h2 r2 => ?_
  exact h _ _ (h1.tr h2) (r2.wide (fun b hb => Nat.le_trans h1.size hb))
end Go.Proofs.YtkpgmaiklfjjgaaDoor
end
section
set_option linter.unusedSimpArgs false
set_option linter.unusedVariables false
namespace Go.Proofs.YtkpgmaiklfjjgaaDoor
open Go Go.G Go.RowKit
theorem curF_add (key : List UInt8) (a : Nat) : ∀ b, curF (curF key a) b = curF key (a + b)
  | 0 => rfl
  | b + 1 => by rw [curF, curF_add key a b, ← Nat.add_assoc, curF]
structure ChainOk (key : List UInt8) (g : Nat) (cur : List UInt8) (sk : List (Int × List UInt8)) (told : List Int) : Prop where
  cur : cur = curF key g
  low : ∀ p ∈ sk, 0 ≤ p.1 ∧ p.1 < (g : Int) ∧ p.2 = deriveF (curF key p.1.toNat) keyL
  dup : (sk.map (·.1)).Nodup
  told : ∀ t ∈ told, t < (g : Int) ∧ ∀ p ∈ sk, p.1 ≠ t
theorem ChainOk.start (key : List UInt8) : ChainOk key 0 key [] [] := ⟨rfl, by simp, by simp, by simp⟩
theorem placeF_neg {sk : List (Int × List UInt8)} {gen : Int} : placeF sk gen < 0 ↔ ∀ p ∈ sk, p.1 ≠ gen := by
  unfold placeF
  cases e : sk.findIdx? (fun x => x.1 == gen) with
  | none =>
    have := List.findIdx?_eq_none_iff.1 e
    simp only [show ((-1 : Int) < 0) = True from by simp, true_iff]
    intro p hp hg
    have := this p hp
    simp [hg] at this
  | some i =>
    obtain ⟨hi, h1, h2⟩ := List.findIdx?_eq_some_iff_getElem.1 e
    constructor
    · intro h; simp only at h; omega
    · intro h
      exact absurd (by simpa using h1) (h _ (List.getElem_mem hi))
theorem placeF_pos {sk : List (Int × List UInt8)} {gen : Int} (h : 0 ≤ placeF sk gen) : ∃ i, ∃ hi : i < sk.length, placeF sk gen = (i : Int) ∧ sk[i].1 = gen := by
  unfold placeF at *
  cases e : sk.findIdx? (fun x => x.1 == gen) with
  | none => rw [e] at h; simp only at h; omega
  | some i =>
    obtain ⟨hi, h1, h2⟩ := List.findIdx?_eq_some_iff_getElem.1 e
    exact ⟨i, hi, rfl, by simpa using h1⟩
theorem ChainOk.drop {key cur : List UInt8} {g m : Nat} {sk : List (Int × List UInt8)} {told : List Int} (h : ChainOk key g cur sk told) : ChainOk key g cur (sk.drop m) told :=
  ⟨h.cur, fun p hp => h.low p (List.mem_of_mem_drop hp), by rw [List.map_drop]; exact h.dup.sublist (List.drop_sublist _ _), fun t ht => ⟨(h.told t ht).1, fun p hp => (h.told t ht).2 p (List.mem_of_mem_drop hp)⟩⟩
theorem mem_skF {g0 : Int} {cur : List UInt8} {n : Nat} {p : Int × List UInt8} : p ∈ skF g0 cur n ↔ ∃ i, i < n ∧ p = (g0 + (i : Int), deriveF (curF cur i) keyL) := by
  unfold skF
  simp only [List.mem_map, List.mem_range]
  constructor
  · rintro ⟨i, hi, rfl⟩; exact ⟨i, hi, rfl⟩
  · rintro ⟨i, hi, rfl⟩; exact ⟨i, hi, rfl⟩
theorem ChainOk.go {key cur : List UInt8} {g n m : Nat} {sk : List (Int × List UInt8)} {told : List Int} (h : ChainOk key g cur sk told) :
    ChainOk key (g + n + 1) (curF cur (n + 1)) ((sk ++ skF g cur n).drop m) (told ++ [((g + n : Nat) : Int)]) := by
  refine ChainOk.drop ⟨?_, fun p hp => ?_, ?_, fun t ht => ?_⟩
  · rw [h.cur, curF_add]; rfl
  · rcases List.mem_append.1 hp with hp | hp
    · have := h.low p hp; exact ⟨this.1, by omega, this.2.2⟩
    · obtain ⟨i, hi, rfl⟩ := mem_skF.1 hp
      refine ⟨by show 0 ≤ (g : Int) + i; omega, by show (g : Int) + i < _; omega, ?_⟩
      show deriveF (curF cur i) keyL = deriveF (curF key ((g : Int) + i).toNat) keyL
      rw [h.cur, curF_add, show ((g : Int) + i).toNat = g + i by omega]
  · rw [List.map_append, List.nodup_append]
    refine ⟨h.dup, ?_, fun a ha b hb => ?_⟩
    · unfold skF
      rw [List.map_map]
      exact List.Pairwise.map _ (fun a b (hab : a ≠ b) => by simp only [Function.comp]; omega) List.nodup_range
    · obtain ⟨p, hp, rfl⟩ := List.mem_map.1 ha
      obtain ⟨q, hq, rfl⟩ := List.mem_map.1 hb
      obtain ⟨i, hi, rfl⟩ := mem_skF.1 hq
      have := (h.low p hp).2.1
      show p.1 ≠ (g : Int) + i
      omega
  · rcases List.mem_append.1 ht with ht | ht
    · obtain ⟨t1, t2⟩ := h.told t ht
      refine ⟨by omega, fun p hp => ?_⟩
      rcases List.mem_append.1 hp with hp | hp
      · exact t2 p hp
      · obtain ⟨i, hi, rfl⟩ := mem_skF.1 hp
        show (g : Int) + i ≠ t
        omega
    · obtain rfl := List.mem_singleton.1 ht
      refine ⟨by omega, fun p hp => ?_⟩
      rcases List.mem_append.1 hp with hp | hp
      · have := (h.low p hp).2.1; omega
      · obtain ⟨i, hi, rfl⟩ := mem_skF.1 hp
        show (g : Int) + i ≠ _
        omega
theorem ChainOk.less {key cur : List UInt8} {g i : Nat} {sk : List (Int × List UInt8)} {told : List Int} (h : ChainOk key g cur sk told) (hi : i < sk.length) : ChainOk key g cur (sk.eraseIdx i) (told ++ [sk[i].1]) := by
  refine ⟨h.cur, fun p hp => h.low p (List.mem_of_mem_eraseIdx hp), h.dup.sublist ((List.eraseIdx_sublist _ _).map _), fun t ht => ?_⟩
  rcases List.mem_append.1 ht with ht | ht
  · exact ⟨(h.told t ht).1, fun p hp => (h.told t ht).2 p (List.mem_of_mem_eraseIdx hp)⟩
  · obtain rfl := List.mem_singleton.1 ht
    refine ⟨(h.low _ (List.getElem_mem hi)).2.1, fun p hp he => ?_⟩
    obtain ⟨j, hj, hne, rfl⟩ := (List.mem_eraseIdx_iff_getElem).1 hp
    have hd := List.pairwise_iff_getElem.1 h.dup
    rcases Nat.lt_or_ge i j with c | c
    · have := hd i j (by simpa using hi) (by simpa using hj) c
      simp only [List.getElem_map] at this
      exact this he.symm
    · have := hd j i (by simpa using hj) (by simpa using hi) (by omega)
      simp only [List.getElem_map] at this
      exact this he
theorem ChainOk.hasnt {key cur : List UInt8} {g : Nat} {sk : List (Int × List UInt8)} {told : List Int} (h : ChainOk key g cur sk told) {t : Int} (ht : t ∈ told) : hasF g sk t = false := by
  have := h.told t ht
  unfold hasF
  have h1 : ¬ (t ≥ (g : Int)) := by omega
  have h2 := placeF_neg.2 this.2
  have h3 : ¬ (placeF sk t ≥ 0) := by omega
  simp [h1, h3]
end Go.Proofs.YtkpgmaiklfjjgaaDoor
end
section
set_option linter.unusedSimpArgs false
set_option linter.unusedVariables false
namespace Go.Proofs.YtkpgmaiklfjjgaaDoor
open Go Go.G Go.RowKit
theorem app_in {t : Ty} {D : Nat → Prop} {B E size bytes g n c : Nat} {zero : List Value} {w : World} {K : KV} {x : Value} {xs ys : List t.D} {ds : List Value}
    (h : G.Own t D B w (.slice (some ⟨g, 0, none⟩) n c) xs) (hs : size = t.n) (hx : lenV x = ys.length) (hr : reads w size ys.length x ds) (hy : RdL t D w ds ys) (hle : xs.length + ys.length ≤ c) (hc0 : 0 < c)
    (k : ∀ w', G.Own t D B w' (.slice (some ⟨g, 0, none⟩) (xs.length + ys.length) c) (xs ++ ys) → Fr (· = g) w w' → K (.slice (some ⟨g, 0, none⟩) (xs.length + ys.length) c) w') : pApp E size bytes zero (.slice (some ⟨g, 0, none⟩) n c) x w K := by
  subst hs
  rcases h with ⟨rfl, a, e⟩ | ⟨g', c', cs, T, fz, old, rest, e0, h1, h2, h3, h3', h4, h5, h6⟩
  · simp at e; omega
  simp only [Value.slice.injEq, Option.some.injEq, Addr.mk.injEq, and_true] at e0
  obtain ⟨rfl, rfl, rfl⟩ := e0
  have e := congrArg List.length h4
  rw [List.length_append, h6.len, Array.length_toList, h5] at e
  refine ⟨some ⟨g, 0, none⟩, xs.length, c, ds, rfl, by rw [hx]; exact hr, fun hle => ?_, fun hlt => by rw [hx] at hlt; omega⟩
  rw [hx] at hle ⊢
  have hmul : (xs.length + ys.length) * t.n ≤ c * t.n := Nat.mul_le_mul_right _ hle
  rw [Nat.add_mul] at hmul
  have hdl := hy.len
  have hol := h6.len
  have hnf : ∀ o, o < cs.size → w.frozen? ⟨g, o, none⟩ = false := fun o ho => by
    simp only [World.frozen?, h3]
    rw [Bool.and_eq_false_iff]
    by_cases hf : fz.1 ≤ o
    · exact .inr (by simpa using fun hh => h3' o ho hf hh)
    · exact .inl (by simpa using hf)
  refine ⟨fun j u hj => ?_, ?_⟩
  · have hjl := (List.getElem?_eq_some_iff.1 hj).1
    have hlt : xs.length * t.n + j < cs.size := by rw [h5]; omega
    rw [add_add _ _ _ rfl, add_mk, Nat.zero_add]
    exact ⟨⟨_, by rw [cell_mk h3]; exact Array.getElem?_eq_getElem hlt⟩, hnf _ hlt, hy.allOne u (List.mem_of_getElem? hj)⟩
  · rw [add_mk, Nat.zero_add]
    obtain ⟨cs', g1, g2⟩ := setCells_heap (g := g) (o := xs.length * t.n) ds 0 w cs old rest h3 h4 (by omega) (by omega)
    have hF := Fr.setCells ⟨g, xs.length * t.n, none⟩ ds 0 w
    refine k _ (.inr ⟨g, c, cs', T, fz, old ++ ds, rest.drop ds.length, by rw [List.length_append], h1, h2, g1, ?_, g2, ?_, ?_⟩) (hF.mono fun b _ e => e)
    · have hcs : cs'.size = cs.size := by
        have e1 := congrArg List.length g2
        have e2 := congrArg List.length h4
        simp at e1 e2
        omega
      rw [hcs]; exact h3'
    · have e1 := congrArg List.length g2
      simp at e1
      omega
    · exact RdL.append (hy.imp (fun _ h => h) (fun b hb hlt => hF.keep b hlt (fun e => h2 (by rw [← show b = g from e]; exact hb)))) (h6.imp (fun _ h => h) (fun b hb hlt => hF.keep b hlt (fun e => h2 (by rw [← show b = g from e]; exact hb))))
variable {X : KX} {w : World} {K : KV} {D D' : Nat → Prop}
theorem RdL_drop {t : Ty} {xs : List t.D} : ∀ {cs : List Value} (k : Nat), RdL t D w cs xs → RdL t D w (cs.drop (k * t.n)) (xs.drop k) := by
  induction xs with
  | nil => intro cs k h; have : cs = [] := h; subst this; simpa using h
  | cons x xs ih =>
    intro cs k h
    cases k with
    | zero => simpa using h
    | succ k =>
      obtain ⟨a, b, rfl, h1, h2⟩ := h
      have := h1.len
      have e : (a ++ b).drop ((k + 1) * t.n) = b.drop (k * t.n) := by
        rw [List.drop_append, List.drop_of_length_le (by rw [Nat.succ_mul]; omega), Nat.succ_mul, show k * t.n + t.n - a.length = k * t.n by omega, List.nil_append]
      rw [e]
      exact ih k h2
theorem own_reads {t : Ty} {D : Nat → Prop} {B g n c k size : Nat} {w : World} {xs : List t.D} (h : G.Own t D B w (.slice (some ⟨g, 0, none⟩) n c) xs) (hs : size = t.n) (hk : k ≤ xs.length) (hk0 : 0 < xs.length) {a : Option Addr} (ha : k < xs.length → a = some ⟨g, k * t.n, none⟩) {c' : Nat} :
    ∃ ds, reads w size (xs.drop k).length (.slice a (xs.drop k).length c') ds ∧ RdL t D w ds (xs.drop k) := by
  subst hs
  rcases h with ⟨rfl, a, e⟩ | ⟨g', c', cs, T, fz, old, rest, e0, h1, h2, h3, h3', h4, h5, h6⟩
  · simp at hk0
  simp only [Value.slice.injEq, Option.some.injEq, Addr.mk.injEq, and_true] at e0
  obtain ⟨rfl, rfl, rfl⟩ := e0
  have hd := RdL_drop k h6
  refine ⟨_, reads_slice hd.len fun i u hi => ?_, hd⟩
  have hlen := (List.getElem?_eq_some_iff.1 hi).1
  have hl := hd.len
  have hlt : k < xs.length := by
    rcases Nat.lt_or_ge k xs.length with c | c
    · exact c
    · rw [List.drop_of_length_le c] at hl; simp at hl hlen; omega
  refine ⟨_, ha hlt, ?_⟩
  rw [List.getElem?_drop] at hi
  rw [add_mk, cell_mk h3, ← Array.getElem?_toList, h4, List.getElem?_append_left (List.getElem?_eq_some_iff.1 hi).1]
  exact hi
theorem clear_rest {P : Program} {T e : TypeId} {t : Ty} {D : Nat → Prop} {B g c k n cc : Nat} {ty : TypeId} {zero : List Value} {w : World} {xs : List t.D} {K : KV} (h : G.Own t D B w (.slice (some ⟨g, 0, none⟩) k c) xs) (hc0 : 0 < c) (hn : k + (n + 1) ≤ c) (hT : P.underlying T = some (.slice e)) (hz : hasZero P e = true) (hzz : zeroL P e = zero) (hzn : zero.length = t.n) (hzo : ∀ v ∈ zero, one v = true)
    (kk : ∀ w', G.Own t D B w' (.slice (some ⟨g, 0, none⟩) k c) xs → Fr (· = g) w w' → K (.tuple #[]) w') :
    pRun P (Builtin.clear_ #[T] ty #[.slice ((some (⟨g, 0, none⟩ : Addr)).map (·.add (k * t.n))) (n + 1) cc]) w K := by
  rcases h with ⟨h0, a, e⟩ | ⟨g', c', cs, T', fz, old, rest, e, h1, h2, h3, h3', h4, h5, h6⟩
  · simp at e
    omega
  simp only [Value.slice.injEq, Option.some.injEq, Addr.mk.injEq, and_true] at e
  obtain ⟨rfl, rfl, rfl⟩ := e
  have hol := h6.len
  have hcl : cs.size = old.length + rest.length := by
    have := congrArg List.length h4
    simpa using this
  have hrow : (rowOf zero (n + 1)).length = (n + 1) * t.n := by
    have : ∀ m, (rowOf zero m).length = m * t.n := fun m => by
      induction m with
      | zero => simp [rowOf]
      | succ m ih => simp only [rowOf, List.replicate_succ, List.flatten_cons, List.length_append, hzn] at ih ⊢; rw [ih, Nat.succ_mul]; omega
    exact this _
  have hfit : xs.length * t.n + (n + 1) * t.n ≤ cs.size := by
    rw [h5, ← Nat.add_mul]; exact Nat.mul_le_mul_right _ hn
  have hall : ∀ v ∈ rowOf zero (n + 1), one v = true := fun v hv => by
    unfold rowOf at hv
    rw [List.mem_flatten] at hv
    obtain ⟨l, hl, hv⟩ := hv
    rw [List.eq_of_mem_replicate hl] at hv
    exact hzo v hv
  have hadd : ((⟨g, 0, none⟩ : Addr).add (xs.length * t.n)) = ⟨g, xs.length * t.n, none⟩ := by rw [add_mk, Nat.zero_add]
  have hcs : canSet w ⟨g, xs.length * t.n, none⟩ (rowOf (zeroL P e) (n + 1)) := by
    rw [hzz]
    intro j v hj
    have hjl := (List.getElem?_eq_some_iff.1 hj).1
    have hlt : xs.length * t.n + j < cs.size := by omega
    rw [add_mk]
    refine ⟨⟨_, by rw [cell_mk h3]; exact Array.getElem?_eq_getElem hlt⟩, ?_, hall v (List.mem_of_getElem? hj)⟩
    simp only [World.frozen?, h3]
    rw [Bool.and_eq_false_iff]
    by_cases hf : fz.1 ≤ xs.length * t.n + j
    · exact .inr (by simpa using fun hh => h3' _ hlt hf hh)
    · exact .inl (by simpa using hf)
  refine ⟨.tuple #[], setCells w ⟨g, xs.length * t.n, none⟩ 0 (rowOf (zeroL P e) (n + 1)), ?_, kk _ ?_ (Fr.setCells ⟨g, xs.length * t.n, none⟩ (rowOf (zeroL P e) (n + 1)) 0 w)⟩
  · simp only [Option.map_some, hadd]
    exact clear_run hT hz hcs
  · rw [hzz]
    have hF := Fr.setCells ⟨g, xs.length * t.n, none⟩ (rowOf zero (n + 1)) 0 w
    obtain ⟨cs', g1, g2⟩ := setCells_heap (g := g) (o := xs.length * t.n) (rowOf zero (n + 1)) 0 w cs old rest h3 h4 (by omega) (by omega)
    have hsz : cs'.size = cs.size := by
      have := congrArg List.length g2
      simp at this
      omega
    refine .inr ⟨g, c, cs', T', fz, old, rowOf zero (n + 1) ++ rest.drop (rowOf zero (n + 1)).length, rfl, h1, h2, g1, by rw [hsz]; exact h3', by rw [g2, List.append_assoc], by rw [hsz]; exact h5, ?_⟩
    exact h6.imp (fun _ h => h) (fun b hb hlt => hF.keep b hlt fun e => h2 (by rw [← show b = g from e]; exact hb))
set_option maxHeartbeats 1000000 in
theorem Delete_c {B g c i : Nat} {sk : List (Int × List UInt8)} (ho : G.Own tSkip D B w (.slice (some ⟨g, 0, none⟩) sk.length c) sk) (hi : i < sk.length) (hl : sk.length ≤ 1000) (hD : ∀ b, D b → b < w.heap.size)
    (h : ∀ w', Fr (· = g) w w' → G.Own tSkip D B w' (.slice (some ⟨g, 0, none⟩) (sk.eraseIdx i).length c) (sk.eraseIdx i) → K (.slice (some ⟨g, 0, none⟩) (sk.eraseIdx i).length c) w') :
    GCalls Tryd.prog 51 [.slice (some ⟨g, 0, none⟩) sk.length c, .int .i64 i, .int .i64 (i + 1)] K X w := by
  obtain ⟨_, _, hf, hcap⟩ := ho.form
  simp only [Value.slice.injEq] at hf
  obtain ⟨-, -, rfl⟩ := hf
  apply slices_Delete_record_Skip_record_Skip.calls; unfold slices_Delete_record_Skip_record_Skip.b
  have e0 : ((i : Int) == (i : Int) + 1) = false := by simp; omega
  simp only [↓eBinI, ↓eDiv, ↓eShift, ↓eBinS, ↓ePick, ↓eNot, ↓eNeg, ↓eConv, ↓eConvS, ↓eExt0, ↓eExt1, ↓eExt2, ↓eFA, ↓eIA, ↓eLenSl, ↓eCapSl, ↓eLenS, ↓eMin, ↓eMax, ↓eCondT, ↓eCondF, ↓gIf_tt, ↓gIf_ff, ↓gIf_tf, ↓gIf_ft, ↓gIf_u, ↓gIfW_u, ↓gIfW_tt, ↓gIfW_ff, ↓gIfW_tf, ↓gIfW_ft, binI, divI, shiftI, add_mk, Nat.zero_add, cond_true, cond_false, decide_true, decide_false, Bool.not_true, Bool.not_false, Bool.and_true, Bool.true_and, Bool.and_false, Bool.false_and, Int.toNat_natCast, Nat.mul_one, e0]
  refine eSl (l := i) (h := i + 1) (m := sk.length) (bnd_int (by omega)) (bnd_int (by omega)) (bnd_int (by omega)) (by omega) (by omega) (by omega) (by simp) ?_
  refine ⟨fun _ => True, trivial, ?_⟩
  have ho := ho.ext (Ext.drew w)
  have hE := Ext.drew w
  refine eSl (l := 0) (h := i) (m := c) bnd_none (bnd_int (by omega)) bnd_none (by omega) (by omega) (Nat.le_refl _) (by simp) ?_
  refine eSl (l := i + 1) (h := sk.length) (m := c) (bnd_int (by omega)) bnd_none bnd_none (by omega) (by omega) (Nat.le_refl _) (by simp) ?_
  rw [if_neg (show ¬ c = 0 by omega)]
  have e3 : (some (⟨g, 0, none⟩ : Addr)).map (·.add (0 * 2)) = some ⟨g, 0, none⟩ := by simp [add_mk]
  rw [e3]
  obtain ⟨ds, hr, hd⟩ := own_reads ho (size := 2) rfl (k := i + 1) (by omega) (by omega) (a := if c = i + 1 then some (⟨g, 0, none⟩ : Addr) else (some (⟨g, 0, none⟩ : Addr)).map (·.add ((i + 1) * 2))) (fun hlt => by rw [if_neg (by omega)]; simp [add_mk, Ty.n]) (c' := c - (i + 1))
  have hdl : (sk.drop (i + 1)).length = sk.length - (i + 1) := List.length_drop
  have htl : (sk.take i).length = i := by rw [List.length_take]; omega
  rw [hdl] at hr
  refine app_in (t := tSkip) (xs := sk.take i) (ys := sk.drop (i + 1)) (ho.take (k := i) (by omega)) rfl (by rw [hdl]; rfl) (by rw [hdl]; exact hr) hd (by omega) (by omega) fun w2 o2 f2 => ?_
  refine ⟨trivial, ?_⟩
  rw [← List.eraseIdx_eq_take_drop_succ] at o2
  have hel : (sk.eraseIdx i).length = sk.length - 1 := by rw [List.length_eraseIdx, if_pos hi]
  have hn : (sk.take i).length + (sk.drop (i + 1)).length = (sk.eraseIdx i).length := by omega
  rw [hn] at o2 ⊢
  simp only [↓eBinI, ↓eDiv, ↓eShift, ↓eBinS, ↓ePick, ↓eNot, ↓eNeg, ↓eConv, ↓eConvS, ↓eExt0, ↓eExt1, ↓eExt2, ↓eFA, ↓eIA, ↓eLenSl, ↓eCapSl, ↓eLenS, ↓eMin, ↓eMax, ↓eCondT, ↓eCondF, ↓gIf_tt, ↓gIf_ff, ↓gIf_tf, ↓gIf_ft, ↓gIf_u, ↓gIfW_u, ↓gIfW_tt, ↓gIfW_ff, ↓gIfW_tf, ↓gIfW_ft, binI, divI, shiftI, add_mk, Nat.zero_add, cond_true, cond_false, decide_true, decide_false, Bool.not_true, Bool.not_false, Bool.and_true, Bool.true_and, Bool.and_false, Bool.false_and, Int.toNat_natCast, Nat.mul_one]
  refine eSl (l := (sk.eraseIdx i).length) (h := sk.length) (m := c) (bnd_int (by omega)) (bnd_int (by omega)) bnd_none (by omega) (by omega) (Nat.le_refl _) (by simp) ?_
  rw [if_neg (show ¬ c = (sk.eraseIdx i).length by omega), show sk.length - (sk.eraseIdx i).length = 0 + 1 by omega]
  refine clear_rest (t := tSkip) (zero := [.int .i64 0, .slice none 0 0]) o2 (by omega) (by omega) Tryd.underlying28 (by kernel_rfl) (by kernel_rfl) rfl (by simp [Go.G.one]) fun w3 o3 f3 => ?_
  exact h w3 ((hE.mono (fun _ _ h => h.elim)).trans (f2.trans f3 (fun _ _ h => h)) (fun _ _ h => h)) o3
end Go.Proofs.YtkpgmaiklfjjgaaDoor
end
section
set_option linter.unusedSimpArgs false
set_option linter.unusedVariables false
namespace Go.Proofs.YtkpgmaiklfjjgaaDoor
open Go Go.G Go.RowKit
variable {X : KX} {w : World} {K : KV} {D D' : Nat → Prop}
set_option maxHeartbeats 1000000 in
theorem DropO_c {gen n : Int} {vc vs : Value} {cur : List UInt8} {sk : List (Int × List UInt8)} (hc : Rd (.slice .byte) D w [vc] cur) (hv : Rd (.slice tSkip) D' w [vs] sk) (hcl : cur.length ≤ 1000) (hsl : sk.length ≤ 1000) (hse : ∀ i (h : i < sk.length), sk[i].2.length ≤ 1000) (hn0 : -1000 ≤ n) (hn1 : n ≤ 1000)
    (h : ∀ vc' vs' w' D2 B, Ext w w' → w.heap.size ≤ B → B ≤ w'.heap.size → Rd (.slice .byte) (fun b => w.heap.size ≤ b ∧ b < B) w' [vc'] cur → G.Own tSkip D2 B w' vs' (sk.drop (sk.length - n.toNat)) → (∀ b, D2 b → B ≤ b ∧ b < w'.heap.size) → (∀ b, Blk vs' b → b < w'.heap.size) → K (chainV gen vc' vs') w') : GCalls Tryd.prog 50 [chainV gen vc vs, .int .i64 n] K X w := by
  obtain ⟨av, cv, rfl, hcv, hlv⟩ := hv.form
  have oc := one_of_rd hc
  apply ratchet_Drop.calls; unfold ratchet_Drop.b
  refine boxC (cs := [.int .i64 gen, vc, .slice av sk.length cv]) fun g2 w1 hg2 h1 c1 => ?_
  refine boxC (cs := [.int .i64 0, .slice none 0 0, .slice none 0 0]) fun g4 w2 hg4 h2 c2 => ?_
  have z1 := h1.size; have z2 := h2.size; have l1 := c1.lt; have l2 := c2.lt
  have h12 := h1.tr h2
  have c1 := c1.ext h2
  have e1 : (if n < 0 then (0 : Int) else n) = ((n.toNat : Nat) : Int) := by split <;> omega
  have e2 : IntKind.i64.wrap ((sk.length : Int) - ((n.toNat : Nat) : Int)) = (sk.length : Int) - ((n.toNat : Nat) : Int) := wrap64 (by omega) (by omega)
  have e3 : (if (0 : Int) < (sk.length : Int) - ((n.toNat : Nat) : Int) then (sk.length : Int) - ((n.toNat : Nat) : Int) else 0) = ((sk.length - n.toNat : Nat) : Int) := by split <;> omega
  simp only [↓eBinI, ↓eDiv, ↓eShift, ↓eBinS, ↓ePick, ↓eNot, ↓eNeg, ↓eConv, ↓eConvS, ↓eExt0, ↓eExt1, ↓eExt2, ↓eFA, ↓eIA, ↓eLenSl, ↓eCapSl, ↓eLenS, ↓eMin, ↓eMax, ↓eCondT, ↓eCondF, ↓gIf_tt, ↓gIf_ff, ↓gIf_tf, ↓gIf_ft, ↓gIf_u, ↓gIfW_u, ↓gIfW_tt, ↓gIfW_ff, ↓gIfW_tf, ↓gIfW_ft, binI, divI, shiftI, add_mk, Nat.zero_add, cond_true, cond_false, decide_true, decide_false, Bool.not_true, Bool.not_false, Bool.and_true, Bool.true_and, Bool.and_false, Bool.false_and, Int.toNat_natCast, Nat.mul_one, ↓c1.c2, e1, e2, e3]
  refine draw_ fun w3 h3 => ?_
  have c3 := c1.ext h3
  simp only [↓eBinI, ↓eDiv, ↓eShift, ↓eBinS, ↓ePick, ↓eNot, ↓eNeg, ↓eConv, ↓eConvS, ↓eExt0, ↓eExt1, ↓eExt2, ↓eFA, ↓eIA, ↓eLenSl, ↓eCapSl, ↓eLenS, ↓eMin, ↓eMax, ↓eCondT, ↓eCondF, ↓gIf_tt, ↓gIf_ff, ↓gIf_tf, ↓gIf_ft, ↓gIf_u, ↓gIfW_u, ↓gIfW_tt, ↓gIfW_ff, ↓gIfW_tf, ↓gIfW_ft, binI, divI, shiftI, add_mk, Nat.zero_add, cond_true, cond_false, decide_true, decide_false, Bool.not_true, Bool.not_false, Bool.and_true, Bool.true_and, Bool.and_false, Bool.false_and, Int.toNat_natCast, Nat.mul_one, ↓c3.e1]
  refine eSl (l := sk.length - n.toNat) (h := sk.length) (m := sk.length) (bnd_int (by omega)) (bnd_int (by omega)) (bnd_int (by omega)) (by omega) (by omega) (by omega) (by simp) ?_
  have h13 := h12.tr h3
  have z3 := h3.size
  have hcut := (hv.ext h13).cut (l := sk.length - n.toNat) (e := sk.length) (m := sk.length) (by omega) (by omega) (by omega) (by omega)
  rw [List.take_of_length_le (Nat.le_refl _)] at hcut
  refine Clone_c (hc.ext h13) (by omega) fun v4 w4 h4 o4 hv4 => ?_
  refine anew_ ?_
  try simp only [↓eBinI, ↓eDiv, ↓eShift, ↓eBinS, ↓ePick, ↓eNot, ↓eNeg, ↓eConv, ↓eConvS, ↓eExt0, ↓eExt1, ↓eExt2, ↓eFA, ↓eIA, ↓eLenSl, ↓eCapSl, ↓eLenS, ↓eMin, ↓eMax, ↓eCondT, ↓eCondF, ↓gIf_tt, ↓gIf_ff, ↓gIf_tf, ↓gIf_ft, ↓gIf_u, ↓gIfW_u, ↓gIfW_tt, ↓gIfW_ff, ↓gIfW_tf, ↓gIfW_ft, binI, divI, shiftI, add_mk, Nat.zero_add, cond_true, cond_false, decide_true, decide_false, Bool.not_true, Bool.not_false, Bool.and_true, Bool.true_and, Bool.and_false, Bool.false_and, Int.toNat_natCast, Nat.mul_one]
  have z4 := h4.size
  refine ratchet_copied_c (hcut.ext h4) (by rw [List.length_drop]; omega) (fun i hi => by rw [List.getElem_drop]; exact hse _ (by rw [List.length_drop] at hi; omega)) fun vs' w5 D2 h5 o5 hD2 hb5 => ?_
  refine ⟨h5, ?_⟩
  have z5 := h5.size
  have c5 := (c3.ext h4).ext h5
  have os' : one vs' = true := by obtain ⟨a, c, e, _⟩ := o5.form; rw [e]; rfl
  try simp only [↓eBinI, ↓eDiv, ↓eShift, ↓eBinS, ↓ePick, ↓eNot, ↓eNeg, ↓eConv, ↓eConvS, ↓eExt0, ↓eExt1, ↓eExt2, ↓eFA, ↓eIA, ↓eLenSl, ↓eCapSl, ↓eLenS, ↓eMin, ↓eMax, ↓eCondT, ↓eCondF, ↓gIf_tt, ↓gIf_ff, ↓gIf_tf, ↓gIf_ft, ↓gIf_u, ↓gIfW_u, ↓gIfW_tt, ↓gIfW_ff, ↓gIfW_tf, ↓gIfW_ft, binI, divI, shiftI, add_mk, Nat.zero_add, cond_true, cond_false, decide_true, decide_false, Bool.not_true, Bool.not_false, Bool.and_true, Bool.true_and, Bool.and_false, Bool.false_and, Int.toNat_natCast, Nat.mul_one]
  refine c5.set (i := 1) (by simp) hv4 fun w6 c6 f6 => ?_
  refine anew_ ?_
  try simp only [↓eBinI, ↓eDiv, ↓eShift, ↓eBinS, ↓ePick, ↓eNot, ↓eNeg, ↓eConv, ↓eConvS, ↓eExt0, ↓eExt1, ↓eExt2, ↓eFA, ↓eIA, ↓eLenSl, ↓eCapSl, ↓eLenS, ↓eMin, ↓eMax, ↓eCondT, ↓eCondF, ↓gIf_tt, ↓gIf_ff, ↓gIf_tf, ↓gIf_ft, ↓gIf_u, ↓gIfW_u, ↓gIfW_tt, ↓gIfW_ff, ↓gIfW_tf, ↓gIfW_ft, binI, divI, shiftI, add_mk, Nat.zero_add, cond_true, cond_false, decide_true, decide_false, Bool.not_true, Bool.not_false, Bool.and_true, Bool.true_and, Bool.and_false, Bool.false_and, Int.toNat_natCast, Nat.mul_one]
  refine c6.set (i := 2) (by simp) os' fun w7 c7 f7 => ?_
  have c7 : Cs w7 g2 [.int .i64 gen, v4, vs'] := c7
  refine anew_ ?_
  rw [c7.ld3]
  have f57 : Fr (· = g2) w5 w7 := f6.trans f7 (fun _ _ h => h)
  have cz : Cs w7 g4 [.int .i64 0, .slice none 0 0, .slice none 0 0] := (((c2.ext h3).ext h4).ext h5).fr f57 (by omega)
  refine cz.setN (l' := [.int .i64 gen, v4, vs']) rfl rfl (allOne3 rfl hv4 os') fun w8 c8 f8 => ?_
  rw [c8.ld3]
  have f58 : Fr (fun b => b = g2 ∨ b = g4) w5 w8 := (f57.mono (fun _ _ h => .inl h)).trans f8 (fun _ _ h => .inr h)
  have h15 := (h13.tr h4).tr h5
  have z8 := f58.size
  refine h v4 vs' w8 D2 w4.heap.size (h15.tn f58 (fun x hx => by omega)) (by omega) (by omega) ?_ ?_ (fun b hb => by have := hD2 b hb; omega) (fun b hb => by have := hb5 b hb; omega)
  · exact ((((rd_bd (own_rd o4 (by show cur.length < _; omega))).ext h5).fr f58 (fun b hb => by omega))).wide (fun b hb => by omega)
  · exact o5.fr f58 (fun b hb => by have := hD2 b hb; omega) (fun b hb hB => by omega)
end Go.Proofs.YtkpgmaiklfjjgaaDoor
end
