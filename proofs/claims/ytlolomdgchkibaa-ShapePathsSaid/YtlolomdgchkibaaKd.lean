/-
  The way up from a page to the root, and what turns a slice round.
-/
import Derived.Test.YtlolomdgchkibaaKc
set_option linter.unusedSimpArgs false
set_option linter.unusedVariables false
namespace Go.Proofs.Ytlolomdgchkibaa
open Go Go.G
variable {X : KX} {w : World} {K : KV} {a d l : Int}
abbrev nowhere : Nat → Prop := fun _ => False
abbrev Ints (B : Nat) (w : World) (v : Value) (xs : List Int) : Prop := Own (.int .i64) nowhere B w v xs
def upL (a : Int) : Nat → Int → List Int
  | 0, _ => []
  | f + 1, p => p :: if p = 0 then [] else upL a f ((p - 1).tdiv a)
def upF (a d l p : Int) : List Int := bif thereF a d l p then upL a (d.toNat + 1) p else []
theorem rdInt {D : Nat → Prop} {n : Int} (h0 : -9223372036854775808 ≤ n) (h1 : n ≤ 9223372036854775807) : Rd (.int .i64) D w [.int .i64 n] n := ⟨rfl, h0, h1⟩
theorem tdiv_lt {p : Int} {f : Nat} (h1 : 2 ≤ a) (hp : 0 < p) (h : p < nodF a (f + 1)) : 0 ≤ (p - 1).tdiv a ∧ (p - 1).tdiv a < nodF a f ∧ (p - 1).tdiv a < p := by
  rw [nod_succ] at h
  rw [Int.tdiv_eq_ediv_of_nonneg (by omega)]
  refine ⟨Int.ediv_nonneg (by omega) (by omega), Int.ediv_lt_of_lt_mul (by omega) (by rw [Int.mul_comm]; omega), ?_⟩
  have := Int.ediv_le_self a (show 0 ≤ p - 1 by omega)
  omega
theorem shape_up_c {p : Int} (h : ∀ v w', Ext w w' → Ints w.heap.size w' v (upF a d l p) → (∀ b, Blk v b → w.heap.size ≤ b ∧ b < w'.heap.size) → K v w') : GCalls Try.prog 60 [geo a d l, .int .i64 p] K X w := by
  apply shape_up.calls; unfold shape_up.b
  refine boxC fun g w1 _ h1 b => ?_
  simp only [↓eBinI, ↓eDiv, ↓eShift, ↓eBinS, ↓ePick, ↓eNot, ↓eNeg, ↓eConv, ↓eConvS, ↓eExt0, ↓eExt1, ↓eExt2, ↓eFA, ↓eIA, ↓eLenSl, ↓eCapSl, ↓eLenS, ↓eMin, ↓eMax, ↓eCondT, ↓eCondF, ↓gIf_tt, ↓gIf_ff, ↓gIf_tf, ↓gIf_ft, ↓gIf_u, ↓gIfW_u, ↓gIfW_tt, ↓gIfW_ff, ↓gIfW_tf, ↓gIfW_ft, binI, divI, shiftI, add_mk, Nat.zero_add, cond_true, cond_false, decide_true, decide_false, Bool.not_true, Bool.not_false, Bool.and_true, Bool.true_and, Bool.and_false, Bool.false_and, Int.toNat_natCast, Nat.mul_one, ↓b.ld3]
  refine shape_there_c fun w2 h2 => ?_
  replace b := b.ext h2
  have hg := b.lt
  have h12 := h1.tr h2
  unfold upF at h
  cases ht : thereF a d l p with
  | false =>
    simp only [↓eBinI, ↓eDiv, ↓eShift, ↓eBinS, ↓ePick, ↓eNot, ↓eNeg, ↓eConv, ↓eConvS, ↓eExt0, ↓eExt1, ↓eExt2, ↓eFA, ↓eIA, ↓eLenSl, ↓eCapSl, ↓eLenS, ↓eMin, ↓eMax, ↓eCondT, ↓eCondF, ↓gIf_tt, ↓gIf_ff, ↓gIf_tf, ↓gIf_ft, ↓gIf_u, ↓gIfW_u, ↓gIfW_tt, ↓gIfW_ff, ↓gIfW_tf, ↓gIfW_ft, binI, divI, shiftI, add_mk, Nat.zero_add, cond_true, cond_false, decide_true, decide_false, Bool.not_true, Bool.not_false, Bool.and_true, Bool.true_and, Bool.and_false, Bool.false_and, Int.toNat_natCast, Nat.mul_one, ht] at h ⊢
    exact h _ w2 h12 Own.nil (by rintro b ⟨a', n', c', e, _⟩; cases e)
  | true =>
    have hb := there_bd ht
    have hpg := pages_eq hb.2.2.2.1
    have hm := nod_mono (a := a) (by omega) (by omega) (i := d.toNat + 1) (j := 4) (by omega) (by omega)
    simp only [↓eBinI, ↓eDiv, ↓eShift, ↓eBinS, ↓ePick, ↓eNot, ↓eNeg, ↓eConv, ↓eConvS, ↓eExt0, ↓eExt1, ↓eExt2, ↓eFA, ↓eIA, ↓eLenSl, ↓eCapSl, ↓eLenS, ↓eMin, ↓eMax, ↓eCondT, ↓eCondF, ↓gIf_tt, ↓gIf_ff, ↓gIf_tf, ↓gIf_ft, ↓gIf_u, ↓gIfW_u, ↓gIfW_tt, ↓gIfW_ff, ↓gIfW_tf, ↓gIfW_ft, binI, divI, shiftI, add_mk, Nat.zero_add, cond_true, cond_false, decide_true, decide_false, Bool.not_true, Bool.not_false, Bool.and_true, Bool.true_and, Bool.and_false, Bool.false_and, Int.toNat_natCast, Nat.mul_one, ht] at h ⊢
    refine shape_up.loop1 (fun x1 x4 w' => ∃ (f : Nat) (q : Int) (done : List Int), f + 1 + done.length ≤ 4 ∧ 0 ≤ q ∧ q ≤ p ∧ q < nodF a (f + 1) ∧ x1 = .int .i64 q ∧ done ++ upL a (f + 1) q = upL a (d.toNat + 1) p ∧ Ext w2 w' ∧ Ints w2.heap.size w' x4 done ∧ (∀ b, Blk x4 b → w2.heap.size ≤ b ∧ b < w'.heap.size)) (fun x1 _ _ => (iv x1).toNat)
      ⟨d.toNat, p, [], by simp; omega, hb.1, Int.le_refl _, by omega, rfl, rfl, Fr.refl _ _, Own.nil, by rintro b ⟨a', n', c', e, _⟩; cases e⟩ ?_
    rintro x1 x4 gg w3 ⟨f, q, done, hf, hq, hqp, hqf, rfl, heq, h3, ho, hbl⟩
    replace b := b.ext h3
    unfold shape_up.b1
    refine bslice1 rfl fun r w4 _ h4 br => ?_
    refine (ho.ext h4).push1 br (rdInt (by omega) (by omega)) (Nat.le_trans h3.size h4.size) (fun h => h) rfl (by omega) fun v' w5 ho' hf' hb' => ?_
    have h35 : Ext w2 w5 := (h3.tr h4).tn hf' (fun x hx => hx.2)
    have hbl' : ∀ b, Blk v' b → w2.heap.size ≤ b ∧ b < w5.heap.size := fun b hb => by
      rcases hb' b hb with h | h
      · have := hbl b h; have := h4.size; have := hf'.size; omega
      · have := h3.size; have := h4.size; omega
    by_cases c : q = 0
    · subst c
      simp only [↓eBinI, ↓eDiv, ↓eShift, ↓eBinS, ↓ePick, ↓eNot, ↓eNeg, ↓eConv, ↓eConvS, ↓eExt0, ↓eExt1, ↓eExt2, ↓eFA, ↓eIA, ↓eLenSl, ↓eCapSl, ↓eLenS, ↓eMin, ↓eMax, ↓eCondT, ↓eCondF, ↓gIf_tt, ↓gIf_ff, ↓gIf_tf, ↓gIf_ft, ↓gIf_u, ↓gIfW_u, ↓gIfW_tt, ↓gIfW_ff, ↓gIfW_tf, ↓gIfW_ft, binI, divI, shiftI, add_mk, Nat.zero_add, cond_true, cond_false, decide_true, decide_false, Bool.not_true, Bool.not_false, Bool.and_true, Bool.true_and, Bool.and_false, Bool.false_and, Int.toNat_natCast, Nat.mul_one, beq_self_eq_true]
      refine h _ w5 (h12.tr h35) ?_ (fun b hb => ?_)
      · have e : upL a (f + 1) 0 = [0] := by simp [upL]
        rw [← heq, e]
        exact ho'.low h12.size
      · have := hbl' b hb; have := h12.size; omega
    · have e : (q == 0) = false := by simpa using c
      have b5 := (b.ext h4).fr hf' (fun h => by have := h.2; omega)
      obtain ⟨f', rfl⟩ : ∃ f', f = f' + 1 := ⟨f - 1, by
        rcases Nat.eq_zero_or_pos f with h | h
        · subst h; simp [nodF, powF] at hqf; omega
        · omega⟩
      have hq' := tdiv_lt (a := a) (p := q) (f := f' + 1) (by omega) (by omega) hqf
      have htq : thereF a d l q = true := by unfold thereF; simp; omega
      have hpar : parentF a d l q = (q - 1).tdiv a := by unfold parentF; rw [if_neg (by simp [htq, c])]
      simp only [↓eBinI, ↓eDiv, ↓eShift, ↓eBinS, ↓ePick, ↓eNot, ↓eNeg, ↓eConv, ↓eConvS, ↓eExt0, ↓eExt1, ↓eExt2, ↓eFA, ↓eIA, ↓eLenSl, ↓eCapSl, ↓eLenS, ↓eMin, ↓eMax, ↓eCondT, ↓eCondF, ↓gIf_tt, ↓gIf_ff, ↓gIf_tf, ↓gIf_ft, ↓gIf_u, ↓gIfW_u, ↓gIfW_tt, ↓gIfW_ff, ↓gIfW_tf, ↓gIfW_ft, binI, divI, shiftI, add_mk, Nat.zero_add, cond_true, cond_false, decide_true, decide_false, Bool.not_true, Bool.not_false, Bool.and_true, Bool.true_and, Bool.and_false, Bool.false_and, Int.toNat_natCast, Nat.mul_one, e, ↓b5.ld3]
      refine shape_Parent_c fun w6 h6 => ?_
      rw [hpar]
      refine shape_up.leaf1 ⟨f', (q - 1).tdiv a, done ++ [q], by simp; omega, hq'.1, by omega, hq'.2.1, rfl, ?_, h35.tr h6, ho'.ext h6, fun b hb => ?_⟩ (by simp only [iv]; omega)
      · rw [← heq]; conv => rhs; rw [upL]
        rw [if_neg c]; simp
      · have := hbl' b hb; have := h6.size; omega
theorem slices_Reverse_c {B : Nat} {v : Value} {xs : List Int} (hv : Ints B w v xs) (hl : xs.length < 1000000) (h : ∀ w', Ints B w' v xs.reverse → Fr (fun b => Blk v b ∧ B ≤ b) w w' → K (.tuple #[]) w') : GCalls Try.prog 74 [v] K X w := by
  obtain ⟨a0, c0, rfl, hc⟩ := hv.form
  apply slices_Reverse_int_int.calls; unfold slices_Reverse_int_int.b
  simp only [↓eBinI, ↓eDiv, ↓eShift, ↓eBinS, ↓ePick, ↓eNot, ↓eNeg, ↓eConv, ↓eConvS, ↓eExt0, ↓eExt1, ↓eExt2, ↓eFA, ↓eIA, ↓eLenSl, ↓eCapSl, ↓eLenS, ↓eMin, ↓eMax, ↓eCondT, ↓eCondF, ↓gIf_tt, ↓gIf_ff, ↓gIf_tf, ↓gIf_ft, ↓gIf_u, ↓gIfW_u, ↓gIfW_tt, ↓gIfW_ff, ↓gIfW_tf, ↓gIfW_ft, binI, divI, shiftI, add_mk, Nat.zero_add, cond_true, cond_false, decide_true, decide_false, Bool.not_true, Bool.not_false, Bool.and_true, Bool.true_and, Bool.and_false, Bool.false_and, Int.toNat_natCast, Nat.mul_one]
  rw [wrap64 (by omega) (by omega)]
  refine slices_Reverse_int_int.loop1 (fun x2 x3 w' => ∃ (i : Nat) (ys : List Int), 2 * i ≤ xs.length + 1 ∧ x2 = .int .i64 i ∧ x3 = .int .i64 ((xs.length : Int) - 1 - i) ∧ ys.length = xs.length ∧
      (∀ k, k < xs.length → ys[k]? = if k < i ∨ xs.length ≤ k + i then xs[xs.length - 1 - k]? else xs[k]?) ∧ Ints B w' (.slice a0 xs.length c0) ys ∧ Fr (fun b => Blk (.slice a0 xs.length c0) b ∧ B ≤ b) w w') (fun x2 _ _ => xs.length + 1 - (iv x2).toNat)
      ⟨0, xs, by omega, rfl, by simp, rfl, fun k hk => by rw [if_neg (by omega)], hv, Fr.refl _ _⟩ ?_
  rintro x2 x3 gg w1 ⟨i, ys, hi, rfl, rfl, hyl, hys, ho, hf⟩
  unfold slices_Reverse_int_int.b1
  by_cases c : (i : Int) < (xs.length : Int) - 1 - i
  · obtain ⟨g, c1, e, hBg, hgl⟩ := ho.some_of (by omega)
    simp only [Value.slice.injEq] at e
    obtain ⟨rfl, -, rfl⟩ := e
    have hil : i < ys.length := by omega
    have hjl : xs.length - 1 - i < ys.length := by omega
    obtain ⟨u, hu, hru⟩ := ho.cell1 rfl hil
    obtain ⟨u', hu', hru'⟩ := ho.cell1 rfl hjl
    have ej : ((xs.length : Int) - 1 - i).toNat = xs.length - 1 - i := by omega
    have ei : ((i : Nat) : Int).toNat = i := by omega
    have eu := hru.1; have eu' := hru'.1
    simp only [List.cons.injEq, and_true] at eu eu'
    simp only [↓eBinI, ↓eDiv, ↓eShift, ↓eBinS, ↓ePick, ↓eNot, ↓eNeg, ↓eConv, ↓eConvS, ↓eExt0, ↓eExt1, ↓eExt2, ↓eFA, ↓eIA, ↓eLenSl, ↓eCapSl, ↓eLenS, ↓eMin, ↓eMax, ↓eCondT, ↓eCondF, ↓gIf_tt, ↓gIf_ff, ↓gIf_tf, ↓gIf_ft, ↓gIf_u, ↓gIfW_u, ↓gIfW_tt, ↓gIfW_ff, ↓gIfW_tf, ↓gIfW_ft, binI, divI, shiftI, add_mk, Nat.zero_add, cond_true, cond_false, decide_true, decide_false, Bool.not_true, Bool.not_false, Bool.and_true, Bool.true_and, Bool.and_false, Bool.false_and, Int.toNat_natCast, Nat.mul_one, c]
    refine draw_ fun w2 h2 => ?_
    simp only [↓eBinI, ↓eDiv, ↓eShift, ↓eBinS, ↓ePick, ↓eNot, ↓eNeg, ↓eConv, ↓eConvS, ↓eExt0, ↓eExt1, ↓eExt2, ↓eFA, ↓eIA, ↓eLenSl, ↓eCapSl, ↓eLenS, ↓eMin, ↓eMax, ↓eCondT, ↓eCondF, ↓gIf_tt, ↓gIf_ff, ↓gIf_tf, ↓gIf_ft, ↓gIf_u, ↓gIfW_u, ↓gIfW_tt, ↓gIfW_ff, ↓gIfW_tf, ↓gIfW_ft, binI, divI, shiftI, add_mk, Nat.zero_add, cond_true, cond_false, decide_true, decide_false, Bool.not_true, Bool.not_false, Bool.and_true, Bool.true_and, Bool.and_false, Bool.false_and, Int.toNat_natCast, Nat.mul_one, ej, ↓eLdE (h2.cell hu'), ↓eLdE (h2.cell hu)]
    refine ⟨by omega, by omega, by omega, by omega, by omega, by omega, ?_⟩
    refine (ho.ext h2).set1 rfl hil (hru'.ext h2) fun w3 ho3 hf3 => anew_ ?_
    refine ⟨by omega, by omega, ?_⟩
    refine ho3.set1 rfl (by simp; omega) (u := u) (y := ys[i]) ⟨hru.1, hru.2⟩ fun w4 ho4 hf4 => anew_ ?_
    rw [wrap64 (by omega) (by omega), wrap64 (by omega) (by omega)]
    have hi' := hys i (by omega)
    have hj' := hys (xs.length - 1 - i) (by omega)
    rw [if_neg (by omega), List.getElem?_eq_getElem hil] at hi'
    rw [if_neg (by omega), List.getElem?_eq_getElem hjl] at hj'
    refine slices_Reverse_int_int.leaf1 ⟨i + 1, _, by omega, by simp, by congr 1; omega, by simp [hyl], fun k hk => ?_, ho4, ?_⟩ (by simp only [iv]; omega)
    · by_cases kj : k = xs.length - 1 - i
      · subst kj
        rw [List.getElem?_set_self (by simp; omega), hi', if_pos (by omega)]
        congr 1; omega
      · rw [List.getElem?_set_ne (Ne.symm kj)]
        by_cases ki : k = i
        · subst ki
          rw [List.getElem?_set_self (by omega), hj', if_pos (by omega)]
        · rw [List.getElem?_set_ne (Ne.symm ki), hys k hk]
          by_cases c1 : k < i ∨ xs.length ≤ k + i
          · rw [if_pos c1, if_pos (by omega)]
          · rw [if_neg c1, if_neg (by omega)]
    · have hT : ∀ x, x = g → Blk (.slice (some ⟨g, 0, none⟩) xs.length c0) x ∧ B ≤ x := fun x e => ⟨⟨_, _, _, rfl, e.symm⟩, e ▸ hBg⟩
      exact ((hf.trans h2 (fun _ _ h => h.elim)).trans hf3 (fun x _ e => hT x e)).trans hf4 (fun x _ e => hT x e)
  · simp only [↓eBinI, ↓eDiv, ↓eShift, ↓eBinS, ↓ePick, ↓eNot, ↓eNeg, ↓eConv, ↓eConvS, ↓eExt0, ↓eExt1, ↓eExt2, ↓eFA, ↓eIA, ↓eLenSl, ↓eCapSl, ↓eLenS, ↓eMin, ↓eMax, ↓eCondT, ↓eCondF, ↓gIf_tt, ↓gIf_ff, ↓gIf_tf, ↓gIf_ft, ↓gIf_u, ↓gIfW_u, ↓gIfW_tt, ↓gIfW_ff, ↓gIfW_tf, ↓gIfW_ft, binI, divI, shiftI, add_mk, Nat.zero_add, cond_true, cond_false, decide_true, decide_false, Bool.not_true, Bool.not_false, Bool.and_true, Bool.true_and, Bool.and_false, Bool.false_and, Int.toNat_natCast, Nat.mul_one, c]
    have e : ys = xs.reverse := by
      apply List.ext_getElem?
      intro k
      by_cases hk : k < xs.length
      · rw [hys k hk, List.getElem?_reverse hk]
        split
        · rfl
        · congr 1; omega
      · rw [List.getElem?_eq_none (by omega), List.getElem?_eq_none (by simp; omega)]
    rw [e] at ho
    exact h w1 ho hf
end Go.Proofs.Ytlolomdgchkibaa
