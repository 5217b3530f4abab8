/-
  A term that comes to be, of the program.
  The program's table: a term is found or comes to be; acts.
  The program's acts on its table.
  The reference's table: terms that come to be.
  The reference's acts.
-/
import Derived.Test.YtkpgmaiklfjjgaaMaaj
section
set_option linter.unusedSimpArgs false
set_option linter.unusedVariables false
set_option maxRecDepth 100000
namespace Go.Proofs.Ytkpgmaiklfjjgaa
open Go Go.G
variable {X : KX} {w : World} {K : KV} {D D' : Nat → Prop}
theorem wrapIn (n : Int) : InI (IntKind.i64.wrap n) := by
  unfold InI
  simp only [IntKind.wrap, IntKind.signed, IntKind.bits, Int.bmod, if_true]
  first | omega | (simp; omega)
theorem put_end {gT : Nat} {vl vs vm va vl' vs' : Value} {n c : Nat} {a : Option Addr} (c0 : Cs w gT [vl, vs, vm, va]) (hl : vl' = .slice a n c) (os : one vs' = true) (h : ∀ w', Fr (· = gT) w w' → Cs w' gT [vl', vs', vm, va] → K (.int .i64 (n : Nat)) w') :
                (pNil (.pointer (some ⟨gT, 0, none⟩)) fun t44 =>
                pFA 0 t44 fun t45 =>
                pSt t45 vl' w fun _ w =>
                anew w fun S w =>
                pNil (.pointer (some ⟨gT, 0, none⟩)) fun t46 =>
                pFA 1 t46 fun t47 =>
                pSt t47 vs' w fun _ w =>
                anew w fun S w =>
                pNil (.pointer (some ⟨gT, 0, none⟩)) fun t49 =>
                pFA 0 t49 fun t50 =>
                pLd (· = w) t50 fun t51 =>
                pLenSl t51 fun t52 =>
                K t52 w) := by
  subst hl
  simp only [↓eBinI, ↓eDiv, ↓eShift, ↓eBinS, ↓ePick, ↓eNot, ↓eNeg, ↓eConv, ↓eConvS, ↓eExt0, ↓eExt1, ↓eExt2, ↓eFA, ↓eIA, ↓eLenSl, ↓eCapSl, ↓eLenS, ↓eMin, ↓eMax, ↓eCondT, ↓eCondF, ↓gIf_tt, ↓gIf_ff, ↓gIf_tf, ↓gIf_ft, ↓gIf_u, ↓gIfW_u, ↓gIfW_tt, ↓gIfW_ff, ↓gIfW_tf, ↓gIfW_ft, binI, divI, shiftI, add_mk, Nat.zero_add, cond_true, cond_false, decide_true, decide_false, Bool.not_true, Bool.not_false, Bool.and_true, Bool.true_and, Bool.and_false, Bool.false_and, Int.toNat_natCast, Nat.mul_one, ↓ePNil]
  refine c0.set (i := 0) (by simp) rfl fun w1 c1 f1 => ?_
  refine anew_ ?_
  try simp only [↓eBinI, ↓eDiv, ↓eShift, ↓eBinS, ↓ePick, ↓eNot, ↓eNeg, ↓eConv, ↓eConvS, ↓eExt0, ↓eExt1, ↓eExt2, ↓eFA, ↓eIA, ↓eLenSl, ↓eCapSl, ↓eLenS, ↓eMin, ↓eMax, ↓eCondT, ↓eCondF, ↓gIf_tt, ↓gIf_ff, ↓gIf_tf, ↓gIf_ft, ↓gIf_u, ↓gIfW_u, ↓gIfW_tt, ↓gIfW_ff, ↓gIfW_tf, ↓gIfW_ft, binI, divI, shiftI, add_mk, Nat.zero_add, cond_true, cond_false, decide_true, decide_false, Bool.not_true, Bool.not_false, Bool.and_true, Bool.true_and, Bool.and_false, Bool.false_and, Int.toNat_natCast, Nat.mul_one, ↓ePNil]
  refine c1.set (i := 1) (by simp) os fun w2 c2 f2 => ?_
  refine anew_ ?_
  have c2 : Cs w2 gT [.slice a n c, vs', vm, va] := c2
  simp only [↓eBinI, ↓eDiv, ↓eShift, ↓eBinS, ↓ePick, ↓eNot, ↓eNeg, ↓eConv, ↓eConvS, ↓eExt0, ↓eExt1, ↓eExt2, ↓eFA, ↓eIA, ↓eLenSl, ↓eCapSl, ↓eLenS, ↓eMin, ↓eMax, ↓eCondT, ↓eCondF, ↓gIf_tt, ↓gIf_ff, ↓gIf_tf, ↓gIf_ft, ↓gIf_u, ↓gIfW_u, ↓gIfW_tt, ↓gIfW_ff, ↓gIfW_tf, ↓gIfW_ft, binI, divI, shiftI, add_mk, Nat.zero_add, cond_true, cond_false, decide_true, decide_false, Bool.not_true, Bool.not_false, Bool.and_true, Bool.true_and, Bool.and_false, Bool.false_and, Int.toNat_natCast, Nat.mul_one, ↓ePNil, ↓c2.c0]
  exact h _ (f1.trans f2 (fun _ _ h => h)) c2
set_option maxHeartbeats 2000000 in
theorem put_c {gT : Nat} {vl vs vm va v x2 : Value} {xs : List Value} {sz parts : List Int} (c0 : Cs w gT [vl, vs, vm, va]) (ho : G.Own .raw NoB 0 w vl xs) (hs : G.Own (.int .i64) NoB 0 w vs sz) (hsl : sz.length = xs.length) (hp : Rd (.slice (.int .i64)) D w [x2] parts) (hin : ∀ p ∈ parts, 1 ≤ p ∧ p ≤ (xs.length : Int))
    (hv : one v = true) (hxl : xs.length ≤ 10000) (b1 : ∀ b, Blk vl b → b < w.heap.size ∧ b ≠ gT ∧ ¬ Blk vs b) (b2 : ∀ b, Blk vs b → b < w.heap.size ∧ b ≠ gT)
    (h : ∀ vl' vs' w' sz', Fr (fun b => b = gT ∨ Blk vl b ∨ Blk vs b) w w' → Cs w' gT [vl', vs', vm, va] → G.Own .raw NoB 0 w' vl' (xs ++ [v]) → G.Own (.int .i64) NoB 0 w' vs' sz' → sz'.length = xs.length + 1 →
      (∀ b, Blk vl' b → (Blk vl b ∨ w.heap.size ≤ b) ∧ b < w'.heap.size ∧ b ≠ gT ∧ ¬ Blk vs' b) → (∀ b, Blk vs' b → (Blk vs b ∨ w.heap.size ≤ b) ∧ b < w'.heap.size ∧ b ≠ gT) → K (.int .i64 ((xs.length : Int) + 1)) w') :
    GCalls Try.prog 37 [.pointer (some ⟨gT, 0, none⟩), v, x2] K X w := by
  obtain ⟨a2, k2, rfl, _, hpl⟩ := hp.form
  apply term_Table_put.calls; unfold term_Table_put.b
  simp only [↓eBinI, ↓eDiv, ↓eShift, ↓eBinS, ↓ePick, ↓eNot, ↓eNeg, ↓eConv, ↓eConvS, ↓eExt0, ↓eExt1, ↓eExt2, ↓eFA, ↓eIA, ↓eLenSl, ↓eCapSl, ↓eLenS, ↓eMin, ↓eMax, ↓eCondT, ↓eCondF, ↓gIf_tt, ↓gIf_ff, ↓gIf_tf, ↓gIf_ft, ↓gIf_u, ↓gIfW_u, ↓gIfW_tt, ↓gIfW_ff, ↓gIfW_tf, ↓gIfW_ft, binI, divI, shiftI, add_mk, Nat.zero_add, cond_true, cond_false, decide_true, decide_false, Bool.not_true, Bool.not_false, Bool.and_true, Bool.true_and, Bool.and_false, Bool.false_and, Int.toNat_natCast, Nat.mul_one]
  refine term_Table_put.loop1 (fun x7 x12 w' => ∃ (i : Nat) (s : Int), i ≤ parts.length ∧ x12 = .int .i64 (i : Int) ∧ x7 = .int .i64 s ∧ InI s ∧ w' = w) (fun _ x12 _ => parts.length - (iv x12).toNat) ⟨0, 1, by omega, rfl, rfl, ⟨by omega, by omega⟩, rfl⟩ ?_
  rintro x7 x12 gg w1 ⟨i, s, hi, rfl, rfl, hs1, rfl⟩
  unfold term_Table_put.b1
  by_cases ci : (i : Int) < (parts.length : Int)
  · obtain ⟨ad, k1, u1, e1, s1, hd, q1, r1⟩ := hp.idx rfl (i := i) (by omega)
    simp only [Value.slice.injEq] at e1
    obtain ⟨rfl, -, rfl⟩ := e1
    have v1 := r1.1
    simp only [List.cons.injEq, and_true] at v1
    subst v1
    have hpi := hin _ (List.getElem_mem (by omega : i < parts.length))
    obtain ⟨m, hm⟩ : ∃ m : Nat, parts[i] = (m : Int) + 1 := ⟨(parts[i] - 1).toNat, by omega⟩
    have rs := hs.rd (D' := fun _ => True) (fun _ h => h.elim) (fun _ _ => trivial) (by show sz.length < _; omega)
    obtain ⟨ad2, k3, u2, e2, s2, _, q2, r2⟩ := rs.idx rfl (i := m) (by omega)
    subst e2
    have v2 := r2.1
    simp only [List.cons.injEq, and_true] at v2
    subst v2
    have e0 : IntKind.i64.wrap (parts[i] - 1) = (m : Int) := by rw [wrap64 (by omega) (by omega)]; omega
    simp only [↓eBinI, ↓eDiv, ↓eShift, ↓eBinS, ↓ePick, ↓eNot, ↓eNeg, ↓eConv, ↓eConvS, ↓eExt0, ↓eExt1, ↓eExt2, ↓eFA, ↓eIA, ↓eLenSl, ↓eCapSl, ↓eLenS, ↓eMin, ↓eMax, ↓eCondT, ↓eCondF, ↓gIf_tt, ↓gIf_ff, ↓gIf_tf, ↓gIf_ft, ↓gIf_u, ↓gIfW_u, ↓gIfW_tt, ↓gIfW_ff, ↓gIfW_tf, ↓gIfW_ft, binI, divI, shiftI, add_mk, Nat.zero_add, cond_true, cond_false, decide_true, decide_false, Bool.not_true, Bool.not_false, Bool.and_true, Bool.true_and, Bool.and_false, Bool.false_and, Int.toNat_natCast, Nat.mul_one, ci]
    refine ⟨by omega, by omega, ?_⟩
    simp only [↓eLdW, q1, Option.some.injEq, exists_eq_left']
    simp only [↓eBinI, ↓eDiv, ↓eShift, ↓eBinS, ↓ePick, ↓eNot, ↓eNeg, ↓eConv, ↓eConvS, ↓eExt0, ↓eExt1, ↓eExt2, ↓eFA, ↓eIA, ↓eLenSl, ↓eCapSl, ↓eLenS, ↓eMin, ↓eMax, ↓eCondT, ↓eCondF, ↓gIf_tt, ↓gIf_ff, ↓gIf_tf, ↓gIf_ft, ↓gIf_u, ↓gIfW_u, ↓gIfW_tt, ↓gIfW_ff, ↓gIfW_tf, ↓gIfW_ft, binI, divI, shiftI, add_mk, Nat.zero_add, cond_true, cond_false, decide_true, decide_false, Bool.not_true, Bool.not_false, Bool.and_true, Bool.true_and, Bool.and_false, Bool.false_and, Int.toNat_natCast, Nat.mul_one, ↓ePNil, ↓c0.c1, e0]
    refine ⟨by omega, by omega, ?_⟩
    simp only [↓eLdW, q2, Option.some.injEq, exists_eq_left']
    simp only [↓eBinI, ↓eDiv, ↓eShift, ↓eBinS, ↓ePick, ↓eNot, ↓eNeg, ↓eConv, ↓eConvS, ↓eExt0, ↓eExt1, ↓eExt2, ↓eFA, ↓eIA, ↓eLenSl, ↓eCapSl, ↓eLenS, ↓eMin, ↓eMax, ↓eCondT, ↓eCondF, ↓gIf_tt, ↓gIf_ff, ↓gIf_tf, ↓gIf_ft, ↓gIf_u, ↓gIfW_u, ↓gIfW_tt, ↓gIfW_ff, ↓gIfW_tf, ↓gIfW_ft, binI, divI, shiftI, add_mk, Nat.zero_add, cond_true, cond_false, decide_true, decide_false, Bool.not_true, Bool.not_false, Bool.and_true, Bool.true_and, Bool.and_false, Bool.false_and, Int.toNat_natCast, Nat.mul_one]
    rw [show IntKind.i64.wrap ((i : Int) + 1) = ((i + 1 : Nat) : Int) by rw [wrap64 (by omega) (by omega)]; omega]
    refine term_Table_put.leaf1 ⟨i + 1, _, by omega, rfl, rfl, ?_, rfl⟩ (by simp only [iv]; omega)
    split
    · exact ⟨by omega, by omega⟩
    · exact wrapIn _
  · have rv : Rd .raw NoB w1 [v] v := ⟨rfl, hv⟩
    obtain ⟨av, cv, e1, _⟩ := ho.form
    have nT : ¬ (fun b => Blk vl b ∨ Blk vs b) gT := fun hh => by
      rcases hh with hh | hh
      · exact (b1 _ hh).2.1 rfl
      · exact (b2 _ hh).2 rfl
    simp only [↓eBinI, ↓eDiv, ↓eShift, ↓eBinS, ↓ePick, ↓eNot, ↓eNeg, ↓eConv, ↓eConvS, ↓eExt0, ↓eExt1, ↓eExt2, ↓eFA, ↓eIA, ↓eLenSl, ↓eCapSl, ↓eLenS, ↓eMin, ↓eMax, ↓eCondT, ↓eCondF, ↓gIf_tt, ↓gIf_ff, ↓gIf_tf, ↓gIf_ft, ↓gIf_u, ↓gIfW_u, ↓gIfW_tt, ↓gIfW_ff, ↓gIfW_tf, ↓gIfW_ft, binI, divI, shiftI, add_mk, Nat.zero_add, cond_true, cond_false, decide_true, decide_false, Bool.not_true, Bool.not_false, Bool.and_true, Bool.true_and, Bool.and_false, Bool.false_and, Int.toNat_natCast, Nat.mul_one, ci]
    refine drawS (fun b => Blk vl b ∨ Blk vs b) fun w2 h2 => ?_
    have z2 := h2.size
    have c2 := c0.ext h2
    have ld0 : ∀ {K : KP}, pLd (Fr (fun b => Blk vl b ∨ Blk vs b) w2) (.pointer (some ⟨gT, 0, none⟩)) K = K vl := c2.f nT rfl
    have ld1 : ∀ {K : KP}, pLd (Fr (fun b => Blk vl b ∨ Blk vs b) w2) (.pointer (some ⟨gT, 1, none⟩)) K = K vs := c2.f nT rfl
    simp only [↓eBinI, ↓eDiv, ↓eShift, ↓eBinS, ↓ePick, ↓eNot, ↓eNeg, ↓eConv, ↓eConvS, ↓eExt0, ↓eExt1, ↓eExt2, ↓eFA, ↓eIA, ↓eLenSl, ↓eCapSl, ↓eLenS, ↓eMin, ↓eMax, ↓eCondT, ↓eCondF, ↓gIf_tt, ↓gIf_ff, ↓gIf_tf, ↓gIf_ft, ↓gIf_u, ↓gIfW_u, ↓gIfW_tt, ↓gIfW_ff, ↓gIfW_tf, ↓gIfW_ft, binI, divI, shiftI, add_mk, Nat.zero_add, cond_true, cond_false, decide_true, decide_false, Bool.not_true, Bool.not_false, Bool.and_true, Bool.true_and, Bool.and_false, Bool.false_and, Int.toNat_natCast, Nat.mul_one, ↓ePNil, ↓ld0, ↓ld1]
    have fin : ∀ vl' vs' (w' : World) sz', Fr (fun b => Blk vl b ∨ Blk vs b) w2 w' → G.Own .raw NoB 0 w' vl' (xs ++ [v]) → G.Own (.int .i64) NoB 0 w' vs' sz' → sz'.length = xs.length + 1 →
        (∀ b, Blk vl' b → (Blk vl b ∨ w2.heap.size ≤ b) ∧ b < w'.heap.size ∧ ¬ Blk vs' b) → (∀ b, Blk vs' b → (Blk vs b ∨ w2.heap.size ≤ b) ∧ b < w'.heap.size) →
        (pNil (.pointer (some ⟨gT, 0, none⟩)) fun t44 => pFA 0 t44 fun t45 => pSt t45 vl' w' fun _ w => anew w fun S w => pNil (.pointer (some ⟨gT, 0, none⟩)) fun t46 => pFA 1 t46 fun t47 => pSt t47 vs' w fun _ w => anew w fun S w =>
          pNil (.pointer (some ⟨gT, 0, none⟩)) fun t49 => pFA 0 t49 fun t50 => pLd (· = w) t50 fun t51 => pLenSl t51 fun t52 => K t52 w) := by
      intro vl' vs' w' sz' f' o1 o2 hl' p1 p2
      have z' := f'.size
      obtain ⟨a', c', e', _⟩ := o1.form
      have os : one vs' = true := by obtain ⟨a, c, e, _⟩ := o2.form; rw [e]; rfl
      have lg := c0.lt
      refine put_end (c2.fr f' nT) e' os fun w3 f3 c3 => ?_
      have z3 := f3.size
      have e4 : (((xs ++ [v]).length : Nat) : Int) = (xs.length : Int) + 1 := by simp
      rw [e4]
      have n1 : ∀ b, Blk vl' b → b ≠ gT := fun b hb e => by
        subst e
        rcases (p1 _ hb).1 with hh | hh
        · exact (b1 _ hh).2.1 rfl
        · omega
      have n2 : ∀ b, Blk vs' b → b ≠ gT := fun b hb e => by
        subst e
        rcases (p2 _ hb).1 with hh | hh
        · exact (b2 _ hh).2 rfl
        · omega
      refine h vl' vs' w3 sz' ((((h2.mono (fun _ _ h => h.elim)).trans f' (fun x _ h => h.imp id id |> fun q => .inr q)).trans f3 (fun x _ h => .inl h))) c3 (o1.fr f3 (fun _ h => h.elim) (fun b hb _ e => n1 b hb e)) (o2.fr f3 (fun _ h => h.elim) (fun b hb _ e => n2 b hb e)) hl'
        (fun b hb => ⟨(p1 b hb).1.imp id (fun hh => by omega), by have := (p1 b hb).2.1; omega, n1 b hb, (p1 b hb).2.2⟩) (fun b hb => ⟨(p2 b hb).1.imp id (fun hh => by omega), by have := (p2 b hb).2; omega, n2 b hb⟩)
    have lb : ∀ b, Blk vl b ∨ Blk vs b → b < w2.heap.size := fun b hb => by
      rcases hb with hb | hb
      · have := (b1 _ hb).1; omega
      · have := (b2 _ hb).1; omega
    have szb : (2 * (xs.length + 1) + 192) * 16 ≤ 2 ^ 48 := by omega
    have szs : (2 * (sz.length + 1) + 192) * 8 ≤ 2 ^ 48 := by omega
    have rI : ∀ w, Rd (.int .i64) NoB w [.int .i64 s] s := fun w => ⟨rfl, hs1.1, hs1.2⟩
    have rV : ∀ w, Rd .raw NoB w [v] v := fun w => ⟨rfl, hv⟩
    refine ⟨?_, ?_⟩
    · refine bslice1 hv fun r3 w3 hr3 h3 c3 => ⟨h3.mono (fun _ _ h => h.elim), ?_⟩
      have z3 := h3.size
      refine ⟨?_, ?_⟩
      · refine ((ho.ext h2).ext h3).push1 c3 (rV _) (by omega) (fun h => h) rfl szb fun vl' w4 o4 f4 b4 => ?_
        have z4 := f4.size
        have k4 : Fr (fun b => Blk vl b ∨ Blk vs b) w2 w4 := (h3.mono (fun _ _ h => h.elim)).trans f4 (fun x _ h => .inl h.1)
        refine ⟨k4, ?_⟩
        refine bslice1 rfl fun r5 w5 hr5 h5 c5 => ⟨k4.trans h5 (fun _ _ h => h.elim), ?_⟩
        have z5 := h5.size
        have hs5 := ((((hs.ext h2).ext h3).fr f4 (fun _ h => h.elim) (fun b hb _ hh => (b1 b hh.1).2.2 hb)).ext h5)
        refine hs5.push1 c5 (rI _) (by omega) (fun h => h) rfl szs fun vs' w6 o6 f6 b6 => ?_
        have z6 := f6.size
        have k6 : Fr (fun b => Blk vl b ∨ Blk vs b) w2 w6 := (k4.trans h5 (fun _ _ h => h.elim)).trans f6 (fun x _ h => .inr h.1)
        refine ⟨k6, ?_⟩
        have hd' : ∀ b, Blk vl' b → ¬ Blk vs b := fun b hb hb' => by
          rcases b4 b hb with hh | hh
          · exact (b1 b hh).2.2 hb'
          · have := (b2 b hb').1; omega
        have e := fin vl' vs' w6 _ k6 ((o4.ext h5).fr f6 (fun _ h => h.elim) (fun b hb _ hh => hd' b hb hh.1)) o6 (by simp [hsl])
          (fun b hb => ⟨(b4 b hb).imp id (fun hh => by omega), (b4 b hb).elim (fun hh => by have := (b1 b hh).1; omega) (fun hh => by omega), fun hb' => by
            rcases b6 b hb' with hh | hh
            · exact hd' b hb hh
            · exact (b4 b hb).elim (fun hq => by have := (b1 b hq).1; omega) (fun hq => by omega)⟩) (fun b hb => ⟨(b6 b hb).imp id (fun hh => by omega), (b6 b hb).elim (fun hh => by have := (b2 b hh).1; omega) (fun hh => by omega)⟩)
        simp only [↓eBinI, ↓eDiv, ↓eShift, ↓eBinS, ↓ePick, ↓eNot, ↓eNeg, ↓eConv, ↓eConvS, ↓eExt0, ↓eExt1, ↓eExt2, ↓eFA, ↓eIA, ↓eLenSl, ↓eCapSl, ↓eLenS, ↓eMin, ↓eMax, ↓eCondT, ↓eCondF, ↓gIf_tt, ↓gIf_ff, ↓gIf_tf, ↓gIf_ft, ↓gIf_u, ↓gIfW_u, ↓gIfW_tt, ↓gIfW_ff, ↓gIfW_tf, ↓gIfW_ft, binI, divI, shiftI, add_mk, Nat.zero_add, cond_true, cond_false, decide_true, decide_false, Bool.not_true, Bool.not_false, Bool.and_true, Bool.true_and, Bool.and_false, Bool.false_and, Int.toNat_natCast, Nat.mul_one, ↓ePNil] at e
        exact e
      · refine bslice1 rfl fun r5 w5 hr5 h5 c5 => ⟨(h3.tr h5).mono (fun _ _ h => h.elim), ?_⟩
        have z5 := h5.size
        have k5 : Ext w2 w5 := h3.tr h5
        have z5' := k5.size
        refine ((ho.ext h2).ext k5).push1 (c3.ext h5) (rV _) (by omega) (fun h => h) rfl szb fun vl' w6 o4 f4 b4 => ?_
        have z6 := f4.size
        have k6 : Fr (fun b => Blk vl b ∨ Blk vs b) w2 w6 := (k5.mono (fun _ _ h => h.elim)).trans f4 (fun x _ h => .inl h.1)
        refine ⟨k6, ?_⟩
        have hs6 := (((hs.ext h2).ext k5).fr f4 (fun _ h => h.elim) (fun b hb _ hh => (b1 b hh.1).2.2 hb))
        have cS := (c5).fr f4 (fun hh => by have := (b1 _ hh.1).1; omega)
        refine hs6.push1 cS (rI _) (by omega) (fun h => h) rfl szs fun vs' w7 o6 f6 b6 => ?_
        have z7 := f6.size
        have k7 : Fr (fun b => Blk vl b ∨ Blk vs b) w2 w7 := k6.trans f6 (fun x _ h => .inr h.1)
        refine ⟨k7, ?_⟩
        have hd' : ∀ b, Blk vl' b → ¬ Blk vs b := fun b hb hb' => by
          rcases b4 b hb with hh | hh
          · exact (b1 b hh).2.2 hb'
          · have := (b2 b hb').1; omega
        have e := fin vl' vs' w7 _ k7 (o4.fr f6 (fun _ h => h.elim) (fun b hb _ hh => hd' b hb hh.1)) o6 (by simp [hsl])
          (fun b hb => ⟨(b4 b hb).imp id (fun hh => by omega), (b4 b hb).elim (fun hh => by have := (b1 b hh).1; omega) (fun hh => by omega), fun hb' => by
            rcases b6 b hb' with hh | hh
            · exact hd' b hb hh
            · exact (b4 b hb).elim (fun hq => by have := (b1 b hq).1; omega) (fun hq => by omega)⟩) (fun b hb => ⟨(b6 b hb).imp id (fun hh => by omega), (b6 b hb).elim (fun hh => by have := (b2 b hh).1; omega) (fun hh => by omega)⟩)
        simp only [↓eBinI, ↓eDiv, ↓eShift, ↓eBinS, ↓ePick, ↓eNot, ↓eNeg, ↓eConv, ↓eConvS, ↓eExt0, ↓eExt1, ↓eExt2, ↓eFA, ↓eIA, ↓eLenSl, ↓eCapSl, ↓eLenS, ↓eMin, ↓eMax, ↓eCondT, ↓eCondF, ↓gIf_tt, ↓gIf_ff, ↓gIf_tf, ↓gIf_ft, ↓gIf_u, ↓gIfW_u, ↓gIfW_tt, ↓gIfW_ff, ↓gIfW_tf, ↓gIfW_ft, binI, divI, shiftI, add_mk, Nat.zero_add, cond_true, cond_false, decide_true, decide_false, Bool.not_true, Bool.not_false, Bool.and_true, Bool.true_and, Bool.and_false, Bool.false_and, Int.toNat_natCast, Nat.mul_one, ↓ePNil] at e
        exact e
    · refine bslice1 rfl fun r5 w3 hr5 h3 c5 => ⟨h3.mono (fun _ _ h => h.elim), ?_⟩
      have z3 := h3.size
      refine bslice1 hv fun r3 w5 hr3 h5 c3 => ⟨(h3.tr h5).mono (fun _ _ h => h.elim), ?_⟩
      have z5 := h5.size
      have k5 : Ext w2 w5 := h3.tr h5
      have z5' := k5.size
      refine ((ho.ext h2).ext k5).push1 c3 (rV _) (by omega) (fun h => h) rfl szb fun vl' w6 o4 f4 b4 => ?_
      have z6 := f4.size
      have k6 : Fr (fun b => Blk vl b ∨ Blk vs b) w2 w6 := (k5.mono (fun _ _ h => h.elim)).trans f4 (fun x _ h => .inl h.1)
      refine ⟨k6, ?_⟩
      have hs6 := (((hs.ext h2).ext k5).fr f4 (fun _ h => h.elim) (fun b hb _ hh => (b1 b hh.1).2.2 hb))
      have cS := (c5.ext h5).fr f4 (fun hh => by have := (b1 _ hh.1).1; omega)
      refine hs6.push1 cS (rI _) (by omega) (fun h => h) rfl szs fun vs' w7 o6 f6 b6 => ?_
      have z7 := f6.size
      have k7 : Fr (fun b => Blk vl b ∨ Blk vs b) w2 w7 := k6.trans f6 (fun x _ h => .inr h.1)
      refine ⟨k7, ?_⟩
      have hd' : ∀ b, Blk vl' b → ¬ Blk vs b := fun b hb hb' => by
        rcases b4 b hb with hh | hh
        · exact (b1 b hh).2.2 hb'
        · have := (b2 b hb').1; omega
      have e := fin vl' vs' w7 _ k7 (o4.fr f6 (fun _ h => h.elim) (fun b hb _ hh => hd' b hb hh.1)) o6 (by simp [hsl])
        (fun b hb => ⟨(b4 b hb).imp id (fun hh => by omega), (b4 b hb).elim (fun hh => by have := (b1 b hh).1; omega) (fun hh => by omega), fun hb' => by
          rcases b6 b hb' with hh | hh
          · exact hd' b hb hh
          · exact (b4 b hb).elim (fun hq => by have := (b1 b hq).1; omega) (fun hq => by omega)⟩) (fun b hb => ⟨(b6 b hb).imp id (fun hh => by omega), (b6 b hb).elim (fun hh => by have := (b2 b hh).1; omega) (fun hh => by omega)⟩)
      simp only [↓eBinI, ↓eDiv, ↓eShift, ↓eBinS, ↓ePick, ↓eNot, ↓eNeg, ↓eConv, ↓eConvS, ↓eExt0, ↓eExt1, ↓eExt2, ↓eFA, ↓eIA, ↓eLenSl, ↓eCapSl, ↓eLenS, ↓eMin, ↓eMax, ↓eCondT, ↓eCondF, ↓gIf_tt, ↓gIf_ff, ↓gIf_tf, ↓gIf_ft, ↓gIf_u, ↓gIfW_u, ↓gIfW_tt, ↓gIfW_ff, ↓gIfW_tf, ↓gIfW_ft, binI, divI, shiftI, add_mk, Nat.zero_add, cond_true, cond_false, decide_true, decide_false, Bool.not_true, Bool.not_false, Bool.and_true, Bool.true_and, Bool.and_false, Bool.false_and, Int.toNat_natCast, Nat.mul_one, ↓ePNil] at e
      exact e
end Go.Proofs.Ytkpgmaiklfjjgaa
end
section
set_option linter.unusedSimpArgs false
set_option linter.unusedVariables false
set_option maxRecDepth 100000
namespace Go.Proofs.Ytkpgmaiklfjjgaa
open Go Go.G
variable {X : KX} {w : World} {K : KV} {D D' : Nat → Prop}
theorem one_enc (x : Node) : one (encN x) = true := by
  unfold encN
  by_cases h1 : x.1 = 1
  · simp [h1, one]
  by_cases h2 : x.1 = 2
  · simp [h2, one]
  by_cases h3 : x.1 = 3
  · simp [h3, one]
  by_cases h4 : x.1 = 4
  · simp [h4, one]
  · simp [h1, h2, h3, h4, one]
theorem parts_in {ns : List Node} {l : List Int} (h : l.all (thereN ns) = true) : ∀ p ∈ l, 1 ≤ p ∧ p ≤ (ns.length : Int) := fun p hp => thereN_iff.1 (List.all_eq_true.1 h p hp)
theorem part_in {ns : List Node} {x : Node} (hx : Norm x) (h : (partsOf x).all (thereN ns) = true) (hl : ns.length ≤ 10000) : InI x.1 ∧ InI x.2.1 ∧ InI x.2.2.1 := by
  rcases NodeOk.of hx h with hk | hk | hk | ⟨hk, hk2⟩
  · exact ⟨⟨by omega, by omega⟩, ⟨by omega, by omega⟩, ⟨by omega, by omega⟩⟩
  · exact ⟨⟨by omega, by omega⟩, ⟨by omega, by omega⟩, ⟨by omega, by omega⟩⟩
  · exact ⟨⟨by omega, by omega⟩, ⟨by omega, by omega⟩, ⟨by omega, by omega⟩⟩
  · exact ⟨by rcases hk with hk | hk <;> exact ⟨by omega, by omega⟩, ⟨by omega, by omega⟩, ⟨by omega, by omega⟩⟩
theorem putN_in {ns : List Node} {x : Node} (h : (partsOf x).all (thereN ns) = true) (hm : x ∈ ns) : putN ns x = ns ∧ putId ns x = (ns.idxOf x : Int) + 1 := by
  rw [putN, putId, if_pos h, if_pos h, if_pos hm]; exact ⟨rfl, rfl⟩
theorem putN_new {ns : List Node} {x : Node} (h : (partsOf x).all (thereN ns) = true) (hm : x ∉ ns) : putN ns x = ns ++ [x] ∧ putId ns x = (ns.length : Int) + 1 := by
  rw [putN, putId, if_pos h, if_pos h, if_neg hm, List.idxOf_eq_length hm]; exact ⟨rfl, rfl⟩
theorem putN_no {ns : List Node} {x : Node} (h : (partsOf x).all (thereN ns) = false) : putN ns x = ns ∧ putId ns x = 0 := by
  rw [putN, putId, h]; exact ⟨rfl, rfl⟩
theorem all4 {a b c d : Value} (ha : one a = true) (hb : one b = true) (hc : one c = true) (hd : one d = true) : ∀ v ∈ [a, b, c, d], one v = true := by
  intro v hv
  simp only [List.mem_cons, List.not_mem_nil, or_false] at hv
  rcases hv with rfl | rfl | rfl | rfl <;> assumption
set_option maxHeartbeats 2000000 in
theorem found_c {gT : Nat} {F : Nat → Prop} {ns : List Node} {x : Node} {x3 : Value} (ht : Tab w gT F ns) (hx : Norm x) (hlab : x.2.2.2.1.length ≤ 1000000) (hlen : ns.length < 10000) (hp : Rd (.slice (.int .i64)) D w [x3] (partsOf x))
    (h : ∀ w' F', Fr F w w' → (∀ b, F' b → F b ∨ w.heap.size ≤ b) → Tab w' gT F' (putN ns x) → K (.int .i64 (putId ns x)) w') : GCalls Try.prog 38 [.pointer (some ⟨gT, 0, none⟩), encK (keyN x), encN x, x3] K X w := by
  apply term_Table_found.calls; unfold term_Table_found.b
  refine boxC (cs := [.int .i64 x.1, .int .i64 x.2.1, .int .i64 x.2.2.1, strV x.2.2.2.1]) fun g5 w1 hg5 h1 c5 => ?_
  have l5 := c5.lt
  have z1 := h1.size
  refine There_c (ht.ext h1) (hp.ext h1) fun w2 h2 => ?_
  have h12 := h1.tr h2
  have z2 := h2.size
  have ht2 := ht.ext h12
  cases hth : (partsOf x).all (thereN ns) with
  | false =>
    simp only [↓eBinI, ↓eDiv, ↓eShift, ↓eBinS, ↓ePick, ↓eNot, ↓eNeg, ↓eConv, ↓eConvS, ↓eExt0, ↓eExt1, ↓eExt2, ↓eFA, ↓eIA, ↓eLenSl, ↓eCapSl, ↓eLenS, ↓eMin, ↓eMax, ↓eCondT, ↓eCondF, ↓gIf_tt, ↓gIf_ff, ↓gIf_tf, ↓gIf_ft, ↓gIf_u, ↓gIfW_u, ↓gIfW_tt, ↓gIfW_ff, ↓gIfW_tf, ↓gIfW_ft, binI, divI, shiftI, add_mk, Nat.zero_add, cond_true, cond_false, decide_true, decide_false, Bool.not_true, Bool.not_false, Bool.and_true, Bool.true_and, Bool.and_false, Bool.false_and, Int.toNat_natCast, Nat.mul_one]
    have := h w2 F (h12.mono (fun _ _ h => h.elim)) (fun b hb => .inl hb)
    rw [(putN_no hth).1, (putN_no hth).2] at this
    exact this ht2
  | true =>
    have hin := part_in hx hth (by omega)
    have hkey : KeyOk Try.prog tyKey (encK (keyN x)) := keyOk hin.1 hin.2.1 hin.2.2 (by show x.2.2.2.1.length ≤ _; omega)
    simp only [↓eBinI, ↓eDiv, ↓eShift, ↓eBinS, ↓ePick, ↓eNot, ↓eNeg, ↓eConv, ↓eConvS, ↓eExt0, ↓eExt1, ↓eExt2, ↓eFA, ↓eIA, ↓eLenSl, ↓eCapSl, ↓eLenS, ↓eMin, ↓eMax, ↓eCondT, ↓eCondF, ↓gIf_tt, ↓gIf_ff, ↓gIf_tf, ↓gIf_ft, ↓gIf_u, ↓gIfW_u, ↓gIfW_tt, ↓gIfW_ff, ↓gIfW_tf, ↓gIfW_ft, binI, divI, shiftI, add_mk, Nat.zero_add, cond_true, cond_false, decide_true, decide_false, Bool.not_true, Bool.not_false, Bool.and_true, Bool.true_and, Bool.and_false, Bool.false_and, Int.toNat_natCast, Nat.mul_one, ↓ePEqS]
    refine draw_ fun w3 h3 => ?_
    have h13 := h12.tr h3
    have z3 := h3.size
    have ht3 := ht2.ext h3
    obtain ⟨vl, vs, gm, sz, ml, a1, a2, a3, a4, a5, a6, a7, a8, a9, a10, a11, a12, a13, a14, a15, a16⟩ := ht3
    have c53 := (c5.ext h2).ext h3
    simp only [↓eBinI, ↓eDiv, ↓eShift, ↓eBinS, ↓ePick, ↓eNot, ↓eNeg, ↓eConv, ↓eConvS, ↓eExt0, ↓eExt1, ↓eExt2, ↓eFA, ↓eIA, ↓eLenSl, ↓eCapSl, ↓eLenS, ↓eMin, ↓eMax, ↓eCondT, ↓eCondF, ↓gIf_tt, ↓gIf_ff, ↓gIf_tf, ↓gIf_ft, ↓gIf_u, ↓gIfW_u, ↓gIfW_tt, ↓gIfW_ff, ↓gIfW_tf, ↓gIfW_ft, binI, divI, shiftI, add_mk, Nat.zero_add, cond_true, cond_false, decide_true, decide_false, Bool.not_true, Bool.not_false, Bool.and_true, Bool.true_and, Bool.and_false, Bool.false_and, Int.toNat_natCast, Nat.mul_one, ↓ePNil, ↓a1.e2, ↓c53.le4]
    refine (?_ : pRunR Try.prog (Ext w3) (Instr.lookup tyMapK (.map (some gm)) (encK (keyN x)) true) _)
    refine eLookOkL keyLaw (fun w' hw => a5.ext hw) encK_inj Try.underlying69 zInt a6.2.2 hkey ?_
    by_cases hm : x ∈ ns
    · rw [a6.mem hx.ne1 hm]
      simp only [Option.getD_some, Option.isSome_some]
      refine ex20 (ex21 ?_)
      simp only [↓eBinI, ↓eDiv, ↓eShift, ↓eBinS, ↓ePick, ↓eNot, ↓eNeg, ↓eConv, ↓eConvS, ↓eExt0, ↓eExt1, ↓eExt2, ↓eFA, ↓eIA, ↓eLenSl, ↓eCapSl, ↓eLenS, ↓eMin, ↓eMax, ↓eCondT, ↓eCondF, ↓gIf_tt, ↓gIf_ff, ↓gIf_tf, ↓gIf_ft, ↓gIf_u, ↓gIfW_u, ↓gIfW_tt, ↓gIfW_ff, ↓gIfW_tf, ↓gIfW_ft, binI, divI, shiftI, add_mk, Nat.zero_add, cond_true, cond_false, decide_true, decide_false, Bool.not_true, Bool.not_false, Bool.and_true, Bool.true_and, Bool.and_false, Bool.false_and, Int.toNat_natCast, Nat.mul_one]
      have := h w3 F (h13.mono (fun _ _ h => h.elim)) (fun b hb => .inl hb)
      rw [(putN_in hth hm).1, (putN_in hth hm).2] at this
      exact this (ht2.ext h3)
    · have hno := a6.none a7 hx.zero hm
      rw [hno]
      simp only [Option.getD_none, Option.isSome_none]
      refine ex20 (ex21 ?_)
      simp only [↓eBinI, ↓eDiv, ↓eShift, ↓eBinS, ↓ePick, ↓eNot, ↓eNeg, ↓eConv, ↓eConvS, ↓eExt0, ↓eExt1, ↓eExt2, ↓eFA, ↓eIA, ↓eLenSl, ↓eCapSl, ↓eLenS, ↓eMin, ↓eMax, ↓eCondT, ↓eCondF, ↓gIf_tt, ↓gIf_ff, ↓gIf_tf, ↓gIf_ft, ↓gIf_u, ↓gIfW_u, ↓gIfW_tt, ↓gIfW_ff, ↓gIfW_tf, ↓gIfW_ft, binI, divI, shiftI, add_mk, Nat.zero_add, cond_true, cond_false, decide_true, decide_false, Bool.not_true, Bool.not_false, Bool.and_true, Bool.true_and, Bool.and_false, Bool.false_and, Int.toNat_natCast, Nat.mul_one]
      have hin2 := parts_in hth
      have hFw : ∀ b, F b → b < w.heap.size := ht.fp
      refine put_c a1 a2 a3 (by rw [a4, List.length_map]) (hp.ext h13) (by rw [List.length_map]; exact hin2) (one_enc x) (by rw [List.length_map]; omega) (fun b hb => ⟨a12 b (a10 b hb), (a14 b hb).1, (a14 b hb).2.2⟩) (fun b hb => ⟨a12 b (a11 b hb), (a15 b hb).1⟩)
        fun vl' vs' w4 sz' f4 c4 o4 s4 e4 p4 q4 => ?_
      have z4 := f4.size
      rw [List.length_map] at e4 ⊢
      have F34 : ∀ b, (b = gT ∨ Blk vl b ∨ Blk vs b) → F b := fun b hb => by
        rcases hb with rfl | hb | hb
        · exact a8
        · exact a10 b hb
        · exact a11 b hb
      have ngm : ¬ (gm = gT ∨ Blk vl gm ∨ Blk vs gm) := fun hh => by
        rcases hh with hh | hh | hh
        · exact a13 hh.symm
        · exact (a14 _ hh).2.1 rfl
        · exact (a15 _ hh).2 rfl
      have m4 := a5.fr f4 ngm
      have c54 := c53.fr f4 (fun hh => by have := hFw _ (F34 _ hh); omega)
      refine draw_ fun w5 h5 => ?_
      have z5 := h5.size
      simp only [↓eBinI, ↓eDiv, ↓eShift, ↓eBinS, ↓ePick, ↓eNot, ↓eNeg, ↓eConv, ↓eConvS, ↓eExt0, ↓eExt1, ↓eExt2, ↓eFA, ↓eIA, ↓eLenSl, ↓eCapSl, ↓eLenS, ↓eMin, ↓eMax, ↓eCondT, ↓eCondF, ↓gIf_tt, ↓gIf_ff, ↓gIf_tf, ↓gIf_ft, ↓gIf_u, ↓gIfW_u, ↓gIfW_tt, ↓gIfW_ff, ↓gIfW_tf, ↓gIfW_ft, binI, divI, shiftI, add_mk, Nat.zero_add, cond_true, cond_false, decide_true, decide_false, Bool.not_true, Bool.not_false, Bool.and_true, Bool.true_and, Bool.and_false, Bool.false_and, Int.toNat_natCast, Nat.mul_one, ↓ePNil, ↓(c4.ext h5).e2, ↓(c54.ext h5).le4]
      refine (?_ : pRunU Try.prog (Instr.mapUpdate tyMapK (.map (some gm)) (encK (keyN x)) (.int .i64 ((ns.length : Int) + 1))) w5 _)
      refine eMapUpdL keyLaw (m4.ext h5) encK_inj Try.underlying69 a6.2.2 hkey fun w6 m6 f6 => ?_
      have z6 := f6.size
      have lm := m4.lt
      have l4 := c4.lt
      refine anew_ ?_
      have f46 : Fr (· = gm) w4 w6 := (h5.mono (fun _ _ h => h.elim)).trans f6 (fun _ _ h => h)
      have p4' : ∀ b, Blk vl' b → b ≠ gm := fun b hb e => by
        subst e
        rcases (p4 b hb).1 with hh | hh
        · exact (a14 _ hh).2.1 rfl
        · have := a12 b a9; omega
      have q4' : ∀ b, Blk vs' b → b ≠ gm := fun b hb e => by
        subst e
        rcases (q4 b hb).1 with hh | hh
        · exact (a15 _ hh).2 rfl
        · have := a12 b a9; omega
      have hF6 : Fr F w w6 := (((h13.mono (fun _ _ h => h.elim)).trans f4 (fun b _ hb => F34 b hb)).trans f46 (fun b _ hb => by rw [hb]; exact a9))
      have fin := h w6 (fun b => b = gT ∨ b = gm ∨ Blk vl' b ∨ Blk vs' b) hF6 (fun b hb => by
        rcases hb with rfl | rfl | hb | hb
        · exact .inl a8
        · exact .inl a9
        · rcases (p4 b hb).1 with hh | hh
          · exact .inl (a10 b hh)
          · exact .inr (by omega)
        · rcases (q4 b hb).1 with hh | hh
          · exact .inl (a11 b hh)
          · exact .inr (by omega))
      rw [(putN_new hth hm).1, (putN_new hth hm).2] at fin
      have lgT := a12 gT a8
      refine fin ⟨vl', vs', gm, sz', mput ml (keyN x) (.int .i64 ((ns.length : Int) + 1)), ?_, ?_, s4.fr f46 (fun _ h => h.elim) (fun b hb _ e => q4' b hb e), by rw [e4]; simp, m6, a6.put a7 hx.ne1 hx.zero hm hkey, a7.snoc (NodeOk.of hx hth) hlab hm (fun _ => hx.zero), .inl rfl, .inr (.inl rfl), fun b hb => .inr (.inr (.inl hb)), fun b hb => .inr (.inr (.inr hb)),
        fun b hb => ?_, a13, fun b hb => ⟨(p4 b hb).2.2.1, p4' b hb, (p4 b hb).2.2.2⟩, fun b hb => ⟨(q4 b hb).2.2, q4' b hb⟩, by simp; omega⟩
      · rw [atomsN_snoc, if_neg hx.ne1, Int.add_zero]
        exact c4.fr f46 (fun e => a13 e)
      · rw [List.map_append]
        exact o4.fr f46 (fun _ h => h.elim) (fun b hb _ e => p4' b hb e)
      · rcases hb with rfl | rfl | hb | hb
        · omega
        · have := a12 b a9; omega
        · have := (p4 b hb).2.1; omega
        · have := (q4 b hb).2.1; omega
end Go.Proofs.Ytkpgmaiklfjjgaa
end
section
set_option linter.unusedSimpArgs false
set_option linter.unusedVariables false
set_option maxRecDepth 100000
namespace Go.Proofs.Ytkpgmaiklfjjgaa
open Go Go.G
variable {X : KX} {w : World} {K : KV} {D D' : Nat → Prop} {gT : Nat} {F : Nat → Prop} {ns : List Node}
theorem Cs.c3 {w : World} {g : Nat} {a b c d : Value} {l : List Value} (h : Cs w g (a :: b :: c :: d :: l)) {K : KP} : pLd (· = w) (.pointer (some ⟨g, 3, none⟩)) K = K d := by
  have q : w.cell? ⟨g, 3, none⟩ = some d := by rw [h.c]; rfl
  rw [eLdW]
  simp only [q, Option.some.injEq, exists_eq_left']
theorem nilInts (D : Nat → Prop) (w : World) : Rd (.slice (.int .i64)) D w [.slice none 0 0] ([] : List Int) := ⟨none, 0, rfl, Nat.le_refl _, by show 0 < _; omega, fun h => absurd rfl h⟩
set_option maxHeartbeats 1000000 in
theorem TAtom_c (ht : Tab w gT F ns) (hlen : ns.length < 10000)
    (h : ∀ w' F', Fr F w w' → (∀ b, F' b → F b ∨ w.heap.size ≤ b) → Tab w' gT F' (ns ++ [atomOf ns]) → K (.int .i64 ((ns.length : Int) + 1)) w') : GCalls Try.prog 22 [.pointer (some ⟨gT, 0, none⟩)] K X w := by
  have hFw : ∀ b, F b → b < w.heap.size := ht.fp
  obtain ⟨vl, vs, gm, sz, ml, a1, a2, a3, a4, a5, a6, a7, a8, a9, a10, a11, a12, a13, a14, a15, a16⟩ := ht
  have hat := atomsN_le ns
  apply term_Table_Atom.calls; unfold term_Table_Atom.b
  have e1 : IntKind.i64.wrap (atomsN ns + 1) = atomsN ns + 1 := by rw [wrap64 (by omega) (by omega)]
  have e2 : IntKind.i64.wrap (atomsN ns + 1 - 1) = atomsN ns := by rw [wrap64 (by omega) (by omega)]; omega
  simp only [↓eBinI, ↓eDiv, ↓eShift, ↓eBinS, ↓ePick, ↓eNot, ↓eNeg, ↓eConv, ↓eConvS, ↓eExt0, ↓eExt1, ↓eExt2, ↓eFA, ↓eIA, ↓eLenSl, ↓eCapSl, ↓eLenS, ↓eMin, ↓eMax, ↓eCondT, ↓eCondF, ↓gIf_tt, ↓gIf_ff, ↓gIf_tf, ↓gIf_ft, ↓gIf_u, ↓gIfW_u, ↓gIfW_tt, ↓gIfW_ff, ↓gIfW_tf, ↓gIfW_ft, binI, divI, shiftI, add_mk, Nat.zero_add, cond_true, cond_false, decide_true, decide_false, Bool.not_true, Bool.not_false, Bool.and_true, Bool.true_and, Bool.and_false, Bool.false_and, Int.toNat_natCast, Nat.mul_one, ↓ePEqS, ↓ePNil, ↓(Cs.c3 a1), e1]
  refine a1.set (i := 3) (by simp) rfl fun w1 c1 f1 => ?_
  have c1 : Cs w1 gT [vl, vs, .map (some gm), .int .i64 (atomsN ns + 1)] := c1
  have z1 := f1.size
  simp only [↓eBinI, ↓eDiv, ↓eShift, ↓eBinS, ↓ePick, ↓eNot, ↓eNeg, ↓eConv, ↓eConvS, ↓eExt0, ↓eExt1, ↓eExt2, ↓eFA, ↓eIA, ↓eLenSl, ↓eCapSl, ↓eLenS, ↓eMin, ↓eMax, ↓eCondT, ↓eCondF, ↓gIf_tt, ↓gIf_ff, ↓gIf_tf, ↓gIf_ft, ↓gIf_u, ↓gIfW_u, ↓gIfW_tt, ↓gIfW_ff, ↓gIfW_tf, ↓gIfW_ft, binI, divI, shiftI, add_mk, Nat.zero_add, cond_true, cond_false, decide_true, decide_false, Bool.not_true, Bool.not_false, Bool.and_true, Bool.true_and, Bool.and_false, Bool.false_and, Int.toNat_natCast, Nat.mul_one, ↓ePNil, ↓(Cs.c3 c1), e2]
  refine ⟨[.int .i64 (atomsN ns)], by simp [fillL, one_cells, cutIn, Value.cells], ?_⟩
  have nl : ∀ b, Blk vl b → 0 ≤ b → ¬ b = gT := fun b hb _ => (a14 b hb).1
  have nsb : ∀ b, Blk vs b → 0 ≤ b → ¬ b = gT := fun b hb _ => (a15 b hb).1
  have en : encN (atomOf ns) = .iface tyAtom (.agg #[.int .i64 (atomsN ns)]) := by simp [encN, atomOf]
  refine put_c (D := NoB) (parts := []) (v := .iface tyAtom (.agg #[.int .i64 (atomsN ns)])) c1 (a2.fr f1 (fun _ h => h.elim) nl) (a3.fr f1 (fun _ h => h.elim) nsb) (by rw [a4, List.length_map]) (nilInts _ _) (fun p hp => by cases hp) rfl (by rw [List.length_map]; omega) (fun b hb => ⟨by have := a12 b (a10 b hb); omega, (a14 b hb).1, (a14 b hb).2.2⟩) (fun b hb => ⟨by have := a12 b (a11 b hb); omega, (a15 b hb).1⟩)
    fun vl' vs' w4 sz' f4 c4 o4 s4 e4 p4 q4 => ?_
  have z4 := f4.size
  rw [List.length_map] at e4 ⊢
  have F34 : ∀ b, (b = gT ∨ Blk vl b ∨ Blk vs b) → F b := fun b hb => by
    rcases hb with rfl | hb | hb
    · exact a8
    · exact a10 b hb
    · exact a11 b hb
  have ngm : ¬ (gm = gT ∨ Blk vl gm ∨ Blk vs gm) := fun hh => by
    rcases hh with hh | hh | hh
    · exact a13 hh.symm
    · exact (a14 _ hh).2.1 rfl
    · exact (a15 _ hh).2 rfl
  have m4 := (a5.fr f1 (fun e => a13 e.symm)).fr f4 ngm
  have lm := m4.lt
  have p4' : ∀ b, Blk vl' b → b ≠ gm := fun b hb e => by
    subst e
    rcases (p4 b hb).1 with hh | hh
    · exact (a14 _ hh).2.1 rfl
    · have := a12 b a9; omega
  have q4' : ∀ b, Blk vs' b → b ≠ gm := fun b hb e => by
    subst e
    rcases (q4 b hb).1 with hh | hh
    · exact (a15 _ hh).2 rfl
    · have := a12 b a9; omega
  have hF4 : Fr F w w4 := (f1.mono (fun b _ hb => by rw [hb]; exact a8)).trans f4 (fun b _ hb => F34 b hb)
  have lgT := a12 gT a8
  refine h w4 (fun b => b = gT ∨ b = gm ∨ Blk vl' b ∨ Blk vs' b) hF4 (fun b hb => ?_) ⟨vl', vs', gm, sz', ml, ?_, ?_, s4, by rw [e4]; simp, m4, a6.atom, a7.atom, .inl rfl, .inr (.inl rfl), fun b hb => .inr (.inr (.inl hb)), fun b hb => .inr (.inr (.inr hb)),
        fun b hb => ?_, a13, fun b hb => ⟨(p4 b hb).2.2.1, p4' b hb, (p4 b hb).2.2.2⟩, fun b hb => ⟨(q4 b hb).2.2, q4' b hb⟩, by simp; omega⟩
  · rcases hb with rfl | rfl | hb | hb
    · exact .inl a8
    · exact .inl a9
    · rcases (p4 b hb).1 with hh | hh
      · exact .inl (a10 b hh)
      · exact .inr (by omega)
    · rcases (q4 b hb).1 with hh | hh
      · exact .inl (a11 b hh)
      · exact .inr (by omega)
  · have ea : atomsN (ns ++ [atomOf ns]) = atomsN ns + 1 := by rw [atomsN_snoc, if_pos (show (atomOf ns).1 = 1 from rfl)]
    rw [ea]
    exact c4
  · rw [List.map_append]
    simp only [List.map_cons, List.map_nil, en]
    exact o4
  · rcases hb with rfl | rfl | hb | hb
    · omega
    · have := a12 b a9; omega
    · have := (p4 b hb).2.1; omega
    · have := (q4 b hb).2.1; omega
variable {a b : Int} {s : List UInt8}
theorem TText_c (ht : Tab w gT F ns) (hlab : s.length ≤ 1000000) (hlen : ns.length < 10000)
    (h : ∀ w' F', Fr F w w' → (∀ b, F' b → F b ∨ w.heap.size ≤ b) → Tab w' gT F' (putN ns (2, 0, 0, s, 0)) → K (.int .i64 (putId ns (2, 0, 0, s, 0))) w') : GCalls Try.prog 39 [.pointer (some ⟨gT, 0, none⟩), strV s] K X w := by
  apply term_Table_Text.calls; unfold term_Table_Text.b
  refine ⟨[.int .i64 2, .int .i64 0, .int .i64 0, strV s], by simp [fillL, one_cells, cutIn, Value.cells, strV], ?_⟩
  refine ⟨[strV s], by simp [fillL, one_cells, cutIn, Value.cells, strV], ?_⟩
  exact found_c (D := NoB) (x := (2, 0, 0, s, 0)) ht (.inl ⟨rfl, rfl, rfl, rfl⟩) hlab hlen (by rw [show partsOf ((2, 0, 0, s, 0) : Node) = [] from rfl]; exact nilInts _ _) h
theorem TKdf_c (ht : Tab w gT F ns) (ha : InI a) (hlab : s.length ≤ 1000000) (hlen : ns.length < 10000)
    (h : ∀ w' F', Fr F w w' → (∀ b, F' b → F b ∨ w.heap.size ≤ b) → Tab w' gT F' (putN ns (3, a, 0, s, 0)) → K (.int .i64 (putId ns (3, a, 0, s, 0))) w') : GCalls Try.prog 40 [.pointer (some ⟨gT, 0, none⟩), .int .i64 a, strV s] K X w := by
  apply term_Table_Kdf.calls; unfold term_Table_Kdf.b
  refine ⟨[.int .i64 3, .int .i64 a, .int .i64 0, strV s], by simp [fillL, one_cells, cutIn, Value.cells, strV], ?_⟩
  refine ⟨[.int .i64 a, strV s], by simp [fillL, one_cells, cutIn, Value.cells, strV], ?_⟩
  refine bslice1 rfl fun g1 w1 hg h1 c1 => ?_
  have z1 := h1.size
  refine found_c (x := (3, a, 0, s, 0)) (ht.ext h1) (.inr (.inl ⟨rfl, rfl, rfl⟩)) hlab hlen (ints1 c1 ha) fun w' F' f hF t => ?_
  exact h w' F' ((h1.mono (fun _ _ h => h.elim)).trans f (fun _ _ h => h)) (fun b hb => (hF b hb).imp id (fun hh => by omega)) t
theorem TMix_c (ht : Tab w gT F ns) (ha : InI a) (hb : InI b) (hlen : ns.length < 10000)
    (h : ∀ w' F', Fr F w w' → (∀ b, F' b → F b ∨ w.heap.size ≤ b) → Tab w' gT F' (putN ns (4, a, b, [], 0)) → K (.int .i64 (putId ns (4, a, b, [], 0))) w') : GCalls Try.prog 41 [.pointer (some ⟨gT, 0, none⟩), .int .i64 a, .int .i64 b] K X w := by
  apply term_Table_Mix.calls; unfold term_Table_Mix.b
  refine ⟨[.int .i64 4, .int .i64 a, .int .i64 b, strV []], by simp [fillL, one_cells, cutIn, Value.cells, strV], ?_⟩
  refine ⟨[.int .i64 a, .int .i64 b], by simp [fillL, one_cells, cutIn, Value.cells], ?_⟩
  refine Cs.bslice (cs := [.int .i64 a, .int .i64 b]) (by simp [rowOf, fillL, one_cells, cutIn, Value.cells]) fun g1 w1 hg h1 c1 => ?_
  have z1 := h1.size
  refine found_c (x := (4, a, b, [], 0)) (ht.ext h1) (.inr (.inr ⟨.inl rfl, rfl, rfl⟩)) (by simp) hlen (ints2 c1 ha hb) fun w' F' f hF t => ?_
  exact h w' F' ((h1.mono (fun _ _ h => h.elim)).trans f (fun _ _ h => h)) (fun b hb => (hF b hb).imp id (fun hh => by omega)) t
theorem TEnc_c (ht : Tab w gT F ns) (ha : InI a) (hb : InI b) (hlen : ns.length < 10000)
    (h : ∀ w' F', Fr F w w' → (∀ b, F' b → F b ∨ w.heap.size ≤ b) → Tab w' gT F' (putN ns (5, a, b, [], 0)) → K (.int .i64 (putId ns (5, a, b, [], 0))) w') : GCalls Try.prog 23 [.pointer (some ⟨gT, 0, none⟩), .int .i64 a, .int .i64 b] K X w := by
  apply term_Table_Enc.calls; unfold term_Table_Enc.b
  refine ⟨[.int .i64 5, .int .i64 a, .int .i64 b, strV []], by simp [fillL, one_cells, cutIn, Value.cells, strV], ?_⟩
  refine ⟨[.int .i64 a, .int .i64 b], by simp [fillL, one_cells, cutIn, Value.cells], ?_⟩
  refine Cs.bslice (cs := [.int .i64 a, .int .i64 b]) (by simp [rowOf, fillL, one_cells, cutIn, Value.cells]) fun g1 w1 hg h1 c1 => ?_
  have z1 := h1.size
  refine found_c (x := (5, a, b, [], 0)) (ht.ext h1) (.inr (.inr ⟨.inr rfl, rfl, rfl⟩)) (by simp) hlen (ints2 c1 ha hb) fun w' F' f hF t => ?_
  exact h w' F' ((h1.mono (fun _ _ h => h.elim)).trans f (fun _ _ h => h)) (fun b hb => (hF b hb).imp id (fun hh => by omega)) t
def actV (x : Act) : Value := .agg ⟨[.int .i64 x.1, .int .i64 x.2.1, .int .i64 x.2.2.1, strV x.2.2.2]⟩
theorem Do_c {x : Act} (ht : Tab w gT F ns) (h2 : InI x.2.1) (h3 : InI x.2.2.1) (hlab : x.2.2.2.length ≤ 1000000) (hlen : ns.length < 10000)
    (h : ∀ w' F', Fr F w w' → (∀ b, F' b → F b ∨ w.heap.size ≤ b) → Tab w' gT F' (actN ns x) → K (.int .i64 (actId ns x)) w') : GCalls Try.prog 24 [.pointer (some ⟨gT, 0, none⟩), actV x] K X w := by
  apply oubliettelaw15_Do.calls; unfold oubliettelaw15_Do.b
  refine boxC (cs := [.int .i64 x.1, .int .i64 x.2.1, .int .i64 x.2.2.1, strV x.2.2.2]) fun g3 w1 hg h1 c1 => ?_
  have z1 := h1.size
  have ht := ht.ext h1
  have h' : ∀ w' F', Fr F w1 w' → (∀ b, F' b → F b ∨ w1.heap.size ≤ b) → Tab w' gT F' (actN ns x) → K (.int .i64 (actId ns x)) w' := fun w' F' f hF t =>
    h w' F' ((h1.mono (fun _ _ h => h.elim)).trans f (fun _ _ h => h)) (fun b hb => (hF b hb).imp id (fun hh => by omega)) t
  by_cases k1 : x.1 = 1
  · have e : (x.1 == 1) = true := by simp [k1]
    simp only [↓eBinI, ↓eDiv, ↓eShift, ↓eBinS, ↓ePick, ↓eNot, ↓eNeg, ↓eConv, ↓eConvS, ↓eExt0, ↓eExt1, ↓eExt2, ↓eFA, ↓eIA, ↓eLenSl, ↓eCapSl, ↓eLenS, ↓eMin, ↓eMax, ↓eCondT, ↓eCondF, ↓gIf_tt, ↓gIf_ff, ↓gIf_tf, ↓gIf_ft, ↓gIf_u, ↓gIfW_u, ↓gIfW_tt, ↓gIfW_ff, ↓gIfW_tf, ↓gIfW_ft, binI, divI, shiftI, add_mk, Nat.zero_add, cond_true, cond_false, decide_true, decide_false, Bool.not_true, Bool.not_false, Bool.and_true, Bool.true_and, Bool.and_false, Bool.false_and, Int.toNat_natCast, Nat.mul_one, ↓c1.c0, e]
    rw [actN, actId, if_pos k1, if_pos k1] at h'
    exact TAtom_c ht hlen h'
  have e1 : (x.1 == 1) = false := by simpa using k1
  rw [actN, actId, if_neg k1, if_neg k1] at h'
  by_cases k2 : x.1 = 2
  · have e2 : (x.1 == 2) = true := by simp [k2]
    simp only [↓eBinI, ↓eDiv, ↓eShift, ↓eBinS, ↓ePick, ↓eNot, ↓eNeg, ↓eConv, ↓eConvS, ↓eExt0, ↓eExt1, ↓eExt2, ↓eFA, ↓eIA, ↓eLenSl, ↓eCapSl, ↓eLenS, ↓eMin, ↓eMax, ↓eCondT, ↓eCondF, ↓gIf_tt, ↓gIf_ff, ↓gIf_tf, ↓gIf_ft, ↓gIf_u, ↓gIfW_u, ↓gIfW_tt, ↓gIfW_ff, ↓gIfW_tf, ↓gIfW_ft, binI, divI, shiftI, add_mk, Nat.zero_add, cond_true, cond_false, decide_true, decide_false, Bool.not_true, Bool.not_false, Bool.and_true, Bool.true_and, Bool.and_false, Bool.false_and, Int.toNat_natCast, Nat.mul_one, ↓c1.c0, e1, e2, ↓(Cs.c3 c1)]
    rw [nodeOf, if_pos k2] at h'
    exact TText_c ht hlab hlen h'
  have e2 : (x.1 == 2) = false := by simpa using k2
  by_cases k3 : x.1 = 3
  · have e3 : (x.1 == 3) = true := by simp [k3]
    simp only [↓eBinI, ↓eDiv, ↓eShift, ↓eBinS, ↓ePick, ↓eNot, ↓eNeg, ↓eConv, ↓eConvS, ↓eExt0, ↓eExt1, ↓eExt2, ↓eFA, ↓eIA, ↓eLenSl, ↓eCapSl, ↓eLenS, ↓eMin, ↓eMax, ↓eCondT, ↓eCondF, ↓gIf_tt, ↓gIf_ff, ↓gIf_tf, ↓gIf_ft, ↓gIf_u, ↓gIfW_u, ↓gIfW_tt, ↓gIfW_ff, ↓gIfW_tf, ↓gIfW_ft, binI, divI, shiftI, add_mk, Nat.zero_add, cond_true, cond_false, decide_true, decide_false, Bool.not_true, Bool.not_false, Bool.and_true, Bool.true_and, Bool.and_false, Bool.false_and, Int.toNat_natCast, Nat.mul_one, ↓c1.c0, ↓c1.c1, e1, e2, e3, ↓(Cs.c3 c1)]
    rw [nodeOf, if_neg k2, if_pos k3] at h'
    exact TKdf_c ht h2 hlab hlen h'
  have e3 : (x.1 == 3) = false := by simpa using k3
  by_cases k4 : x.1 = 4
  · have e4 : (x.1 == 4) = true := by simp [k4]
    simp only [↓eBinI, ↓eDiv, ↓eShift, ↓eBinS, ↓ePick, ↓eNot, ↓eNeg, ↓eConv, ↓eConvS, ↓eExt0, ↓eExt1, ↓eExt2, ↓eFA, ↓eIA, ↓eLenSl, ↓eCapSl, ↓eLenS, ↓eMin, ↓eMax, ↓eCondT, ↓eCondF, ↓gIf_tt, ↓gIf_ff, ↓gIf_tf, ↓gIf_ft, ↓gIf_u, ↓gIfW_u, ↓gIfW_tt, ↓gIfW_ff, ↓gIfW_tf, ↓gIfW_ft, binI, divI, shiftI, add_mk, Nat.zero_add, cond_true, cond_false, decide_true, decide_false, Bool.not_true, Bool.not_false, Bool.and_true, Bool.true_and, Bool.and_false, Bool.false_and, Int.toNat_natCast, Nat.mul_one, ↓c1.c0, ↓c1.c1, ↓c1.c2, e1, e2, e3, e4]
    rw [nodeOf, if_neg k2, if_neg k3, if_pos k4] at h'
    exact TMix_c ht h2 h3 hlen h'
  have e4 : (x.1 == 4) = false := by simpa using k4
  simp only [↓eBinI, ↓eDiv, ↓eShift, ↓eBinS, ↓ePick, ↓eNot, ↓eNeg, ↓eConv, ↓eConvS, ↓eExt0, ↓eExt1, ↓eExt2, ↓eFA, ↓eIA, ↓eLenSl, ↓eCapSl, ↓eLenS, ↓eMin, ↓eMax, ↓eCondT, ↓eCondF, ↓gIf_tt, ↓gIf_ff, ↓gIf_tf, ↓gIf_ft, ↓gIf_u, ↓gIfW_u, ↓gIfW_tt, ↓gIfW_ff, ↓gIfW_tf, ↓gIfW_ft, binI, divI, shiftI, add_mk, Nat.zero_add, cond_true, cond_false, decide_true, decide_false, Bool.not_true, Bool.not_false, Bool.and_true, Bool.true_and, Bool.and_false, Bool.false_and, Int.toNat_natCast, Nat.mul_one, ↓c1.c0, ↓c1.c1, ↓c1.c2, e1, e2, e3, e4]
  rw [nodeOf, if_neg k2, if_neg k3, if_neg k4] at h'
  exact TEnc_c ht h2 h3 hlen h'
end Go.Proofs.Ytkpgmaiklfjjgaa
end
section
set_option linter.unusedSimpArgs false
set_option linter.unusedVariables false
set_option maxRecDepth 100000
namespace Go.Proofs.Ytkpgmaiklfjjgaa
open Go Go.G
variable {X : KX} {w : World} {K : KV} {D D' : Nat → Prop} {ns : List Node}
abbrev tyNode : TypeId := 86
theorem cellsNode : Try.prog.cellsOf tyNode = 5 := by kernel_rfl
theorem nodeType_ok : Try.prog.keyType tyNode = true := by kernel_rfl
def InN (x : Node) : Prop := InI x.1 ∧ InI x.2.1 ∧ InI x.2.2.1 ∧ InI x.2.2.2.2 ∧ x.2.2.2.1.length ≤ 9223372036854775807
theorem nodeOk {k : Node} (h : InN k) : KeyOk Try.prog tyNode (.agg ⟨nodeV k⟩) := by
  obtain ⟨h1, h2, h3, h5, h4⟩ := h
  have hf : (Value.agg ⟨nodeV k⟩).formed Try.prog tyNode = true := by
    unfold nodeV Value.formed
    simp [Try.underlying86, cellsNode]
  have hl : ∃ ls, Try.prog.keyLits (Try.prog.types.size + 1) tyNode (Value.agg ⟨nodeV k⟩).cells.toList = some ls := by
    refine ⟨[.int .i64 k.1, .int .i64 k.2.1, .int .i64 k.2.2.1, .string k.2.2.2.1, .int .i64 k.2.2.2.2], ?_⟩
    have hd : ∃ d, Try.prog.types.size = d + 1 := ⟨Try.prog.types.size - 1, by kernel_rfl⟩
    obtain ⟨d, hd⟩ := hd
    rw [hd]
    unfold Program.keyLits
    rw [Try.underlying86]
    simp [nodeV, Value.cells, cellsNode, cells3, cells9, keyLitI h1, keyLitI h2, keyLitI h3, keyLitS h4, keyLitI h5]
  obtain ⟨ls, hl⟩ := hl
  refine ⟨.string (keyBytes ls), ?_⟩
  unfold keyOf
  rw [Try.underlying86]
  simp only [nodeType_ok, hf, Bool.and_self, if_true]
  rw [hl]; rfl
theorem nodeV_inj {x y : Node} (h : nodeV x = nodeV y) : x = y := by
  obtain ⟨a1, a2, a3, a4, a5⟩ := x
  obtain ⟨b1, b2, b3, b4, b5⟩ := y
  simp only [nodeV, List.cons.injEq, Value.int.injEq, true_and, and_true] at h
  obtain ⟨rfl, rfl, rfl, h4, rfl⟩ := h
  rw [strV_inj h4]
theorem noGuard : Try.prog.eqGuardType Try.prog.depth tyNode = false := by kernel_rfl
theorem eqNode {x y : Node} {K : KP} (hx : InN x) (hy : InN y) (h : K (.bool (decide (x = y)))) : pEqS Try.prog .eql tyNode (.agg ⟨nodeV x⟩) (.agg ⟨nodeV y⟩) K := by
  refine ⟨fun a b w => by simp [eqGuard, noGuard, Result.andThen], _, fun w => ?_, h⟩
  obtain ⟨lx, hx⟩ := nodeOk hx
  obtain ⟨ly, hy⟩ := nodeOk hy
  obtain ⟨r, hr, hiff⟩ := run_equal_deep w (m := 2) (by omega) (k := tyNode) (by kernel_rfl) (by kernel_rfl) hx hy
  have er : r = decide (x = y) := by
    by_cases e : x = y
    · subst e
      rw [hx] at hy
      rw [decide_eq_true rfl]
      exact hiff.2 (Option.some.inj hy)
    · rw [decide_eq_false e]
      cases hc : r with
      | false => rfl
      | true =>
        have := hiff.1 hc
        subst this
        have e2 := keyOf_inj_deep (m := 2) (by kernel_rfl) (by kernel_rfl) hx hy
        simp only [Value.agg.injEq, Array.mk.injEq] at e2
        exact absurd (nodeV_inj e2) e
  rw [← er]
  simp [binOp, hr, Result.andThen]
end Go.Proofs.Ytkpgmaiklfjjgaa
end
section
set_option linter.unusedSimpArgs false
set_option linter.unusedVariables false
set_option maxRecDepth 100000
namespace Go.Proofs.Ytkpgmaiklfjjgaa
open Go Go.G
variable {X : KX} {w : World} {K : KV} {D D' : Nat → Prop} {ns : List Node} {x0 : Value}
theorem GoodN.inN (h : GoodN ns) (hl : ns.length ≤ 10000) {i : Nat} (hi : i < ns.length) : InN ns[i] := by
  have ⟨hk, hs⟩ := h.form i hi
  rcases hk with hk | hk | hk | ⟨hk, hk2⟩
  · exact ⟨⟨by omega, by omega⟩, ⟨by omega, by omega⟩, ⟨by omega, by omega⟩, ⟨by omega, by omega⟩, by omega⟩
  · exact ⟨⟨by omega, by omega⟩, ⟨by omega, by omega⟩, ⟨by omega, by omega⟩, ⟨by omega, by omega⟩, by omega⟩
  · exact ⟨⟨by omega, by omega⟩, ⟨by omega, by omega⟩, ⟨by omega, by omega⟩, ⟨by omega, by omega⟩, by omega⟩
  · exact ⟨by rcases hk with hk | hk <;> exact ⟨by omega, by omega⟩, ⟨by omega, by omega⟩, ⟨by omega, by omega⟩, ⟨by omega, by omega⟩, by omega⟩
theorem nodeOwn (ho : G.Own tNode NoB 0 w x0 ns) (hl : ns.length ≤ 10000) : Rd (.slice tNode) (fun _ => True) w [x0] ns := ho.rd (fun _ h => h.elim) (fun _ _ => trivial) (by show ns.length < _; omega)
theorem all5 {a b c d e : Value} (ha : one a = true) (hb : one b = true) (hc : one c = true) (hd : one d = true) (he : one e = true) : ∀ v ∈ [a, b, c, d, e], one v = true := by
  intro v hv
  simp only [List.mem_cons, List.not_mem_nil, or_false] at hv
  rcases hv with rfl | rfl | rfl | rfl | rfl <;> assumption
/-- A node is put behind the others. -/
theorem pushNode {r : Nat} {x : Node} (ho : G.Own tNode NoB 0 w x0 ns) (hl : ns.length ≤ 10000) (hx : InN x) (c : Cs w r (nodeV x))
    (h : ∀ v w', Fr (fun b => Blk x0 b) w w' → G.Own tNode NoB 0 w' v (ns ++ [x]) → (∀ b, Blk v b → Blk x0 b ∨ (w.heap.size ≤ b ∧ b < w'.heap.size)) → K v w') :
    pApp 86 5 48 [.int .i64 0, .int .i64 0, .int .i64 0, .string ⟨#[]⟩, .int .i64 0] x0 (.slice (some ⟨r, 0, none⟩) 1 1) w K := by
  obtain ⟨T, c⟩ := c
  refine ho.push (by omega) (fun h => h) rfl rfl c (rdNode hx.1 hx.2.1 hx.2.2.1 hx.2.2.2.1 (by have := hx.2.2.2.2; omega)) (by omega) fun v w' o f b => ?_
  exact h v w' (f.mono (fun _ _ h => h.1)) o b
theorem count_take {i : Nat} (hi : i < ns.length) : ((ns.take (i + 1)).countP fun x => x.1 == 1) = ((ns.take i).countP fun x => x.1 == 1) + (if ns[i].1 = 1 then 1 else 0) := by
  rw [List.take_succ_eq_append_getElem hi, List.countP_append, List.countP_singleton]
  by_cases h : ns[i].1 = 1 <;> simp [h]
set_option maxHeartbeats 1000000 in
theorem RAtom_c (ho : G.Own tNode NoB 0 w x0 ns) (hl : ns.length < 10000)
    (h : ∀ v w', Fr (fun b => Blk x0 b) w w' → G.Own tNode NoB 0 w' v (ns ++ [atomOf ns]) → (∀ b, Blk v b → Blk x0 b ∨ (w.heap.size ≤ b ∧ b < w'.heap.size)) → K (.tuple #[v, .int .i64 ((ns.length : Int) + 1)]) w') : GCalls Try.prog 42 [x0] K X w := by
  have hr := nodeOwn ho (by omega)
  obtain ⟨a0, c0, rfl, _, _⟩ := hr.form
  apply oublietteref15_Table_Atom.calls; unfold oublietteref15_Table_Atom.b
  refine oublietteref15_Table_Atom.loop1 (fun x4 x5 w' => ∃ i : Nat, i ≤ ns.length ∧ x5 = .int .i64 (i : Int) ∧ x4 = .int .i64 (((ns.take i).countP fun x => x.1 == 1 : Nat) : Int) ∧ w' = w) (fun _ x5 _ => ns.length - (iv x5).toNat) ⟨0, by omega, rfl, rfl, rfl⟩ ?_
  rintro x4 x5 gg w1 ⟨i, hi, rfl, rfl, rfl⟩
  unfold oublietteref15_Table_Atom.b1
  have hcl : ((ns.take i).countP fun x => x.1 == 1) ≤ (ns.take i).length := List.countP_le_length
  have hcl : ((ns.take i).countP fun x => x.1 == 1) ≤ 10000 := by rw [List.length_take] at hcl; omega
  by_cases ci : (i : Int) < (ns.length : Int)
  · have hi' : i < ns.length := by omega
    obtain ⟨ad, c, e, s1, _, q⟩ := nodeAt hr hi'
    simp only [Value.slice.injEq] at e
    obtain ⟨rfl, -, rfl⟩ := e
    have q0 := q 0 _ rfl
    have a0 : (ad.add (i * 5)).add 0 = ad.add (i * 5 + 0) := by rw [add_add _ _ _ s1]
    have e0 : IntKind.i64.wrap ((i : Int) + 1) = ((i + 1 : Nat) : Int) := by rw [wrap64 (by omega) (by omega)]; omega
    have ec := count_take hi'
    simp only [↓eBinI, ↓eDiv, ↓eShift, ↓eBinS, ↓ePick, ↓eNot, ↓eNeg, ↓eConv, ↓eConvS, ↓eExt0, ↓eExt1, ↓eExt2, ↓eFA, ↓eIA, ↓eLenSl, ↓eCapSl, ↓eLenS, ↓eMin, ↓eMax, ↓eCondT, ↓eCondF, ↓gIf_tt, ↓gIf_ff, ↓gIf_tf, ↓gIf_ft, ↓gIf_u, ↓gIfW_u, ↓gIfW_tt, ↓gIfW_ff, ↓gIfW_tf, ↓gIfW_ft, binI, divI, shiftI, add_mk, Nat.zero_add, cond_true, cond_false, decide_true, decide_false, Bool.not_true, Bool.not_false, Bool.and_true, Bool.true_and, Bool.and_false, Bool.false_and, Int.toNat_natCast, Nat.mul_one, ci]
    refine ⟨by omega, by omega, ?_⟩
    simp only [a0, ↓eLdW, q0, Option.some.injEq, exists_eq_left']
    by_cases k1 : ns[i].1 = 1
    · have e1 : (ns[i].1 == 1) = true := by simp [k1]
      have e2 : IntKind.i64.wrap ((((ns.take i).countP fun x => x.1 == 1 : Nat) : Int) + 1) = (((ns.take (i + 1)).countP fun x => x.1 == 1 : Nat) : Int) := by
        rw [wrap64 (by omega) (by omega), ec, if_pos k1]; omega
      simp only [↓eBinI, ↓eDiv, ↓eShift, ↓eBinS, ↓ePick, ↓eNot, ↓eNeg, ↓eConv, ↓eConvS, ↓eExt0, ↓eExt1, ↓eExt2, ↓eFA, ↓eIA, ↓eLenSl, ↓eCapSl, ↓eLenS, ↓eMin, ↓eMax, ↓eCondT, ↓eCondF, ↓gIf_tt, ↓gIf_ff, ↓gIf_tf, ↓gIf_ft, ↓gIf_u, ↓gIfW_u, ↓gIfW_tt, ↓gIfW_ff, ↓gIfW_tf, ↓gIfW_ft, binI, divI, shiftI, add_mk, Nat.zero_add, cond_true, cond_false, decide_true, decide_false, Bool.not_true, Bool.not_false, Bool.and_true, Bool.true_and, Bool.and_false, Bool.false_and, Int.toNat_natCast, Nat.mul_one, e1, e2]
      unfold oublietteref15_Table_Atom.j1
      simp only [↓eBinI, ↓eDiv, ↓eShift, ↓eBinS, ↓ePick, ↓eNot, ↓eNeg, ↓eConv, ↓eConvS, ↓eExt0, ↓eExt1, ↓eExt2, ↓eFA, ↓eIA, ↓eLenSl, ↓eCapSl, ↓eLenS, ↓eMin, ↓eMax, ↓eCondT, ↓eCondF, ↓gIf_tt, ↓gIf_ff, ↓gIf_tf, ↓gIf_ft, ↓gIf_u, ↓gIfW_u, ↓gIfW_tt, ↓gIfW_ff, ↓gIfW_tf, ↓gIfW_ft, binI, divI, shiftI, add_mk, Nat.zero_add, cond_true, cond_false, decide_true, decide_false, Bool.not_true, Bool.not_false, Bool.and_true, Bool.true_and, Bool.and_false, Bool.false_and, Int.toNat_natCast, Nat.mul_one, e0]
      exact oublietteref15_Table_Atom.leaf1 ⟨i + 1, by omega, rfl, rfl, rfl⟩ (by simp only [iv]; omega)
    · have e1 : (ns[i].1 == 1) = false := by simpa using k1
      have e2 : (((ns.take i).countP fun x => x.1 == 1 : Nat) : Int) = (((ns.take (i + 1)).countP fun x => x.1 == 1 : Nat) : Int) := by
        rw [ec, if_neg k1]; omega
      simp only [↓eBinI, ↓eDiv, ↓eShift, ↓eBinS, ↓ePick, ↓eNot, ↓eNeg, ↓eConv, ↓eConvS, ↓eExt0, ↓eExt1, ↓eExt2, ↓eFA, ↓eIA, ↓eLenSl, ↓eCapSl, ↓eLenS, ↓eMin, ↓eMax, ↓eCondT, ↓eCondF, ↓gIf_tt, ↓gIf_ff, ↓gIf_tf, ↓gIf_ft, ↓gIf_u, ↓gIfW_u, ↓gIfW_tt, ↓gIfW_ff, ↓gIfW_tf, ↓gIfW_ft, binI, divI, shiftI, add_mk, Nat.zero_add, cond_true, cond_false, decide_true, decide_false, Bool.not_true, Bool.not_false, Bool.and_true, Bool.true_and, Bool.and_false, Bool.false_and, Int.toNat_natCast, Nat.mul_one, e1]
      unfold oublietteref15_Table_Atom.j1
      simp only [↓eBinI, ↓eDiv, ↓eShift, ↓eBinS, ↓ePick, ↓eNot, ↓eNeg, ↓eConv, ↓eConvS, ↓eExt0, ↓eExt1, ↓eExt2, ↓eFA, ↓eIA, ↓eLenSl, ↓eCapSl, ↓eLenS, ↓eMin, ↓eMax, ↓eCondT, ↓eCondF, ↓gIf_tt, ↓gIf_ff, ↓gIf_tf, ↓gIf_ft, ↓gIf_u, ↓gIfW_u, ↓gIfW_tt, ↓gIfW_ff, ↓gIfW_tf, ↓gIfW_ft, binI, divI, shiftI, add_mk, Nat.zero_add, cond_true, cond_false, decide_true, decide_false, Bool.not_true, Bool.not_false, Bool.and_true, Bool.true_and, Bool.and_false, Bool.false_and, Int.toNat_natCast, Nat.mul_one, e0]
      exact oublietteref15_Table_Atom.leaf1 ⟨i + 1, by omega, rfl, by rw [e2], rfl⟩ (by simp only [iv]; omega)
  · have hi' : i = ns.length := by omega
    subst hi'
    simp only [List.take_length]
    have hat := atomsN_le ns
    simp only [↓eBinI, ↓eDiv, ↓eShift, ↓eBinS, ↓ePick, ↓eNot, ↓eNeg, ↓eConv, ↓eConvS, ↓eExt0, ↓eExt1, ↓eExt2, ↓eFA, ↓eIA, ↓eLenSl, ↓eCapSl, ↓eLenS, ↓eMin, ↓eMax, ↓eCondT, ↓eCondF, ↓gIf_tt, ↓gIf_ff, ↓gIf_tf, ↓gIf_ft, ↓gIf_u, ↓gIfW_u, ↓gIfW_tt, ↓gIfW_ff, ↓gIfW_tf, ↓gIfW_ft, binI, divI, shiftI, add_mk, Nat.zero_add, cond_true, cond_false, decide_true, decide_false, Bool.not_true, Bool.not_false, Bool.and_true, Bool.true_and, Bool.and_false, Bool.false_and, Int.toNat_natCast, Nat.mul_one, ci]
    refine ⟨nodeV (atomOf ns), by simp [fillL, one_cells, cutIn, Value.cells, nodeV, atomOf, strV, atomsN], ?_⟩
    refine Cs.bslice (cs := nodeV (atomOf ns)) (fillAgg rfl rfl) fun r w2 hr2 h2 c2 => ?_
    refine pushNode (ho.ext h2) (by omega) ⟨⟨by simp [atomOf], by simp [atomOf]⟩, ⟨by simp [atomOf], by simp [atomOf]⟩, ⟨by simp [atomOf], by simp [atomOf]⟩, ⟨by show _ ≤ atomsN ns; omega, by show atomsN ns ≤ _; omega⟩, by simp [atomOf]⟩ c2 fun v w3 f3 o3 b3 => ?_
    have z2 := h2.size; have z3 := f3.size
    have e0 : IntKind.i64.wrap ((ns.length : Int) + 1) = (ns.length : Int) + 1 := by rw [wrap64 (by omega) (by omega)]
    simp only [↓eBinI, ↓eDiv, ↓eShift, ↓eBinS, ↓ePick, ↓eNot, ↓eNeg, ↓eConv, ↓eConvS, ↓eExt0, ↓eExt1, ↓eExt2, ↓eFA, ↓eIA, ↓eLenSl, ↓eCapSl, ↓eLenS, ↓eMin, ↓eMax, ↓eCondT, ↓eCondF, ↓gIf_tt, ↓gIf_ff, ↓gIf_tf, ↓gIf_ft, ↓gIf_u, ↓gIfW_u, ↓gIfW_tt, ↓gIfW_ff, ↓gIfW_tf, ↓gIfW_ft, binI, divI, shiftI, add_mk, Nat.zero_add, cond_true, cond_false, decide_true, decide_false, Bool.not_true, Bool.not_false, Bool.and_true, Bool.true_and, Bool.and_false, Bool.false_and, Int.toNat_natCast, Nat.mul_one, e0]
    exact h v w3 ((h2.mono (fun _ _ h => h.elim)).trans f3 (fun _ _ h => h)) o3 (fun b hb => (b3 b hb).imp id (fun hh => by omega))
end Go.Proofs.Ytkpgmaiklfjjgaa
end
