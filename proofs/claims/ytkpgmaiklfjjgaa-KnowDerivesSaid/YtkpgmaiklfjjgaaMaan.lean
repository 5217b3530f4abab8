/-
  What can be built of what is had.
  What is opened, plainly; how many are not had.
-/
import Derived.Test.YtkpgmaiklfjjgaaMaam
section
set_option linter.unusedSimpArgs false
set_option linter.unusedVariables false
set_option maxRecDepth 100000
namespace Go.Proofs.Ytkpgmaiklfjjgaa
open Go Go.G
variable {X : KX} {w : World} {K : KV} {D D' : Nat → Prop} {gT gK gL : Nat} {F FK : Nat → Prop} {ns : List Node} {ml : List (Int × Value)}
theorem boolAt {B g n c i : Nat} {out : List Bool} (ho : G.Own .bool NoB B w (.slice (some ⟨g, 0, none⟩) n c) out) (hi : i < out.length) : w.cell? ⟨g, i, none⟩ = some (.bool (bit out (i : Int))) := by
  obtain ⟨u, hu, hr⟩ := ho.cell1 rfl hi
  have : [u] = [Value.bool out[i]] := hr
  simp only [List.cons.injEq, and_true] at this
  rw [hu, this, bit_get hi]
theorem boolRd {x : Value} {had : List Bool} {i : Nat} (hx : Rd (.slice .bool) D w [x] had) (hi : i < had.length) : ∃ ad c, x = .slice (some ad) had.length c ∧ w.cell? (ad.add i) = some (.bool (bit had (i : Int))) := by
  obtain ⟨ad, c, u, e, s1, _, q, r⟩ := hx.idx rfl hi
  have : [u] = [Value.bool had[i]] := r
  simp only [List.cons.injEq, and_true] at this
  exact ⟨ad, c, e, by rw [q, this, bit_get hi]⟩
theorem IndexMissing_c {B g5 g n c : Nat} {out : List Bool} {x : Value} {ids : List Int} (c5 : Cs w g5 [.slice (some ⟨g, 0, none⟩) n c]) (ho : G.Own .bool NoB B w (.slice (some ⟨g, 0, none⟩) n c) out) (hn : n = out.length) (hx : Rd (.slice (.int .i64)) D w [x] ids) (hin : ∀ p ∈ ids, 0 ≤ p ∧ p < (out.length : Int))
    (h : ∀ r : Int, (if ids.all (bit out) then r = -1 else 0 ≤ r) → K (.int .i64 r) w) : GCalls Try.prog 59 [x, .func (.func 58) #[] #[.pointer (some ⟨g5, 0, none⟩)]] K X w := by
  obtain ⟨a1, c1, rfl, hc1, hl1⟩ := hx.form
  apply slices_IndexFunc_int_int.calls; unfold slices_IndexFunc_int_int.b
  simp only [↓eBinI, ↓eDiv, ↓eShift, ↓eBinS, ↓ePick, ↓eNot, ↓eNeg, ↓eConv, ↓eConvS, ↓eExt0, ↓eExt1, ↓eExt2, ↓eFA, ↓eIA, ↓eLenSl, ↓eCapSl, ↓eLenS, ↓eMin, ↓eMax, ↓eCondT, ↓eCondF, ↓gIf_tt, ↓gIf_ff, ↓gIf_tf, ↓gIf_ft, ↓gIf_u, ↓gIfW_u, ↓gIfW_tt, ↓gIfW_ff, ↓gIfW_tf, ↓gIfW_ft, binI, divI, shiftI, add_mk, Nat.zero_add, cond_true, cond_false, decide_true, decide_false, Bool.not_true, Bool.not_false, Bool.and_true, Bool.true_and, Bool.and_false, Bool.false_and, Int.toNat_natCast, Nat.mul_one]
  refine slices_IndexFunc_int_int.loop1 (fun x8 w' => ∃ i : Nat, i ≤ ids.length ∧ x8 = .int .i64 (i : Int) ∧ w' = w ∧ ∀ j (hj : j < i) (hl : j < ids.length), bit out ids[j] = true) (fun x8 _ => ids.length - (iv x8).toNat) ⟨0, by omega, rfl, rfl, fun j hj => by omega⟩ ?_
  rintro x8 gg w1 ⟨i, hi, rfl, rfl, hnj⟩
  unfold slices_IndexFunc_int_int.b1
  by_cases ci : (i : Int) < (ids.length : Int)
  · have hi' : i < ids.length := by omega
    obtain ⟨b1, k1, u1, e1, s1, hd, q1, r1⟩ := hx.idx rfl hi'
    simp only [Value.slice.injEq] at e1
    obtain ⟨rfl, -, rfl⟩ := e1
    have v1 := r1.1
    simp only [List.cons.injEq, and_true] at v1
    subst v1
    obtain ⟨p1, p2⟩ := hin _ (List.getElem_mem hi')
    obtain ⟨m, hm⟩ : ∃ m : Nat, ids[i] = (m : Int) := ⟨ids[i].toNat, by omega⟩
    simp only [↓eBinI, ↓eDiv, ↓eShift, ↓eBinS, ↓ePick, ↓eNot, ↓eNeg, ↓eConv, ↓eConvS, ↓eExt0, ↓eExt1, ↓eExt2, ↓eFA, ↓eIA, ↓eLenSl, ↓eCapSl, ↓eLenS, ↓eMin, ↓eMax, ↓eCondT, ↓eCondF, ↓gIf_tt, ↓gIf_ff, ↓gIf_tf, ↓gIf_ft, ↓gIf_u, ↓gIfW_u, ↓gIfW_tt, ↓gIfW_ff, ↓gIfW_tf, ↓gIfW_ft, binI, divI, shiftI, add_mk, Nat.zero_add, cond_true, cond_false, decide_true, decide_false, Bool.not_true, Bool.not_false, Bool.and_true, Bool.true_and, Bool.and_false, Bool.false_and, Int.toNat_natCast, Nat.mul_one, ci]
    refine ⟨by omega, by first | trivial | omega, ?_⟩
    simp only [↓eLdW, q1, Option.some.injEq, exists_eq_left']
    refine (?_ : GCalls Try.prog 58 [.int .i64 ids[i], .pointer (some ⟨g5, 0, none⟩)] _ X w1)
    apply know_Know_built_c1.calls; unfold know_Know_built_c1.b
    have qb := boolAt ho (i := m) (by omega)
    rw [hm]
    simp only [↓eBinI, ↓eDiv, ↓eShift, ↓eBinS, ↓ePick, ↓eNot, ↓eNeg, ↓eConv, ↓eConvS, ↓eExt0, ↓eExt1, ↓eExt2, ↓eFA, ↓eIA, ↓eLenSl, ↓eCapSl, ↓eLenS, ↓eMin, ↓eMax, ↓eCondT, ↓eCondF, ↓gIf_tt, ↓gIf_ff, ↓gIf_tf, ↓gIf_ft, ↓gIf_u, ↓gIfW_u, ↓gIfW_tt, ↓gIfW_ff, ↓gIfW_tf, ↓gIfW_ft, binI, divI, shiftI, add_mk, Nat.zero_add, cond_true, cond_false, decide_true, decide_false, Bool.not_true, Bool.not_false, Bool.and_true, Bool.true_and, Bool.and_false, Bool.false_and, Int.toNat_natCast, Nat.mul_one, ↓c5.c0]
    refine ⟨by omega, by omega, ?_⟩
    simp only [add_mk, Nat.zero_add, ↓eLdW, Int.toNat_natCast, Nat.mul_one, qb, Option.some.injEq, exists_eq_left']
    cases ck : bit out (m : Int) with
    | true =>
      simp only [↓eBinI, ↓eDiv, ↓eShift, ↓eBinS, ↓ePick, ↓eNot, ↓eNeg, ↓eConv, ↓eConvS, ↓eExt0, ↓eExt1, ↓eExt2, ↓eFA, ↓eIA, ↓eLenSl, ↓eCapSl, ↓eLenS, ↓eMin, ↓eMax, ↓eCondT, ↓eCondF, ↓gIf_tt, ↓gIf_ff, ↓gIf_tf, ↓gIf_ft, ↓gIf_u, ↓gIfW_u, ↓gIfW_tt, ↓gIfW_ff, ↓gIfW_tf, ↓gIfW_ft, binI, divI, shiftI, add_mk, Nat.zero_add, cond_true, cond_false, decide_true, decide_false, Bool.not_true, Bool.not_false, Bool.and_true, Bool.true_and, Bool.and_false, Bool.false_and, Int.toNat_natCast, Nat.mul_one]
      rw [wrap64 (by omega) (by omega)]
      refine slices_IndexFunc_int_int.leaf1 ⟨i + 1, by omega, by simp, rfl, fun j hj hl => ?_⟩ (by simp only [iv]; omega)
      by_cases hji : j = i
      · subst hji; rw [hm]; exact ck
      · exact hnj j (by omega) hl
    | false =>
      simp only [↓eBinI, ↓eDiv, ↓eShift, ↓eBinS, ↓ePick, ↓eNot, ↓eNeg, ↓eConv, ↓eConvS, ↓eExt0, ↓eExt1, ↓eExt2, ↓eFA, ↓eIA, ↓eLenSl, ↓eCapSl, ↓eLenS, ↓eMin, ↓eMax, ↓eCondT, ↓eCondF, ↓gIf_tt, ↓gIf_ff, ↓gIf_tf, ↓gIf_ft, ↓gIf_u, ↓gIfW_u, ↓gIfW_tt, ↓gIfW_ff, ↓gIfW_tf, ↓gIfW_ft, binI, divI, shiftI, add_mk, Nat.zero_add, cond_true, cond_false, decide_true, decide_false, Bool.not_true, Bool.not_false, Bool.and_true, Bool.true_and, Bool.and_false, Bool.false_and, Int.toNat_natCast, Nat.mul_one]
      refine h _ ?_
      have : ids.all (bit out) = false := by rw [List.all_eq_false]; exact ⟨ids[i], List.getElem_mem _, by rw [hm, ck]; simp⟩
      rw [this]; simp
  · simp only [↓eBinI, ↓eDiv, ↓eShift, ↓eBinS, ↓ePick, ↓eNot, ↓eNeg, ↓eConv, ↓eConvS, ↓eExt0, ↓eExt1, ↓eExt2, ↓eFA, ↓eIA, ↓eLenSl, ↓eCapSl, ↓eLenS, ↓eMin, ↓eMax, ↓eCondT, ↓eCondF, ↓gIf_tt, ↓gIf_ff, ↓gIf_tf, ↓gIf_ft, ↓gIf_u, ↓gIfW_u, ↓gIfW_tt, ↓gIfW_ff, ↓gIfW_tf, ↓gIfW_ft, binI, divI, shiftI, add_mk, Nat.zero_add, cond_true, cond_false, decide_true, decide_false, Bool.not_true, Bool.not_false, Bool.and_true, Bool.true_and, Bool.and_false, Bool.false_and, Int.toNat_natCast, Nat.mul_one, ci]
    refine h _ ?_
    have : ids.all (bit out) = true := by
      rw [List.all_eq_true]
      intro k hk
      obtain ⟨j, hj, rfl⟩ := List.mem_iff_getElem.1 hk
      exact hnj j (by omega) hj
    rw [this]; rfl
theorem Missing_c {B g5 g n c : Nat} {out : List Bool} {x : Value} {ids : List Int} (c5 : Cs w g5 [.slice (some ⟨g, 0, none⟩) n c]) (ho : G.Own .bool NoB B w (.slice (some ⟨g, 0, none⟩) n c) out) (hn : n = out.length) (hx : Rd (.slice (.int .i64)) D w [x] ids) (hin : ∀ p ∈ ids, 0 ≤ p ∧ p < (out.length : Int))
    (h : K (.bool (!(ids.all (bit out)))) w) : GCalls Try.prog 53 [x, .func (.func 58) #[] #[.pointer (some ⟨g5, 0, none⟩)]] K X w := by
  refine slices_ContainsFunc_int_int.calls ?_
  unfold slices_ContainsFunc_int_int.b
  refine IndexMissing_c c5 ho hn hx hin fun r hr => ?_
  cases ha : ids.all (bit out) with
  | true =>
    rw [ha] at hr h
    have e : ¬ (r ≥ 0) := by simp only [if_true] at hr; omega
    simp only [↓eBinI, ↓eDiv, ↓eShift, ↓eBinS, ↓ePick, ↓eNot, ↓eNeg, ↓eConv, ↓eConvS, ↓eExt0, ↓eExt1, ↓eExt2, ↓eFA, ↓eIA, ↓eLenSl, ↓eCapSl, ↓eLenS, ↓eMin, ↓eMax, ↓eCondT, ↓eCondF, ↓gIf_tt, ↓gIf_ff, ↓gIf_tf, ↓gIf_ft, ↓gIf_u, ↓gIfW_u, ↓gIfW_tt, ↓gIfW_ff, ↓gIfW_tf, ↓gIfW_ft, binI, divI, shiftI, add_mk, Nat.zero_add, cond_true, cond_false, decide_true, decide_false, Bool.not_true, Bool.not_false, Bool.and_true, Bool.true_and, Bool.and_false, Bool.false_and, Int.toNat_natCast, Nat.mul_one, e]
    exact h
  | false =>
    rw [ha] at hr h
    have e : r ≥ 0 := by simpa using hr
    simp only [↓eBinI, ↓eDiv, ↓eShift, ↓eBinS, ↓ePick, ↓eNot, ↓eNeg, ↓eConv, ↓eConvS, ↓eExt0, ↓eExt1, ↓eExt2, ↓eFA, ↓eIA, ↓eLenSl, ↓eCapSl, ↓eLenS, ↓eMin, ↓eMax, ↓eCondT, ↓eCondF, ↓gIf_tt, ↓gIf_ff, ↓gIf_tf, ↓gIf_ft, ↓gIf_u, ↓gIfW_u, ↓gIfW_tt, ↓gIfW_ff, ↓gIfW_tf, ↓gIfW_ft, binI, divI, shiftI, add_mk, Nat.zero_add, cond_true, cond_false, decide_true, decide_false, Bool.not_true, Bool.not_false, Bool.and_true, Bool.true_and, Bool.and_false, Bool.false_and, Int.toNat_natCast, Nat.mul_one, e]
    exact h
set_option maxHeartbeats 2000000 in
theorem Built_c {vk vp vi vg vm x1 : Value} {DP DI : Nat → Prop} {had : List Bool} (c0 : Cs w gK [vg, vm, vk, vp, vi]) (hr : Rows2 w FK gK gL ns vk vp DP DI (ns.length + 1)) (hh : Rd (.slice .bool) D w [x1] had) (hl : had.length = ns.length + 1) (hg : GoodN ns) (hlen : ns.length ≤ 10000)
    (h : ∀ g w' out, w.heap.size ≤ g → Ext w w' → G.Own .bool NoB w.heap.size w' (.slice (some ⟨g, 0, none⟩) (ns.length + 1) (ns.length + 1)) out → BuiltTo ns had out ns.length → K (.slice (some ⟨g, 0, none⟩) (ns.length + 1) (ns.length + 1)) w') : GCalls Try.prog 52 [.pointer (some ⟨gK, 0, none⟩), x1] K X w := by
  have lK := c0.lt
  obtain ⟨ax, cx, ex, _, _⟩ := hh.form
  rw [hl] at ex
  apply know_Know_built.calls; unfold know_Know_built.b
  rw [ex]
  simp only [↓eBinI, ↓eDiv, ↓eShift, ↓eBinS, ↓ePick, ↓eNot, ↓eNeg, ↓eConv, ↓eConvS, ↓eExt0, ↓eExt1, ↓eExt2, ↓eFA, ↓eIA, ↓eLenSl, ↓eCapSl, ↓eLenS, ↓eMin, ↓eMax, ↓eCondT, ↓eCondF, ↓gIf_tt, ↓gIf_ff, ↓gIf_tf, ↓gIf_ft, ↓gIf_u, ↓gIfW_u, ↓gIfW_tt, ↓gIfW_ff, ↓gIfW_tf, ↓gIfW_ft, binI, divI, shiftI, add_mk, Nat.zero_add, cond_true, cond_false, decide_true, decide_false, Bool.not_true, Bool.not_false, Bool.and_true, Bool.true_and, Bool.and_false, Bool.false_and, Int.toNat_natCast, Nat.mul_one]
  refine make_ (t := .bool) (z := false) (D := NoB) (B := w.heap.size) (n := ns.length + 1) (by omega) (by omega) (fun _ => rfl) (Nat.le_refl _) (fun h => h) fun g w1 hg1 h1 e1 o1 => ?_
  refine boxC (cs := [.slice none 0 0]) fun g5 w2 hg5 h2 c2 => ?_
  refine c2.set (i := 0) (by simp) rfl fun w3 c3 f3 => ?_
  have c3 : Cs w3 g5 [.slice (some ⟨g, 0, none⟩) (ns.length + 1) (ns.length + 1)] := c3
  have z1 := h1.size; have z2 := h2.size; have z3 := f3.size; have l5 := c3.lt
  have h3 : Ext w w3 := (h1.tr h2).tn f3 (fun x hx => by omega)
  have o3 := (o1.ext h2).fr f3 (fun _ h => h.elim) (fun b hb _ e => by obtain ⟨_, _, _, e', rfl⟩ := hb; cases e'; simp at e; omega)
  refine know_Know_built.loop1 (fun x7 w' => ∃ (i : Nat) (out : List Bool), i ≤ ns.length ∧ x7 = .int .i64 ((i + 1 : Nat) : Int) ∧ Ext w w' ∧ Cs w' g5 [.slice (some ⟨g, 0, none⟩) (ns.length + 1) (ns.length + 1)] ∧ G.Own .bool NoB w.heap.size w' (.slice (some ⟨g, 0, none⟩) (ns.length + 1) (ns.length + 1)) out ∧ BuiltTo ns had out i)
    (fun x7 _ => ns.length + 1 - (iv x7).toNat) ⟨0, _, by omega, rfl, h3, c3, o3, BuiltTo.start ns had⟩ ?_
  rintro x7 gg w4 ⟨i, out, hi, rfl, h4, c4, o4, b4⟩
  unfold know_Know_built.b1
  have ol := b4.1
  by_cases ci : ((i + 1 : Nat) : Int) < ((ns.length + 1 : Nat) : Int)
  · have hi' : i < ns.length := by omega
    obtain ⟨adh, ch, eh, qh⟩ := boolRd (hh.ext h4) (i := i + 1) (by omega)
    rw [hl] at eh
    rw [ex] at eh
    simp only [Value.slice.injEq, true_and] at eh
    obtain ⟨rfl, rfl⟩ := eh
    have e0 : IntKind.i64.wrap (((i + 1 : Nat) : Int) + 1) = ((i + 1 + 1 : Nat) : Int) := by rw [wrap64 (by omega) (by omega)]; omega
    simp only [↓eBinI, ↓eDiv, ↓eShift, ↓eBinS, ↓ePick, ↓eNot, ↓eNeg, ↓eConv, ↓eConvS, ↓eExt0, ↓eExt1, ↓eExt2, ↓eFA, ↓eIA, ↓eLenSl, ↓eCapSl, ↓eLenS, ↓eMin, ↓eMax, ↓eCondT, ↓eCondF, ↓gIf_tt, ↓gIf_ff, ↓gIf_tf, ↓gIf_ft, ↓gIf_u, ↓gIfW_u, ↓gIfW_tt, ↓gIfW_ff, ↓gIfW_tf, ↓gIfW_ft, binI, divI, shiftI, add_mk, Nat.zero_add, cond_true, cond_false, decide_true, decide_false, Bool.not_true, Bool.not_false, Bool.and_true, Bool.true_and, Bool.and_false, Bool.false_and, Int.toNat_natCast, Nat.mul_one, ↓c4.c0, ci]
    refine draw_ fun w5 h5 => ?_
    have c5 := c4.ext h5
    have o5 := o4.ext h5
    have h45 := h4.tr h5
    have cK := c0.ext h45
    have r5k := (hr.ok.ext h45).rd (D' := fun _ => True) (fun _ h => h.elim) (fun _ _ => trivial) (by show (kindsTo ns (ns.length + 1)).length < _; rw [kindsTo_len]; omega)
    have r5p := (hr.op.ext h45).rd (D' := fun _ => True) (fun _ _ => trivial) (fun _ _ => trivial) (by show (partsTo ns (ns.length + 1)).length < _; rw [partsTo_len]; omega)
    have qh5 := h5.cell qh
    have hth : thereN ns ((i + 1 : Nat) : Int) = true := thereN_iff.2 ⟨by omega, by omega⟩
    obtain ⟨i', hi2, ei, ek, ep⟩ := thereAt hth
    have : i' = i := by omega
    subst this
    have hx : ns[i']? = some ns[i'] := List.getElem?_eq_getElem hi2
    have fin : ∀ v : Bool, v = (bit had ((i' + 1 : Nat) : Int) || wholeB ns (bit out) i') → ∀ w6, Ext w5 w6 → ∀ w7, G.Own .bool NoB w.heap.size w7 (.slice (some ⟨g, 0, none⟩) (ns.length + 1) (ns.length + 1)) (out.set (i' + 1) v) → Fr (· = g) w6 w7 →
        ∃ (i : Nat) (out : List Bool), i ≤ ns.length ∧ Value.int .i64 ((i' + 1 + 1 : Nat) : Int) = .int .i64 ((i + 1 : Nat) : Int) ∧ Ext w w7 ∧ Cs w7 g5 [.slice (some ⟨g, 0, none⟩) (ns.length + 1) (ns.length + 1)] ∧ G.Own .bool NoB w.heap.size w7 (.slice (some ⟨g, 0, none⟩) (ns.length + 1) (ns.length + 1)) out ∧ BuiltTo ns had out i := by
      intro v hv w6 h6 w7 o7 f7
      refine ⟨i' + 1, _, by omega, rfl, (h45.tr h6).tn f7 (fun x hx => by omega), (c5.ext h6).fr f7 (show ¬ g5 = g by omega), o7, ?_⟩
      rw [hv]
      exact b4.step hg hi2
    simp only [↓eBinI, ↓eDiv, ↓eShift, ↓eBinS, ↓ePick, ↓eNot, ↓eNeg, ↓eConv, ↓eConvS, ↓eExt0, ↓eExt1, ↓eExt2, ↓eFA, ↓eIA, ↓eLenSl, ↓eCapSl, ↓eLenS, ↓eMin, ↓eMax, ↓eCondT, ↓eCondF, ↓gIf_tt, ↓gIf_ff, ↓gIf_tf, ↓gIf_ft, ↓gIf_u, ↓gIfW_u, ↓gIfW_tt, ↓gIfW_ff, ↓gIfW_tf, ↓gIfW_ft, binI, divI, shiftI, add_mk, Nat.zero_add, cond_true, cond_false, decide_true, decide_false, Bool.not_true, Bool.not_false, Bool.and_true, Bool.true_and, Bool.and_false, Bool.false_and, Int.toNat_natCast, Nat.mul_one, ↓c5.e0]
    refine ⟨by omega, by first | trivial | omega, ?_⟩
    rw [eLdE qh5]
    cases hb : bit had ((i' + 1 : Nat) : Int) with
    | true =>
      simp only [↓eBinI, ↓eDiv, ↓eShift, ↓eBinS, ↓ePick, ↓eNot, ↓eNeg, ↓eConv, ↓eConvS, ↓eExt0, ↓eExt1, ↓eExt2, ↓eFA, ↓eIA, ↓eLenSl, ↓eCapSl, ↓eLenS, ↓eMin, ↓eMax, ↓eCondT, ↓eCondF, ↓gIf_tt, ↓gIf_ff, ↓gIf_tf, ↓gIf_ft, ↓gIf_u, ↓gIfW_u, ↓gIfW_tt, ↓gIfW_ff, ↓gIfW_tf, ↓gIfW_ft, binI, divI, shiftI, add_mk, Nat.zero_add, cond_true, cond_false, decide_true, decide_false, Bool.not_true, Bool.not_false, Bool.and_true, Bool.true_and, Bool.and_false, Bool.false_and, Int.toNat_natCast, Nat.mul_one]
      refine ⟨Fr.refl _ _, by omega, by first | trivial | omega, ?_⟩
      refine o5.set1 (y := true) rfl (by omega) rfl fun w7 o7 f7 => ?_
      refine anew_ ?_
      try simp only [↓eBinI, ↓eDiv, ↓eShift, ↓eBinS, ↓ePick, ↓eNot, ↓eNeg, ↓eConv, ↓eConvS, ↓eExt0, ↓eExt1, ↓eExt2, ↓eFA, ↓eIA, ↓eLenSl, ↓eCapSl, ↓eLenS, ↓eMin, ↓eMax, ↓eCondT, ↓eCondF, ↓gIf_tt, ↓gIf_ff, ↓gIf_tf, ↓gIf_ft, ↓gIf_u, ↓gIfW_u, ↓gIfW_tt, ↓gIfW_ff, ↓gIfW_tf, ↓gIfW_ft, binI, divI, shiftI, add_mk, Nat.zero_add, cond_true, cond_false, decide_true, decide_false, Bool.not_true, Bool.not_false, Bool.and_true, Bool.true_and, Bool.and_false, Bool.false_and, Int.toNat_natCast, Nat.mul_one, e0]
      exact know_Know_built.leaf1 (fin true (by rw [hb]; rfl) w5 (Fr.refl _ _) w7 o7 f7) (by simp only [iv]; omega)
    | false =>
      obtain ⟨adk, ckk, uk, ekk, sk, _, qk, rk⟩ := r5k.idx rfl (i := i' + 1) (by show i' + 1 < (kindsTo ns (ns.length + 1)).length; rw [kindsTo_len]; omega)
      have hku : uk = .int .i64 ns[i'].1 := by
        have := rk.1
        simp only [List.cons.injEq, and_true] at this
        rw [this]
        have : (kindsTo ns (ns.length + 1))[i' + 1]'(by rw [kindsTo_len]; omega) = kindN ns ((i' + 1 : Nat) : Int) := by simp [kindsTo]
        rw [this, ek]
      subst hku
      obtain ⟨adp, cpp, up, epp, sp, _, qp, rp⟩ := r5p.idx rfl (i := i' + 1) (by show i' + 1 < (partsTo ns (ns.length + 1)).length; rw [partsTo_len]; omega)
      have rp : Rd (.slice (.int .i64)) (fun _ => True) w5 [up] (partsOf ns[i']) := by
        have : (partsTo ns (ns.length + 1))[i' + 1]'(by rw [partsTo_len]; omega) = partsN ns ((i' + 1 : Nat) : Int) := by simp [partsTo]
        have rp' := rp
        rw [this, ep] at rp'
        exact rp'
      have lk : (kindsTo ns (ns.length + 1)).length = ns.length + 1 := kindsTo_len _ _
      have lp : (partsTo ns (ns.length + 1)).length = ns.length + 1 := partsTo_len _ _
      have cK2 : ∀ {K : KP}, pLd (Ext w5) (.pointer (some ⟨gK, 2, none⟩)) K = K vk := cK.e2
      have cK3 : ∀ {K : KP}, pLd (Ext w5) (.pointer (some ⟨gK, 3, none⟩)) K = K vp := eLdE (by rw [cK.c]; rfl)
      by_cases k1 : ns[i'].1 = 1
      · have ew : wholeB ns (bit out) i' = false := by unfold wholeB; rw [hx]; simp [k1]
        have en : (ns[i'].1 != 1) = false := by simp [k1]
        simp only [↓eBinI, ↓eDiv, ↓eShift, ↓eBinS, ↓ePick, ↓eNot, ↓eNeg, ↓eConv, ↓eConvS, ↓eExt0, ↓eExt1, ↓eExt2, ↓eFA, ↓eIA, ↓eLenSl, ↓eCapSl, ↓eLenS, ↓eMin, ↓eMax, ↓eCondT, ↓eCondF, ↓gIf_tt, ↓gIf_ff, ↓gIf_tf, ↓gIf_ft, ↓gIf_u, ↓gIfW_u, ↓gIfW_tt, ↓gIfW_ff, ↓gIfW_tf, ↓gIfW_ft, binI, divI, shiftI, add_mk, Nat.zero_add, cond_true, cond_false, decide_true, decide_false, Bool.not_true, Bool.not_false, Bool.and_true, Bool.true_and, Bool.and_false, Bool.false_and, Int.toNat_natCast, Nat.mul_one, ↓ePNil, ↓cK2, ekk, lk]
        refine ⟨by omega, by first | trivial | omega, ?_⟩
        rw [eLdE qk]
        simp only [↓eBinI, ↓eDiv, ↓eShift, ↓eBinS, ↓ePick, ↓eNot, ↓eNeg, ↓eConv, ↓eConvS, ↓eExt0, ↓eExt1, ↓eExt2, ↓eFA, ↓eIA, ↓eLenSl, ↓eCapSl, ↓eLenS, ↓eMin, ↓eMax, ↓eCondT, ↓eCondF, ↓gIf_tt, ↓gIf_ff, ↓gIf_tf, ↓gIf_ft, ↓gIf_u, ↓gIfW_u, ↓gIfW_tt, ↓gIfW_ff, ↓gIfW_tf, ↓gIfW_ft, binI, divI, shiftI, add_mk, Nat.zero_add, cond_true, cond_false, decide_true, decide_false, Bool.not_true, Bool.not_false, Bool.and_true, Bool.true_and, Bool.and_false, Bool.false_and, Int.toNat_natCast, Nat.mul_one, en]
        refine ⟨Fr.refl _ _, by omega, by first | trivial | omega, ?_⟩
        refine o5.set1 (y := false) rfl (by omega) rfl fun w7 o7 f7 => ?_
        refine anew_ ?_
        try simp only [↓eBinI, ↓eDiv, ↓eShift, ↓eBinS, ↓ePick, ↓eNot, ↓eNeg, ↓eConv, ↓eConvS, ↓eExt0, ↓eExt1, ↓eExt2, ↓eFA, ↓eIA, ↓eLenSl, ↓eCapSl, ↓eLenS, ↓eMin, ↓eMax, ↓eCondT, ↓eCondF, ↓gIf_tt, ↓gIf_ff, ↓gIf_tf, ↓gIf_ft, ↓gIf_u, ↓gIfW_u, ↓gIfW_tt, ↓gIfW_ff, ↓gIfW_tf, ↓gIfW_ft, binI, divI, shiftI, add_mk, Nat.zero_add, cond_true, cond_false, decide_true, decide_false, Bool.not_true, Bool.not_false, Bool.and_true, Bool.true_and, Bool.and_false, Bool.false_and, Int.toNat_natCast, Nat.mul_one, e0]
        exact know_Know_built.leaf1 (fin false (by rw [hb, ew]; rfl) w5 (Fr.refl _ _) w7 o7 f7) (by simp only [iv]; omega)
      · have ew : wholeB ns (bit out) i' = (partsOf ns[i']).all (bit out) := by unfold wholeB; rw [hx]; simp [k1]
        have en : (ns[i'].1 != 1) = true := by simpa using k1
        simp only [↓eBinI, ↓eDiv, ↓eShift, ↓eBinS, ↓ePick, ↓eNot, ↓eNeg, ↓eConv, ↓eConvS, ↓eExt0, ↓eExt1, ↓eExt2, ↓eFA, ↓eIA, ↓eLenSl, ↓eCapSl, ↓eLenS, ↓eMin, ↓eMax, ↓eCondT, ↓eCondF, ↓gIf_tt, ↓gIf_ff, ↓gIf_tf, ↓gIf_ft, ↓gIf_u, ↓gIfW_u, ↓gIfW_tt, ↓gIfW_ff, ↓gIfW_tf, ↓gIfW_ft, binI, divI, shiftI, add_mk, Nat.zero_add, cond_true, cond_false, decide_true, decide_false, Bool.not_true, Bool.not_false, Bool.and_true, Bool.true_and, Bool.and_false, Bool.false_and, Int.toNat_natCast, Nat.mul_one, ↓ePNil, ↓cK2, ekk, lk]
        refine ⟨by omega, by first | trivial | omega, ?_⟩
        rw [eLdE qk]
        simp only [↓eBinI, ↓eDiv, ↓eShift, ↓eBinS, ↓ePick, ↓eNot, ↓eNeg, ↓eConv, ↓eConvS, ↓eExt0, ↓eExt1, ↓eExt2, ↓eFA, ↓eIA, ↓eLenSl, ↓eCapSl, ↓eLenS, ↓eMin, ↓eMax, ↓eCondT, ↓eCondF, ↓gIf_tt, ↓gIf_ff, ↓gIf_tf, ↓gIf_ft, ↓gIf_u, ↓gIfW_u, ↓gIfW_tt, ↓gIfW_ff, ↓gIfW_tf, ↓gIfW_ft, binI, divI, shiftI, add_mk, Nat.zero_add, cond_true, cond_false, decide_true, decide_false, Bool.not_true, Bool.not_false, Bool.and_true, Bool.true_and, Bool.and_false, Bool.false_and, Int.toNat_natCast, Nat.mul_one, ↓ePNil, en, ↓cK3, epp, lp]
        refine ⟨by omega, by first | trivial | omega, ?_⟩
        rw [eLdE qp]
        have hpl := part_lt hg hi2
        refine Missing_c c5 o5 ol.symm rp (fun p hp => by have := hpl p hp; omega) ?_
        refine ⟨Fr.refl _ _, ?_⟩
        cases ha : (partsOf ns[i']).all (bit out) with
        | true =>
          simp only [↓eBinI, ↓eDiv, ↓eShift, ↓eBinS, ↓ePick, ↓eNot, ↓eNeg, ↓eConv, ↓eConvS, ↓eExt0, ↓eExt1, ↓eExt2, ↓eFA, ↓eIA, ↓eLenSl, ↓eCapSl, ↓eLenS, ↓eMin, ↓eMax, ↓eCondT, ↓eCondF, ↓gIf_tt, ↓gIf_ff, ↓gIf_tf, ↓gIf_ft, ↓gIf_u, ↓gIfW_u, ↓gIfW_tt, ↓gIfW_ff, ↓gIfW_tf, ↓gIfW_ft, binI, divI, shiftI, add_mk, Nat.zero_add, cond_true, cond_false, decide_true, decide_false, Bool.not_true, Bool.not_false, Bool.and_true, Bool.true_and, Bool.and_false, Bool.false_and, Int.toNat_natCast, Nat.mul_one]
          refine ⟨by omega, by first | trivial | omega, ?_⟩
          refine o5.set1 (y := true) rfl (by omega) rfl fun w7 o7 f7 => ?_
          refine anew_ ?_
          try simp only [↓eBinI, ↓eDiv, ↓eShift, ↓eBinS, ↓ePick, ↓eNot, ↓eNeg, ↓eConv, ↓eConvS, ↓eExt0, ↓eExt1, ↓eExt2, ↓eFA, ↓eIA, ↓eLenSl, ↓eCapSl, ↓eLenS, ↓eMin, ↓eMax, ↓eCondT, ↓eCondF, ↓gIf_tt, ↓gIf_ff, ↓gIf_tf, ↓gIf_ft, ↓gIf_u, ↓gIfW_u, ↓gIfW_tt, ↓gIfW_ff, ↓gIfW_tf, ↓gIfW_ft, binI, divI, shiftI, add_mk, Nat.zero_add, cond_true, cond_false, decide_true, decide_false, Bool.not_true, Bool.not_false, Bool.and_true, Bool.true_and, Bool.and_false, Bool.false_and, Int.toNat_natCast, Nat.mul_one, e0]
          exact know_Know_built.leaf1 (fin true (by rw [hb, ew, ha]; rfl) w5 (Fr.refl _ _) w7 o7 f7) (by simp only [iv]; omega)
        | false =>
          simp only [↓eBinI, ↓eDiv, ↓eShift, ↓eBinS, ↓ePick, ↓eNot, ↓eNeg, ↓eConv, ↓eConvS, ↓eExt0, ↓eExt1, ↓eExt2, ↓eFA, ↓eIA, ↓eLenSl, ↓eCapSl, ↓eLenS, ↓eMin, ↓eMax, ↓eCondT, ↓eCondF, ↓gIf_tt, ↓gIf_ff, ↓gIf_tf, ↓gIf_ft, ↓gIf_u, ↓gIfW_u, ↓gIfW_tt, ↓gIfW_ff, ↓gIfW_tf, ↓gIfW_ft, binI, divI, shiftI, add_mk, Nat.zero_add, cond_true, cond_false, decide_true, decide_false, Bool.not_true, Bool.not_false, Bool.and_true, Bool.true_and, Bool.and_false, Bool.false_and, Int.toNat_natCast, Nat.mul_one]
          refine ⟨by omega, by first | trivial | omega, ?_⟩
          refine o5.set1 (y := false) rfl (by omega) rfl fun w7 o7 f7 => ?_
          refine anew_ ?_
          try simp only [↓eBinI, ↓eDiv, ↓eShift, ↓eBinS, ↓ePick, ↓eNot, ↓eNeg, ↓eConv, ↓eConvS, ↓eExt0, ↓eExt1, ↓eExt2, ↓eFA, ↓eIA, ↓eLenSl, ↓eCapSl, ↓eLenS, ↓eMin, ↓eMax, ↓eCondT, ↓eCondF, ↓gIf_tt, ↓gIf_ff, ↓gIf_tf, ↓gIf_ft, ↓gIf_u, ↓gIfW_u, ↓gIfW_tt, ↓gIfW_ff, ↓gIfW_tf, ↓gIfW_ft, binI, divI, shiftI, add_mk, Nat.zero_add, cond_true, cond_false, decide_true, decide_false, Bool.not_true, Bool.not_false, Bool.and_true, Bool.true_and, Bool.and_false, Bool.false_and, Int.toNat_natCast, Nat.mul_one, e0]
          exact know_Know_built.leaf1 (fin false (by rw [hb, ew, ha]; rfl) w5 (Fr.refl _ _) w7 o7 f7) (by simp only [iv]; omega)
  · have hi' : i = ns.length := by omega
    subst hi'
    simp only [↓eBinI, ↓eDiv, ↓eShift, ↓eBinS, ↓ePick, ↓eNot, ↓eNeg, ↓eConv, ↓eConvS, ↓eExt0, ↓eExt1, ↓eExt2, ↓eFA, ↓eIA, ↓eLenSl, ↓eCapSl, ↓eLenS, ↓eMin, ↓eMax, ↓eCondT, ↓eCondF, ↓gIf_tt, ↓gIf_ff, ↓gIf_tf, ↓gIf_ft, ↓gIf_u, ↓gIfW_u, ↓gIfW_tt, ↓gIfW_ff, ↓gIfW_tf, ↓gIfW_ft, binI, divI, shiftI, add_mk, Nat.zero_add, cond_true, cond_false, decide_true, decide_false, Bool.not_true, Bool.not_false, Bool.and_true, Bool.true_and, Bool.and_false, Bool.false_and, Int.toNat_natCast, Nat.mul_one, ↓c4.c0, ci]
    exact h g w4 out (by omega) h4 o4 b4
end Go.Proofs.Ytkpgmaiklfjjgaa
end
section
set_option linter.unusedSimpArgs false
set_option linter.unusedVariables false
set_option maxRecDepth 100000
namespace Go.Proofs.Ytkpgmaiklfjjgaa
open Go Go.G
variable {w : World} {ns : List Node}
theorem countP_less {p q : Nat → Bool} {j : Nat} : ∀ {l : List Nat}, (∀ x ∈ l, q x = true → p x = true) → j ∈ l → p j = true → q j = false → l.countP q < l.countP p
  | [], _, hj, _, _ => by cases hj
  | x :: l, h, hj, h1, h2 => by
    have hle : l.countP q ≤ l.countP p := List.countP_mono_left (fun y hy => h y (List.mem_cons_of_mem _ hy))
    rw [List.countP_cons, List.countP_cons]
    rcases List.mem_cons.1 hj with rfl | hj
    · rw [h1, h2]; simp; omega
    · have := countP_less (fun y hy => h y (List.mem_cons_of_mem _ hy)) hj h1 h2
      have hx := h x (by simp)
      cases hq : q x with
      | true => rw [hx hq]; simp; omega
      | false => simp; split <;> omega
def fcell (v : Option Value) : Bool := match v with
  | some (.bool b) => !b
  | _ => false
/-- How many places of a row of bools at g are not set. -/
def falses (g n : Nat) (w : World) : Nat := (List.range n).countP fun i => fcell (w.cell? ⟨g, i, none⟩)
theorem falses_of {B g n c m : Nat} {out : List Bool} (ho : G.Own .bool NoB B w (.slice (some ⟨g, 0, none⟩) n c) out) (hm : m = out.length) : falses g m w = (List.range m).countP fun (i : Nat) => !bit out (i : Int) := by
  unfold falses
  apply List.countP_congr
  intro i hi
  rw [boolAt ho (by have := List.mem_range.1 hi; omega)]
  rfl
theorem falses_less {B B' g n c m : Nat} {w' : World} {out out' : List Bool} (ho : G.Own .bool NoB B w (.slice (some ⟨g, 0, none⟩) n c) out) (ho' : G.Own .bool NoB B' w' (.slice (some ⟨g, 0, none⟩) n c) out') (hm : m = out.length) (hm' : m = out'.length)
    (hs : ∀ i : Nat, i < m → bit out (i : Int) = true → bit out' (i : Int) = true) {j : Nat} (hj : j < m) (h1 : bit out (j : Int) = false) (h2 : bit out' (j : Int) = true) : falses g m w' < falses g m w := by
  rw [falses_of ho hm, falses_of ho' hm']
  refine countP_less (j := j) (fun x hx hq => ?_) (List.mem_range.2 hj) (by rw [h1]; rfl) (by rw [h2]; rfl)
  cases hb : bit out (x : Int) with
  | false => rfl
  | true => rw [hs x (List.mem_range.1 hx) hb] at hq; cases hq
theorem amid_set {S : Int → Bool} {had is : List Bool} {k : Nat} (hg : GoodN ns) (hk : k < ns.length) (h5 : ns[k].1 = 5) (hh : Amid ns S (bit had)) (hi : Amid ns S (bit is)) (hl : had.length = ns.length + 1) (h1 : bit is ((k : Int) + 1) = true) (h2 : bit is ns[k].2.1 = true) {p : Nat} (hp : ns[k].2.2.1 = (p : Int)) :
    Amid ns S (bit (had.set p true)) := by
  obtain ⟨_, q1, q2, q3, q4⟩ := parts5 hg hk h5
  have hpl : p < had.length := by omega
  refine ⟨fun i i1 i2 hs => ?_, fun c hc hsc i i1 i2 hb => ?_⟩
  · obtain ⟨q, rfl⟩ : ∃ q : Nat, i = (q : Int) := ⟨i.toNat, by omega⟩
    rw [bit_set hpl]
    split
    · rfl
    · exact hh.1 _ i1 i2 hs
  · obtain ⟨q, rfl⟩ : ∃ q : Nat, i = (q : Int) := ⟨i.toNat, by omega⟩
    rw [bit_set hpl] at hb
    split at hb
    · rename_i e
      subst e
      refine (hc k hk).2 _ ?_
      unfold openB
      rw [List.getElem?_eq_getElem hk]
      have a1 := hi.2 c hc hsc _ (by omega) (by omega) h1
      have a2 := hi.2 c hc hsc _ q1 (by omega) h2
      simp [h5, a1, a2, hp]
    · exact hh.2 c hc hsc _ i1 i2 hb
theorem closed_of {is : List Bool} (hb : ∀ i, i < ns.length → wholeB ns (bit is) i = true → bit is ((i : Int) + 1) = true) (ho : ∀ k (hk : k < ns.length), ns[k].1 = 5 → bit is ((k : Int) + 1) = true → bit is ns[k].2.1 = true → bit is ns[k].2.2.1 = true) : ClosedE ns (bit is) := by
  refine fun i hi => ⟨hb i hi, fun j hj => ?_⟩
  unfold openB at hj
  rw [List.getElem?_eq_getElem hi] at hj
  simp only [Bool.and_eq_true, beq_iff_eq] at hj
  obtain ⟨⟨⟨h5, h1⟩, h2⟩, rfl⟩ := hj
  exact ho i hi h5 h1 h2
theorem rangeLeft_fr {κ : Type} [DecidableEq κ] {enc : κ → Value} {r gm : Nat} {l : List (κ × Value)} {done : List κ} {T : Nat → Prop} {w' : World} (h : RangeAt enc w r gm l done) (f : Fr T w w') (hr : ¬ T r) (hg : ¬ T gm) : w'.rangeLeft gm r = w.rangeLeft gm r := by
  obtain ⟨es, cl, since, seen, c0, h1, h2, h3, h4, _⟩ := h
  unfold World.rangeLeft
  rw [h1, h4, f.heap h1 hg, f.heap h4 hr]
theorem Rows2.ext {w' : World} {FK DP DI : Nat → Prop} {gK gL m : Nat} {vk vp : Value} (h : Rows2 w FK gK gL ns vk vp DP DI m) (e : Ext w w') : Rows2 w' FK gK gL ns vk vp DP DI m :=
  ⟨h.ok.ext e, h.op.ext e, h.fk, h.fp, h.fd, fun b hb => Nat.lt_of_lt_of_le (h.lt b hb) e.size, h.nk, h.np, h.nd⟩
end Go.Proofs.Ytkpgmaiklfjjgaa
end
