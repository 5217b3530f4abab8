/-
  What is derived, of the program.
  Who knows: all that is derived, kept; whether one is.
  A round of the reference, plainly and walked.
-/
import Derived.Test.YtkpgmaiklfjjgaaMaan
section
set_option linter.unusedSimpArgs false
set_option linter.unusedVariables false
set_option maxRecDepth 100000
namespace Go.Proofs.Ytkpgmaiklfjjgaa
open Go Go.G
variable {X : KX} {w : World} {K : KV} {D D' : Nat → Prop} {gT gK gL gS : Nat} {F FK : Nat → Prop} {ns : List Node} {ml : List (Int × Value)}
theorem kindAt {B : Nat} {DK : Nat → Prop} {vk : Value} {m i : Nat} (ho : G.Own (.int .i64) NoB 0 w vk (kindsTo ns m)) (hm : m ≤ 100000) (hi : i < m) : ∃ ad c, vk = .slice (some ad) m c ∧ w.cell? (ad.add i) = some (.int .i64 (kindN ns (i : Int))) := by
  have r := ho.rd (D' := fun _ => True) (fun _ h => h.elim) (fun _ _ => trivial) (by show (kindsTo ns m).length < _; rw [kindsTo_len]; omega)
  obtain ⟨ad, c, u, e, s1, _, q, ru⟩ := r.idx rfl (i := i) (by show i < (kindsTo ns m).length; rw [kindsTo_len]; exact hi)
  have hu : u = .int .i64 (kindN ns (i : Int)) := by
    have := ru.1
    simp only [List.cons.injEq, and_true] at this
    rw [this]
    have : (kindsTo ns m)[i]'(by rw [kindsTo_len]; exact hi) = kindN ns (i : Int) := by simp [kindsTo]
    rw [this]
  rw [hu] at q
  exact ⟨ad, c, by rw [e]; simp [kindsTo_len], q⟩
theorem partsAt {DP : Nat → Prop} {vp : Value} {m i : Nat} (ho : G.Own (.slice (.int .i64)) DP 0 w vp (partsTo ns m)) (hm : m ≤ 100000) (hi : i < m) : ∃ ad c u, vp = .slice (some ad) m c ∧ w.cell? (ad.add i) = some u ∧ Rd (.slice (.int .i64)) (fun _ => True) w [u] (partsN ns (i : Int)) := by
  have r := ho.rd (D' := fun _ => True) (fun _ _ => trivial) (fun _ _ => trivial) (by show (partsTo ns m).length < _; rw [partsTo_len]; omega)
  obtain ⟨ad, c, u, e, s1, _, q, ru⟩ := r.idx rfl (i := i) (by show i < (partsTo ns m).length; rw [partsTo_len]; exact hi)
  have hp : (partsTo ns m)[i]'(by rw [partsTo_len]; exact hi) = partsN ns (i : Int) := by simp [partsTo]
  rw [hp] at ru
  exact ⟨ad, c, u, by rw [e]; simp [partsTo_len], q, ru⟩
theorem own_base {t : Ty} {D : Nat → Prop} {B B' : Nat} {w : World} {v : Value} {xs : List t.D} (h : G.Own t D B w v xs) (hb : B' ≤ B) : G.Own t D B' w v xs := by
  rcases h with ⟨rfl, a, e⟩ | ⟨g, c, cs, T, fz, old, rest, e, h1, h2⟩
  · exact .inl ⟨rfl, a, e⟩
  · exact .inr ⟨g, c, cs, T, fz, old, rest, e, by omega, h2⟩
theorem ex10 {a : Value} {K : KP} (h : K a) : pExt (.tuple #[a]) 0 K := by rw [eExt0]; exact h
theorem ex30 {a b c : Value} {K : KP} (h : K a) : pExt (.tuple #[a, b, c]) 0 K := by rw [eExt0]; exact h
set_option maxHeartbeats 8000000 in
theorem Closed_c {vk vp vi : Value} {DP DI : Nat → Prop} {m : Nat} (c0 : Cs w gK [.pointer (some ⟨gT, 0, none⟩), .map (some gL), vk, vp, vi]) (hr : Rows2 w FK gK gL ns vk vp DP DI m) (hm : m ≤ ns.length + 1) (ht : Tab w gT F ns) (hK : FK gK) (hd : ∀ b, FK b → ¬ F b) (hDI : ∀ b, DI b → b < w.heap.size)
    (hgL : gL < w.heap.size) (hne : gK ≠ gL) (hDK : ¬ DI gK) (hDL : ¬ DI gL) (hS : MapB encI w gS ml) (hnum : ∀ p ∈ ml, 1 ≤ p.1 ∧ p.1 ≤ (ns.length : Int)) (hSk : gS = gL ∨ ¬ FK gS)
    (h : ∀ vk' vp' DP' FK' gi w' is, Fr (fun b => FK b ∧ b ≠ gL ∧ ¬ DI b) w w' → (∀ b, FK' b → FK b ∨ w.heap.size ≤ b) → (∀ b, FK b → FK' b) → Cs w' gK [.pointer (some ⟨gT, 0, none⟩), .map (some gL), vk', vp', vi] → Rows2 w' FK' gK gL ns vk' vp' DP' DI (ns.length + 1) →
      w.heap.size ≤ gi → ¬ FK' gi → G.Own .bool NoB w.heap.size w' (.slice (some ⟨gi, 0, none⟩) (ns.length + 1) (ns.length + 1)) is → is.length = ns.length + 1 → Least ns (inL ml) (bit is) → K (.slice (some ⟨gi, 0, none⟩) (ns.length + 1) (ns.length + 1)) w') :
    GCalls Try.prog 35 [.pointer (some ⟨gK, 0, none⟩), .map (some gS)] K X w := by
  have hlen := ht.len
  have hg := ht.good
  apply know_Know_closed.calls; unfold know_Know_closed.b
  refine Grow_c c0 hr hm ht hK hd hDI hgL hne hDK hDL fun vk vp DP FK' w1 f1 g1 g2 c1 r1 => ?_
  have z1 := f1.size
  have S1 : MapB encI w1 gS ml := hS.fr f1 (fun hh => hSk.elim (fun e => hh.2.1 e) (fun hn => hn hh.1))
  obtain ⟨ak, ck, ek0, _⟩ := r1.ok.form
  rw [kindsTo_len] at ek0
  rw [ek0] at c1
  simp only [↓eBinI, ↓eDiv, ↓eShift, ↓eBinS, ↓ePick, ↓eNot, ↓eNeg, ↓eConv, ↓eConvS, ↓eExt0, ↓eExt1, ↓eExt2, ↓eFA, ↓eIA, ↓eLenSl, ↓eCapSl, ↓eLenS, ↓eMin, ↓eMax, ↓eCondT, ↓eCondF, ↓gIf_tt, ↓gIf_ff, ↓gIf_tf, ↓gIf_ft, ↓gIf_u, ↓gIfW_u, ↓gIfW_tt, ↓gIfW_ff, ↓gIfW_tf, ↓gIfW_ft, binI, divI, shiftI, add_mk, Nat.zero_add, cond_true, cond_false, decide_true, decide_false, Bool.not_true, Bool.not_false, Bool.and_true, Bool.true_and, Bool.and_false, Bool.false_and, Int.toNat_natCast, Nat.mul_one, ↓ePNil, ↓c1.c2]
  rw [← ek0] at c1
  refine make_ (t := .bool) (z := false) (D := NoB) (B := w.heap.size) (n := ns.length + 1) (by omega) (by omega) (fun _ => rfl) (by omega) (fun h => h) fun gh w2 hgh h2 e2 o2 => ?_
  have z2 := h2.size
  refine range_ (S1.ext h2) Try.underlying53 fun r w3 hr3 h3 ra => ?_
  have z3 := h3.size
  have lS := S1.lt
  have rgs : ¬ gS = gh := by omega
  have rgr : ¬ r = gh := by omega
  refine know_Know_closed.loop1 (fun w' => ∃ (done : List Int) (had : List Bool), Ext w1 w' ∧ RangeAt encI w' r gS ml done ∧ G.Own .bool NoB w.heap.size w' (.slice (some ⟨gh, 0, none⟩) (ns.length + 1) (ns.length + 1)) had ∧ had.length = ns.length + 1 ∧ (∀ i : Nat, i ≤ ns.length → bit had (i : Int) = decide ((i : Int) ∈ done)) ∧ ∀ k ∈ done, k ∈ ml.map (·.1))
    (fun w' => w'.rangeLeft gS r) ⟨[], _, h2.tr h3, ra, o2.ext h3, by simp, fun i hi => by rw [bit_rep]; simp, fun k hk => by cases hk⟩ ?_
  rintro gg w4 ⟨done, had, x4, ra4, o4, hl4, hb4, hk4⟩
  unfold know_Know_closed.b1
  refine next_ keyI.inj ra4 (fun hall => ?_) fun p hp hnp w5 f5 rl5 hlt => ?_
  · refine ex10 ?_
    simp only [↓eBinI, ↓eDiv, ↓eShift, ↓eBinS, ↓ePick, ↓eNot, ↓eNeg, ↓eConv, ↓eConvS, ↓eExt0, ↓eExt1, ↓eExt2, ↓eFA, ↓eIA, ↓eLenSl, ↓eCapSl, ↓eLenS, ↓eMin, ↓eMax, ↓eCondT, ↓eCondF, ↓gIf_tt, ↓gIf_ff, ↓gIf_tf, ↓gIf_ft, ↓gIf_u, ↓gIfW_u, ↓gIfW_tt, ↓gIfW_ff, ↓gIfW_tf, ↓gIfW_ft, binI, divI, shiftI, add_mk, Nat.zero_add, cond_true, cond_false, decide_true, decide_false, Bool.not_true, Bool.not_false, Bool.and_true, Bool.true_and, Bool.and_false, Bool.false_and, Int.toNat_natCast, Nat.mul_one]
    have hA : Amid ns (inL ml) (bit had) := by
      refine ⟨fun i i1 i2 hs => ?_, fun c hc hsc i i1 i2 hb => ?_⟩
      · obtain ⟨q, rfl⟩ : ∃ q : Nat, i = (q : Int) := ⟨i.toNat, by omega⟩
        rw [hb4 q (by omega)]
        obtain ⟨p, hp, e⟩ := List.mem_map.1 (of_decide_eq_true hs)
        rw [← e]
        exact decide_eq_true (hall p hp)
      · obtain ⟨q, rfl⟩ : ∃ q : Nat, i = (q : Int) := ⟨i.toNat, by omega⟩
        rw [hb4 q (by omega)] at hb
        exact hsc _ i1 i2 (decide_eq_true (hk4 _ (of_decide_eq_true hb)))
    refine know_Know_closed.loop2 (fun w' => ∃ had : List Bool, Ext w1 w' ∧ G.Own .bool NoB w.heap.size w' (.slice (some ⟨gh, 0, none⟩) (ns.length + 1) (ns.length + 1)) had ∧ had.length = ns.length + 1 ∧ Amid ns (inL ml) (bit had)) (falses gh (ns.length + 1)) ⟨had, x4, o4, hl4, hA⟩ ?_
    clear hA hb4 hk4 o4 hl4 ra4 hall x4
    rintro gg w5 ⟨had, x5, o5, hl5, hA⟩
    unfold know_Know_closed.b2
    have rh : Rd (.slice .bool) (fun _ => True) w5 [.slice (some ⟨gh, 0, none⟩) (ns.length + 1) (ns.length + 1)] had := o5.rd (fun _ h => h.elim) (fun _ _ => trivial) (by show had.length < _; omega)
    refine Built_c (c1.ext x5) (r1.ext x5) rh hl5 hg hlen fun gi w6 is hgi x6 oi bi => ?_
    have z5 := x5.size; have z6 := x6.size
    have x16 := x5.tr x6
    obtain ⟨hiA, hiB, hiS⟩ := built_amid hg hA bi
    have il := bi.1
    have i0 : bit is 0 = false := bi.2.2.2
    have ogh : gh < w5.heap.size := by
      obtain ⟨u, hu, _⟩ := o5.cell1 (i := 0) rfl (by omega)
      exact cell_lt hu
    simp only [↓eBinI, ↓eDiv, ↓eShift, ↓eBinS, ↓ePick, ↓eNot, ↓eNeg, ↓eConv, ↓eConvS, ↓eExt0, ↓eExt1, ↓eExt2, ↓eFA, ↓eIA, ↓eLenSl, ↓eCapSl, ↓eLenS, ↓eMin, ↓eMax, ↓eCondT, ↓eCondF, ↓gIf_tt, ↓gIf_ff, ↓gIf_tf, ↓gIf_ft, ↓gIf_u, ↓gIfW_u, ↓gIfW_tt, ↓gIfW_ff, ↓gIfW_tf, ↓gIfW_ft, binI, divI, shiftI, add_mk, Nat.zero_add, cond_true, cond_false, decide_true, decide_false, Bool.not_true, Bool.not_false, Bool.and_true, Bool.true_and, Bool.and_false, Bool.false_and, Int.toNat_natCast, Nat.mul_one]
    refine know_Know_closed.loop3 (fun x8 x33 w' => ∃ (i : Nat) (had' : List Bool) (more : Bool), i ≤ ns.length + 1 ∧ x33 = .int .i64 (i : Int) ∧ x8 = .bool more ∧ Ext w1 w' ∧ G.Own .bool NoB w.heap.size w' (.slice (some ⟨gh, 0, none⟩) (ns.length + 1) (ns.length + 1)) had' ∧ had'.length = ns.length + 1 ∧ G.Own .bool NoB w5.heap.size w' (.slice (some ⟨gi, 0, none⟩) (ns.length + 1) (ns.length + 1)) is ∧
        Amid ns (inL ml) (bit had') ∧ (∀ q : Nat, q ≤ ns.length → bit had (q : Int) = true → bit had' (q : Int) = true) ∧ (more = true → ∃ q : Nat, q ≤ ns.length ∧ bit had (q : Int) = false ∧ bit had' (q : Int) = true) ∧
        (more = false → ∀ k (hk : k < ns.length), k + 1 < i → ns[k].1 = 5 → bit is ((k : Int) + 1) = true → bit is ns[k].2.1 = true → bit is ns[k].2.2.1 = true))
      (fun _ x33 _ => ns.length + 1 - (iv x33).toNat) ⟨0, had, false, by omega, rfl, rfl, x16, o5.ext x6, hl5, oi, hA, fun _ _ h => h, fun h => (by cases h), fun _ k hk h => (by omega)⟩ ?_
    rintro x8 x33 g3 w7 ⟨i, had', more, hi, rfl, rfl, x7, o7, hl7, oi7, hA7, hsub, hmo, hno⟩
    unfold know_Know_closed.b3
    have z7 := x7.size
    have e0 : IntKind.i64.wrap ((i : Int) + 1) = ((i + 1 : Nat) : Int) := by rw [wrap64 (by omega) (by omega)]; omega
    by_cases ci : (i : Int) < ((ns.length + 1 : Nat) : Int)
    · have hi' : i < ns.length + 1 := by omega
      have qi := boolAt oi7 (i := i) (by omega)
      have c7 := c1.ext x7
      obtain ⟨adk, ckk, ekk, qk⟩ := kindAt (B := 0) (DK := NoB) (r1.ok.ext x7) (by omega) hi'
      obtain ⟨adp, cpp, up, epp, qp, rp⟩ := partsAt (r1.op.ext x7) (by omega) hi'
      -- what is handed on where nothing is opened
      have keep : (∀ k (hk : k < ns.length), k + 1 = i → ns[k].1 = 5 → bit is ((k : Int) + 1) = true → bit is ns[k].2.1 = true → bit is ns[k].2.2.1 = true) →
          ∃ (i' : Nat) (had'' : List Bool) (more' : Bool), i' ≤ ns.length + 1 ∧ Value.int .i64 ((i + 1 : Nat) : Int) = .int .i64 (i' : Int) ∧ Value.bool more = .bool more' ∧ Ext w1 w7 ∧ G.Own .bool NoB w.heap.size w7 (.slice (some ⟨gh, 0, none⟩) (ns.length + 1) (ns.length + 1)) had'' ∧ had''.length = ns.length + 1 ∧ G.Own .bool NoB w5.heap.size w7 (.slice (some ⟨gi, 0, none⟩) (ns.length + 1) (ns.length + 1)) is ∧
            Amid ns (inL ml) (bit had'') ∧ (∀ q : Nat, q ≤ ns.length → bit had (q : Int) = true → bit had'' (q : Int) = true) ∧ (more' = true → ∃ q : Nat, q ≤ ns.length ∧ bit had (q : Int) = false ∧ bit had'' (q : Int) = true) ∧
            (more' = false → ∀ k (hk : k < ns.length), k + 1 < i' → ns[k].1 = 5 → bit is ((k : Int) + 1) = true → bit is ns[k].2.1 = true → bit is ns[k].2.2.1 = true) := fun hk0 =>
        ⟨i + 1, had', more, by omega, rfl, rfl, x7, o7, hl7, oi7, hA7, hsub, hmo, fun hm k hk hki => by
          by_cases e : k + 1 = i
          · exact hk0 k hk e
          · exact hno hm k hk (by omega)⟩
      simp only [↓eBinI, ↓eDiv, ↓eShift, ↓eBinS, ↓ePick, ↓eNot, ↓eNeg, ↓eConv, ↓eConvS, ↓eExt0, ↓eExt1, ↓eExt2, ↓eFA, ↓eIA, ↓eLenSl, ↓eCapSl, ↓eLenS, ↓eMin, ↓eMax, ↓eCondT, ↓eCondF, ↓gIf_tt, ↓gIf_ff, ↓gIf_tf, ↓gIf_ft, ↓gIf_u, ↓gIfW_u, ↓gIfW_tt, ↓gIfW_ff, ↓gIfW_tf, ↓gIfW_ft, binI, divI, shiftI, add_mk, Nat.zero_add, cond_true, cond_false, decide_true, decide_false, Bool.not_true, Bool.not_false, Bool.and_true, Bool.true_and, Bool.and_false, Bool.false_and, Int.toNat_natCast, Nat.mul_one, ci]
      refine ⟨by omega, by first | trivial | omega, ?_⟩
      simp only [add_mk, Nat.zero_add, ↓eLdW, qi, Option.some.injEq, exists_eq_left']
      cases hb : bit is (i : Int) with
      | false =>
        simp only [↓eBinI, ↓eDiv, ↓eShift, ↓eBinS, ↓ePick, ↓eNot, ↓eNeg, ↓eConv, ↓eConvS, ↓eExt0, ↓eExt1, ↓eExt2, ↓eFA, ↓eIA, ↓eLenSl, ↓eCapSl, ↓eLenS, ↓eMin, ↓eMax, ↓eCondT, ↓eCondF, ↓gIf_tt, ↓gIf_ff, ↓gIf_tf, ↓gIf_ft, ↓gIf_u, ↓gIfW_u, ↓gIfW_tt, ↓gIfW_ff, ↓gIfW_tf, ↓gIfW_ft, binI, divI, shiftI, add_mk, Nat.zero_add, cond_true, cond_false, decide_true, decide_false, Bool.not_true, Bool.not_false, Bool.and_true, Bool.true_and, Bool.and_false, Bool.false_and, Int.toNat_natCast, Nat.mul_one]
        unfold know_Know_closed.j1
        simp only [↓eBinI, ↓eDiv, ↓eShift, ↓eBinS, ↓ePick, ↓eNot, ↓eNeg, ↓eConv, ↓eConvS, ↓eExt0, ↓eExt1, ↓eExt2, ↓eFA, ↓eIA, ↓eLenSl, ↓eCapSl, ↓eLenS, ↓eMin, ↓eMax, ↓eCondT, ↓eCondF, ↓gIf_tt, ↓gIf_ff, ↓gIf_tf, ↓gIf_ft, ↓gIf_u, ↓gIfW_u, ↓gIfW_tt, ↓gIfW_ff, ↓gIfW_tf, ↓gIfW_ft, binI, divI, shiftI, add_mk, Nat.zero_add, cond_true, cond_false, decide_true, decide_false, Bool.not_true, Bool.not_false, Bool.and_true, Bool.true_and, Bool.and_false, Bool.false_and, Int.toNat_natCast, Nat.mul_one, e0]
        exact know_Know_closed.leaf3 (keep (fun k hk e _ h1 => by rw [show (k : Int) + 1 = (i : Int) by omega, hb] at h1; cases h1)) (by simp only [iv]; omega)
      | true =>
        obtain ⟨k, rfl⟩ : ∃ k, i = k + 1 := by
          cases i with
          | zero => rw [show ((0 : Nat) : Int) = (0 : Int) from rfl, i0] at hb; cases hb
          | succ k => exact ⟨k, rfl⟩
        have hk : k < ns.length := by omega
        have hth : thereN ns ((k + 1 : Nat) : Int) = true := thereN_iff.2 ⟨by omega, by omega⟩
        obtain ⟨k', hk2, ei, ek, ep⟩ := thereAt hth
        have : k' = k := by omega
        subst this
        rw [ek] at qk
        rw [ep] at rp
        simp only [↓eBinI, ↓eDiv, ↓eShift, ↓eBinS, ↓ePick, ↓eNot, ↓eNeg, ↓eConv, ↓eConvS, ↓eExt0, ↓eExt1, ↓eExt2, ↓eFA, ↓eIA, ↓eLenSl, ↓eCapSl, ↓eLenS, ↓eMin, ↓eMax, ↓eCondT, ↓eCondF, ↓gIf_tt, ↓gIf_ff, ↓gIf_tf, ↓gIf_ft, ↓gIf_u, ↓gIfW_u, ↓gIfW_tt, ↓gIfW_ff, ↓gIfW_tf, ↓gIfW_ft, binI, divI, shiftI, add_mk, Nat.zero_add, cond_true, cond_false, decide_true, decide_false, Bool.not_true, Bool.not_false, Bool.and_true, Bool.true_and, Bool.and_false, Bool.false_and, Int.toNat_natCast, Nat.mul_one, ↓ePNil, ↓c7.c2, ekk]
        refine ⟨by omega, by first | trivial | omega, ?_⟩
        simp only [↓eLdW, Int.toNat_natCast, Nat.mul_one, qk, Option.some.injEq, exists_eq_left']
        by_cases k5 : ns[k'].1 = 5
        · have en : (ns[k'].1 != 5) = false := by simp [k5]
          obtain ⟨hp5, q1, q2, q3, q4⟩ := parts5 hg hk k5
          rw [hp5] at rp
          obtain ⟨pa, hpa⟩ : ∃ pa : Nat, ns[k'].2.1 = (pa : Int) := ⟨ns[k'].2.1.toNat, by omega⟩
          obtain ⟨pb, hpb⟩ : ∃ pb : Nat, ns[k'].2.2.1 = (pb : Int) := ⟨ns[k'].2.2.1.toNat, by omega⟩
          obtain ⟨adx, cx, u0, eup, sx, _, r0, t0⟩ := rp.idx rfl (i := 0) (by simp)
          obtain ⟨ady, cy, u1, eup', sy, _, r1', t1⟩ := rp.idx rfl (i := 1) (by simp)
          rw [eup] at eup'
          simp only [Value.slice.injEq, Option.some.injEq, true_and] at eup'
          obtain ⟨rfl, rfl⟩ := eup'
          have v0 := t0.1
          have v1 := t1.1
          simp only [List.getElem_cons_zero, List.getElem_cons_succ, List.cons.injEq, and_true] at v0 v1
          subst v0 v1
          have eup : up = .slice (some adx) 2 cx := eup
          subst eup
          have qa := boolAt oi7 (i := pa) (by omega)
          have qb := boolAt oi7 (i := pb) (by omega)
          simp only [↓eBinI, ↓eDiv, ↓eShift, ↓eBinS, ↓ePick, ↓eNot, ↓eNeg, ↓eConv, ↓eConvS, ↓eExt0, ↓eExt1, ↓eExt2, ↓eFA, ↓eIA, ↓eLenSl, ↓eCapSl, ↓eLenS, ↓eMin, ↓eMax, ↓eCondT, ↓eCondF, ↓gIf_tt, ↓gIf_ff, ↓gIf_tf, ↓gIf_ft, ↓gIf_u, ↓gIfW_u, ↓gIfW_tt, ↓gIfW_ff, ↓gIfW_tf, ↓gIfW_ft, binI, divI, shiftI, add_mk, Nat.zero_add, cond_true, cond_false, decide_true, decide_false, Bool.not_true, Bool.not_false, Bool.and_true, Bool.true_and, Bool.and_false, Bool.false_and, Int.toNat_natCast, Nat.mul_one, en, ↓ePNil]
          refine ⟨vp, by rw [c7.c]; rfl, ?_⟩
          rw [epp]
          simp only [↓eBinI, ↓eDiv, ↓eShift, ↓eBinS, ↓ePick, ↓eNot, ↓eNeg, ↓eConv, ↓eConvS, ↓eExt0, ↓eExt1, ↓eExt2, ↓eFA, ↓eIA, ↓eLenSl, ↓eCapSl, ↓eLenS, ↓eMin, ↓eMax, ↓eCondT, ↓eCondF, ↓gIf_tt, ↓gIf_ff, ↓gIf_tf, ↓gIf_ft, ↓gIf_u, ↓gIfW_u, ↓gIfW_tt, ↓gIfW_ff, ↓gIfW_tf, ↓gIfW_ft, binI, divI, shiftI, add_mk, Nat.zero_add, cond_true, cond_false, decide_true, decide_false, Bool.not_true, Bool.not_false, Bool.and_true, Bool.true_and, Bool.and_false, Bool.false_and, Int.toNat_natCast, Nat.mul_one]
          refine ⟨by omega, by first | trivial | omega, ?_⟩
          simp only [↓eLdW, Int.toNat_natCast, Nat.mul_one, qp, Option.some.injEq, exists_eq_left']
          simp only [↓eBinI, ↓eDiv, ↓eShift, ↓eBinS, ↓ePick, ↓eNot, ↓eNeg, ↓eConv, ↓eConvS, ↓eExt0, ↓eExt1, ↓eExt2, ↓eFA, ↓eIA, ↓eLenSl, ↓eCapSl, ↓eLenS, ↓eMin, ↓eMax, ↓eCondT, ↓eCondF, ↓gIf_tt, ↓gIf_ff, ↓gIf_tf, ↓gIf_ft, ↓gIf_u, ↓gIfW_u, ↓gIfW_tt, ↓gIfW_ff, ↓gIfW_tf, ↓gIfW_ft, binI, divI, shiftI, add_mk, Nat.zero_add, cond_true, cond_false, decide_true, decide_false, Bool.not_true, Bool.not_false, Bool.and_true, Bool.true_and, Bool.and_false, Bool.false_and, Int.toNat_natCast, Nat.mul_one]
          refine ⟨by omega, by first | trivial | omega, ?_⟩
          simp only [↓eLdW, Int.toNat_zero, Nat.mul_one, Nat.zero_mul, r0, Option.some.injEq, exists_eq_left']
          rw [hpa]
          simp only [↓eBinI, ↓eDiv, ↓eShift, ↓eBinS, ↓ePick, ↓eNot, ↓eNeg, ↓eConv, ↓eConvS, ↓eExt0, ↓eExt1, ↓eExt2, ↓eFA, ↓eIA, ↓eLenSl, ↓eCapSl, ↓eLenS, ↓eMin, ↓eMax, ↓eCondT, ↓eCondF, ↓gIf_tt, ↓gIf_ff, ↓gIf_tf, ↓gIf_ft, ↓gIf_u, ↓gIfW_u, ↓gIfW_tt, ↓gIfW_ff, ↓gIfW_tf, ↓gIfW_ft, binI, divI, shiftI, add_mk, Nat.zero_add, cond_true, cond_false, decide_true, decide_false, Bool.not_true, Bool.not_false, Bool.and_true, Bool.true_and, Bool.and_false, Bool.false_and, Int.toNat_natCast, Nat.mul_one]
          refine ⟨by omega, by first | trivial | omega, ?_⟩
          simp only [add_mk, Nat.zero_add, ↓eLdW, Int.toNat_natCast, Nat.mul_one, qa, Option.some.injEq, exists_eq_left']
          have keep5 : (bit is (pa : Int) = true → bit is (pb : Int) = true) → ∀ k (hk : k < ns.length), k + 1 = k' + 1 → ns[k].1 = 5 → bit is ((k : Int) + 1) = true → bit is ns[k].2.1 = true → bit is ns[k].2.2.1 = true := fun hh k hk e _ _ h2 => by
            have : k = k' := by omega
            subst this
            rw [hpa] at h2
            rw [hpb]; exact hh h2
          cases ha : bit is (pa : Int) with
          | false =>
            simp only [↓eBinI, ↓eDiv, ↓eShift, ↓eBinS, ↓ePick, ↓eNot, ↓eNeg, ↓eConv, ↓eConvS, ↓eExt0, ↓eExt1, ↓eExt2, ↓eFA, ↓eIA, ↓eLenSl, ↓eCapSl, ↓eLenS, ↓eMin, ↓eMax, ↓eCondT, ↓eCondF, ↓gIf_tt, ↓gIf_ff, ↓gIf_tf, ↓gIf_ft, ↓gIf_u, ↓gIfW_u, ↓gIfW_tt, ↓gIfW_ff, ↓gIfW_tf, ↓gIfW_ft, binI, divI, shiftI, add_mk, Nat.zero_add, cond_true, cond_false, decide_true, decide_false, Bool.not_true, Bool.not_false, Bool.and_true, Bool.true_and, Bool.and_false, Bool.false_and, Int.toNat_natCast, Nat.mul_one]
            unfold know_Know_closed.j1
            simp only [↓eBinI, ↓eDiv, ↓eShift, ↓eBinS, ↓ePick, ↓eNot, ↓eNeg, ↓eConv, ↓eConvS, ↓eExt0, ↓eExt1, ↓eExt2, ↓eFA, ↓eIA, ↓eLenSl, ↓eCapSl, ↓eLenS, ↓eMin, ↓eMax, ↓eCondT, ↓eCondF, ↓gIf_tt, ↓gIf_ff, ↓gIf_tf, ↓gIf_ft, ↓gIf_u, ↓gIfW_u, ↓gIfW_tt, ↓gIfW_ff, ↓gIfW_tf, ↓gIfW_ft, binI, divI, shiftI, add_mk, Nat.zero_add, cond_true, cond_false, decide_true, decide_false, Bool.not_true, Bool.not_false, Bool.and_true, Bool.true_and, Bool.and_false, Bool.false_and, Int.toNat_natCast, Nat.mul_one, e0]
            exact know_Know_closed.leaf3 (keep (keep5 (fun hh => by rw [ha] at hh; cases hh))) (by simp only [iv]; omega)
          | true =>
            simp only [↓eBinI, ↓eDiv, ↓eShift, ↓eBinS, ↓ePick, ↓eNot, ↓eNeg, ↓eConv, ↓eConvS, ↓eExt0, ↓eExt1, ↓eExt2, ↓eFA, ↓eIA, ↓eLenSl, ↓eCapSl, ↓eLenS, ↓eMin, ↓eMax, ↓eCondT, ↓eCondF, ↓gIf_tt, ↓gIf_ff, ↓gIf_tf, ↓gIf_ft, ↓gIf_u, ↓gIfW_u, ↓gIfW_tt, ↓gIfW_ff, ↓gIfW_tf, ↓gIfW_ft, binI, divI, shiftI, add_mk, Nat.zero_add, cond_true, cond_false, decide_true, decide_false, Bool.not_true, Bool.not_false, Bool.and_true, Bool.true_and, Bool.and_false, Bool.false_and, Int.toNat_natCast, Nat.mul_one]
            refine ⟨by omega, by first | trivial | omega, ?_⟩
            simp only [↓eLdW, Int.toNat_one, Nat.mul_one, r1', Option.some.injEq, exists_eq_left']
            rw [hpb]
            simp only [↓eBinI, ↓eDiv, ↓eShift, ↓eBinS, ↓ePick, ↓eNot, ↓eNeg, ↓eConv, ↓eConvS, ↓eExt0, ↓eExt1, ↓eExt2, ↓eFA, ↓eIA, ↓eLenSl, ↓eCapSl, ↓eLenS, ↓eMin, ↓eMax, ↓eCondT, ↓eCondF, ↓gIf_tt, ↓gIf_ff, ↓gIf_tf, ↓gIf_ft, ↓gIf_u, ↓gIfW_u, ↓gIfW_tt, ↓gIfW_ff, ↓gIfW_tf, ↓gIfW_ft, binI, divI, shiftI, add_mk, Nat.zero_add, cond_true, cond_false, decide_true, decide_false, Bool.not_true, Bool.not_false, Bool.and_true, Bool.true_and, Bool.and_false, Bool.false_and, Int.toNat_natCast, Nat.mul_one]
            refine ⟨by omega, by first | trivial | omega, ?_⟩
            simp only [add_mk, Nat.zero_add, ↓eLdW, Int.toNat_natCast, Nat.mul_one, qb, Option.some.injEq, exists_eq_left']
            cases hbb : bit is (pb : Int) with
            | true =>
              simp only [↓eBinI, ↓eDiv, ↓eShift, ↓eBinS, ↓ePick, ↓eNot, ↓eNeg, ↓eConv, ↓eConvS, ↓eExt0, ↓eExt1, ↓eExt2, ↓eFA, ↓eIA, ↓eLenSl, ↓eCapSl, ↓eLenS, ↓eMin, ↓eMax, ↓eCondT, ↓eCondF, ↓gIf_tt, ↓gIf_ff, ↓gIf_tf, ↓gIf_ft, ↓gIf_u, ↓gIfW_u, ↓gIfW_tt, ↓gIfW_ff, ↓gIfW_tf, ↓gIfW_ft, binI, divI, shiftI, add_mk, Nat.zero_add, cond_true, cond_false, decide_true, decide_false, Bool.not_true, Bool.not_false, Bool.and_true, Bool.true_and, Bool.and_false, Bool.false_and, Int.toNat_natCast, Nat.mul_one]
              unfold know_Know_closed.j1
              simp only [↓eBinI, ↓eDiv, ↓eShift, ↓eBinS, ↓ePick, ↓eNot, ↓eNeg, ↓eConv, ↓eConvS, ↓eExt0, ↓eExt1, ↓eExt2, ↓eFA, ↓eIA, ↓eLenSl, ↓eCapSl, ↓eLenS, ↓eMin, ↓eMax, ↓eCondT, ↓eCondF, ↓gIf_tt, ↓gIf_ff, ↓gIf_tf, ↓gIf_ft, ↓gIf_u, ↓gIfW_u, ↓gIfW_tt, ↓gIfW_ff, ↓gIfW_tf, ↓gIfW_ft, binI, divI, shiftI, add_mk, Nat.zero_add, cond_true, cond_false, decide_true, decide_false, Bool.not_true, Bool.not_false, Bool.and_true, Bool.true_and, Bool.and_false, Bool.false_and, Int.toNat_natCast, Nat.mul_one, e0]
              exact know_Know_closed.leaf3 (keep (keep5 (fun _ => hbb))) (by simp only [iv]; omega)
            | false =>
              have hadf : bit had (pb : Int) = false := by
                cases hc : bit had (pb : Int) with
                | false => rfl
                | true => rw [hiS _ (by omega) (by omega) hc] at hbb; cases hbb
              have hpl : pb < had'.length := by omega
              simp only [↓eBinI, ↓eDiv, ↓eShift, ↓eBinS, ↓ePick, ↓eNot, ↓eNeg, ↓eConv, ↓eConvS, ↓eExt0, ↓eExt1, ↓eExt2, ↓eFA, ↓eIA, ↓eLenSl, ↓eCapSl, ↓eLenS, ↓eMin, ↓eMax, ↓eCondT, ↓eCondF, ↓gIf_tt, ↓gIf_ff, ↓gIf_tf, ↓gIf_ft, ↓gIf_u, ↓gIfW_u, ↓gIfW_tt, ↓gIfW_ff, ↓gIfW_tf, ↓gIfW_ft, binI, divI, shiftI, add_mk, Nat.zero_add, cond_true, cond_false, decide_true, decide_false, Bool.not_true, Bool.not_false, Bool.and_true, Bool.true_and, Bool.and_false, Bool.false_and, Int.toNat_natCast, Nat.mul_one]
              refine ⟨by omega, by first | trivial | omega, ?_⟩
              try simp only [add_mk, Nat.zero_add, Int.toNat_natCast, Nat.mul_one]
              refine ⟨by omega, by omega, ?_⟩
              refine o7.set1 (y := true) rfl hpl rfl fun w8 o8 f8 => ?_
              unfold know_Know_closed.j1
              simp only [↓eBinI, ↓eDiv, ↓eShift, ↓eBinS, ↓ePick, ↓eNot, ↓eNeg, ↓eConv, ↓eConvS, ↓eExt0, ↓eExt1, ↓eExt2, ↓eFA, ↓eIA, ↓eLenSl, ↓eCapSl, ↓eLenS, ↓eMin, ↓eMax, ↓eCondT, ↓eCondF, ↓gIf_tt, ↓gIf_ff, ↓gIf_tf, ↓gIf_ft, ↓gIf_u, ↓gIfW_u, ↓gIfW_tt, ↓gIfW_ff, ↓gIfW_tf, ↓gIfW_ft, binI, divI, shiftI, add_mk, Nat.zero_add, cond_true, cond_false, decide_true, decide_false, Bool.not_true, Bool.not_false, Bool.and_true, Bool.true_and, Bool.and_false, Bool.false_and, Int.toNat_natCast, Nat.mul_one, e0]
              have zgi : gi ≠ gh := by omega
              exact know_Know_closed.leaf3 ⟨k' + 1 + 1, _, true, by omega, rfl, rfl, x7.tn f8 (fun x hx => by omega), o8, by simp [hl7], oi7.fr f8 (fun _ h => h.elim) (fun b hb _ e => by obtain ⟨_, _, _, e', rfl⟩ := hb; cases e'; exact zgi e),
                amid_set hg hk k5 hA7 hiA hl7 (by rw [show (k' : Int) + 1 = ((k' + 1 : Nat) : Int) by omega]; exact hb) (by rw [hpa]; exact ha) hpb, fun q hq hbq => by
                  rw [bit_set hpl]
                  split
                  · rfl
                  · exact hsub q hq hbq, fun _ => ⟨pb, by omega, hadf, by rw [bit_set hpl, if_pos rfl]⟩, fun h => (by cases h)⟩ (by simp only [iv]; omega)
        · have en : (ns[k'].1 != 5) = true := by simpa using k5
          simp only [↓eBinI, ↓eDiv, ↓eShift, ↓eBinS, ↓ePick, ↓eNot, ↓eNeg, ↓eConv, ↓eConvS, ↓eExt0, ↓eExt1, ↓eExt2, ↓eFA, ↓eIA, ↓eLenSl, ↓eCapSl, ↓eLenS, ↓eMin, ↓eMax, ↓eCondT, ↓eCondF, ↓gIf_tt, ↓gIf_ff, ↓gIf_tf, ↓gIf_ft, ↓gIf_u, ↓gIfW_u, ↓gIfW_tt, ↓gIfW_ff, ↓gIfW_tf, ↓gIfW_ft, binI, divI, shiftI, add_mk, Nat.zero_add, cond_true, cond_false, decide_true, decide_false, Bool.not_true, Bool.not_false, Bool.and_true, Bool.true_and, Bool.and_false, Bool.false_and, Int.toNat_natCast, Nat.mul_one, en]
          unfold know_Know_closed.j1
          simp only [↓eBinI, ↓eDiv, ↓eShift, ↓eBinS, ↓ePick, ↓eNot, ↓eNeg, ↓eConv, ↓eConvS, ↓eExt0, ↓eExt1, ↓eExt2, ↓eFA, ↓eIA, ↓eLenSl, ↓eCapSl, ↓eLenS, ↓eMin, ↓eMax, ↓eCondT, ↓eCondF, ↓gIf_tt, ↓gIf_ff, ↓gIf_tf, ↓gIf_ft, ↓gIf_u, ↓gIfW_u, ↓gIfW_tt, ↓gIfW_ff, ↓gIfW_tf, ↓gIfW_ft, binI, divI, shiftI, add_mk, Nat.zero_add, cond_true, cond_false, decide_true, decide_false, Bool.not_true, Bool.not_false, Bool.and_true, Bool.true_and, Bool.and_false, Bool.false_and, Int.toNat_natCast, Nat.mul_one, e0]
          exact know_Know_closed.leaf3 (keep (fun k hk e h5 => by
            have : k = k' := by omega
            subst this
            exact absurd h5 k5)) (by simp only [iv]; omega)
    · have hi' : i = ns.length + 1 := by omega
      subst hi'
      cases more with
      | true =>
        simp only [↓eBinI, ↓eDiv, ↓eShift, ↓eBinS, ↓ePick, ↓eNot, ↓eNeg, ↓eConv, ↓eConvS, ↓eExt0, ↓eExt1, ↓eExt2, ↓eFA, ↓eIA, ↓eLenSl, ↓eCapSl, ↓eLenS, ↓eMin, ↓eMax, ↓eCondT, ↓eCondF, ↓gIf_tt, ↓gIf_ff, ↓gIf_tf, ↓gIf_ft, ↓gIf_u, ↓gIfW_u, ↓gIfW_tt, ↓gIfW_ff, ↓gIfW_tf, ↓gIfW_ft, binI, divI, shiftI, add_mk, Nat.zero_add, cond_true, cond_false, decide_true, decide_false, Bool.not_true, Bool.not_false, Bool.and_true, Bool.true_and, Bool.and_false, Bool.false_and, Int.toNat_natCast, Nat.mul_one, ci]
        obtain ⟨q, q1, q2, q3⟩ := hmo rfl
        exact know_Know_closed.leaf2 ⟨had', x7, o7, hl7, hA7⟩ (falses_less o5 o7 hl5.symm hl7.symm (fun j hj => hsub j (by omega)) (j := q) (by omega) q2 q3)
      | false =>
        simp only [↓eBinI, ↓eDiv, ↓eShift, ↓eBinS, ↓ePick, ↓eNot, ↓eNeg, ↓eConv, ↓eConvS, ↓eExt0, ↓eExt1, ↓eExt2, ↓eFA, ↓eIA, ↓eLenSl, ↓eCapSl, ↓eLenS, ↓eMin, ↓eMax, ↓eCondT, ↓eCondF, ↓gIf_tt, ↓gIf_ff, ↓gIf_tf, ↓gIf_ft, ↓gIf_u, ↓gIfW_u, ↓gIfW_tt, ↓gIfW_ff, ↓gIfW_tf, ↓gIfW_ft, binI, divI, shiftI, add_mk, Nat.zero_add, cond_true, cond_false, decide_true, decide_false, Bool.not_true, Bool.not_false, Bool.and_true, Bool.true_and, Bool.and_false, Bool.false_and, Int.toNat_natCast, Nat.mul_one, ci]
        have nFi : ¬ FK' gi := fun hh => by have := r1.lt gi hh; omega
        exact h vk vp DP FK' gi w7 is (f1.trans x7 (fun _ _ h => h.elim)) g1 g2 (c1.ext x7) (r1.ext x7) (by omega) nFi (own_base oi7 (by omega)) il ⟨closed_of hiB (fun k hk => hno rfl k hk (by omega)), hiA⟩
  · refine ex30 ?_
    try simp only [↓eBinI, ↓eDiv, ↓eShift, ↓eBinS, ↓ePick, ↓eNot, ↓eNeg, ↓eConv, ↓eConvS, ↓eExt0, ↓eExt1, ↓eExt2, ↓eFA, ↓eIA, ↓eLenSl, ↓eCapSl, ↓eLenS, ↓eMin, ↓eMax, ↓eCondT, ↓eCondF, ↓gIf_tt, ↓gIf_ff, ↓gIf_tf, ↓gIf_ft, ↓gIf_u, ↓gIfW_u, ↓gIfW_tt, ↓gIfW_ff, ↓gIfW_tf, ↓gIfW_ft, binI, divI, shiftI, add_mk, Nat.zero_add, cond_true, cond_false, decide_true, decide_false, Bool.not_true, Bool.not_false, Bool.and_true, Bool.true_and, Bool.and_false, Bool.false_and, Int.toNat_natCast, Nat.mul_one]
    refine entry_ rl5 ?_
    obtain ⟨ra5, _⟩ := rl5
    obtain ⟨n1, n2⟩ := hnum p hp
    obtain ⟨q, hq⟩ : ∃ q : Nat, p.1 = (q : Int) := ⟨p.1.toNat, by omega⟩
    refine ex20 ?_
    rw [hq]
    unfold encI
    try simp only [↓eBinI, ↓eDiv, ↓eShift, ↓eBinS, ↓ePick, ↓eNot, ↓eNeg, ↓eConv, ↓eConvS, ↓eExt0, ↓eExt1, ↓eExt2, ↓eFA, ↓eIA, ↓eLenSl, ↓eCapSl, ↓eLenS, ↓eMin, ↓eMax, ↓eCondT, ↓eCondF, ↓gIf_tt, ↓gIf_ff, ↓gIf_tf, ↓gIf_ft, ↓gIf_u, ↓gIfW_u, ↓gIfW_tt, ↓gIfW_ff, ↓gIfW_tf, ↓gIfW_ft, binI, divI, shiftI, add_mk, Nat.zero_add, cond_true, cond_false, decide_true, decide_false, Bool.not_true, Bool.not_false, Bool.and_true, Bool.true_and, Bool.and_false, Bool.false_and, Int.toNat_natCast, Nat.mul_one]
    refine ⟨by omega, by omega, ?_⟩
    try simp only [add_mk, Nat.zero_add, Int.toNat_natCast, Nat.mul_one]
    have lr := ra4.lt
    have ogh : gh < r := by omega
    refine (o4.fr f5 (fun _ h => h.elim) (fun b hb _ e => by obtain ⟨_, _, _, e', rfl⟩ := hb; cases e'; simp at e; omega)).set1 (y := true) rfl (by omega) rfl fun w6 o6 f6 => ?_
    have z5 := f5.size
    have x56 : Ext w1 w6 := (x4.tn f5 (fun x hx => by omega)).tn f6 (fun x hx => by omega)
    refine know_Know_closed.leaf1 ⟨p.1 :: done, _, x56, ra5.fr f6 rgr rgs, o6, by simp [hl4], fun i hi => ?_, fun k hk => ?_⟩ ?_
    · rw [bit_set (by omega)]
      by_cases e : q = i
      · subst e; simp [hq]
      · rw [if_neg e, hb4 i hi]
        have : ((i : Int) ∈ p.1 :: done) ↔ (i : Int) ∈ done := by
          rw [List.mem_cons, hq]
          constructor
          · rintro (hh | hh)
            · omega
            · exact hh
          · exact .inr
        exact (decide_eq_decide.2 this).symm
    · rcases List.mem_cons.1 hk with rfl | hk
      · exact List.mem_map.2 ⟨p, hp, rfl⟩
      · exact hk4 k hk
    · rw [rangeLeft_fr ra5 f6 rgr rgs]; exact hlt
end Go.Proofs.Ytkpgmaiklfjjgaa
end
section
set_option linter.unusedSimpArgs false
set_option linter.unusedVariables false
set_option maxRecDepth 100000
namespace Go.Proofs.Ytkpgmaiklfjjgaa
open Go Go.G
variable {X : KX} {w : World} {K : KV} {D D' : Nat → Prop} {gT gK gL gS : Nat} {F FK : Nat → Prop} {ns : List Node} {ml : List (Int × Value)}
theorem Cs.c4 {w : World} {g : Nat} {a b c d e : Value} {l : List Value} (h : Cs w g (a :: b :: c :: d :: e :: l)) {K : KP} : pLd (· = w) (.pointer (some ⟨g, 4, none⟩)) K = K e := by
  rw [eLdW, h.c]; simp
theorem Cs.e4 {w : World} {g : Nat} {a b c d e : Value} {l : List Value} (h : Cs w g (a :: b :: c :: d :: e :: l)) {K : KP} : pLd (Ext w) (.pointer (some ⟨g, 4, none⟩)) K = K e := eLdE (by rw [h.c]; rfl)
set_option maxHeartbeats 1000000 in
theorem all_c (hk : Know w gK gT gL FK ns ml) (ht : Tab w gT F ns) (hd : ∀ b, FK b → ¬ F b)
    (h : ∀ v is w' FK', Fr FK w w' → (∀ b, FK' b → FK b ∨ w.heap.size ≤ b) → Know w' gK gT gL FK' ns ml → Rd (.slice .bool) FK' w' [v] is → is.length = ns.length + 1 → Least ns (inL ml) (bit is) → K v w') : GCalls Try.prog 29 [.pointer (some ⟨gK, 0, none⟩)] K X w := by
  have hk0 := hk
  have hlen := ht.len
  obtain ⟨vk, vp, vi, m, is, DP, DI, h1, h2, h3, h4, h5, h6, h7, h8, h9, h10, h11, h12, h13, h14, h15, h16, h17, h18, h19, h20⟩ := hk
  obtain ⟨ai, ci, ei, hci, hil⟩ := h5.form
  apply know_Know_all.calls; unfold know_Know_all.b
  refine draw_ fun w1 x1 => ?_
  have c1 := h1.ext x1
  rw [ei] at c1
  simp only [↓eBinI, ↓eDiv, ↓eShift, ↓eBinS, ↓ePick, ↓eNot, ↓eNeg, ↓eConv, ↓eConvS, ↓eExt0, ↓eExt1, ↓eExt2, ↓eFA, ↓eIA, ↓eLenSl, ↓eCapSl, ↓eLenS, ↓eMin, ↓eMax, ↓eCondT, ↓eCondF, ↓gIf_tt, ↓gIf_ff, ↓gIf_tf, ↓gIf_ft, ↓gIf_u, ↓gIfW_u, ↓gIfW_tt, ↓gIfW_ff, ↓gIfW_tf, ↓gIfW_ft, binI, divI, shiftI, add_mk, Nat.zero_add, cond_true, cond_false, decide_true, decide_false, Bool.not_true, Bool.not_false, Bool.and_true, Bool.true_and, Bool.and_false, Bool.false_and, Int.toNat_natCast, Nat.mul_one, ↓ePNil, ↓(Cs.e4 c1), ↓c1.e0]
  refine TLen_c (ht.ext x1) ?_
  refine ⟨Fr.refl _ _, ?_⟩
  have e0 : IntKind.i64.wrap ((ns.length : Int) + 1) = (ns.length : Int) + 1 := by rw [wrap64 (by omega) (by omega)]
  by_cases hc : is.length = ns.length + 1
  · have en : (((is.length : Nat) : Int) != (ns.length : Int) + 1) = false := by rw [hc]; simp
    simp only [↓eBinI, ↓eDiv, ↓eShift, ↓eBinS, ↓ePick, ↓eNot, ↓eNeg, ↓eConv, ↓eConvS, ↓eExt0, ↓eExt1, ↓eExt2, ↓eFA, ↓eIA, ↓eLenSl, ↓eCapSl, ↓eLenS, ↓eMin, ↓eMax, ↓eCondT, ↓eCondF, ↓gIf_tt, ↓gIf_ff, ↓gIf_tf, ↓gIf_ft, ↓gIf_u, ↓gIfW_u, ↓gIfW_tt, ↓gIfW_ff, ↓gIfW_tf, ↓gIfW_ft, binI, divI, shiftI, add_mk, Nat.zero_add, cond_true, cond_false, decide_true, decide_false, Bool.not_true, Bool.not_false, Bool.and_true, Bool.true_and, Bool.and_false, Bool.false_and, Int.toNat_natCast, Nat.mul_one, e0, en]
    unfold know_Know_all.j1
    simp only [↓eBinI, ↓eDiv, ↓eShift, ↓eBinS, ↓ePick, ↓eNot, ↓eNeg, ↓eConv, ↓eConvS, ↓eExt0, ↓eExt1, ↓eExt2, ↓eFA, ↓eIA, ↓eLenSl, ↓eCapSl, ↓eLenS, ↓eMin, ↓eMax, ↓eCondT, ↓eCondF, ↓gIf_tt, ↓gIf_ff, ↓gIf_tf, ↓gIf_ft, ↓gIf_u, ↓gIfW_u, ↓gIfW_tt, ↓gIfW_ff, ↓gIfW_tf, ↓gIfW_ft, binI, divI, shiftI, add_mk, Nat.zero_add, cond_true, cond_false, decide_true, decide_false, Bool.not_true, Bool.not_false, Bool.and_true, Bool.true_and, Bool.and_false, Bool.false_and, Int.toNat_natCast, Nat.mul_one, ↓ePNil, ↓(Cs.c4 c1)]
    have hres := h vi is w1 FK (x1.mono (fun _ _ h => h.elim)) (fun b hb => .inl hb) (hk0.ext x1) ((h5.ext x1).wide h14) hc (h6 hc)
    rw [ei] at hres
    exact hres
  · have en : (((is.length : Nat) : Int) != (ns.length : Int) + 1) = true := by simp; omega
    simp only [↓eBinI, ↓eDiv, ↓eShift, ↓eBinS, ↓ePick, ↓eNot, ↓eNeg, ↓eConv, ↓eConvS, ↓eExt0, ↓eExt1, ↓eExt2, ↓eFA, ↓eIA, ↓eLenSl, ↓eCapSl, ↓eLenS, ↓eMin, ↓eMax, ↓eCondT, ↓eCondF, ↓gIf_tt, ↓gIf_ff, ↓gIf_tf, ↓gIf_ft, ↓gIf_u, ↓gIfW_u, ↓gIfW_tt, ↓gIfW_ff, ↓gIfW_tf, ↓gIfW_ft, binI, divI, shiftI, add_mk, Nat.zero_add, cond_true, cond_false, decide_true, decide_false, Bool.not_true, Bool.not_false, Bool.and_true, Bool.true_and, Bool.and_false, Bool.false_and, Int.toNat_natCast, Nat.mul_one, e0, en, ↓ePNil, ↓c1.c1]
    rw [← ei] at c1
    have z1 := x1.size
    have hrows : Rows2 w1 FK gK gL ns vk vp DP DI m := ⟨h2.ext x1, h3.ext x1, h11, h12, h13, fun b hb => by have := h15 b hb; omega, h17, h18, h19⟩
    refine Closed_c c1 hrows h7 (ht.ext x1) h9 hd (fun b hb => by have := h15 b (h14 b hb); omega) (by have := h15 gL h10; omega) h16 (fun hh => (h20 gK hh).1 rfl) (fun hh => (h20 gL hh).2 rfl) (h4.ext x1) h8 (.inl rfl) fun vk' vp' DP' FK' gi w2 is' f2 g1 g2 c2 r2 hgi nFi oi il lst => ?_
    have z2 := f2.size
    have m2 := (h4.ext x1).fr f2 (fun hh => hh.2.1 rfl)
    refine c2.set (i := 4) (by simp) rfl fun w3 c3 f3 => ?_
    have c3 : Cs w3 gK [.pointer (some ⟨gT, 0, none⟩), .map (some gL), vk', vp', .slice (some ⟨gi, 0, none⟩) (ns.length + 1) (ns.length + 1)] := c3
    have z3 := f3.size
    unfold know_Know_all.j1
    simp only [↓eBinI, ↓eDiv, ↓eShift, ↓eBinS, ↓ePick, ↓eNot, ↓eNeg, ↓eConv, ↓eConvS, ↓eExt0, ↓eExt1, ↓eExt2, ↓eFA, ↓eIA, ↓eLenSl, ↓eCapSl, ↓eLenS, ↓eMin, ↓eMax, ↓eCondT, ↓eCondF, ↓gIf_tt, ↓gIf_ff, ↓gIf_tf, ↓gIf_ft, ↓gIf_u, ↓gIfW_u, ↓gIfW_tt, ↓gIfW_ff, ↓gIfW_tf, ↓gIfW_ft, binI, divI, shiftI, add_mk, Nat.zero_add, cond_true, cond_false, decide_true, decide_false, Bool.not_true, Bool.not_false, Bool.and_true, Bool.true_and, Bool.and_false, Bool.false_and, Int.toNat_natCast, Nat.mul_one, ↓ePNil, ↓(Cs.c4 c3)]
    have nK : gi ≠ gK := fun e => nFi (e ▸ g2 gK h9)
    have nL : gi ≠ gL := fun e => nFi (e ▸ g2 gL h10)
    have fr : Fr FK w w3 := ((x1.mono (fun _ _ h => h.elim)).trans f2 (fun b _ hb => hb.1)).trans f3 (fun b _ hb => by rw [hb]; exact h9)
    have oi3 := oi.fr f3 (fun _ h => h.elim) (fun b hb _ e => by obtain ⟨_, _, _, e', rfl⟩ := hb; cases e'; exact nK e)
    have ogi : gi < w3.heap.size := by
      obtain ⟨u, hu, _⟩ := oi3.cell1 (i := 0) rfl (by omega)
      exact cell_lt hu
    have rdi : Rd (.slice .bool) (· = gi) w3 [.slice (some ⟨gi, 0, none⟩) (ns.length + 1) (ns.length + 1)] is' := by
      have := oi3.rd2 (D' := (· = gi)) (fun _ h => h.elim) (fun b hb _ _ => by obtain ⟨_, _, _, e', rfl⟩ := hb; cases e'; rfl) (by show is'.length < _; omega)
      exact this
    have hk' : Know w3 gK gT gL (fun b => FK' b ∨ b = gi) ns ml := by
      refine ⟨vk', vp', _, ns.length + 1, is', DP', (· = gi), c3, r2.ok.fr f3 (fun _ h => h.elim) (fun b hb _ e => (r2.nk b hb).1 e), r2.op.fr f3 (fun b hb e => (r2.nd b hb).1 e) (fun b hb _ e => (r2.np b hb).1 e), m2.fr f3 (fun e => h16 e.symm), rdi, fun _ => lst, Nat.le_refl _, h8,
        .inl (g2 gK h9), .inl (g2 gL h10), fun b hb => .inl (r2.fk b hb), fun b hb => .inl (r2.fp b hb), fun b hb => .inl (r2.fd b hb), fun b hb => .inr hb, fun b hb => ?_, h16, fun b hb => ⟨(r2.nk b hb).1, (r2.nk b hb).2.1, (r2.nk b hb).2.2.1, (r2.nk b hb).2.2.2.1, fun e => nFi (e ▸ r2.fk b hb)⟩, fun b hb => ⟨(r2.np b hb).1, (r2.np b hb).2.1, fun e => nFi (e ▸ r2.fp b hb)⟩, r2.nd, fun b hb => by rw [hb]; exact ⟨nK, nL⟩⟩
      rcases hb with hb | rfl
      · have := r2.lt b hb; omega
      · exact ogi
    exact h _ is' w3 _ fr (fun b hb => by
      rcases hb with hb | rfl
      · exact (g1 b hb).imp id (fun hh => by omega)
      · exact .inr (by omega)) hk' (rdi.wide fun b hb => .inr hb) il lst
theorem Derives_c {id : Int} (hk : Know w gK gT gL FK ns ml) (ht : Tab w gT F ns) (hd : ∀ b, FK b → ¬ F b) (hid : InI id)
    (h : ∀ w' FK' r, Fr FK w w' → (∀ b, FK' b → FK b ∨ w.heap.size ≤ b) → Know w' gK gT gL FK' ns ml → (thereN ns id = false → r = false) → (thereN ns id = true → ∃ is, Least ns (inL ml) (bit is) ∧ r = bit is id) → K (.bool r) w') : GCalls Try.prog 13 [.pointer (some ⟨gK, 0, none⟩), .int .i64 id] K X w := by
  have hlen := ht.len
  have h1 : ∃ vk vp vi, Cs w gK [.pointer (some ⟨gT, 0, none⟩), .map (some gL), vk, vp, vi] := by
    obtain ⟨vk, vp, vi, m, is, DP, DI, h1, _⟩ := hk; exact ⟨vk, vp, vi, h1⟩
  obtain ⟨vk, vp, vi, h1⟩ := h1
  apply know_Know_Derives.calls; unfold know_Know_Derives.b
  simp only [↓eBinI, ↓eDiv, ↓eShift, ↓eBinS, ↓ePick, ↓eNot, ↓eNeg, ↓eConv, ↓eConvS, ↓eExt0, ↓eExt1, ↓eExt2, ↓eFA, ↓eIA, ↓eLenSl, ↓eCapSl, ↓eLenS, ↓eMin, ↓eMax, ↓eCondT, ↓eCondF, ↓gIf_tt, ↓gIf_ff, ↓gIf_tf, ↓gIf_ft, ↓gIf_u, ↓gIfW_u, ↓gIfW_tt, ↓gIfW_ff, ↓gIfW_tf, ↓gIfW_ft, binI, divI, shiftI, add_mk, Nat.zero_add, cond_true, cond_false, decide_true, decide_false, Bool.not_true, Bool.not_false, Bool.and_true, Bool.true_and, Bool.and_false, Bool.false_and, Int.toNat_natCast, Nat.mul_one, ↓ePEqS, ↓ePNil, ↓h1.c0]
  refine Kind_c ht hid fun w1 x1 => ?_
  cases hth : thereN ns id with
  | false =>
    rw [(thereNot hth).1]
    simp only [↓eBinI, ↓eDiv, ↓eShift, ↓eBinS, ↓ePick, ↓eNot, ↓eNeg, ↓eConv, ↓eConvS, ↓eExt0, ↓eExt1, ↓eExt2, ↓eFA, ↓eIA, ↓eLenSl, ↓eCapSl, ↓eLenS, ↓eMin, ↓eMax, ↓eCondT, ↓eCondF, ↓gIf_tt, ↓gIf_ff, ↓gIf_tf, ↓gIf_ft, ↓gIf_u, ↓gIfW_u, ↓gIfW_tt, ↓gIfW_ff, ↓gIfW_tf, ↓gIfW_ft, binI, divI, shiftI, add_mk, Nat.zero_add, cond_true, cond_false, decide_true, decide_false, Bool.not_true, Bool.not_false, Bool.and_true, Bool.true_and, Bool.and_false, Bool.false_and, Int.toNat_natCast, Nat.mul_one, show ((0 : Int) == 0) = true from rfl]
    exact h w1 FK false (x1.mono (fun _ _ h => h.elim)) (fun b hb => .inl hb) (hk.ext x1) (fun _ => rfl) (fun hh => by rw [hth] at hh; cases hh)
  | true =>
    have hpos := (kind_pos ht.good).2 hth
    have en : (kindN ns id == 0) = false := by simp; omega
    simp only [↓eBinI, ↓eDiv, ↓eShift, ↓eBinS, ↓ePick, ↓eNot, ↓eNeg, ↓eConv, ↓eConvS, ↓eExt0, ↓eExt1, ↓eExt2, ↓eFA, ↓eIA, ↓eLenSl, ↓eCapSl, ↓eLenS, ↓eMin, ↓eMax, ↓eCondT, ↓eCondF, ↓gIf_tt, ↓gIf_ff, ↓gIf_tf, ↓gIf_ft, ↓gIf_u, ↓gIfW_u, ↓gIfW_tt, ↓gIfW_ff, ↓gIfW_tf, ↓gIfW_ft, binI, divI, shiftI, add_mk, Nat.zero_add, cond_true, cond_false, decide_true, decide_false, Bool.not_true, Bool.not_false, Bool.and_true, Bool.true_and, Bool.and_false, Bool.false_and, Int.toNat_natCast, Nat.mul_one, en]
    refine all_c (hk.ext x1) (ht.ext x1) hd fun v is w2 FK' f2 g2 k2 rv il lst => ?_
    have z1 := x1.size
    obtain ⟨i1, i2⟩ := thereN_iff.1 hth
    obtain ⟨q, rfl⟩ : ∃ q : Nat, id = (q : Int) := ⟨id.toNat, by omega⟩
    obtain ⟨ad, c, rfl, qb⟩ := boolRd rv (i := q) (by omega)
    simp only [↓eBinI, ↓eDiv, ↓eShift, ↓eBinS, ↓ePick, ↓eNot, ↓eNeg, ↓eConv, ↓eConvS, ↓eExt0, ↓eExt1, ↓eExt2, ↓eFA, ↓eIA, ↓eLenSl, ↓eCapSl, ↓eLenS, ↓eMin, ↓eMax, ↓eCondT, ↓eCondF, ↓gIf_tt, ↓gIf_ff, ↓gIf_tf, ↓gIf_ft, ↓gIf_u, ↓gIfW_u, ↓gIfW_tt, ↓gIfW_ff, ↓gIfW_tf, ↓gIfW_ft, binI, divI, shiftI, add_mk, Nat.zero_add, cond_true, cond_false, decide_true, decide_false, Bool.not_true, Bool.not_false, Bool.and_true, Bool.true_and, Bool.and_false, Bool.false_and, Int.toNat_natCast, Nat.mul_one]
    refine ⟨by omega, by omega, ?_⟩
    simp only [↓eLdW, Int.toNat_natCast, Nat.mul_one, qb, Option.some.injEq, exists_eq_left']
    exact h w2 FK' _ ((x1.mono (fun _ _ h => h.elim)).trans f2 (fun _ _ h => h)) (fun b hb => (g2 b hb).imp id (fun hh => by omega)) k2 (fun hh => by rw [hth] at hh; cases hh) (fun _ => ⟨is, lst, rfl⟩)
end Go.Proofs.Ytkpgmaiklfjjgaa
end
section
set_option linter.unusedSimpArgs false
set_option linter.unusedVariables false
set_option maxRecDepth 100000
namespace Go.Proofs.Ytkpgmaiklfjjgaa
open Go Go.G
variable {X : KX} {w : World} {K : KV} {D D' : Nat → Prop} {ns : List Node}
/-- A row after a round, up to a place. -/
def RoundTo (ns : List Node) (d out : List Bool) (i : Nat) : Prop :=
  out.length = ns.length + 1 ∧ ∀ j : Nat, j ≤ ns.length → (bit out (j : Int) = true ↔ bit d (j : Int) = true ∨ (∃ k, k < i ∧ j = k + 1 ∧ wholeB ns (bit d) k = true) ∨ ∃ k, k < i ∧ openB ns (bit d) k (j : Int) = true)
theorem RoundTo.start {d : List Bool} (hl : d.length = ns.length + 1) : RoundTo ns d d 0 := ⟨hl, fun j _ => ⟨.inl, fun h => by
  rcases h with h | ⟨k, hk, _⟩ | ⟨k, hk, _⟩
  · exact h
  · omega
  · omega⟩⟩
theorem RoundTo.no {d out : List Bool} {i : Nat} (h : RoundTo ns d out i) (hi : i < ns.length) (ho : ∀ j, openB ns (bit d) i j = false) : RoundTo ns d (out.set (i + 1) (bit out ((i + 1 : Nat) : Int) || wholeB ns (bit d) i)) (i + 1) := by
  obtain ⟨h1, h2⟩ := h
  have hle : i + 1 < out.length := by omega
  refine ⟨by simp [h1], fun j hj => ?_⟩
  rw [bit_set hle]
  have hj2 := h2 j hj
  by_cases e : i + 1 = j
  · subst e
    rw [if_pos rfl, Bool.or_eq_true_iff, hj2]
    constructor
    · rintro ((h | ⟨k, hk, a, b⟩ | ⟨k, hk, a⟩) | h)
      · exact .inl h
      · exact .inr (.inl ⟨k, by omega, a, b⟩)
      · exact .inr (.inr ⟨k, by omega, a⟩)
      · exact .inr (.inl ⟨i, by omega, rfl, h⟩)
    · rintro (h | ⟨k, hk, a, b⟩ | ⟨k, hk, a⟩)
      · exact .inl (.inl h)
      · have : k = i := by omega
        subst this
        exact .inr b
      · by_cases e : k = i
        · subst e; rw [ho] at a; cases a
        · exact .inl (.inr (.inr ⟨k, by omega, a⟩))
  · rw [if_neg e, hj2]
    constructor
    · rintro (h | ⟨k, hk, a, b⟩ | ⟨k, hk, a⟩)
      · exact .inl h
      · exact .inr (.inl ⟨k, by omega, a, b⟩)
      · exact .inr (.inr ⟨k, by omega, a⟩)
    · rintro (h | ⟨k, hk, a, b⟩ | ⟨k, hk, a⟩)
      · exact .inl h
      · exact .inr (.inl ⟨k, by omega, a, b⟩)
      · by_cases e : k = i
        · subst e; rw [ho] at a; cases a
        · exact .inr (.inr ⟨k, by omega, a⟩)
theorem RoundTo.yes {d out : List Bool} {i p : Nat} (h : RoundTo ns d out i) (hi : i < ns.length) (hp : p ≤ ns.length) (ho : ∀ j : Nat, openB ns (bit d) i (j : Int) = true ↔ j = p) : RoundTo ns d ((out.set (i + 1) (bit out ((i + 1 : Nat) : Int) || wholeB ns (bit d) i)).set p true) (i + 1) := by
  obtain ⟨h1, h2⟩ := h
  have hle : i + 1 < out.length := by omega
  refine ⟨by simp [h1], fun j hj => ?_⟩
  rw [bit_set (by simp; omega), bit_set hle]
  have hj2 := h2 j hj
  by_cases e0 : p = j
  · subst e0
    rw [if_pos rfl]
    exact ⟨fun _ => .inr (.inr ⟨i, by omega, (ho _).2 rfl⟩), fun _ => rfl⟩
  rw [if_neg e0]
  by_cases e : i + 1 = j
  · subst e
    rw [if_pos rfl, Bool.or_eq_true_iff, hj2]
    constructor
    · rintro ((h | ⟨k, hk, a, b⟩ | ⟨k, hk, a⟩) | h)
      · exact .inl h
      · exact .inr (.inl ⟨k, by omega, a, b⟩)
      · exact .inr (.inr ⟨k, by omega, a⟩)
      · exact .inr (.inl ⟨i, by omega, rfl, h⟩)
    · rintro (h | ⟨k, hk, a, b⟩ | ⟨k, hk, a⟩)
      · exact .inl (.inl h)
      · have : k = i := by omega
        subst this
        exact .inr b
      · by_cases e : k = i
        · subst e; exact absurd ((ho _).1 a) (fun e => e0 e.symm)
        · exact .inl (.inr (.inr ⟨k, by omega, a⟩))
  · rw [if_neg e, hj2]
    constructor
    · rintro (h | ⟨k, hk, a, b⟩ | ⟨k, hk, a⟩)
      · exact .inl h
      · exact .inr (.inl ⟨k, by omega, a, b⟩)
      · exact .inr (.inr ⟨k, by omega, a⟩)
    · rintro (h | ⟨k, hk, a, b⟩ | ⟨k, hk, a⟩)
      · exact .inl h
      · exact .inr (.inl ⟨k, by omega, a, b⟩)
      · by_cases e : k = i
        · subst e; exact absurd ((ho _).1 a) (fun e => e0 e.symm)
        · exact .inr (.inr ⟨k, by omega, a⟩)
end Go.Proofs.Ytkpgmaiklfjjgaa
end
