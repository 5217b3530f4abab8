/-
  Chains of keys: what is copied, a suite of real ciphers, a start, a step.
  Places, what is dropped, and gens that are stepped to.
-/
import Derived.Test.YtkpgmaiklfjjgaaDoorMoav
section
set_option linter.unusedSimpArgs false
set_option linter.unusedVariables false
namespace Go.Proofs.YtkpgmaiklfjjgaaDoor
open Go Go.G Go.RowKit
variable {X : KX} {w : World} {K : KV} {D D' : Nat → Prop}
abbrev tSkip : Ty := .pair (.int .i64) (.slice .byte)
theorem ratchet_copied_c {x : Value} {l : List (Int × List UInt8)} (hx : Rd (.slice tSkip) D w [x] l) (hl : l.length ≤ 1000) (hs : ∀ i (h : i < l.length), l[i].2.length ≤ 1000)
    (h : ∀ v w' D', Ext w w' → G.Own tSkip D' w.heap.size w' v l → (∀ b, D' b → w.heap.size ≤ b ∧ b < w'.heap.size) → (∀ b, Blk v b → b < w'.heap.size) → K v w') : GCalls Tryd.prog 45 [x] K X w := by
  obtain ⟨a1, c1, rfl, hc1, hl1⟩ := hx.form
  apply ratchet_copied.calls; unfold ratchet_copied.b
  simp only [↓eBinI, ↓eDiv, ↓eShift, ↓eBinS, ↓ePick, ↓eNot, ↓eNeg, ↓eConv, ↓eConvS, ↓eExt0, ↓eExt1, ↓eExt2, ↓eFA, ↓eIA, ↓eLenSl, ↓eCapSl, ↓eLenS, ↓eMin, ↓eMax, ↓eCondT, ↓eCondF, ↓gIf_tt, ↓gIf_ff, ↓gIf_tf, ↓gIf_ft, ↓gIf_u, ↓gIfW_u, ↓gIfW_tt, ↓gIfW_ff, ↓gIfW_tf, ↓gIfW_ft, binI, divI, shiftI, add_mk, Nat.zero_add, cond_true, cond_false, decide_true, decide_false, Bool.not_true, Bool.not_false, Bool.and_true, Bool.true_and, Bool.and_false, Bool.false_and, Int.toNat_natCast, Nat.mul_one]
  refine ratchet_copied.loop1 (fun x2 x7 w' => ∃ (i : Nat) (D' : Nat → Prop), i ≤ l.length ∧ x7 = .int .i64 i ∧ Ext w w' ∧ G.Own tSkip D' w.heap.size w' x2 (l.take i) ∧ (∀ b, D' b → w.heap.size ≤ b ∧ b < w'.heap.size) ∧ (∀ b, Blk x2 b → b < w'.heap.size)) (fun _ x7 _ => l.length - (iv x7).toNat)
    ⟨0, fun _ => False, by omega, rfl, Fr.refl _ _, G.Own.nil, fun _ h => h.elim, by rintro b ⟨a', n', c', e, _⟩; cases e⟩ ?_
  rintro x2 x7 gg w1 ⟨i, D1, hi, rfl, h1, ho, hD1, hb1⟩
  unfold ratchet_copied.b1
  by_cases ci : (i : Int) < (l.length : Int)
  · obtain ⟨ad, c', us, e1, s1, _, hus, q1, r1⟩ := (hx.ext h1).idxN (i := i) (by omega)
    simp only [Value.slice.injEq] at e1
    obtain ⟨rfl, -, rfl⟩ := e1
    obtain ⟨va, vb, rfl, hva, hvb, r2, r3⟩ := r1
    obtain ⟨rfl, hp0, hp1⟩ := r2
    obtain ⟨a2, c2', rfl, hc2, hl2, hr3⟩ := r3
    have r3 : Rd (.slice .byte) D w1 [.slice a2 l[i].2.length c2'] l[i].2 := ⟨a2, c2', rfl, hc2, hl2, hr3⟩
    have hli := hs i (by omega)
    simp only [↓eBinI, ↓eDiv, ↓eShift, ↓eBinS, ↓ePick, ↓eNot, ↓eNeg, ↓eConv, ↓eConvS, ↓eExt0, ↓eExt1, ↓eExt2, ↓eFA, ↓eIA, ↓eLenSl, ↓eCapSl, ↓eLenS, ↓eMin, ↓eMax, ↓eCondT, ↓eCondF, ↓gIf_tt, ↓gIf_ff, ↓gIf_tf, ↓gIf_ft, ↓gIf_u, ↓gIfW_u, ↓gIfW_tt, ↓gIfW_ff, ↓gIfW_tf, ↓gIfW_ft, binI, divI, shiftI, add_mk, Nat.zero_add, cond_true, cond_false, decide_true, decide_false, Bool.not_true, Bool.not_false, Bool.and_true, Bool.true_and, Bool.and_false, Bool.false_and, Int.toNat_natCast, Nat.mul_one, ci]
    refine ⟨by omega, by first | trivial | omega, ?_⟩
    refine ⟨ad.add (i * 2), [.int .i64 l[i].1, .slice a2 l[i].2.length c2'], rfl, rfl, fun w' e j hj => ?_, ?_⟩
    · subst e
      rw [add_add _ _ _ s1]
      match j, hj with
      | 0, _ => exact q1 0 _ rfl
      | 1, _ => exact q1 1 _ rfl
    refine boxC fun g9 w2 hg9 h2 b2 => ?_
    refine b2.setN rfl rfl (by simp [one]) fun w3 b3 hf3 => ?_
    have h13 : Ext w1 w3 := h2.tn hf3 (fun x e => by omega)
    have hg9' : w1.heap.size = g9 := hg9
    have hnb : ¬ (Blk x2 g9 ∧ w.heap.size ≤ g9) := fun hh => by have := hb1 g9 hh.1; omega
    refine drawS (fun b => Blk x2 b ∧ w.heap.size ≤ b) fun w4 h4 => ?_
    have b4 := b3.ext h4
    have h14 := h13.tr h4
    simp only [↓eBinI, ↓eDiv, ↓eShift, ↓eBinS, ↓ePick, ↓eNot, ↓eNeg, ↓eConv, ↓eConvS, ↓eExt0, ↓eExt1, ↓eExt2, ↓eFA, ↓eIA, ↓eLenSl, ↓eCapSl, ↓eLenS, ↓eMin, ↓eMax, ↓eCondT, ↓eCondF, ↓gIf_tt, ↓gIf_ff, ↓gIf_tf, ↓gIf_ft, ↓gIf_u, ↓gIfW_u, ↓gIfW_tt, ↓gIfW_ff, ↓gIfW_tf, ↓gIfW_ft, binI, divI, shiftI, add_mk, Nat.zero_add, cond_true, cond_false, decide_true, decide_false, Bool.not_true, Bool.not_false, Bool.and_true, Bool.true_and, Bool.and_false, Bool.false_and, Int.toNat_natCast, Nat.mul_one, ↓b4.f (T := fun b => Blk x2 b ∧ w.heap.size ≤ b) (o := 0) hnb rfl, ↓b4.f (T := fun b => Blk x2 b ∧ w.heap.size ≤ b) (o := 1) hnb rfl]
    refine Clone_c (r3.ext h14) (by omega) fun v w5 h5 hv hone => ⟨h5.mono (fun _ _ h => h.elim), ?_⟩
    refine ⟨[.int .i64 l[i].1, v], fill2 rfl hone, ?_⟩
    refine Cs.bslice (cs := [.int .i64 l[i].1, v]) (fillAgg rfl rfl) fun r w6 hr h6 b6 => ⟨(h5.tr h6).mono (fun _ _ h => h.elim), ?_⟩
    have h16 := (h14.tr h5).tr h6
    have s14 := h14.size; have s5 := h5.size; have s6 := h6.size
    have hD2 : G.Own tSkip (fun b => D1 b ∨ (w4.heap.size ≤ b ∧ b < w6.heap.size)) w.heap.size w6 x2 (l.take i) := (ho.ext h16).wide2 (fun b hb => .inl hb) (fun b hb hB hn => by
      rintro (hd | hd)
      · exact hn hd
      · have := hb1 b hb; omega)
    have hvw : Rd (.slice .byte) (fun b => D1 b ∨ (w4.heap.size ≤ b ∧ b < w6.heap.size)) w6 [v] l[i].2 :=
      (hv.ext h6).rd2 (fun _ h => h.elim) (fun b _ h1 h2 => .inr ⟨h1, h2⟩) (by omega)
    have hrow : Rd tSkip (fun b => D1 b ∨ (w4.heap.size ≤ b ∧ b < w6.heap.size)) w6 [.int .i64 l[i].1, v] l[i] := ⟨[.int .i64 l[i].1], [v], rfl, rfl, rfl, ⟨rfl, hp0, hp1⟩, hvw⟩
    obtain ⟨T6, b6'⟩ := b6
    have s1 := h1.size
    refine hD2.push (by omega) (fun hd => by rcases hd with hd | hd; · have := hD1 _ hd; omega
                                             · omega) rfl rfl b6' hrow (by simp; omega) fun v' w7 ho' hf' hb' => ?_
    refine ⟨((h5.tr h6).mono (fun _ _ h => h.elim)).trans hf' (fun _ _ h => h), ?_⟩
    have s7 := hf'.size
    rw [wrap64 (by omega) (by omega)]
    refine ratchet_copied.leaf1 ⟨i + 1, (fun b => D1 b ∨ (w4.heap.size ≤ b ∧ b < w6.heap.size)), by omega, by simp, (h1.tr h16).tn hf' (fun x hx => hx.2), ?_, fun b hb => ?_, fun b hb => ?_⟩ (by simp only [iv]; omega)
    · rw [List.take_succ_eq_append_getElem (by omega)]; exact ho'
    · rcases hb with hb | hb
      · have := hD1 b hb; omega
      · omega
    · rcases hb' b hb with hb | hb
      · have := hb1 b hb; omega
      · omega
  · simp only [↓eBinI, ↓eDiv, ↓eShift, ↓eBinS, ↓ePick, ↓eNot, ↓eNeg, ↓eConv, ↓eConvS, ↓eExt0, ↓eExt1, ↓eExt2, ↓eFA, ↓eIA, ↓eLenSl, ↓eCapSl, ↓eLenS, ↓eMin, ↓eMax, ↓eCondT, ↓eCondF, ↓gIf_tt, ↓gIf_ff, ↓gIf_tf, ↓gIf_ft, ↓gIf_u, ↓gIfW_u, ↓gIfW_tt, ↓gIfW_ff, ↓gIfW_tf, ↓gIfW_ft, binI, divI, shiftI, add_mk, Nat.zero_add, cond_true, cond_false, decide_true, decide_false, Bool.not_true, Bool.not_false, Bool.and_true, Bool.true_and, Bool.and_false, Bool.false_and, Int.toNat_natCast, Nat.mul_one, ci]
    have : i = l.length := by omega
    subst this
    rw [List.take_length] at ho
    exact h _ w1 _ h1 ho hD1 hb1
/-- A suite of real ciphers. -/
def SReal (w : World) (g : Nat) : Prop := ∃ p, Cs w g [.pointer none, .map none, .pointer (some p)]
theorem SReal.fr {T : Nat → Prop} {w w' : World} {g : Nat} (h : SReal w g) (e : Fr T w w') (hT : ¬ T g) : SReal w' g := by
  obtain ⟨p, hc⟩ := h; exact ⟨p, hc.fr e hT⟩
theorem SReal.ext {w w' : World} {g : Nat} (h : SReal w g) (e : Ext w w') : SReal w' g := h.fr e (fun h => h)
theorem Real_c (h0 : 0 < w.heap.size) (h : ∀ g w', Ext w w' → w.heap.size ≤ g → SReal w' g → K (.pointer (some ⟨g, 0, none⟩)) w') : GCalls Tryd.prog 13 [.slice none 0 0] K X w := by
  apply suite_Real.calls; unfold suite_Real.b
  refine New_c (seed := []) h0 (nil_rd NoB w) (by simp) fun g sb w1 h1 q1 q2 q3 s1 => ?_
  refine ⟨[.pointer none, .map none, .pointer (some ⟨g, 0, none⟩)], by simp [fillL, one_cells, cutIn, Value.cells], ?_⟩
  refine boxC (cs := [.pointer none, .map none, .pointer (some ⟨g, 0, none⟩)]) fun g2 w2 hg h2 c2 => ?_
  exact h g2 w2 (h1.tr h2) (by have := h1.size; omega) ⟨_, c2⟩
theorem ePEqT {a : Addr} {K : KP} : pEq .ptr true (.pointer (some a)) (.pointer none) K = K (.bool true) := by
  apply propext; exact ⟨fun ⟨b, h, k⟩ => by cases h; exact k, fun h => ⟨false, rfl, h⟩⟩
theorem none_c {g : Nat} (hs : SReal w g) (h : K (.bool false) w) : GCalls Tryd.prog 59 [.pointer (some ⟨g, 0, none⟩)] K X w := by
  obtain ⟨p, hc⟩ := hs
  apply suite_Suite_none.calls; unfold suite_Suite_none.b
  simp only [↓eBinI, ↓eDiv, ↓eShift, ↓eBinS, ↓ePick, ↓eNot, ↓eNeg, ↓eConv, ↓eConvS, ↓eExt0, ↓eExt1, ↓eExt2, ↓eFA, ↓eIA, ↓eLenSl, ↓eCapSl, ↓eLenS, ↓eMin, ↓eMax, ↓eCondT, ↓eCondF, ↓gIf_tt, ↓gIf_ff, ↓gIf_tf, ↓gIf_ft, ↓gIf_u, ↓gIfW_u, ↓gIfW_tt, ↓gIfW_ff, ↓gIfW_tf, ↓gIfW_ft, binI, divI, shiftI, add_mk, Nat.zero_add, cond_true, cond_false, decide_true, decide_false, Bool.not_true, Bool.not_false, Bool.and_true, Bool.true_and, Bool.and_false, Bool.false_and, Int.toNat_natCast, Nat.mul_one, ↓ePEqS, ↓ePNil, ↓hc.c2]
  exact h
theorem real_c {g : Nat} (hs : SReal w g) (h : K (.bool true) w) : GCalls Tryd.prog 60 [.pointer (some ⟨g, 0, none⟩)] K X w := by
  obtain ⟨p, hc⟩ := hs
  apply suite_Suite_real.calls; unfold suite_Suite_real.b
  simp only [↓eBinI, ↓eDiv, ↓eShift, ↓eBinS, ↓ePick, ↓eNot, ↓eNeg, ↓eConv, ↓eConvS, ↓eExt0, ↓eExt1, ↓eExt2, ↓eFA, ↓eIA, ↓eLenSl, ↓eCapSl, ↓eLenS, ↓eMin, ↓eMax, ↓eCondT, ↓eCondF, ↓gIf_tt, ↓gIf_ff, ↓gIf_tf, ↓gIf_ft, ↓gIf_u, ↓gIfW_u, ↓gIfW_tt, ↓gIfW_ff, ↓gIfW_tf, ↓gIfW_ft, binI, divI, shiftI, add_mk, Nat.zero_add, cond_true, cond_false, decide_true, decide_false, Bool.not_true, Bool.not_false, Bool.and_true, Bool.true_and, Bool.and_false, Bool.false_and, Int.toNat_natCast, Nat.mul_one, ↓ePEqT, ↓ePNil, ↓hc.c2]
  exact h
theorem SDerive_c {g : Nat} {xk : Value} {key : List UInt8} {l : ByteArray} (hs : SReal w g) (hk : KT w) (hvk : Rd (.slice .byte) D w [xk] key) (hkl : key.length ≤ 1000) (hll : l.data.toList.length ≤ 200)
    (h : ∀ v w', Ext w w' → Rd (.slice .byte) (w.heap.size ≤ ·) w' [v] (deriveF key l.data.toList) → K v w') : GCalls Tryd.prog 44 [.pointer (some ⟨g, 0, none⟩), xk, .string l] K X w := by
  apply suite_Suite_Derive.calls; unfold suite_Suite_Derive.b
  refine none_c hs ?_
  simp only [↓eBinI, ↓eDiv, ↓eShift, ↓eBinS, ↓ePick, ↓eNot, ↓eNeg, ↓eConv, ↓eConvS, ↓eExt0, ↓eExt1, ↓eExt2, ↓eFA, ↓eIA, ↓eLenSl, ↓eCapSl, ↓eLenS, ↓eMin, ↓eMax, ↓eCondT, ↓eCondF, ↓gIf_tt, ↓gIf_ff, ↓gIf_tf, ↓gIf_ft, ↓gIf_u, ↓gIfW_u, ↓gIfW_tt, ↓gIfW_ff, ↓gIfW_tf, ↓gIfW_ft, binI, divI, shiftI, add_mk, Nat.zero_add, cond_true, cond_false, decide_true, decide_false, Bool.not_true, Bool.not_false, Bool.and_true, Bool.true_and, Bool.and_false, Bool.false_and, Int.toNat_natCast, Nat.mul_one]
  refine real_c hs ?_
  simp only [↓eBinI, ↓eDiv, ↓eShift, ↓eBinS, ↓ePick, ↓eNot, ↓eNeg, ↓eConv, ↓eConvS, ↓eExt0, ↓eExt1, ↓eExt2, ↓eFA, ↓eIA, ↓eLenSl, ↓eCapSl, ↓eLenS, ↓eMin, ↓eMax, ↓eCondT, ↓eCondF, ↓gIf_tt, ↓gIf_ff, ↓gIf_tf, ↓gIf_ft, ↓gIf_u, ↓gIfW_u, ↓gIfW_tt, ↓gIfW_ff, ↓gIfW_tf, ↓gIfW_ft, binI, divI, shiftI, add_mk, Nat.zero_add, cond_true, cond_false, decide_true, decide_false, Bool.not_true, Bool.not_false, Bool.and_true, Bool.true_and, Bool.and_false, Bool.false_and, Int.toNat_natCast, Nat.mul_one]
  exact Derive_c hk hvk hkl hll h
def keyL : List UInt8 := [107, 101, 121]
def nextL : List UInt8 := [110, 101, 120, 116]
/-- A chain's three cells. -/
def chainV (gen : Int) (vc vs : Value) : Value := .agg ⟨[.int .i64 gen, vc, vs]⟩
theorem one_of_rd {t : Ty} {v : Value} {xs : List t.D} (h : Rd (.slice t) D w [v] xs) : one v = true := by
  obtain ⟨a, c, e, _⟩ := h.form; rw [e]; rfl
theorem allOne3 {a b c : Value} (ha : one a = true) (hb : one b = true) (hc : one c = true) : ∀ v ∈ [a, b, c], one v = true := by
  intro v hv
  simp only [List.mem_cons, List.not_mem_nil, or_false] at hv
  rcases hv with rfl | rfl | rfl <;> assumption
theorem Start_c {x : Value} {key : List UInt8} (hx : Rd (.slice .byte) D w [x] key) (hl : key.length ≤ 1000) (h : ∀ v w', Ext w w' → Rd (.slice .byte) (w.heap.size ≤ ·) w' [v] key → K (chainV 0 v (.slice none 0 0)) w') : GCalls Tryd.prog 19 [x] K X w := by
  apply ratchet_Start.calls; unfold ratchet_Start.b
  refine boxC (cs := [.int .i64 0, .slice none 0 0, .slice none 0 0]) fun g w1 hg h1 c1 => ?_
  refine Clone_c (hx.ext h1) (by omega) fun v w2 h2 o2 hv => ?_
  refine ⟨[.int .i64 0, v, .slice none 0 0], by simp [fillL, one_cells hv, cutIn], ?_⟩
  have z1 := h1.size; have z2 := h2.size; have l1 := c1.lt
  refine (c1.ext h2).setN (l' := [.int .i64 0, v, .slice none 0 0]) rfl rfl (allOne3 rfl hv rfl) fun w3 c3 f3 => ?_
  rw [c3.ld3]
  refine h v w3 ((h1.tr h2).tn f3 (fun x hx => by omega)) ?_
  exact ((own_rd o2 (by show key.length < _; omega)).fr f3 (fun b hb => by show ¬ b = g; omega)).wide (fun b hb => Nat.le_trans z1 hb)
theorem Step_c {gs : Nat} {gen : Int} {vc vs : Value} {cur : List UInt8} {sk : List (Int × List UInt8)} (hs : SReal w gs) (hk : KT w) (hc : Rd (.slice .byte) D w [vc] cur) (hv : Rd (.slice tSkip) D' w [vs] sk)
    (hg0 : -9223372036854775808 ≤ gen) (hg1 : gen < 9223372036854775807) (hcl : cur.length ≤ 1000) (hsl : sk.length ≤ 1000) (hse : ∀ i (h : i < sk.length), sk[i].2.length ≤ 1000)
    (h : ∀ vk vn vs' w' D2 B, Ext w w' → w.heap.size ≤ B → B ≤ w'.heap.size → Rd (.slice .byte) (fun b => w.heap.size ≤ b ∧ b < B) w' [vk] (deriveF cur keyL) → Rd (.slice .byte) (fun b => w.heap.size ≤ b ∧ b < B) w' [vn] (deriveF cur nextL) → G.Own tSkip D2 B w' vs' sk → (∀ b, D2 b → B ≤ b ∧ b < w'.heap.size) → (∀ b, Blk vs' b → b < w'.heap.size) → K (.tuple #[vk, chainV (gen + 1) vn vs']) w') :
    GCalls Tryd.prog 12 [.pointer (some ⟨gs, 0, none⟩), chainV gen vc vs] K X w := by
  have ov := one_of_rd hc
  have os := one_of_rd hv
  apply ratchet_Step.calls; unfold ratchet_Step.b
  refine boxC (cs := [.int .i64 gen, vc, vs]) fun g3 w1 hg3 h1 c1 => ?_
  refine boxC (cs := [.int .i64 0, .slice none 0 0, .slice none 0 0]) fun g5 w2 hg5 h2 c2 => ?_
  have z1 := h1.size; have z2 := h2.size; have l1 := c1.lt; have l2 := c2.lt
  have h12 := h1.tr h2
  have c1 := c1.ext h2
  simp only [↓eBinI, ↓eDiv, ↓eShift, ↓eBinS, ↓ePick, ↓eNot, ↓eNeg, ↓eConv, ↓eConvS, ↓eExt0, ↓eExt1, ↓eExt2, ↓eFA, ↓eIA, ↓eLenSl, ↓eCapSl, ↓eLenS, ↓eMin, ↓eMax, ↓eCondT, ↓eCondF, ↓gIf_tt, ↓gIf_ff, ↓gIf_tf, ↓gIf_ft, ↓gIf_u, ↓gIfW_u, ↓gIfW_tt, ↓gIfW_ff, ↓gIfW_tf, ↓gIfW_ft, binI, divI, shiftI, add_mk, Nat.zero_add, cond_true, cond_false, decide_true, decide_false, Bool.not_true, Bool.not_false, Bool.and_true, Bool.true_and, Bool.and_false, Bool.false_and, Int.toNat_natCast, Nat.mul_one, ↓c1.c1]
  refine SDerive_c (l := ⟨#[107, 101, 121]⟩) (hs.ext h12) (hk.ext h12) (hc.ext h12) hcl (show 3 ≤ 200 by omega) fun vk w3 h3 rk => ?_
  have rk := rd_bound rk
  have z3 := h3.size
  have h13 := h12.tr h3
  refine draw_ fun w4 h4 => ?_
  have z4 := h4.size
  have h14 := h13.tr h4
  have c4 := (c1.ext h3).ext h4
  have e1 : IntKind.i64.wrap (gen + 1) = gen + 1 := by rw [wrap64 (by omega) (by omega)]
  simp only [↓eBinI, ↓eDiv, ↓eShift, ↓eBinS, ↓ePick, ↓eNot, ↓eNeg, ↓eConv, ↓eConvS, ↓eExt0, ↓eExt1, ↓eExt2, ↓eFA, ↓eIA, ↓eLenSl, ↓eCapSl, ↓eLenS, ↓eMin, ↓eMax, ↓eCondT, ↓eCondF, ↓gIf_tt, ↓gIf_ff, ↓gIf_tf, ↓gIf_ft, ↓gIf_u, ↓gIfW_u, ↓gIfW_tt, ↓gIfW_ff, ↓gIfW_tf, ↓gIfW_ft, binI, divI, shiftI, add_mk, Nat.zero_add, cond_true, cond_false, decide_true, decide_false, Bool.not_true, Bool.not_false, Bool.and_true, Bool.true_and, Bool.and_false, Bool.false_and, Int.toNat_natCast, Nat.mul_one, ↓c4.e0, ↓c4.e1, ↓c4.e2, e1]
  refine SDerive_c (l := ⟨#[110, 101, 120, 116]⟩) (hs.ext h14) (hk.ext h14) (hc.ext h14) hcl (show 4 ≤ 200 by omega) fun vn w5 h5 rn => ?_
  refine ⟨h5, ?_⟩
  have rn := rd_bound rn
  have z5 := h5.size
  have h15 := h14.tr h5
  refine ratchet_copied_c (hv.ext h15) hsl hse fun vs' w6 D2 h6 o6 hD2 hb6 => ?_
  refine ⟨h5.tr h6, ?_⟩
  have z6 := h6.size
  have c6 := (c4.ext h5).ext h6
  have on := one_of_rd rn
  have os' : one vs' = true := by obtain ⟨a, c, e, _⟩ := o6.form; rw [e]; rfl
  try simp only [↓eBinI, ↓eDiv, ↓eShift, ↓eBinS, ↓ePick, ↓eNot, ↓eNeg, ↓eConv, ↓eConvS, ↓eExt0, ↓eExt1, ↓eExt2, ↓eFA, ↓eIA, ↓eLenSl, ↓eCapSl, ↓eLenS, ↓eMin, ↓eMax, ↓eCondT, ↓eCondF, ↓gIf_tt, ↓gIf_ff, ↓gIf_tf, ↓gIf_ft, ↓gIf_u, ↓gIfW_u, ↓gIfW_tt, ↓gIfW_ff, ↓gIfW_tf, ↓gIfW_ft, binI, divI, shiftI, add_mk, Nat.zero_add, cond_true, cond_false, decide_true, decide_false, Bool.not_true, Bool.not_false, Bool.and_true, Bool.true_and, Bool.and_false, Bool.false_and, Int.toNat_natCast, Nat.mul_one]
  refine c6.set (i := 0) (by simp) rfl fun w7 c7 f7 => ?_
  refine anew_ ?_
  try simp only [↓eBinI, ↓eDiv, ↓eShift, ↓eBinS, ↓ePick, ↓eNot, ↓eNeg, ↓eConv, ↓eConvS, ↓eExt0, ↓eExt1, ↓eExt2, ↓eFA, ↓eIA, ↓eLenSl, ↓eCapSl, ↓eLenS, ↓eMin, ↓eMax, ↓eCondT, ↓eCondF, ↓gIf_tt, ↓gIf_ff, ↓gIf_tf, ↓gIf_ft, ↓gIf_u, ↓gIfW_u, ↓gIfW_tt, ↓gIfW_ff, ↓gIfW_tf, ↓gIfW_ft, binI, divI, shiftI, add_mk, Nat.zero_add, cond_true, cond_false, decide_true, decide_false, Bool.not_true, Bool.not_false, Bool.and_true, Bool.true_and, Bool.and_false, Bool.false_and, Int.toNat_natCast, Nat.mul_one]
  refine c7.set (i := 1) (by simp) on fun w8 c8 f8 => ?_
  refine anew_ ?_
  try simp only [↓eBinI, ↓eDiv, ↓eShift, ↓eBinS, ↓ePick, ↓eNot, ↓eNeg, ↓eConv, ↓eConvS, ↓eExt0, ↓eExt1, ↓eExt2, ↓eFA, ↓eIA, ↓eLenSl, ↓eCapSl, ↓eLenS, ↓eMin, ↓eMax, ↓eCondT, ↓eCondF, ↓gIf_tt, ↓gIf_ff, ↓gIf_tf, ↓gIf_ft, ↓gIf_u, ↓gIfW_u, ↓gIfW_tt, ↓gIfW_ff, ↓gIfW_tf, ↓gIfW_ft, binI, divI, shiftI, add_mk, Nat.zero_add, cond_true, cond_false, decide_true, decide_false, Bool.not_true, Bool.not_false, Bool.and_true, Bool.true_and, Bool.and_false, Bool.false_and, Int.toNat_natCast, Nat.mul_one]
  refine c8.set (i := 2) (by simp) os' fun w9 c9 f9 => ?_
  have c9 : Cs w9 g3 [.int .i64 (gen + 1), vn, vs'] := c9
  refine anew_ ?_
  refine draw_ fun w10 h10 => ?_
  rw [(c9.ext h10).le3]
  have f69 : Fr (· = g3) w6 w9 := (f7.trans f8 (fun _ _ h => h)).trans f9 (fun _ _ h => h)
  have c5 : Cs w10 g5 [.int .i64 0, .slice none 0 0, .slice none 0 0] := ((((((c2.ext h3).ext h4).ext h5).ext h6).fr f69 (by omega)).ext h10)
  refine c5.setN (l' := [.int .i64 (gen + 1), vn, vs']) rfl rfl (allOne3 rfl on os') fun w11 c11 f11 => ?_
  refine anew_ ?_
  rw [c11.ld3]
  have f6 : Fr (fun b => b = g3 ∨ b = g5) w6 w11 := ((f69.mono (fun _ _ h => .inl h)).trans (Fr.mono h10 (fun _ _ h => h.elim)) (fun _ _ h => h)).trans f11 (fun _ _ h => .inr h)
  have h16 := h15.tr h6
  have z11 := f6.size
  refine h vk vn vs' w11 D2 w5.heap.size (h16.tn f6 (fun x hx => by omega)) (by omega) (by omega) ?_ ?_ ?_ ?_ ?_
  · exact ((((rk.ext h4).ext h5).ext h6).fr f6 (fun b hb => by omega)).wide (fun b hb => by omega)
  · exact ((rn.ext h6).fr f6 (fun b hb => by omega)).wide (fun b hb => by omega)
  · exact o6.fr f6 (fun b hb => by have := hD2 b hb; omega) (fun b hb hB => by omega)
  · intro b hb; have := hD2 b hb; omega
  · intro b hb; have := hb6 b hb; omega
def placeF (sk : List (Int × List UInt8)) (gen : Int) : Int := match sk.findIdx? (fun x => x.1 == gen) with | some i => (i : Int) | none => -1
theorem place1_c {g : Nat} {a gen : Int} {vk : Value} (hv : one vk = true) (hc : Cs w g [.int .i64 gen]) (h : ∀ w', Ext w w' → K (.bool (a == gen)) w') : GCalls Tryd.prog 77 [.agg ⟨[.int .i64 a, vk]⟩, .pointer (some ⟨g, 0, none⟩)] K X w := by
  apply ratchet_place_c1.calls; unfold ratchet_place_c1.b
  refine boxC (cs := [.int .i64 a, vk]) fun g2 w1 hg h1 c1 => ?_
  simp only [↓eBinI, ↓eDiv, ↓eShift, ↓eBinS, ↓ePick, ↓eNot, ↓eNeg, ↓eConv, ↓eConvS, ↓eExt0, ↓eExt1, ↓eExt2, ↓eFA, ↓eIA, ↓eLenSl, ↓eCapSl, ↓eLenS, ↓eMin, ↓eMax, ↓eCondT, ↓eCondF, ↓gIf_tt, ↓gIf_ff, ↓gIf_tf, ↓gIf_ft, ↓gIf_u, ↓gIfW_u, ↓gIfW_tt, ↓gIfW_ff, ↓gIfW_tf, ↓gIfW_ft, binI, divI, shiftI, add_mk, Nat.zero_add, cond_true, cond_false, decide_true, decide_false, Bool.not_true, Bool.not_false, Bool.and_true, Bool.true_and, Bool.and_false, Bool.false_and, Int.toNat_natCast, Nat.mul_one, ↓c1.c0, ↓(hc.ext h1).c0]
  exact h _ h1
end Go.Proofs.YtkpgmaiklfjjgaaDoor
end
section
set_option linter.unusedSimpArgs false
set_option linter.unusedVariables false
namespace Go.Proofs.YtkpgmaiklfjjgaaDoor
open Go Go.G Go.RowKit
variable {X : KX} {w : World} {K : KV} {D D' : Nat → Prop}
theorem rd_bd : ∀ {t : Ty} {D : Nat → Prop} {w : World} {vs : List Value} {x : t.D}, Rd t D w vs x → Rd t (fun b => D b ∧ b < w.heap.size) w vs x
  | .int _, _, _, _, _, h => h
  | .byte, _, _, _, _, h => h
  | .bool, _, _, _, _, h => h
  | .str, _, _, _, _, h => h
  | .slice t, D, w, vs, xs, h => by
    obtain ⟨a, c, e, hc, hl, hne⟩ := h
    refine ⟨a, c, e, hc, hl, fun hn => ?_⟩
    obtain ⟨ad, e1, e2, e3, e4⟩ := hne hn
    have hp : 0 < xs.length := List.length_pos_iff.2 hn
    have hlt : ad.block < w.heap.size := by
      obtain ⟨cs, f1, f2, _⟩ := e4 0 hp
      have hn0 := t.n_pos
      have := cell_lt (f2 0 (cs[0]'(by omega)) (List.getElem?_eq_getElem _))
      rwa [add_block] at this
    refine ⟨ad, e1, e2, ⟨e3, hlt⟩, fun i hi => ?_⟩
    obtain ⟨cs, f1, f2, f3⟩ := e4 i hi
    exact ⟨cs, f1, f2, rd_bd f3⟩
  | .pair a b, D, w, vs, x, h => by
    obtain ⟨va, vb, e, ha, hb, h1, h2⟩ := h
    exact ⟨va, vb, e, ha, hb, rd_bd h1, rd_bd h2⟩
theorem placeF_some {sk : List (Int × List UInt8)} {gen : Int} {i : Nat} (h : i < sk.length) (he : sk[i].1 = gen) (hn : ∀ j (hj : j < i), (sk[j]'(by omega)).1 ≠ gen) : placeF sk gen = (i : Int) := by
  have : sk.findIdx? (fun x => x.1 == gen) = some i := by
    rw [List.findIdx?_eq_some_iff_getElem]
    exact ⟨h, by simpa using he, fun j hj => by simpa using hn j hj⟩
  unfold placeF; rw [this]
theorem placeF_none {sk : List (Int × List UInt8)} {gen : Int} (hn : ∀ j (hj : j < sk.length), sk[j].1 ≠ gen) : placeF sk gen = -1 := by
  have : sk.findIdx? (fun x => x.1 == gen) = none := by
    rw [List.findIdx?_eq_none_iff]
    intro x hx
    obtain ⟨j, hj, rfl⟩ := List.mem_iff_getElem.1 hx
    simpa using hn j hj
  unfold placeF; rw [this]
/-- The row of a skip, loaded whole. -/
theorem ldSkip {ad : Addr} {i : Nat} {us : List Value} {K : KP} (s1 : ad.spot = none) (hus : us.length = 2) (q1 : ∀ j u, us[j]? = some u → w.cell? (ad.add (i * 2 + j)) = some u) (h : K (.agg ⟨us⟩)) : pLdN (· = w) 2 (.pointer (some (ad.add (i * 2)))) K := by
  refine ⟨ad.add (i * 2), us, rfl, hus, fun w' e j hj => ?_, h⟩
  subst e
  rw [add_add _ _ _ s1]
  rw [List.getElem?_eq_getElem (by omega)]
  exact q1 j _ (List.getElem?_eq_getElem _)
theorem IndexFunc_c {v : Value} {g : Nat} {gen : Int} {sk : List (Int × List UInt8)} (hv : Rd (.slice tSkip) D w [v] sk) (hc : Cs w g [.int .i64 gen]) (h : ∀ w', Ext w w' → K (.int .i64 (placeF sk gen)) w') : GCalls Tryd.prog 76 [v, .func (.func 77) #[] #[.pointer (some ⟨g, 0, none⟩)]] K X w := by
  obtain ⟨a1, c1, rfl, hc1, hl1⟩ := hv.form
  apply slices_IndexFunc_record_Skip_record_Skip.calls; unfold slices_IndexFunc_record_Skip_record_Skip.b
  simp only [↓eBinI, ↓eDiv, ↓eShift, ↓eBinS, ↓ePick, ↓eNot, ↓eNeg, ↓eConv, ↓eConvS, ↓eExt0, ↓eExt1, ↓eExt2, ↓eFA, ↓eIA, ↓eLenSl, ↓eCapSl, ↓eLenS, ↓eMin, ↓eMax, ↓eCondT, ↓eCondF, ↓gIf_tt, ↓gIf_ff, ↓gIf_tf, ↓gIf_ft, ↓gIf_u, ↓gIfW_u, ↓gIfW_tt, ↓gIfW_ff, ↓gIfW_tf, ↓gIfW_ft, binI, divI, shiftI, add_mk, Nat.zero_add, cond_true, cond_false, decide_true, decide_false, Bool.not_true, Bool.not_false, Bool.and_true, Bool.true_and, Bool.and_false, Bool.false_and, Int.toNat_natCast, Nat.mul_one]
  refine slices_IndexFunc_record_Skip_record_Skip.loop1 (fun x8 w' => ∃ i : Nat, i ≤ sk.length ∧ x8 = .int .i64 (i : Int) ∧ Ext w w' ∧ ∀ j (hj : j < i) (hl : j < sk.length), sk[j].1 ≠ gen) (fun x8 _ => sk.length - (iv x8).toNat) ⟨0, by omega, rfl, Fr.refl _ _, fun j hj => by omega⟩ ?_
  rintro x8 gg w1 ⟨i, hi, rfl, h1, hn⟩
  unfold slices_IndexFunc_record_Skip_record_Skip.b1
  by_cases ci : (i : Int) < (sk.length : Int)
  · obtain ⟨ad, c', us, e1, s1, _, hus, q1, r1⟩ := (hv.ext h1).idxN (i := i) (by omega)
    simp only [Value.slice.injEq] at e1
    obtain ⟨rfl, -, rfl⟩ := e1
    obtain ⟨va, vb, rfl, hva, hvb, r2, r3⟩ := r1
    obtain ⟨rfl, hp0, hp1⟩ := r2
    obtain ⟨a2, c2', rfl, hc2, hl2, hr3⟩ := r3
    simp only [↓eBinI, ↓eDiv, ↓eShift, ↓eBinS, ↓ePick, ↓eNot, ↓eNeg, ↓eConv, ↓eConvS, ↓eExt0, ↓eExt1, ↓eExt2, ↓eFA, ↓eIA, ↓eLenSl, ↓eCapSl, ↓eLenS, ↓eMin, ↓eMax, ↓eCondT, ↓eCondF, ↓gIf_tt, ↓gIf_ff, ↓gIf_tf, ↓gIf_ft, ↓gIf_u, ↓gIfW_u, ↓gIfW_tt, ↓gIfW_ff, ↓gIfW_tf, ↓gIfW_ft, binI, divI, shiftI, add_mk, Nat.zero_add, cond_true, cond_false, decide_true, decide_false, Bool.not_true, Bool.not_false, Bool.and_true, Bool.true_and, Bool.and_false, Bool.false_and, Int.toNat_natCast, Nat.mul_one, ci]
    repeat ((with_reducible refine And.intro ?_ ?_); · first | omega | exact True.intro)
    refine ldSkip s1 hus q1 ?_
    refine (?_ : GCalls Tryd.prog 77 [.agg ⟨[.int .i64 sk[i].1, .slice a2 sk[i].2.length c2']⟩, .pointer (some ⟨g, 0, none⟩)] _ X w1)
    refine place1_c rfl (hc.ext h1) fun w2 h2 => ?_
    by_cases ce : sk[i].1 = gen
    · have : (sk[i].1 == gen) = true := by simpa using ce
      simp only [↓eBinI, ↓eDiv, ↓eShift, ↓eBinS, ↓ePick, ↓eNot, ↓eNeg, ↓eConv, ↓eConvS, ↓eExt0, ↓eExt1, ↓eExt2, ↓eFA, ↓eIA, ↓eLenSl, ↓eCapSl, ↓eLenS, ↓eMin, ↓eMax, ↓eCondT, ↓eCondF, ↓gIf_tt, ↓gIf_ff, ↓gIf_tf, ↓gIf_ft, ↓gIf_u, ↓gIfW_u, ↓gIfW_tt, ↓gIfW_ff, ↓gIfW_tf, ↓gIfW_ft, binI, divI, shiftI, add_mk, Nat.zero_add, cond_true, cond_false, decide_true, decide_false, Bool.not_true, Bool.not_false, Bool.and_true, Bool.true_and, Bool.and_false, Bool.false_and, Int.toNat_natCast, Nat.mul_one, this]
      rw [← placeF_some (by omega) ce (fun j hj => hn j hj (by omega))]
      exact h _ (h1.tr h2)
    · have : (sk[i].1 == gen) = false := by simpa using ce
      have e0 : IntKind.i64.wrap ((i : Int) + 1) = ((i + 1 : Nat) : Int) := by rw [wrap64 (by omega) (by omega)]; omega
      simp only [↓eBinI, ↓eDiv, ↓eShift, ↓eBinS, ↓ePick, ↓eNot, ↓eNeg, ↓eConv, ↓eConvS, ↓eExt0, ↓eExt1, ↓eExt2, ↓eFA, ↓eIA, ↓eLenSl, ↓eCapSl, ↓eLenS, ↓eMin, ↓eMax, ↓eCondT, ↓eCondF, ↓gIf_tt, ↓gIf_ff, ↓gIf_tf, ↓gIf_ft, ↓gIf_u, ↓gIfW_u, ↓gIfW_tt, ↓gIfW_ff, ↓gIfW_tf, ↓gIfW_ft, binI, divI, shiftI, add_mk, Nat.zero_add, cond_true, cond_false, decide_true, decide_false, Bool.not_true, Bool.not_false, Bool.and_true, Bool.true_and, Bool.and_false, Bool.false_and, Int.toNat_natCast, Nat.mul_one, this, e0]
      refine slices_IndexFunc_record_Skip_record_Skip.leaf1 ⟨i + 1, by omega, rfl, h1.tr h2, fun j hj hl => ?_⟩ (by simp only [iv]; omega)
      by_cases hji : j = i
      · subst hji; exact ce
      · exact hn j (by omega) hl
  · simp only [↓eBinI, ↓eDiv, ↓eShift, ↓eBinS, ↓ePick, ↓eNot, ↓eNeg, ↓eConv, ↓eConvS, ↓eExt0, ↓eExt1, ↓eExt2, ↓eFA, ↓eIA, ↓eLenSl, ↓eCapSl, ↓eLenS, ↓eMin, ↓eMax, ↓eCondT, ↓eCondF, ↓gIf_tt, ↓gIf_ff, ↓gIf_tf, ↓gIf_ft, ↓gIf_u, ↓gIfW_u, ↓gIfW_tt, ↓gIfW_ff, ↓gIfW_tf, ↓gIfW_ft, binI, divI, shiftI, add_mk, Nat.zero_add, cond_true, cond_false, decide_true, decide_false, Bool.not_true, Bool.not_false, Bool.and_true, Bool.true_and, Bool.and_false, Bool.false_and, Int.toNat_natCast, Nat.mul_one, ci]
    have : i = sk.length := by omega
    subst this
    rw [← placeF_none (fun j hj => hn j hj hj)]
    exact h _ h1
theorem place_c {gen g : Int} {vc vs : Value} {sk : List (Int × List UInt8)} (hv : Rd (.slice tSkip) D w [vs] sk) (h : ∀ w', Ext w w' → K (.int .i64 (placeF sk g)) w') : GCalls Tryd.prog 49 [chainV gen vc vs, .int .i64 g] K X w := by
  apply ratchet_place.calls; unfold ratchet_place.b
  refine boxC (cs := [.int .i64 gen, vc, vs]) fun g2 w1 hg h1 c1 => ?_
  refine boxV rfl fun g3 w2 hg3 h2 c2 => ?_
  simp only [↓eBinI, ↓eDiv, ↓eShift, ↓eBinS, ↓ePick, ↓eNot, ↓eNeg, ↓eConv, ↓eConvS, ↓eExt0, ↓eExt1, ↓eExt2, ↓eFA, ↓eIA, ↓eLenSl, ↓eCapSl, ↓eLenS, ↓eMin, ↓eMax, ↓eCondT, ↓eCondF, ↓gIf_tt, ↓gIf_ff, ↓gIf_tf, ↓gIf_ft, ↓gIf_u, ↓gIfW_u, ↓gIfW_tt, ↓gIfW_ff, ↓gIfW_tf, ↓gIfW_ft, binI, divI, shiftI, add_mk, Nat.zero_add, cond_true, cond_false, decide_true, decide_false, Bool.not_true, Bool.not_false, Bool.and_true, Bool.true_and, Bool.and_false, Bool.false_and, Int.toNat_natCast, Nat.mul_one, ↓(c1.ext h2).c2]
  exact IndexFunc_c (hv.ext (h1.tr h2)) c2 fun w3 h3 => h _ ((h1.tr h2).tr h3)
def hasF (g0 : Int) (sk : List (Int × List UInt8)) (g : Int) : Bool := decide (g ≥ g0) || decide (placeF sk g ≥ 0)
theorem Has_c {gen g : Int} {vc vs : Value} {sk : List (Int × List UInt8)} (hv : Rd (.slice tSkip) D w [vs] sk) (h : ∀ w', Ext w w' → K (.bool (hasF gen sk g)) w') : GCalls Tryd.prog 20 [chainV gen vc vs, .int .i64 g] K X w := by
  apply ratchet_Has.calls; unfold ratchet_Has.b
  refine boxC (cs := [.int .i64 gen, vc, vs]) fun g2 w1 hg h1 c1 => ?_
  by_cases cg : g ≥ gen
  · simp only [↓eBinI, ↓eDiv, ↓eShift, ↓eBinS, ↓ePick, ↓eNot, ↓eNeg, ↓eConv, ↓eConvS, ↓eExt0, ↓eExt1, ↓eExt2, ↓eFA, ↓eIA, ↓eLenSl, ↓eCapSl, ↓eLenS, ↓eMin, ↓eMax, ↓eCondT, ↓eCondF, ↓gIf_tt, ↓gIf_ff, ↓gIf_tf, ↓gIf_ft, ↓gIf_u, ↓gIfW_u, ↓gIfW_tt, ↓gIfW_ff, ↓gIfW_tf, ↓gIfW_ft, binI, divI, shiftI, add_mk, Nat.zero_add, cond_true, cond_false, decide_true, decide_false, Bool.not_true, Bool.not_false, Bool.and_true, Bool.true_and, Bool.and_false, Bool.false_and, Int.toNat_natCast, Nat.mul_one, ↓c1.c0, cg]
    have := h w1 h1
    rw [hasF, decide_eq_true cg, Bool.true_or] at this
    exact this
  · simp only [↓eBinI, ↓eDiv, ↓eShift, ↓eBinS, ↓ePick, ↓eNot, ↓eNeg, ↓eConv, ↓eConvS, ↓eExt0, ↓eExt1, ↓eExt2, ↓eFA, ↓eIA, ↓eLenSl, ↓eCapSl, ↓eLenS, ↓eMin, ↓eMax, ↓eCondT, ↓eCondF, ↓gIf_tt, ↓gIf_ff, ↓gIf_tf, ↓gIf_ft, ↓gIf_u, ↓gIfW_u, ↓gIfW_tt, ↓gIfW_ff, ↓gIfW_tf, ↓gIfW_ft, binI, divI, shiftI, add_mk, Nat.zero_add, cond_true, cond_false, decide_true, decide_false, Bool.not_true, Bool.not_false, Bool.and_true, Bool.true_and, Bool.and_false, Bool.false_and, Int.toNat_natCast, Nat.mul_one, ↓c1.c0, cg, ↓c1.ld3]
    refine (?_ : GCalls Tryd.prog 49 [chainV gen vc vs, .int .i64 g] _ X w1)
    refine place_c (hv.ext h1) fun w2 h2 => ?_
    simp only [↓eBinI, ↓eDiv, ↓eShift, ↓eBinS, ↓ePick, ↓eNot, ↓eNeg, ↓eConv, ↓eConvS, ↓eExt0, ↓eExt1, ↓eExt2, ↓eFA, ↓eIA, ↓eLenSl, ↓eCapSl, ↓eLenS, ↓eMin, ↓eMax, ↓eCondT, ↓eCondF, ↓gIf_tt, ↓gIf_ff, ↓gIf_tf, ↓gIf_ft, ↓gIf_u, ↓gIfW_u, ↓gIfW_tt, ↓gIfW_ff, ↓gIfW_tf, ↓gIfW_ft, binI, divI, shiftI, add_mk, Nat.zero_add, cond_true, cond_false, decide_true, decide_false, Bool.not_true, Bool.not_false, Bool.and_true, Bool.true_and, Bool.and_false, Bool.false_and, Int.toNat_natCast, Nat.mul_one]
    have := h w2 (h1.tr h2)
    rw [hasF, decide_eq_false cg, Bool.false_or] at this
    exact this
theorem Drop_c {gen n : Int} {vc vs : Value} {cur : List UInt8} {sk : List (Int × List UInt8)} (hc : Rd (.slice .byte) D w [vc] cur) (hv : Rd (.slice tSkip) D' w [vs] sk) (hcl : cur.length ≤ 1000) (hsl : sk.length ≤ 1000) (hse : ∀ i (h : i < sk.length), sk[i].2.length ≤ 1000) (hn0 : -1000 ≤ n) (hn1 : n ≤ 1000)
    (h : ∀ vc' vs' w', Ext w w' → Rd (.slice .byte) (w.heap.size ≤ ·) w' [vc'] cur → Rd (.slice tSkip) (w.heap.size ≤ ·) w' [vs'] (sk.drop (sk.length - n.toNat)) → K (chainV gen vc' vs') w') : GCalls Tryd.prog 50 [chainV gen vc vs, .int .i64 n] K X w := by
  obtain ⟨av, cv, rfl, hcv, hlv⟩ := hv.form
  have oc := one_of_rd hc
  apply ratchet_Drop.calls; unfold ratchet_Drop.b
  refine boxC (cs := [.int .i64 gen, vc, .slice av sk.length cv]) fun g2 w1 hg2 h1 c1 => ?_
  refine boxC (cs := [.int .i64 0, .slice none 0 0, .slice none 0 0]) fun g4 w2 hg4 h2 c2 => ?_
  have z1 := h1.size; have z2 := h2.size; have l1 := c1.lt; have l2 := c2.lt
  have h12 := h1.tr h2
  have c1 := c1.ext h2
  have e1 : (if n < 0 then (0 : Int) else n) = ((n.toNat : Nat) : Int) := by split <;> omega
  have e2 : IntKind.i64.wrap ((sk.length : Int) - ((n.toNat : Nat) : Int)) = (sk.length : Int) - ((n.toNat : Nat) : Int) := wrap64 (by omega) (by omega)
  have e3 : (if (0 : Int) < (sk.length : Int) - ((n.toNat : Nat) : Int) then (sk.length : Int) - ((n.toNat : Nat) : Int) else 0) = ((sk.length - n.toNat : Nat) : Int) := by split <;> omega
  simp only [↓eBinI, ↓eDiv, ↓eShift, ↓eBinS, ↓ePick, ↓eNot, ↓eNeg, ↓eConv, ↓eConvS, ↓eExt0, ↓eExt1, ↓eExt2, ↓eFA, ↓eIA, ↓eLenSl, ↓eCapSl, ↓eLenS, ↓eMin, ↓eMax, ↓eCondT, ↓eCondF, ↓gIf_tt, ↓gIf_ff, ↓gIf_tf, ↓gIf_ft, ↓gIf_u, ↓gIfW_u, ↓gIfW_tt, ↓gIfW_ff, ↓gIfW_tf, ↓gIfW_ft, binI, divI, shiftI, add_mk, Nat.zero_add, cond_true, cond_false, decide_true, decide_false, Bool.not_true, Bool.not_false, Bool.and_true, Bool.true_and, Bool.and_false, Bool.false_and, Int.toNat_natCast, Nat.mul_one, ↓c1.c2, e1, e2, e3]
  refine draw_ fun w3 h3 => ?_
  have c3 := c1.ext h3
  simp only [↓eBinI, ↓eDiv, ↓eShift, ↓eBinS, ↓ePick, ↓eNot, ↓eNeg, ↓eConv, ↓eConvS, ↓eExt0, ↓eExt1, ↓eExt2, ↓eFA, ↓eIA, ↓eLenSl, ↓eCapSl, ↓eLenS, ↓eMin, ↓eMax, ↓eCondT, ↓eCondF, ↓gIf_tt, ↓gIf_ff, ↓gIf_tf, ↓gIf_ft, ↓gIf_u, ↓gIfW_u, ↓gIfW_tt, ↓gIfW_ff, ↓gIfW_tf, ↓gIfW_ft, binI, divI, shiftI, add_mk, Nat.zero_add, cond_true, cond_false, decide_true, decide_false, Bool.not_true, Bool.not_false, Bool.and_true, Bool.true_and, Bool.and_false, Bool.false_and, Int.toNat_natCast, Nat.mul_one, ↓c3.e1]
  refine eSl (l := sk.length - n.toNat) (h := sk.length) (m := sk.length) (bnd_int (by omega)) (bnd_int (by omega)) (bnd_int (by omega)) (by omega) (by omega) (by omega) (by simp) ?_
  have h13 := h12.tr h3
  have z3 := h3.size
  have hcut := (hv.ext h13).cut (l := sk.length - n.toNat) (e := sk.length) (m := sk.length) (by omega) (by omega) (by omega) (by omega)
  rw [List.take_of_length_le (Nat.le_refl _)] at hcut
  refine Clone_c (hc.ext h13) (by omega) fun v4 w4 h4 o4 hv4 => ?_
  refine anew_ ?_
  try simp only [↓eBinI, ↓eDiv, ↓eShift, ↓eBinS, ↓ePick, ↓eNot, ↓eNeg, ↓eConv, ↓eConvS, ↓eExt0, ↓eExt1, ↓eExt2, ↓eFA, ↓eIA, ↓eLenSl, ↓eCapSl, ↓eLenS, ↓eMin, ↓eMax, ↓eCondT, ↓eCondF, ↓gIf_tt, ↓gIf_ff, ↓gIf_tf, ↓gIf_ft, ↓gIf_u, ↓gIfW_u, ↓gIfW_tt, ↓gIfW_ff, ↓gIfW_tf, ↓gIfW_ft, binI, divI, shiftI, add_mk, Nat.zero_add, cond_true, cond_false, decide_true, decide_false, Bool.not_true, Bool.not_false, Bool.and_true, Bool.true_and, Bool.and_false, Bool.false_and, Int.toNat_natCast, Nat.mul_one]
  have z4 := h4.size
  refine ratchet_copied_c (hcut.ext h4) (by rw [List.length_drop]; omega) (fun i hi => by rw [List.getElem_drop]; exact hse _ (by rw [List.length_drop] at hi; omega)) fun vs' w5 D2 h5 o5 hD2 hb5 => ?_
  refine ⟨h5, ?_⟩
  have z5 := h5.size
  have c5 := (c3.ext h4).ext h5
  have os' : one vs' = true := by obtain ⟨a, c, e, _⟩ := o5.form; rw [e]; rfl
  try simp only [↓eBinI, ↓eDiv, ↓eShift, ↓eBinS, ↓ePick, ↓eNot, ↓eNeg, ↓eConv, ↓eConvS, ↓eExt0, ↓eExt1, ↓eExt2, ↓eFA, ↓eIA, ↓eLenSl, ↓eCapSl, ↓eLenS, ↓eMin, ↓eMax, ↓eCondT, ↓eCondF, ↓gIf_tt, ↓gIf_ff, ↓gIf_tf, ↓gIf_ft, ↓gIf_u, ↓gIfW_u, ↓gIfW_tt, ↓gIfW_ff, ↓gIfW_tf, ↓gIfW_ft, binI, divI, shiftI, add_mk, Nat.zero_add, cond_true, cond_false, decide_true, decide_false, Bool.not_true, Bool.not_false, Bool.and_true, Bool.true_and, Bool.and_false, Bool.false_and, Int.toNat_natCast, Nat.mul_one]
  refine c5.set (i := 1) (by simp) hv4 fun w6 c6 f6 => ?_
  refine anew_ ?_
  try simp only [↓eBinI, ↓eDiv, ↓eShift, ↓eBinS, ↓ePick, ↓eNot, ↓eNeg, ↓eConv, ↓eConvS, ↓eExt0, ↓eExt1, ↓eExt2, ↓eFA, ↓eIA, ↓eLenSl, ↓eCapSl, ↓eLenS, ↓eMin, ↓eMax, ↓eCondT, ↓eCondF, ↓gIf_tt, ↓gIf_ff, ↓gIf_tf, ↓gIf_ft, ↓gIf_u, ↓gIfW_u, ↓gIfW_tt, ↓gIfW_ff, ↓gIfW_tf, ↓gIfW_ft, binI, divI, shiftI, add_mk, Nat.zero_add, cond_true, cond_false, decide_true, decide_false, Bool.not_true, Bool.not_false, Bool.and_true, Bool.true_and, Bool.and_false, Bool.false_and, Int.toNat_natCast, Nat.mul_one]
  refine c6.set (i := 2) (by simp) os' fun w7 c7 f7 => ?_
  have c7 : Cs w7 g2 [.int .i64 gen, v4, vs'] := c7
  refine anew_ ?_
  rw [c7.ld3]
  have f57 : Fr (· = g2) w5 w7 := f6.trans f7 (fun _ _ h => h)
  have cz : Cs w7 g4 [.int .i64 0, .slice none 0 0, .slice none 0 0] := (((c2.ext h3).ext h4).ext h5).fr f57 (by omega)
  refine cz.setN (l' := [.int .i64 gen, v4, vs']) rfl rfl (allOne3 rfl hv4 os') fun w8 c8 f8 => ?_
  rw [c8.ld3]
  have f58 : Fr (fun b => b = g2 ∨ b = g4) w5 w8 := (f57.mono (fun _ _ h => .inl h)).trans f8 (fun _ _ h => .inr h)
  have h15 := (h13.tr h4).tr h5
  have hll : (sk.drop (sk.length - n.toNat)).length < 9223372036854775808 := by rw [List.length_drop]; omega
  refine h v4 vs' w8 (h15.tn f58 (fun x hx => by omega)) ?_ ?_
  · exact (((own_rd o4 (by show cur.length < _; omega)).ext h5).fr f58 (fun b hb => by omega)).wide (fun b hb => by omega)
  · exact ((o5.rd2 (D' := fun b => w4.heap.size ≤ b) (fun b hb => (hD2 b hb).1) (fun b hb hB _ => hB) hll).fr f58 (fun b hb => by omega)).wide (fun b hb => by omega)
end Go.Proofs.YtkpgmaiklfjjgaaDoor
end
