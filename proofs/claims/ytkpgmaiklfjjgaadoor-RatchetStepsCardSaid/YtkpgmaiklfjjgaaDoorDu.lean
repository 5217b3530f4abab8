/-
  Chains of keys: what is copied, a suite of real ciphers, a start, a step.
-/
import Derived.Test.YtkpgmaiklfjjgaaDoorDn
import Derived.Test.YtkpgmaiklfjjgaaDoorDs
import Derived.Test.YtkpgmaiklfjjgaaDoorSdE
set_option linter.unusedSimpArgs false
set_option linter.unusedVariables false
namespace Go.Proofs.YtkpgmaiklfjjgaaDoor
open Go Go.G Go.RowKit
variable {X : KX} {w : World} {K : KV} {D D' : Nat → Prop}
abbrev tSkip : Ty := .pair (.int .i64) (.slice .byte)
theorem ratchet_copied_c {x : Value} {l : List (Int × List UInt8)} (hx : Rd (.slice tSkip) D w [x] l) (hl : l.length ≤ 1000) (hs : ∀ i (h : i < l.length), l[i].2.length ≤ 1000)
    (h : ∀ v w' D', Ext w w' → G.Own tSkip D' w.heap.size w' v l → (∀ b, D' b → w.heap.size ≤ b ∧ b < w'.heap.size) → (∀ b, Blk v b → b < w'.heap.size) → K v w') : GCalls Tryd.prog 45 [x] K X w := by
  obtain ⟨a1, c1, rfl, hc1, hl1⟩ := hx.form
  apply ratchet_copied.calls; unfold ratchet_copied.b
  simp only [↓eBinI, ↓eDiv, ↓eShift, ↓eBinS, ↓ePick, ↓eNot, ↓eNeg, ↓eConv, ↓eConvS, ↓eExt0, ↓eExt1, ↓eExt2, ↓eFA, ↓eIA, ↓eLenSl, ↓eCapSl, ↓eLenS, ↓eMin, ↓eMax, ↓eCondT, ↓eCondF, ↓gIf_tt, ↓gIf_ff, ↓gIf_tf, ↓gIf_ft, ↓gIf_u, ↓gIfW_u, ↓gIfW_tt, ↓gIfW_ff, ↓gIfW_tf, ↓gIfW_ft, binI, divI, shiftI, add_mk, Nat.zero_add, cond_true, cond_false, decide_true, decide_false, Bool.not_true, Bool.not_false, Bool.and_true, Bool.true_and, Bool.and_false, Bool.false_and, Int.toNat_natCast, Nat.mul_one]
  refine ratchet_copied.loop1 (fun x2 x7 w' => ∃ (i : Nat) (D' : Nat → Prop), i ≤ l.length ∧ x7 = .int .i64 i ∧ Ext w w' ∧ G.Own tSkip D' w.heap.size w' x2 (l.take i) ∧ (∀ b, D' b → w.heap.size ≤ b ∧ b < w'.heap.size) ∧ (∀ b, Blk x2 b → b < w'.heap.size)) (fun _ x7 _ => l.length - (iv x7).toNat)
    ⟨0, fun _ => False, by omega, rfl, Fr.refl _ _, G.Own.nil, fun _ h => h.elim, by rintro b ⟨a', n', c', e, _⟩; cases e⟩ ?_
  rintro x2 x7 gg w1 ⟨i, D1, hi, rfl, h1, ho, hD1, hb1⟩
  unfold ratchet_copied.b1
  by_cases ci : (i : Int) < (l.length : Int)
  · obtain ⟨ad, c', us, e1, s1, _, hus, q1, r1⟩ := (hx.ext h1).idxN (i := i) (by omega)
    simp only [Value.slice.injEq] at e1
    obtain ⟨rfl, -, rfl⟩ := e1
    obtain ⟨va, vb, rfl, hva, hvb, r2, r3⟩ := r1
    obtain ⟨rfl, hp0, hp1⟩ := r2
    obtain ⟨a2, c2', rfl, hc2, hl2, hr3⟩ := r3
    have r3 : Rd (.slice .byte) D w1 [.slice a2 l[i].2.length c2'] l[i].2 := ⟨a2, c2', rfl, hc2, hl2, hr3⟩
    have hli := hs i (by omega)
    simp only [↓eBinI, ↓eDiv, ↓eShift, ↓eBinS, ↓ePick, ↓eNot, ↓eNeg, ↓eConv, ↓eConvS, ↓eExt0, ↓eExt1, ↓eExt2, ↓eFA, ↓eIA, ↓eLenSl, ↓eCapSl, ↓eLenS, ↓eMin, ↓eMax, ↓eCondT, ↓eCondF, ↓gIf_tt, ↓gIf_ff, ↓gIf_tf, ↓gIf_ft, ↓gIf_u, ↓gIfW_u, ↓gIfW_tt, ↓gIfW_ff, ↓gIfW_tf, ↓gIfW_ft, binI, divI, shiftI, add_mk, Nat.zero_add, cond_true, cond_false, decide_true, decide_false, Bool.not_true, Bool.not_false, Bool.and_true, Bool.true_and, Bool.and_false, Bool.false_and, Int.toNat_natCast, Nat.mul_one, ci]
    refine ⟨by omega, by first | trivial | omega, ?_⟩
    refine ⟨ad.add (i * 2), [.int .i64 l[i].1, .slice a2 l[i].2.length c2'], rfl, rfl, fun w' e j hj => ?_, ?_⟩
    · subst e
      rw [add_add _ _ _ s1]
      match j, hj with
      | 0, _ => exact q1 0 _ rfl
      | 1, _ => exact q1 1 _ rfl
    refine boxC fun g9 w2 hg9 h2 b2 => ?_
    refine b2.setN rfl rfl (by simp [one]) fun w3 b3 hf3 => ?_
    have h13 : Ext w1 w3 := h2.tn hf3 (fun x e => by omega)
    have hg9' : w1.heap.size = g9 := hg9
    have hnb : ¬ (Blk x2 g9 ∧ w.heap.size ≤ g9) := fun hh => by have := hb1 g9 hh.1; omega
    refine drawS (fun b => Blk x2 b ∧ w.heap.size ≤ b) fun w4 h4 => ?_
    have b4 := b3.ext h4
    have h14 := h13.tr h4
    simp only [↓eBinI, ↓eDiv, ↓eShift, ↓eBinS, ↓ePick, ↓eNot, ↓eNeg, ↓eConv, ↓eConvS, ↓eExt0, ↓eExt1, ↓eExt2, ↓eFA, ↓eIA, ↓eLenSl, ↓eCapSl, ↓eLenS, ↓eMin, ↓eMax, ↓eCondT, ↓eCondF, ↓gIf_tt, ↓gIf_ff, ↓gIf_tf, ↓gIf_ft, ↓gIf_u, ↓gIfW_u, ↓gIfW_tt, ↓gIfW_ff, ↓gIfW_tf, ↓gIfW_ft, binI, divI, shiftI, add_mk, Nat.zero_add, cond_true, cond_false, decide_true, decide_false, Bool.not_true, Bool.not_false, Bool.and_true, Bool.true_and, Bool.and_false, Bool.false_and, Int.toNat_natCast, Nat.mul_one, ↓b4.f (T := fun b => Blk x2 b ∧ w.heap.size ≤ b) (o := 0) hnb rfl, ↓b4.f (T := fun b => Blk x2 b ∧ w.heap.size ≤ b) (o := 1) hnb rfl]
    refine Clone_c (r3.ext h14) (by omega) fun v w5 h5 hv hone => ⟨h5.mono (fun _ _ h => h.elim), ?_⟩
    refine ⟨[.int .i64 l[i].1, v], fill2 rfl hone, ?_⟩
    refine Cs.bslice (cs := [.int .i64 l[i].1, v]) (fillAgg rfl rfl) fun r w6 hr h6 b6 => ⟨(h5.tr h6).mono (fun _ _ h => h.elim), ?_⟩
    have h16 := (h14.tr h5).tr h6
    have s14 := h14.size; have s5 := h5.size; have s6 := h6.size
    have hD2 : G.Own tSkip (fun b => D1 b ∨ (w4.heap.size ≤ b ∧ b < w6.heap.size)) w.heap.size w6 x2 (l.take i) := (ho.ext h16).wide2 (fun b hb => .inl hb) (fun b hb hB hn => by
      rintro (hd | hd)
      · exact hn hd
      · have := hb1 b hb; omega)
    have hvw : Rd (.slice .byte) (fun b => D1 b ∨ (w4.heap.size ≤ b ∧ b < w6.heap.size)) w6 [v] l[i].2 :=
      (hv.ext h6).rd2 (fun _ h => h.elim) (fun b _ h1 h2 => .inr ⟨h1, h2⟩) (by omega)
    have hrow : Rd tSkip (fun b => D1 b ∨ (w4.heap.size ≤ b ∧ b < w6.heap.size)) w6 [.int .i64 l[i].1, v] l[i] := ⟨[.int .i64 l[i].1], [v], rfl, rfl, rfl, ⟨rfl, hp0, hp1⟩, hvw⟩
    obtain ⟨T6, b6'⟩ := b6
    have s1 := h1.size
    refine hD2.push (by omega) (fun hd => by rcases hd with hd | hd; · have := hD1 _ hd; omega
                                             · omega) rfl rfl b6' hrow (by simp; omega) fun v' w7 ho' hf' hb' => ?_
    refine ⟨((h5.tr h6).mono (fun _ _ h => h.elim)).trans hf' (fun _ _ h => h), ?_⟩
    have s7 := hf'.size
    rw [wrap64 (by omega) (by omega)]
    refine ratchet_copied.leaf1 ⟨i + 1, (fun b => D1 b ∨ (w4.heap.size ≤ b ∧ b < w6.heap.size)), by omega, by simp, (h1.tr h16).tn hf' (fun x hx => hx.2), ?_, fun b hb => ?_, fun b hb => ?_⟩ (by simp only [iv]; omega)
    · rw [List.take_succ_eq_append_getElem (by omega)]; exact ho'
    · rcases hb with hb | hb
      · have := hD1 b hb; omega
      · omega
    · rcases hb' b hb with hb | hb
      · have := hb1 b hb; omega
      · omega
  · simp only [↓eBinI, ↓eDiv, ↓eShift, ↓eBinS, ↓ePick, ↓eNot, ↓eNeg, ↓eConv, ↓eConvS, ↓eExt0, ↓eExt1, ↓eExt2, ↓eFA, ↓eIA, ↓eLenSl, ↓eCapSl, ↓eLenS, ↓eMin, ↓eMax, ↓eCondT, ↓eCondF, ↓gIf_tt, ↓gIf_ff, ↓gIf_tf, ↓gIf_ft, ↓gIf_u, ↓gIfW_u, ↓gIfW_tt, ↓gIfW_ff, ↓gIfW_tf, ↓gIfW_ft, binI, divI, shiftI, add_mk, Nat.zero_add, cond_true, cond_false, decide_true, decide_false, Bool.not_true, Bool.not_false, Bool.and_true, Bool.true_and, Bool.and_false, Bool.false_and, Int.toNat_natCast, Nat.mul_one, ci]
    have : i = l.length := by omega
    subst this
    rw [List.take_length] at ho
    exact h _ w1 _ h1 ho hD1 hb1
/-- A suite of real ciphers. -/
def SReal (w : World) (g : Nat) : Prop := ∃ p, Cs w g [.pointer none, .map none, .pointer (some p)]
theorem SReal.fr {T : Nat → Prop} {w w' : World} {g : Nat} (h : SReal w g) (e : Fr T w w') (hT : ¬ T g) : SReal w' g := by
  obtain ⟨p, hc⟩ := h; exact ⟨p, hc.fr e hT⟩
theorem SReal.ext {w w' : World} {g : Nat} (h : SReal w g) (e : Ext w w') : SReal w' g := h.fr e (fun h => h)
theorem Real_c (h0 : 0 < w.heap.size) (h : ∀ g w', Ext w w' → w.heap.size ≤ g → SReal w' g → K (.pointer (some ⟨g, 0, none⟩)) w') : GCalls Tryd.prog 13 [.slice none 0 0] K X w := by
  apply suite_Real.calls; unfold suite_Real.b
  refine New_c (seed := []) h0 (nil_rd NoB w) (by simp) fun g sb w1 h1 q1 q2 q3 s1 => ?_
  refine ⟨[.pointer none, .map none, .pointer (some ⟨g, 0, none⟩)], by simp [fillL, one_cells, cutIn, Value.cells], ?_⟩
  refine boxC (cs := [.pointer none, .map none, .pointer (some ⟨g, 0, none⟩)]) fun g2 w2 hg h2 c2 => ?_
  exact h g2 w2 (h1.tr h2) (by have := h1.size; omega) ⟨_, c2⟩
theorem ePEqT {a : Addr} {K : KP} : pEq .ptr true (.pointer (some a)) (.pointer none) K = K (.bool true) := by
  apply propext; exact ⟨fun ⟨b, h, k⟩ => by cases h; exact k, fun h => ⟨false, rfl, h⟩⟩
theorem none_c {g : Nat} (hs : SReal w g) (h : K (.bool false) w) : GCalls Tryd.prog 59 [.pointer (some ⟨g, 0, none⟩)] K X w := by
  obtain ⟨p, hc⟩ := hs
  apply suite_Suite_none.calls; unfold suite_Suite_none.b
  simp only [↓eBinI, ↓eDiv, ↓eShift, ↓eBinS, ↓ePick, ↓eNot, ↓eNeg, ↓eConv, ↓eConvS, ↓eExt0, ↓eExt1, ↓eExt2, ↓eFA, ↓eIA, ↓eLenSl, ↓eCapSl, ↓eLenS, ↓eMin, ↓eMax, ↓eCondT, ↓eCondF, ↓gIf_tt, ↓gIf_ff, ↓gIf_tf, ↓gIf_ft, ↓gIf_u, ↓gIfW_u, ↓gIfW_tt, ↓gIfW_ff, ↓gIfW_tf, ↓gIfW_ft, binI, divI, shiftI, add_mk, Nat.zero_add, cond_true, cond_false, decide_true, decide_false, Bool.not_true, Bool.not_false, Bool.and_true, Bool.true_and, Bool.and_false, Bool.false_and, Int.toNat_natCast, Nat.mul_one, ↓ePEqS, ↓ePNil, ↓hc.c2]
  exact h
theorem real_c {g : Nat} (hs : SReal w g) (h : K (.bool true) w) : GCalls Tryd.prog 60 [.pointer (some ⟨g, 0, none⟩)] K X w := by
  obtain ⟨p, hc⟩ := hs
  apply suite_Suite_real.calls; unfold suite_Suite_real.b
  simp only [↓eBinI, ↓eDiv, ↓eShift, ↓eBinS, ↓ePick, ↓eNot, ↓eNeg, ↓eConv, ↓eConvS, ↓eExt0, ↓eExt1, ↓eExt2, ↓eFA, ↓eIA, ↓eLenSl, ↓eCapSl, ↓eLenS, ↓eMin, ↓eMax, ↓eCondT, ↓eCondF, ↓gIf_tt, ↓gIf_ff, ↓gIf_tf, ↓gIf_ft, ↓gIf_u, ↓gIfW_u, ↓gIfW_tt, ↓gIfW_ff, ↓gIfW_tf, ↓gIfW_ft, binI, divI, shiftI, add_mk, Nat.zero_add, cond_true, cond_false, decide_true, decide_false, Bool.not_true, Bool.not_false, Bool.and_true, Bool.true_and, Bool.and_false, Bool.false_and, Int.toNat_natCast, Nat.mul_one, ↓ePEqT, ↓ePNil, ↓hc.c2]
  exact h
theorem SDerive_c {g : Nat} {xk : Value} {key : List UInt8} {l : ByteArray} (hs : SReal w g) (hk : KT w) (hvk : Rd (.slice .byte) D w [xk] key) (hkl : key.length ≤ 1000) (hll : l.data.toList.length ≤ 200)
    (h : ∀ v w', Ext w w' → Rd (.slice .byte) (w.heap.size ≤ ·) w' [v] (deriveF key l.data.toList) → K v w') : GCalls Tryd.prog 44 [.pointer (some ⟨g, 0, none⟩), xk, .string l] K X w := by
  apply suite_Suite_Derive.calls; unfold suite_Suite_Derive.b
  refine none_c hs ?_
  simp only [↓eBinI, ↓eDiv, ↓eShift, ↓eBinS, ↓ePick, ↓eNot, ↓eNeg, ↓eConv, ↓eConvS, ↓eExt0, ↓eExt1, ↓eExt2, ↓eFA, ↓eIA, ↓eLenSl, ↓eCapSl, ↓eLenS, ↓eMin, ↓eMax, ↓eCondT, ↓eCondF, ↓gIf_tt, ↓gIf_ff, ↓gIf_tf, ↓gIf_ft, ↓gIf_u, ↓gIfW_u, ↓gIfW_tt, ↓gIfW_ff, ↓gIfW_tf, ↓gIfW_ft, binI, divI, shiftI, add_mk, Nat.zero_add, cond_true, cond_false, decide_true, decide_false, Bool.not_true, Bool.not_false, Bool.and_true, Bool.true_and, Bool.and_false, Bool.false_and, Int.toNat_natCast, Nat.mul_one]
  refine real_c hs ?_
  simp only [↓eBinI, ↓eDiv, ↓eShift, ↓eBinS, ↓ePick, ↓eNot, ↓eNeg, ↓eConv, ↓eConvS, ↓eExt0, ↓eExt1, ↓eExt2, ↓eFA, ↓eIA, ↓eLenSl, ↓eCapSl, ↓eLenS, ↓eMin, ↓eMax, ↓eCondT, ↓eCondF, ↓gIf_tt, ↓gIf_ff, ↓gIf_tf, ↓gIf_ft, ↓gIf_u, ↓gIfW_u, ↓gIfW_tt, ↓gIfW_ff, ↓gIfW_tf, ↓gIfW_ft, binI, divI, shiftI, add_mk, Nat.zero_add, cond_true, cond_false, decide_true, decide_false, Bool.not_true, Bool.not_false, Bool.and_true, Bool.true_and, Bool.and_false, Bool.false_and, Int.toNat_natCast, Nat.mul_one]
  exact Derive_c hk hvk hkl hll h
def keyL : List UInt8 := [107, 101, 121]
def nextL : List UInt8 := [110, 101, 120, 116]
/-- A chain's three cells. -/
def chainV (gen : Int) (vc vs : Value) : Value := .agg ⟨[.int .i64 gen, vc, vs]⟩
theorem one_of_rd {t : Ty} {v : Value} {xs : List t.D} (h : Rd (.slice t) D w [v] xs) : one v = true := by
  obtain ⟨a, c, e, _⟩ := h.form; rw [e]; rfl
theorem allOne3 {a b c : Value} (ha : one a = true) (hb : one b = true) (hc : one c = true) : ∀ v ∈ [a, b, c], one v = true := by
  intro v hv
  simp only [List.mem_cons, List.not_mem_nil, or_false] at hv
  rcases hv with rfl | rfl | rfl <;> assumption
theorem Start_c {x : Value} {key : List UInt8} (hx : Rd (.slice .byte) D w [x] key) (hl : key.length ≤ 1000) (h : ∀ v w', Ext w w' → Rd (.slice .byte) (w.heap.size ≤ ·) w' [v] key → K (chainV 0 v (.slice none 0 0)) w') : GCalls Tryd.prog 19 [x] K X w := by
  apply ratchet_Start.calls; unfold ratchet_Start.b
  refine boxC (cs := [.int .i64 0, .slice none 0 0, .slice none 0 0]) fun g w1 hg h1 c1 => ?_
  refine Clone_c (hx.ext h1) (by omega) fun v w2 h2 o2 hv => ?_
  refine ⟨[.int .i64 0, v, .slice none 0 0], by simp [fillL, one_cells hv, cutIn], ?_⟩
  have z1 := h1.size; have z2 := h2.size; have l1 := c1.lt
  refine (c1.ext h2).setN (l' := [.int .i64 0, v, .slice none 0 0]) rfl rfl (allOne3 rfl hv rfl) fun w3 c3 f3 => ?_
  rw [c3.ld3]
  refine h v w3 ((h1.tr h2).tn f3 (fun x hx => by omega)) ?_
  exact ((own_rd o2 (by show key.length < _; omega)).fr f3 (fun b hb => by show ¬ b = g; omega)).wide (fun b hb => Nat.le_trans z1 hb)
theorem Step_c {gs : Nat} {gen : Int} {vc vs : Value} {cur : List UInt8} {sk : List (Int × List UInt8)} (hs : SReal w gs) (hk : KT w) (hc : Rd (.slice .byte) D w [vc] cur) (hv : Rd (.slice tSkip) D' w [vs] sk)
    (hg0 : -9223372036854775808 ≤ gen) (hg1 : gen < 9223372036854775807) (hcl : cur.length ≤ 1000) (hsl : sk.length ≤ 1000) (hse : ∀ i (h : i < sk.length), sk[i].2.length ≤ 1000)
    (h : ∀ vk vn vs' w' D2 B, Ext w w' → w.heap.size ≤ B → B ≤ w'.heap.size → Rd (.slice .byte) (fun b => w.heap.size ≤ b ∧ b < B) w' [vk] (deriveF cur keyL) → Rd (.slice .byte) (fun b => w.heap.size ≤ b ∧ b < B) w' [vn] (deriveF cur nextL) → G.Own tSkip D2 B w' vs' sk → (∀ b, D2 b → B ≤ b ∧ b < w'.heap.size) → (∀ b, Blk vs' b → b < w'.heap.size) → K (.tuple #[vk, chainV (gen + 1) vn vs']) w') :
    GCalls Tryd.prog 12 [.pointer (some ⟨gs, 0, none⟩), chainV gen vc vs] K X w := by
  have ov := one_of_rd hc
  have os := one_of_rd hv
  apply ratchet_Step.calls; unfold ratchet_Step.b
  refine boxC (cs := [.int .i64 gen, vc, vs]) fun g3 w1 hg3 h1 c1 => ?_
  refine boxC (cs := [.int .i64 0, .slice none 0 0, .slice none 0 0]) fun g5 w2 hg5 h2 c2 => ?_
  have z1 := h1.size; have z2 := h2.size; have l1 := c1.lt; have l2 := c2.lt
  have h12 := h1.tr h2
  have c1 := c1.ext h2
  simp only [↓eBinI, ↓eDiv, ↓eShift, ↓eBinS, ↓ePick, ↓eNot, ↓eNeg, ↓eConv, ↓eConvS, ↓eExt0, ↓eExt1, ↓eExt2, ↓eFA, ↓eIA, ↓eLenSl, ↓eCapSl, ↓eLenS, ↓eMin, ↓eMax, ↓eCondT, ↓eCondF, ↓gIf_tt, ↓gIf_ff, ↓gIf_tf, ↓gIf_ft, ↓gIf_u, ↓gIfW_u, ↓gIfW_tt, ↓gIfW_ff, ↓gIfW_tf, ↓gIfW_ft, binI, divI, shiftI, add_mk, Nat.zero_add, cond_true, cond_false, decide_true, decide_false, Bool.not_true, Bool.not_false, Bool.and_true, Bool.true_and, Bool.and_false, Bool.false_and, Int.toNat_natCast, Nat.mul_one, ↓c1.c1]
  refine SDerive_c (l := ⟨#[107, 101, 121]⟩) (hs.ext h12) (hk.ext h12) (hc.ext h12) hcl (show 3 ≤ 200 by omega) fun vk w3 h3 rk => ?_
  have rk := rd_bound rk
  have z3 := h3.size
  have h13 := h12.tr h3
  refine draw_ fun w4 h4 => ?_
  have z4 := h4.size
  have h14 := h13.tr h4
  have c4 := (c1.ext h3).ext h4
  have e1 : IntKind.i64.wrap (gen + 1) = gen + 1 := by rw [wrap64 (by omega) (by omega)]
  simp only [↓eBinI, ↓eDiv, ↓eShift, ↓eBinS, ↓ePick, ↓eNot, ↓eNeg, ↓eConv, ↓eConvS, ↓eExt0, ↓eExt1, ↓eExt2, ↓eFA, ↓eIA, ↓eLenSl, ↓eCapSl, ↓eLenS, ↓eMin, ↓eMax, ↓eCondT, ↓eCondF, ↓gIf_tt, ↓gIf_ff, ↓gIf_tf, ↓gIf_ft, ↓gIf_u, ↓gIfW_u, ↓gIfW_tt, ↓gIfW_ff, ↓gIfW_tf, ↓gIfW_ft, binI, divI, shiftI, add_mk, Nat.zero_add, cond_true, cond_false, decide_true, decide_false, Bool.not_true, Bool.not_false, Bool.and_true, Bool.true_and, Bool.and_false, Bool.false_and, Int.toNat_natCast, Nat.mul_one, ↓c4.e0, ↓c4.e1, ↓c4.e2, e1]
  refine SDerive_c (l := ⟨#[110, 101, 120, 116]⟩) (hs.ext h14) (hk.ext h14) (hc.ext h14) hcl (show 4 ≤ 200 by omega) fun vn w5 h5 rn => ?_
  refine ⟨h5, ?_⟩
  have rn := rd_bound rn
  have z5 := h5.size
  have h15 := h14.tr h5
  refine ratchet_copied_c (hv.ext h15) hsl hse fun vs' w6 D2 h6 o6 hD2 hb6 => ?_
  refine ⟨h5.tr h6, ?_⟩
  have z6 := h6.size
  have c6 := (c4.ext h5).ext h6
  have on := one_of_rd rn
  have os' : one vs' = true := by obtain ⟨a, c, e, _⟩ := o6.form; rw [e]; rfl
  try simp only [↓eBinI, ↓eDiv, ↓eShift, ↓eBinS, ↓ePick, ↓eNot, ↓eNeg, ↓eConv, ↓eConvS, ↓eExt0, ↓eExt1, ↓eExt2, ↓eFA, ↓eIA, ↓eLenSl, ↓eCapSl, ↓eLenS, ↓eMin, ↓eMax, ↓eCondT, ↓eCondF, ↓gIf_tt, ↓gIf_ff, ↓gIf_tf, ↓gIf_ft, ↓gIf_u, ↓gIfW_u, ↓gIfW_tt, ↓gIfW_ff, ↓gIfW_tf, ↓gIfW_ft, binI, divI, shiftI, add_mk, Nat.zero_add, cond_true, cond_false, decide_true, decide_false, Bool.not_true, Bool.not_false, Bool.and_true, Bool.true_and, Bool.and_false, Bool.false_and, Int.toNat_natCast, Nat.mul_one]
  refine c6.set (i := 0) (by simp) rfl fun w7 c7 f7 => ?_
  refine anew_ ?_
  try simp only [↓eBinI, ↓eDiv, ↓eShift, ↓eBinS, ↓ePick, ↓eNot, ↓eNeg, ↓eConv, ↓eConvS, ↓eExt0, ↓eExt1, ↓eExt2, ↓eFA, ↓eIA, ↓eLenSl, ↓eCapSl, ↓eLenS, ↓eMin, ↓eMax, ↓eCondT, ↓eCondF, ↓gIf_tt, ↓gIf_ff, ↓gIf_tf, ↓gIf_ft, ↓gIf_u, ↓gIfW_u, ↓gIfW_tt, ↓gIfW_ff, ↓gIfW_tf, ↓gIfW_ft, binI, divI, shiftI, add_mk, Nat.zero_add, cond_true, cond_false, decide_true, decide_false, Bool.not_true, Bool.not_false, Bool.and_true, Bool.true_and, Bool.and_false, Bool.false_and, Int.toNat_natCast, Nat.mul_one]
  refine c7.set (i := 1) (by simp) on fun w8 c8 f8 => ?_
  refine anew_ ?_
  try simp only [↓eBinI, ↓eDiv, ↓eShift, ↓eBinS, ↓ePick, ↓eNot, ↓eNeg, ↓eConv, ↓eConvS, ↓eExt0, ↓eExt1, ↓eExt2, ↓eFA, ↓eIA, ↓eLenSl, ↓eCapSl, ↓eLenS, ↓eMin, ↓eMax, ↓eCondT, ↓eCondF, ↓gIf_tt, ↓gIf_ff, ↓gIf_tf, ↓gIf_ft, ↓gIf_u, ↓gIfW_u, ↓gIfW_tt, ↓gIfW_ff, ↓gIfW_tf, ↓gIfW_ft, binI, divI, shiftI, add_mk, Nat.zero_add, cond_true, cond_false, decide_true, decide_false, Bool.not_true, Bool.not_false, Bool.and_true, Bool.true_and, Bool.and_false, Bool.false_and, Int.toNat_natCast, Nat.mul_one]
  refine c8.set (i := 2) (by simp) os' fun w9 c9 f9 => ?_
  have c9 : Cs w9 g3 [.int .i64 (gen + 1), vn, vs'] := c9
  refine anew_ ?_
  refine draw_ fun w10 h10 => ?_
  rw [(c9.ext h10).le3]
  have f69 : Fr (· = g3) w6 w9 := (f7.trans f8 (fun _ _ h => h)).trans f9 (fun _ _ h => h)
  have c5 : Cs w10 g5 [.int .i64 0, .slice none 0 0, .slice none 0 0] := ((((((c2.ext h3).ext h4).ext h5).ext h6).fr f69 (by omega)).ext h10)
  refine c5.setN (l' := [.int .i64 (gen + 1), vn, vs']) rfl rfl (allOne3 rfl on os') fun w11 c11 f11 => ?_
  refine anew_ ?_
  rw [c11.ld3]
  have f6 : Fr (fun b => b = g3 ∨ b = g5) w6 w11 := ((f69.mono (fun _ _ h => .inl h)).trans (Fr.mono h10 (fun _ _ h => h.elim)) (fun _ _ h => h)).trans f11 (fun _ _ h => .inr h)
  have h16 := h15.tr h6
  have z11 := f6.size
  refine h vk vn vs' w11 D2 w5.heap.size (h16.tn f6 (fun x hx => by omega)) (by omega) (by omega) ?_ ?_ ?_ ?_ ?_
  · exact ((((rk.ext h4).ext h5).ext h6).fr f6 (fun b hb => by omega)).wide (fun b hb => by omega)
  · exact ((rn.ext h6).fr f6 (fun b hb => by omega)).wide (fun b hb => by omega)
  · exact o6.fr f6 (fun b hb => by have := hD2 b hb; omega) (fun b hb hB => by omega)
  · intro b hb; have := hD2 b hb; omega
  · intro b hb; have := hb6 b hb; omega
def placeF (sk : List (Int × List UInt8)) (gen : Int) : Int := match sk.findIdx? (fun x => x.1 == gen) with | some i => (i : Int) | none => -1
theorem place1_c {g : Nat} {a gen : Int} {vk : Value} (hv : one vk = true) (hc : Cs w g [.int .i64 gen]) (h : ∀ w', Ext w w' → K (.bool (a == gen)) w') : GCalls Tryd.prog 77 [.agg ⟨[.int .i64 a, vk]⟩, .pointer (some ⟨g, 0, none⟩)] K X w := by
  apply ratchet_place_c1.calls; unfold ratchet_place_c1.b
  refine boxC (cs := [.int .i64 a, vk]) fun g2 w1 hg h1 c1 => ?_
  simp only [↓eBinI, ↓eDiv, ↓eShift, ↓eBinS, ↓ePick, ↓eNot, ↓eNeg, ↓eConv, ↓eConvS, ↓eExt0, ↓eExt1, ↓eExt2, ↓eFA, ↓eIA, ↓eLenSl, ↓eCapSl, ↓eLenS, ↓eMin, ↓eMax, ↓eCondT, ↓eCondF, ↓gIf_tt, ↓gIf_ff, ↓gIf_tf, ↓gIf_ft, ↓gIf_u, ↓gIfW_u, ↓gIfW_tt, ↓gIfW_ff, ↓gIfW_tf, ↓gIfW_ft, binI, divI, shiftI, add_mk, Nat.zero_add, cond_true, cond_false, decide_true, decide_false, Bool.not_true, Bool.not_false, Bool.and_true, Bool.true_and, Bool.and_false, Bool.false_and, Int.toNat_natCast, Nat.mul_one, ↓c1.c0, ↓(hc.ext h1).c0]
  exact h _ h1
end Go.Proofs.YtkpgmaiklfjjgaaDoor
