/-
  A suite of real ciphers, chains, turned and compared.
  Why there is no epoch; labels; mixed keys.
  What an epoch is born with, of the program.
-/
import Derived.Test.YtkpgmaiklfjjgaaGreatDoorMoao
section
set_option linter.unusedSimpArgs false
set_option linter.unusedVariables false
namespace Go.Proofs.YtkpgmaiklfjjgaaGreatDoor
open Go Go.G Go.RowKit
variable {X : KX} {w : World} {K : KV} {D D' D1 D2 D3 D4 D5 : Nat → Prop}
theorem ePNil {a : Addr} {K : KP} : pNil (.pointer (some a)) K = K (.pointer (some a)) := rfl
theorem ePEqS {a : Addr} {K : KP} : pEq .ptr false (.pointer (some a)) (.pointer none) K = K (.bool false) := by
  apply propext; exact ⟨fun ⟨b, h, k⟩ => by cases h; exact k, fun h => ⟨false, rfl, h⟩⟩
theorem ePEqN {K : KP} : pEq .ptr false (.pointer none) (.pointer none) K = K (.bool true) := by
  apply propext; exact ⟨fun ⟨b, h, k⟩ => by cases h; exact k, fun h => ⟨true, rfl, h⟩⟩
theorem fillFst {z0 z1 a : Value} (ha : one a = true) : fillL [z0, z1] [(0, 1, a)] = some [a, z1] := by simp [fillL, one_cells ha, cutIn]
/-- A source: its seed, and how many were drawn. -/
def Src (w : World) (g sb : Nat) (seed : List UInt8) (n : Nat) : Prop := ∃ v, Cs w g [v, .int .i64 (n : Int)] ∧ Rd (.slice .byte) (· = sb) w [v] seed ∧ sb < g
theorem Src.fr {T : Nat → Prop} {w w' : World} {g sb : Nat} {seed : List UInt8} {n : Nat} (h : Src w g sb seed n) (e : Fr T w w') (h1 : ¬ T g) (h2 : ¬ T sb) : Src w' g sb seed n := by
  obtain ⟨v, hc, hr, hn⟩ := h
  exact ⟨v, hc.fr e h1, hr.fr e (fun b hb => by subst hb; exact h2), hn⟩
theorem Src.ext {w w' : World} {g sb : Nat} {seed : List UInt8} {n : Nat} (h : Src w g sb seed n) (e : Ext w w') : Src w' g sb seed n := h.fr e (fun h => h) (fun h => h)
theorem Src.lt {w : World} {g sb : Nat} {seed : List UInt8} {n : Nat} (h : Src w g sb seed n) : g < w.heap.size := by obtain ⟨v, hc, _⟩ := h; exact hc.lt
theorem own_blk {B : Nat} {v : Value} {xs : List UInt8} (h : G.Own .byte NoB B w v xs) (hl : xs.length < 9223372036854775808) : ∃ sb, (B ≤ sb ∧ sb < w.heap.size ∨ sb = 0) ∧ Rd (.slice .byte) (· = sb) w [v] xs := by
  by_cases hx : xs = []
  · subst hx
    obtain ⟨a, c, e, hc⟩ := h.form
    exact ⟨0, .inr rfl, a, c, by rw [e], hc, hl, fun h => absurd rfl h⟩
  · obtain ⟨g, c, e, hB, hlt⟩ := h.some_of (List.length_pos_iff.2 hx)
    refine ⟨g, .inl ⟨hB, hlt⟩, h.rd2 (fun _ h => h.elim) (fun b hb _ _ => ?_) hl⟩
    obtain ⟨a, n, c', e', rfl⟩ := hb
    rw [e] at e'; cases e'; rfl
theorem New_c {x : Value} {seed : List UInt8} (h0 : 0 < w.heap.size) (hx : Rd (.slice .byte) D w [x] seed) (hl : seed.length ≤ 1000)
    (h : ∀ g sb w', Ext w w' → w.heap.size ≤ g → (w.heap.size ≤ sb ∨ sb = 0) → sb < g → Src w' g sb seed 0 → K (.pointer (some ⟨g, 0, none⟩)) w') : GCalls Tryz.prog 24 [x] K X w := by
  apply draw_New.calls; unfold draw_New.b
  refine Clone_c hx (by omega) fun v w1 h1 o1 hv => ?_
  refine ⟨[v, .int .i64 0], fillFst hv, ?_⟩
  refine boxC (cs := [v, .int .i64 0]) fun g w2 hg h2 c2 => ?_
  obtain ⟨sb, hsb, hr⟩ := own_blk o1 (by show seed.length < _; omega)
  have z1 := h1.size
  have hlt : sb < g := by rcases hsb with h | h <;> omega
  exact h g sb w2 (h1.tr h2) (by omega) (hsb.imp (fun h => h.1) id) hlt ⟨v, c2, hr.ext h2, by omega⟩

theorem rd_bd : ∀ {t : Ty} {D : Nat → Prop} {w : World} {vs : List Value} {x : t.D}, Rd t D w vs x → Rd t (fun b => D b ∧ b < w.heap.size) w vs x
  | .int _, _, _, _, _, h => h
  | .byte, _, _, _, _, h => h
  | .bool, _, _, _, _, h => h
  | .str, _, _, _, _, h => h
  | .slice t, D, w, vs, xs, h => by
    obtain ⟨a, c, e, hc, hl, hne⟩ := h
    refine ⟨a, c, e, hc, hl, fun hn => ?_⟩
    obtain ⟨ad, e1, e2, e3, e4⟩ := hne hn
    have hp : 0 < xs.length := List.length_pos_iff.2 hn
    have hlt : ad.block < w.heap.size := by
      obtain ⟨cs, f1, f2, _⟩ := e4 0 hp
      have hn0 := t.n_pos
      have := cell_lt (f2 0 (cs[0]'(by omega)) (List.getElem?_eq_getElem _))
      rwa [add_block] at this
    refine ⟨ad, e1, e2, ⟨e3, hlt⟩, fun i hi => ?_⟩
    obtain ⟨cs, f1, f2, f3⟩ := e4 i hi
    exact ⟨cs, f1, f2, rd_bd f3⟩
  | .pair a b, D, w, vs, x, h => by
    obtain ⟨va, vb, e, ha, hb, h1, h2⟩ := h
    exact ⟨va, vb, e, ha, hb, rd_bd h1, rd_bd h2⟩

abbrev tSkip : Ty := .pair (.int .i64) (.slice .byte)
/-- A suite of real ciphers. -/
def SReal (w : World) (g : Nat) : Prop := ∃ p, Cs w g [.pointer none, .map none, .pointer (some p)]
theorem SReal.fr {T : Nat → Prop} {w w' : World} {g : Nat} (h : SReal w g) (e : Fr T w w') (hT : ¬ T g) : SReal w' g := by
  obtain ⟨p, hc⟩ := h; exact ⟨p, hc.fr e hT⟩
theorem SReal.ext {w w' : World} {g : Nat} (h : SReal w g) (e : Ext w w') : SReal w' g := h.fr e (fun h => h)
theorem Real_c (h0 : 0 < w.heap.size) (h : ∀ g w', Ext w w' → w.heap.size ≤ g → SReal w' g → K (.pointer (some ⟨g, 0, none⟩)) w') : GCalls Tryz.prog 6 [.slice none 0 0] K X w := by
  apply suite_Real.calls; unfold suite_Real.b
  refine New_c (seed := []) h0 (nil_rd NoB w) (by simp) fun g sb w1 h1 q1 q2 q3 s1 => ?_
  refine ⟨[.pointer none, .map none, .pointer (some ⟨g, 0, none⟩)], by simp [fillL, one_cells, cutIn, Value.cells], ?_⟩
  refine boxC (cs := [.pointer none, .map none, .pointer (some ⟨g, 0, none⟩)]) fun g2 w2 hg h2 c2 => ?_
  exact h g2 w2 (h1.tr h2) (by have := h1.size; omega) ⟨_, c2⟩
theorem ePEqT {a : Addr} {K : KP} : pEq .ptr true (.pointer (some a)) (.pointer none) K = K (.bool true) := by
  apply propext; exact ⟨fun ⟨b, h, k⟩ => by cases h; exact k, fun h => ⟨false, rfl, h⟩⟩
theorem none_c {g : Nat} (hs : SReal w g) (h : K (.bool false) w) : GCalls Tryz.prog 37 [.pointer (some ⟨g, 0, none⟩)] K X w := by
  obtain ⟨p, hc⟩ := hs
  apply suite_Suite_none.calls; unfold suite_Suite_none.b
  simp only [↓eBinI, ↓eDiv, ↓eShift, ↓eBinS, ↓ePick, ↓eNot, ↓eNeg, ↓eConv, ↓eConvS, ↓eExt0, ↓eExt1, ↓eExt2, ↓eFA, ↓eIA, ↓eLenSl, ↓eCapSl, ↓eLenS, ↓eMin, ↓eMax, ↓eCondT, ↓eCondF, ↓gIf_tt, ↓gIf_ff, ↓gIf_tf, ↓gIf_ft, ↓gIf_u, ↓gIfW_u, ↓gIfW_tt, ↓gIfW_ff, ↓gIfW_tf, ↓gIfW_ft, binI, divI, shiftI, add_mk, Nat.zero_add, cond_true, cond_false, decide_true, decide_false, Bool.not_true, Bool.not_false, Bool.and_true, Bool.true_and, Bool.and_false, Bool.false_and, Int.toNat_natCast, Nat.mul_one, ↓ePEqS, ↓ePNil, ↓hc.c2]
  exact h
theorem real_c {g : Nat} (hs : SReal w g) (h : K (.bool true) w) : GCalls Tryz.prog 38 [.pointer (some ⟨g, 0, none⟩)] K X w := by
  obtain ⟨p, hc⟩ := hs
  apply suite_Suite_real.calls; unfold suite_Suite_real.b
  simp only [↓eBinI, ↓eDiv, ↓eShift, ↓eBinS, ↓ePick, ↓eNot, ↓eNeg, ↓eConv, ↓eConvS, ↓eExt0, ↓eExt1, ↓eExt2, ↓eFA, ↓eIA, ↓eLenSl, ↓eCapSl, ↓eLenS, ↓eMin, ↓eMax, ↓eCondT, ↓eCondF, ↓gIf_tt, ↓gIf_ff, ↓gIf_tf, ↓gIf_ft, ↓gIf_u, ↓gIfW_u, ↓gIfW_tt, ↓gIfW_ff, ↓gIfW_tf, ↓gIfW_ft, binI, divI, shiftI, add_mk, Nat.zero_add, cond_true, cond_false, decide_true, decide_false, Bool.not_true, Bool.not_false, Bool.and_true, Bool.true_and, Bool.and_false, Bool.false_and, Int.toNat_natCast, Nat.mul_one, ↓ePEqT, ↓ePNil, ↓hc.c2]
  exact h
theorem SDerive_c {g : Nat} {xk : Value} {key : List UInt8} {l : ByteArray} (hs : SReal w g) (hk : KT w) (hvk : Rd (.slice .byte) D w [xk] key) (hkl : key.length ≤ 1000) (hll : l.data.toList.length ≤ 200)
    (h : ∀ v w', Ext w w' → Rd (.slice .byte) (w.heap.size ≤ ·) w' [v] (deriveF key l.data.toList) → K v w') : GCalls Tryz.prog 26 [.pointer (some ⟨g, 0, none⟩), xk, .string l] K X w := by
  apply suite_Suite_Derive.calls; unfold suite_Suite_Derive.b
  refine none_c hs ?_
  simp only [↓eBinI, ↓eDiv, ↓eShift, ↓eBinS, ↓ePick, ↓eNot, ↓eNeg, ↓eConv, ↓eConvS, ↓eExt0, ↓eExt1, ↓eExt2, ↓eFA, ↓eIA, ↓eLenSl, ↓eCapSl, ↓eLenS, ↓eMin, ↓eMax, ↓eCondT, ↓eCondF, ↓gIf_tt, ↓gIf_ff, ↓gIf_tf, ↓gIf_ft, ↓gIf_u, ↓gIfW_u, ↓gIfW_tt, ↓gIfW_ff, ↓gIfW_tf, ↓gIfW_ft, binI, divI, shiftI, add_mk, Nat.zero_add, cond_true, cond_false, decide_true, decide_false, Bool.not_true, Bool.not_false, Bool.and_true, Bool.true_and, Bool.and_false, Bool.false_and, Int.toNat_natCast, Nat.mul_one]
  refine real_c hs ?_
  simp only [↓eBinI, ↓eDiv, ↓eShift, ↓eBinS, ↓ePick, ↓eNot, ↓eNeg, ↓eConv, ↓eConvS, ↓eExt0, ↓eExt1, ↓eExt2, ↓eFA, ↓eIA, ↓eLenSl, ↓eCapSl, ↓eLenS, ↓eMin, ↓eMax, ↓eCondT, ↓eCondF, ↓gIf_tt, ↓gIf_ff, ↓gIf_tf, ↓gIf_ft, ↓gIf_u, ↓gIfW_u, ↓gIfW_tt, ↓gIfW_ff, ↓gIfW_tf, ↓gIfW_ft, binI, divI, shiftI, add_mk, Nat.zero_add, cond_true, cond_false, decide_true, decide_false, Bool.not_true, Bool.not_false, Bool.and_true, Bool.true_and, Bool.and_false, Bool.false_and, Int.toNat_natCast, Nat.mul_one]
  exact Derive_c hk hvk hkl hll h
/-- A chain's three cells. -/
def chainV (gen : Int) (vc vs : Value) : Value := .agg ⟨[.int .i64 gen, vc, vs]⟩
theorem one_of_rd {t : Ty} {v : Value} {xs : List t.D} (h : Rd (.slice t) D w [v] xs) : one v = true := by
  obtain ⟨a, c, e, _⟩ := h.form; rw [e]; rfl
theorem allOne3 {a b c : Value} (ha : one a = true) (hb : one b = true) (hc : one c = true) : ∀ v ∈ [a, b, c], one v = true := by
  intro v hv
  simp only [List.mem_cons, List.not_mem_nil, or_false] at hv
  rcases hv with rfl | rfl | rfl <;> assumption
theorem Start_c {x : Value} {key : List UInt8} (hx : Rd (.slice .byte) D w [x] key) (hl : key.length ≤ 1000) (h : ∀ v w', Ext w w' → Rd (.slice .byte) (w.heap.size ≤ ·) w' [v] key → K (chainV 0 v (.slice none 0 0)) w') : GCalls Tryz.prog 29 [x] K X w := by
  apply ratchet_Start.calls; unfold ratchet_Start.b
  refine boxC (cs := [.int .i64 0, .slice none 0 0, .slice none 0 0]) fun g w1 hg h1 c1 => ?_
  refine Clone_c (hx.ext h1) (by omega) fun v w2 h2 o2 hv => ?_
  refine ⟨[.int .i64 0, v, .slice none 0 0], by simp [fillL, one_cells hv, cutIn], ?_⟩
  have z1 := h1.size; have z2 := h2.size; have l1 := c1.lt
  refine (c1.ext h2).setN (l' := [.int .i64 0, v, .slice none 0 0]) rfl rfl (allOne3 rfl hv rfl) fun w3 c3 f3 => ?_
  rw [c3.ld3]
  refine h v w3 ((h1.tr h2).tn f3 (fun x hx => by omega)) ?_
  exact ((own_rd o2 (by show key.length < _; omega)).fr f3 (fun b hb => by show ¬ b = g; omega)).wide (fun b hb => Nat.le_trans z1 hb)

theorem nilSk (D : Nat → Prop) (w : World) : Rd (.slice tSkip) D w [.slice none 0 0] ([] : List (Int × List UInt8)) := ⟨none, 0, rfl, Nat.le_refl _, by show 0 < _; omega, fun h => absurd rfl h⟩

/-- The parts of a row of skips at a place. -/
theorem skipAt {v : Value} {sk : List (Int × List UInt8)} (hv : Rd (.slice tSkip) D w [v] sk) {i : Nat} (hi : i < sk.length) :
    ∃ ad c vk, v = .slice (some ad) sk.length c ∧ ad.spot = none ∧ D ad.block ∧ w.cell? (ad.add (i * 2)) = some (.int .i64 sk[i].1) ∧ w.cell? ((ad.add (i * 2)).add 1) = some vk ∧ Rd (.slice .byte) D w [vk] sk[i].2 ∧ -9223372036854775808 ≤ sk[i].1 ∧ sk[i].1 ≤ 9223372036854775807 := by
  obtain ⟨ad, c', us, e1, s1, hd, hus, q1, r1⟩ := hv.idxN hi
  obtain ⟨va, vb, rfl, hva, hvb, r2, r3⟩ := r1
  obtain ⟨rfl, hp0, hp1⟩ := r2
  obtain ⟨vk, rfl⟩ : ∃ vk, vb = [vk] := by
    match vb, hvb with
    | [vk], _ => exact ⟨vk, rfl⟩
  refine ⟨ad, c', vk, e1, s1, hd, q1 0 _ rfl, ?_, r3, hp0, hp1⟩
  rw [add_add _ _ _ s1]
  exact q1 1 _ rfl
theorem fill21 {z0 z1 z2 a b : Value} (ha : one a = true) (hb : one b = true) : fillL [z0, z1, z2] [(0, 1, a), (1, 1, b)] = some [a, b, z2] := by simp [fillL, one_cells ha, one_cells hb, cutIn]
set_option maxHeartbeats 1000000 in
theorem Back_c {gen : Int} {vc vs : Value} {cur : List UInt8} {sk : List (Int × List UInt8)} (hc : Rd (.slice .byte) D w [vc] cur) (hv : Rd (.slice tSkip) D' w [vs] sk) (hsl : sk.length ≤ 1000)
    (h : ∀ vs' w', Ext w w' → Rd (.slice .byte) D w' [vc] cur → Rd (.slice tSkip) (fun b => D' b ∨ w.heap.size ≤ b) w' [vs'] sk → K (chainV gen vc vs') w') : GCalls Tryz.prog 32 [chainV gen vc vs] K X w := by
  have oc := one_of_rd hc
  obtain ⟨av, cv, rfl, hcv, hlv⟩ := hv.form
  apply oubliettelaw22_Back.calls; unfold oubliettelaw22_Back.b
  refine boxC (cs := [.int .i64 gen, vc, .slice av sk.length cv]) fun g1 w1 hg1 h1 c1 => ?_
  refine boxC (cs := [.int .i64 0, .slice none 0 0, .slice none 0 0]) fun g2 w2 hg2 h2 c2 => ?_
  have z1 := h1.size; have z2 := h2.size; have l1 := c1.lt; have l2 := c2.lt
  have c1 := c1.ext h2
  simp only [↓eBinI, ↓eDiv, ↓eShift, ↓eBinS, ↓ePick, ↓eNot, ↓eNeg, ↓eConv, ↓eConvS, ↓eExt0, ↓eExt1, ↓eExt2, ↓eFA, ↓eIA, ↓eLenSl, ↓eCapSl, ↓eLenS, ↓eMin, ↓eMax, ↓eCondT, ↓eCondF, ↓gIf_tt, ↓gIf_ff, ↓gIf_tf, ↓gIf_ft, ↓gIf_u, ↓gIfW_u, ↓gIfW_tt, ↓gIfW_ff, ↓gIfW_tf, ↓gIfW_ft, binI, divI, shiftI, add_mk, Nat.zero_add, cond_true, cond_false, decide_true, decide_false, Bool.not_true, Bool.not_false, Bool.and_true, Bool.true_and, Bool.and_false, Bool.false_and, Int.toNat_natCast, Nat.mul_one, ↓c1.c0, ↓c1.c1]
  refine ⟨[.int .i64 gen, vc, .slice none 0 0], fill21 rfl oc, ?_⟩
  refine boxC (cs := [.int .i64 0, .slice none 0 0, .slice none 0 0]) fun g3 w3 hg3 h3 c3 => ?_
  have z3 := h3.size; have l3 := c3.lt
  refine c3.setN (l' := [.int .i64 gen, vc, .slice none 0 0]) rfl rfl (allOne3 rfl oc rfl) fun w4 c4 f4 => ?_
  have h14 : Ext w w4 := ((h1.tr h2).tr h3).tn f4 (fun x hx => by omega)
  have z4 := f4.size
  have hv0 := rd_bd hv
  refine oubliettelaw22_Back.loop1 (fun x4 w' => ∃ (i : Nat) (vo : Value), i ≤ sk.length ∧ x4 = .int .i64 (i : Int) ∧ Ext w w' ∧ w4.heap.size ≤ w'.heap.size ∧ Cs w' g1 [.int .i64 gen, vc, .slice av sk.length cv] ∧ Cs w' g2 [.int .i64 0, .slice none 0 0, .slice none 0 0] ∧ Cs w' g3 [.int .i64 gen, vc, vo] ∧ G.Own tSkip (fun b => D' b ∧ b < w.heap.size) w4.heap.size w' vo (sk.take i)) (fun x4 _ => sk.length - (iv x4).toNat)
    ⟨0, _, by omega, rfl, h14, Nat.le_refl _, (c1.ext h3).fr f4 (by omega), (c2.ext h3).fr f4 (by omega), c4, G.Own.nil⟩ ?_
  rintro x4 gg w5 ⟨i, vo, hi, rfl, h5, z5, c1, c2, c3, ho⟩
  unfold oubliettelaw22_Back.b1
  by_cases ci : (i : Int) < (sk.length : Int)
  · obtain ⟨ad, c', vk, e1, s1, hd, q0, q1, r1, p0, p1⟩ := skipAt hv0 (i := i) (by omega)
    simp only [Value.slice.injEq] at e1
    obtain ⟨rfl, -, rfl⟩ := e1
    have ok := one_of_rd r1
    have oo : one vo = true := by obtain ⟨a, c, e, _⟩ := ho.form; rw [e]; rfl
    have e0 : IntKind.i64.wrap ((i : Int) + 1) = ((i + 1 : Nat) : Int) := by rw [wrap64 (by omega) (by omega)]; omega
    simp only [↓eBinI, ↓eDiv, ↓eShift, ↓eBinS, ↓ePick, ↓eNot, ↓eNeg, ↓eConv, ↓eConvS, ↓eExt0, ↓eExt1, ↓eExt2, ↓eFA, ↓eIA, ↓eLenSl, ↓eCapSl, ↓eLenS, ↓eMin, ↓eMax, ↓eCondT, ↓eCondF, ↓gIf_tt, ↓gIf_ff, ↓gIf_tf, ↓gIf_ft, ↓gIf_u, ↓gIfW_u, ↓gIfW_tt, ↓gIfW_ff, ↓gIfW_tf, ↓gIfW_ft, binI, divI, shiftI, add_mk, Nat.zero_add, cond_true, cond_false, decide_true, decide_false, Bool.not_true, Bool.not_false, Bool.and_true, Bool.true_and, Bool.and_false, Bool.false_and, Int.toNat_natCast, Nat.mul_one, ↓c1.c2, ci]
    refine drawS (fun b => Blk vo b ∧ w4.heap.size ≤ b) fun w6 h6 => ?_
    have z6 := h6.size
    have c16 := c1.ext h6
    have c36 := c3.ext h6
    have t0 : ¬ (fun b => Blk vo b ∧ w4.heap.size ≤ b) (ad.add (i * 2)).block := fun hx => by have := cell_lt q0; have := hx.2; omega
    have t1 : ¬ (fun b => Blk vo b ∧ w4.heap.size ≤ b) ((ad.add (i * 2)).add 1).block := fun hx => by have := cell_lt q1; have := hx.2; omega
    have q06 := (h5.tr h6).cell q0
    have q16 := (h5.tr h6).cell q1
    have n1 : ¬ (fun b => Blk vo b ∧ w4.heap.size ≤ b) g1 := fun hx => by have := hx.2; omega
    have n3 : ¬ (fun b => Blk vo b ∧ w4.heap.size ≤ b) g3 := fun hx => by have := hx.2; omega
    have b12 : ∀ {K : KP}, pLd (Fr (fun b => Blk vo b ∧ w4.heap.size ≤ b) w6) (.pointer (some ⟨g1, 2, none⟩)) K = K (.slice (some ad) sk.length cv) := c16.f n1 rfl
    have b32 : ∀ {K : KP}, pLd (Fr (fun b => Blk vo b ∧ w4.heap.size ≤ b) w6) (.pointer (some ⟨g3, 2, none⟩)) K = K vo := c36.f n3 rfl
    have ad0 : (ad.add (i * 2)).add 0 = ad.add (i * 2) := by rw [add_add _ _ _ s1]; rfl
    simp only [↓eBinI, ↓eDiv, ↓eShift, ↓eBinS, ↓ePick, ↓eNot, ↓eNeg, ↓eConv, ↓eConvS, ↓eExt0, ↓eExt1, ↓eExt2, ↓eFA, ↓eIA, ↓eLenSl, ↓eCapSl, ↓eLenS, ↓eMin, ↓eMax, ↓eCondT, ↓eCondF, ↓gIf_tt, ↓gIf_ff, ↓gIf_tf, ↓gIf_ft, ↓gIf_u, ↓gIfW_u, ↓gIfW_tt, ↓gIfW_ff, ↓gIfW_tf, ↓gIfW_ft, binI, divI, shiftI, add_mk, Nat.zero_add, cond_true, cond_false, decide_true, decide_false, Bool.not_true, Bool.not_false, Bool.and_true, Bool.true_and, Bool.and_false, Bool.false_and, Int.toNat_natCast, Nat.mul_one, ↓b12, ↓b32, ad0, ↓eLdT (T := fun b => Blk vo b ∧ w4.heap.size ≤ b) t0 q06, ↓eLdT (T := fun b => Blk vo b ∧ w4.heap.size ≤ b) t1 q16]
    repeat ((with_reducible refine And.intro ?_ ?_); · first | omega | exact True.intro)
    refine ⟨[.int .i64 sk[i].1, vk], fill2 rfl ok, ?_⟩
    refine Cs.bslice (cs := [.int .i64 sk[i].1, vk]) (fillAgg rfl rfl) fun r w7 hr h7 b7 => ⟨h7.mono (fun _ _ h => h.elim), ?_⟩
    have z7 := h7.size
    have h07 := (h5.tr h6).tr h7
    have hrow : Rd tSkip (fun b => D' b ∧ b < w.heap.size) w7 [.int .i64 sk[i].1, vk] sk[i] := ⟨[.int .i64 sk[i].1], [vk], rfl, rfl, rfl, ⟨rfl, p0, p1⟩, r1.ext h07⟩
    obtain ⟨T7, b7'⟩ := b7
    have hwz := h14.size
    refine ((ho.ext h6).ext h7).push (by omega) (fun hd => by have := hd.2; omega) rfl rfl b7' hrow (by show (2 * ((sk.take i).length + 1) + 192) * 32 ≤ _; rw [List.length_take]; omega) fun v8 w8 o8 f8 hb8 => ?_
    refine ⟨(h7.mono (fun _ _ h => h.elim)).trans f8 (fun _ _ h => h), ?_⟩
    have z8 := f8.size
    have ov : one v8 = true := by obtain ⟨a, c, e, _⟩ := o8.form; rw [e]; rfl
    have h8 : Ext w w8 := h07.tn f8 (fun x hx => by have := hx.2; omega)
    have c38 : Cs w8 g3 [.int .i64 gen, vc, vo] := (c36.ext h7).fr f8 (fun hx => by have := hx.2; omega)
    try simp only [↓eBinI, ↓eDiv, ↓eShift, ↓eBinS, ↓ePick, ↓eNot, ↓eNeg, ↓eConv, ↓eConvS, ↓eExt0, ↓eExt1, ↓eExt2, ↓eFA, ↓eIA, ↓eLenSl, ↓eCapSl, ↓eLenS, ↓eMin, ↓eMax, ↓eCondT, ↓eCondF, ↓gIf_tt, ↓gIf_ff, ↓gIf_tf, ↓gIf_ft, ↓gIf_u, ↓gIfW_u, ↓gIfW_tt, ↓gIfW_ff, ↓gIfW_tf, ↓gIfW_ft, binI, divI, shiftI, add_mk, Nat.zero_add, cond_true, cond_false, decide_true, decide_false, Bool.not_true, Bool.not_false, Bool.and_true, Bool.true_and, Bool.and_false, Bool.false_and, Int.toNat_natCast, Nat.mul_one]
    refine c38.set (i := 2) (by simp) ov fun w9 c9 f9 => ?_
    refine anew_ ?_
    have z9 := f9.size
    try simp only [↓eBinI, ↓eDiv, ↓eShift, ↓eBinS, ↓ePick, ↓eNot, ↓eNeg, ↓eConv, ↓eConvS, ↓eExt0, ↓eExt1, ↓eExt2, ↓eFA, ↓eIA, ↓eLenSl, ↓eCapSl, ↓eLenS, ↓eMin, ↓eMax, ↓eCondT, ↓eCondF, ↓gIf_tt, ↓gIf_ff, ↓gIf_tf, ↓gIf_ft, ↓gIf_u, ↓gIfW_u, ↓gIfW_tt, ↓gIfW_ff, ↓gIfW_tf, ↓gIfW_ft, binI, divI, shiftI, add_mk, Nat.zero_add, cond_true, cond_false, decide_true, decide_false, Bool.not_true, Bool.not_false, Bool.and_true, Bool.true_and, Bool.and_false, Bool.false_and, Int.toNat_natCast, Nat.mul_one, e0]
    refine oubliettelaw22_Back.leaf1 ⟨i + 1, v8, by omega, by first | rfl | rw [e0], h8.tn f9 (fun x hx => by omega), by omega, ((c16.ext h7).fr f8 (fun hx => by have := hx.2; omega)).fr f9 (by omega), (((c2.ext h6).ext h7).fr f8 (fun hx => by have := hx.2; omega)).fr f9 (by omega), c9, ?_⟩ (by first | rw [e0] | skip; simp only [iv]; omega)
    rw [List.take_succ_eq_append_getElem (by omega)]
    exact o8.fr f9 (fun b hb => by have := hb.2; omega) (fun b hb hB => by omega)
  · simp only [↓eBinI, ↓eDiv, ↓eShift, ↓eBinS, ↓ePick, ↓eNot, ↓eNeg, ↓eConv, ↓eConvS, ↓eExt0, ↓eExt1, ↓eExt2, ↓eFA, ↓eIA, ↓eLenSl, ↓eCapSl, ↓eLenS, ↓eMin, ↓eMax, ↓eCondT, ↓eCondF, ↓gIf_tt, ↓gIf_ff, ↓gIf_tf, ↓gIf_ft, ↓gIf_u, ↓gIfW_u, ↓gIfW_tt, ↓gIfW_ff, ↓gIfW_tf, ↓gIfW_ft, binI, divI, shiftI, add_mk, Nat.zero_add, cond_true, cond_false, decide_true, decide_false, Bool.not_true, Bool.not_false, Bool.and_true, Bool.true_and, Bool.and_false, Bool.false_and, Int.toNat_natCast, Nat.mul_one, ↓c1.c2, ci]
    have : i = sk.length := by omega
    subst this
    rw [List.take_of_length_le (Nat.le_refl _)] at ho
    have oo : one vo = true := by obtain ⟨a, c, e, _⟩ := ho.form; rw [e]; rfl
    rw [c3.ld3]
    refine c2.setN (l' := [.int .i64 gen, vc, vo]) rfl rfl (allOne3 rfl oc oo) fun w6 c6 f6 => ?_
    rw [c6.ld3]
    have hwz := h14.size
    have h6 : Ext w w6 := h5.tn f6 (fun x hx => by omega)
    refine h vo w6 h6 (hc.ext h6) ?_
    exact (ho.fr f6 (fun b hb => by have := hb.2; omega) (fun b hb hB => by omega)).rd2 (fun b hb => .inl hb.1) (fun b _ hB _ => .inr (by omega)) (by show sk.length < _; omega)


theorem bne_self (n : Int) : (n != n) = false := by simp
theorem SameT_c {gen : Int} {vc vs uc us : Value} {cur : List UInt8} {sk : List (Int × List UInt8)} (hc : Rd (.slice .byte) D w [vc] cur) (hv : Rd (.slice tSkip) D' w [vs] sk) (gc : Rd (.slice .byte) D2 w [uc] cur) (gv : Rd (.slice tSkip) D3 w [us] sk)
    (h : ∀ w', Ext w w' → K (.bool true) w') : GCalls Tryz.prog 31 [chainV gen vc vs, chainV gen uc us] K X w := by
  obtain ⟨a1, c1, rfl, _, _⟩ := hc.form
  obtain ⟨a2, c2, rfl, _, _⟩ := gc.form
  obtain ⟨a3, c3, rfl, _, _⟩ := hv.form
  obtain ⟨a4, c4, rfl, _, _⟩ := gv.form
  apply oublietteref22_SameChain.calls; unfold oublietteref22_SameChain.b
  refine boxC (cs := [.int .i64 gen, .slice a1 cur.length c1, .slice a3 sk.length c3]) fun g1 w1 hg1 h1 b1 => ?_
  refine boxC (cs := [.int .i64 gen, .slice a2 cur.length c2, .slice a4 sk.length c4]) fun g2 w2 hg2 h2 b2 => ?_
  have h12 := h1.tr h2
  have b1 := b1.ext h2
  simp only [↓eBinI, ↓eDiv, ↓eShift, ↓eBinS, ↓ePick, ↓eNot, ↓eNeg, ↓eConv, ↓eConvS, ↓eExt0, ↓eExt1, ↓eExt2, ↓eFA, ↓eIA, ↓eLenSl, ↓eCapSl, ↓eLenS, ↓eMin, ↓eMax, ↓eCondT, ↓eCondF, ↓gIf_tt, ↓gIf_ff, ↓gIf_tf, ↓gIf_ft, ↓gIf_u, ↓gIfW_u, ↓gIfW_tt, ↓gIfW_ff, ↓gIfW_tf, ↓gIfW_ft, binI, divI, shiftI, add_mk, Nat.zero_add, cond_true, cond_false, decide_true, decide_false, Bool.not_true, Bool.not_false, Bool.and_true, Bool.true_and, Bool.and_false, Bool.false_and, Int.toNat_natCast, Nat.mul_one, ↓b1.c0, ↓b2.c0, bne_self, ↓b1.c1, ↓b2.c1]
  refine Same_c (hc.ext h12) (gc.ext h12) fun w3 h3 => ?_
  have h13 := h12.tr h3
  have b1 := b1.ext h3
  have b2 := b2.ext h3
  simp only [decide_true]
  simp only [↓eBinI, ↓eDiv, ↓eShift, ↓eBinS, ↓ePick, ↓eNot, ↓eNeg, ↓eConv, ↓eConvS, ↓eExt0, ↓eExt1, ↓eExt2, ↓eFA, ↓eIA, ↓eLenSl, ↓eCapSl, ↓eLenS, ↓eMin, ↓eMax, ↓eCondT, ↓eCondF, ↓gIf_tt, ↓gIf_ff, ↓gIf_tf, ↓gIf_ft, ↓gIf_u, ↓gIfW_u, ↓gIfW_tt, ↓gIfW_ff, ↓gIfW_tf, ↓gIfW_ft, binI, divI, shiftI, add_mk, Nat.zero_add, cond_true, cond_false, decide_true, decide_false, Bool.not_true, Bool.not_false, Bool.and_true, Bool.true_and, Bool.and_false, Bool.false_and, Int.toNat_natCast, Nat.mul_one, ↓b1.c2, ↓b2.c2, bne_self]
  refine oublietteref22_SameChain.loop1 (fun x5 w' => ∃ i : Nat, i ≤ sk.length ∧ x5 = .int .i64 (i : Int) ∧ Ext w3 w') (fun x5 _ => sk.length - (iv x5).toNat) ⟨0, by omega, rfl, Fr.refl _ _⟩ ?_
  rintro x5 gg w4 ⟨i, hi, rfl, h4⟩
  unfold oublietteref22_SameChain.b1
  have b1 := b1.ext h4
  have b2 := b2.ext h4
  by_cases ci : (i : Int) < (sk.length : Int)
  · simp only [↓eBinI, ↓eDiv, ↓eShift, ↓eBinS, ↓ePick, ↓eNot, ↓eNeg, ↓eConv, ↓eConvS, ↓eExt0, ↓eExt1, ↓eExt2, ↓eFA, ↓eIA, ↓eLenSl, ↓eCapSl, ↓eLenS, ↓eMin, ↓eMax, ↓eCondT, ↓eCondF, ↓gIf_tt, ↓gIf_ff, ↓gIf_tf, ↓gIf_ft, ↓gIf_u, ↓gIfW_u, ↓gIfW_tt, ↓gIfW_ff, ↓gIfW_tf, ↓gIfW_ft, binI, divI, shiftI, add_mk, Nat.zero_add, cond_true, cond_false, decide_true, decide_false, Bool.not_true, Bool.not_false, Bool.and_true, Bool.true_and, Bool.and_false, Bool.false_and, Int.toNat_natCast, Nat.mul_one, ↓b1.c2, ci]
    refine draw_ fun w5 h5 => ?_
    have b1 := b1.ext h5
    have b2 := b2.ext h5
    have h15 := (h13.tr h4).tr h5
    obtain ⟨ad, cc, vk, e1, s1, _, q0, q1, r1, _, _⟩ := skipAt (hv.ext h15) (i := i) (by omega)
    obtain ⟨ad', cc', vk', e1', s1', _, q0', q1', r1', _, _⟩ := skipAt (gv.ext h15) (i := i) (by omega)
    simp only [Value.slice.injEq] at e1 e1'
    obtain ⟨rfl, -, rfl⟩ := e1
    obtain ⟨rfl, -, rfl⟩ := e1'
    have ad0 : (ad.add (i * 2)).add 0 = ad.add (i * 2) := by rw [add_add _ _ _ s1]; rfl
    have ad0' : (ad'.add (i * 2)).add 0 = ad'.add (i * 2) := by rw [add_add _ _ _ s1']; rfl
    have e0 : IntKind.i64.wrap ((i : Int) + 1) = ((i + 1 : Nat) : Int) := by rw [wrap64 (by omega) (by omega)]; omega
    simp only [↓eBinI, ↓eDiv, ↓eShift, ↓eBinS, ↓ePick, ↓eNot, ↓eNeg, ↓eConv, ↓eConvS, ↓eExt0, ↓eExt1, ↓eExt2, ↓eFA, ↓eIA, ↓eLenSl, ↓eCapSl, ↓eLenS, ↓eMin, ↓eMax, ↓eCondT, ↓eCondF, ↓gIf_tt, ↓gIf_ff, ↓gIf_tf, ↓gIf_ft, ↓gIf_u, ↓gIfW_u, ↓gIfW_tt, ↓gIfW_ff, ↓gIfW_tf, ↓gIfW_ft, binI, divI, shiftI, add_mk, Nat.zero_add, cond_true, cond_false, decide_true, decide_false, Bool.not_true, Bool.not_false, Bool.and_true, Bool.true_and, Bool.and_false, Bool.false_and, Int.toNat_natCast, Nat.mul_one, ↓b1.e2, ↓b2.e2, ad0, ad0', ↓eLdE q0, ↓eLdE q0', ↓eLdE q1, ↓eLdE q1', bne_self]
    repeat ((with_reducible refine And.intro ?_ ?_); · first | omega | exact True.intro)
    refine Same_c r1 r1' fun w6 h6 => ?_
    refine ⟨h6, ?_⟩
    simp only [decide_true]
    simp only [↓eBinI, ↓eDiv, ↓eShift, ↓eBinS, ↓ePick, ↓eNot, ↓eNeg, ↓eConv, ↓eConvS, ↓eExt0, ↓eExt1, ↓eExt2, ↓eFA, ↓eIA, ↓eLenSl, ↓eCapSl, ↓eLenS, ↓eMin, ↓eMax, ↓eCondT, ↓eCondF, ↓gIf_tt, ↓gIf_ff, ↓gIf_tf, ↓gIf_ft, ↓gIf_u, ↓gIfW_u, ↓gIfW_tt, ↓gIfW_ff, ↓gIfW_tf, ↓gIfW_ft, binI, divI, shiftI, add_mk, Nat.zero_add, cond_true, cond_false, decide_true, decide_false, Bool.not_true, Bool.not_false, Bool.and_true, Bool.true_and, Bool.and_false, Bool.false_and, Int.toNat_natCast, Nat.mul_one, e0]
    exact oublietteref22_SameChain.leaf1 ⟨i + 1, by omega, rfl, (h4.tr h5).tr h6⟩ (by simp only [iv]; omega)
  · simp only [↓eBinI, ↓eDiv, ↓eShift, ↓eBinS, ↓ePick, ↓eNot, ↓eNeg, ↓eConv, ↓eConvS, ↓eExt0, ↓eExt1, ↓eExt2, ↓eFA, ↓eIA, ↓eLenSl, ↓eCapSl, ↓eLenS, ↓eMin, ↓eMax, ↓eCondT, ↓eCondF, ↓gIf_tt, ↓gIf_ff, ↓gIf_tf, ↓gIf_ft, ↓gIf_u, ↓gIfW_u, ↓gIfW_tt, ↓gIfW_ff, ↓gIfW_tf, ↓gIfW_ft, binI, divI, shiftI, add_mk, Nat.zero_add, cond_true, cond_false, decide_true, decide_false, Bool.not_true, Bool.not_false, Bool.and_true, Bool.true_and, Bool.and_false, Bool.false_and, Int.toNat_natCast, Nat.mul_one, ↓b1.c2, ci]
    exact h _ (h13.tr h4)


end Go.Proofs.YtkpgmaiklfjjgaaGreatDoor
end
section
set_option linter.unusedSimpArgs false
set_option linter.unusedVariables false
namespace Go.Proofs.YtkpgmaiklfjjgaaGreatDoor
open Go Go.G Go.RowKit
variable {X : KX} {w : World} {K : KV} {D D' D1 D2 D3 D4 D5 : Nat → Prop}
def allKey (keys : List (List UInt8)) : Bool := keys.all fun k => k.length == 32
def whyF (n : Int) (keys : List (List UInt8)) : Int := if n < 1 ∨ n > 4 then 2 else if allKey keys then 0 else 4
theorem allKey_of {keys : List (List UInt8)} (h : ∀ j (hl : j < keys.length), keys[j].length = 32) : allKey keys = true := by
  unfold allKey
  rw [List.all_eq_true]
  intro k hk
  obtain ⟨j, hj, rfl⟩ := List.mem_iff_getElem.1 hk
  simpa using h j hj
theorem allKey_not {keys : List (List UInt8)} {j : Nat} (hl : j < keys.length) (h : keys[j].length ≠ 32) : allKey keys = false := by
  unfold allKey
  rw [List.all_eq_false]
  exact ⟨keys[j], List.getElem_mem _, by simpa using h⟩
theorem whyF_out {n : Int} {keys : List (List UInt8)} (h : n < 1 ∨ n > 4) : whyF n keys = 2 := by rw [whyF, if_pos h]
theorem whyF_in {n : Int} {keys : List (List UInt8)} (h : ¬ n < 1) (h' : ¬ n > 4) : whyF n keys = if allKey keys then 0 else 4 := by rw [whyF, if_neg (by omega)]
theorem ref_Why_c {x : Value} {keys : List (List UInt8)} {n : Int} (hx : Rd (.slice (.slice .byte)) D w [x] keys) (h : K (.int .i64 (whyF n keys)) w) : GCalls Tryz.prog 10 [x, .int .i64 n] K X w := by
  obtain ⟨a1, c1, rfl, hc1, hl1⟩ := hx.form
  apply oublietteref34_Why.calls; unfold oublietteref34_Why.b
  by_cases d1 : n < 1
  · simp only [↓eBinI, ↓eDiv, ↓eShift, ↓eBinS, ↓ePick, ↓eNot, ↓eNeg, ↓eConv, ↓eConvS, ↓eExt0, ↓eExt1, ↓eExt2, ↓eFA, ↓eIA, ↓eLenSl, ↓eCapSl, ↓eLenS, ↓eMin, ↓eMax, ↓eCondT, ↓eCondF, ↓gIf_tt, ↓gIf_ff, ↓gIf_tf, ↓gIf_ft, ↓gIf_u, ↓gIfW_u, ↓gIfW_tt, ↓gIfW_ff, ↓gIfW_tf, ↓gIfW_ft, binI, divI, shiftI, add_mk, Nat.zero_add, cond_true, cond_false, decide_true, decide_false, Bool.not_true, Bool.not_false, Bool.and_true, Bool.true_and, Bool.and_false, Bool.false_and, Int.toNat_natCast, Nat.mul_one, d1]
    rw [whyF_out (.inl d1)] at h; exact h
  by_cases d2 : n > 4
  · simp only [↓eBinI, ↓eDiv, ↓eShift, ↓eBinS, ↓ePick, ↓eNot, ↓eNeg, ↓eConv, ↓eConvS, ↓eExt0, ↓eExt1, ↓eExt2, ↓eFA, ↓eIA, ↓eLenSl, ↓eCapSl, ↓eLenS, ↓eMin, ↓eMax, ↓eCondT, ↓eCondF, ↓gIf_tt, ↓gIf_ff, ↓gIf_tf, ↓gIf_ft, ↓gIf_u, ↓gIfW_u, ↓gIfW_tt, ↓gIfW_ff, ↓gIfW_tf, ↓gIfW_ft, binI, divI, shiftI, add_mk, Nat.zero_add, cond_true, cond_false, decide_true, decide_false, Bool.not_true, Bool.not_false, Bool.and_true, Bool.true_and, Bool.and_false, Bool.false_and, Int.toNat_natCast, Nat.mul_one, d1, d2]
    rw [whyF_out (.inr d2)] at h; exact h
  simp only [↓eBinI, ↓eDiv, ↓eShift, ↓eBinS, ↓ePick, ↓eNot, ↓eNeg, ↓eConv, ↓eConvS, ↓eExt0, ↓eExt1, ↓eExt2, ↓eFA, ↓eIA, ↓eLenSl, ↓eCapSl, ↓eLenS, ↓eMin, ↓eMax, ↓eCondT, ↓eCondF, ↓gIf_tt, ↓gIf_ff, ↓gIf_tf, ↓gIf_ft, ↓gIf_u, ↓gIfW_u, ↓gIfW_tt, ↓gIfW_ff, ↓gIfW_tf, ↓gIfW_ft, binI, divI, shiftI, add_mk, Nat.zero_add, cond_true, cond_false, decide_true, decide_false, Bool.not_true, Bool.not_false, Bool.and_true, Bool.true_and, Bool.and_false, Bool.false_and, Int.toNat_natCast, Nat.mul_one, d1, d2]
  rw [whyF_in d1 d2] at h
  refine oublietteref34_Why.loop1 (fun x5 w' => ∃ i : Nat, i ≤ keys.length ∧ x5 = .int .i64 i ∧ w' = w ∧ ∀ j (hj : j < i) (hl : j < keys.length), keys[j].length = 32) (fun x5 _ => keys.length - (iv x5).toNat) ⟨0, by omega, rfl, rfl, fun j hj => by omega⟩ ?_
  rintro x5 gg w1 ⟨i, hi, rfl, rfl, hn⟩
  unfold oublietteref34_Why.b1
  by_cases ci : (i : Int) < (keys.length : Int)
  · obtain ⟨b1, k1, u1, e1, s1, hd, q1, r1⟩ := hx.idx rfl (i := i) (by omega)
    simp only [Value.slice.injEq] at e1
    obtain ⟨rfl, -, rfl⟩ := e1
    obtain ⟨a2, c2, rfl, _, _⟩ := r1.form
    simp only [↓eBinI, ↓eDiv, ↓eShift, ↓eBinS, ↓ePick, ↓eNot, ↓eNeg, ↓eConv, ↓eConvS, ↓eExt0, ↓eExt1, ↓eExt2, ↓eFA, ↓eIA, ↓eLenSl, ↓eCapSl, ↓eLenS, ↓eMin, ↓eMax, ↓eCondT, ↓eCondF, ↓gIf_tt, ↓gIf_ff, ↓gIf_tf, ↓gIf_ft, ↓gIf_u, ↓gIfW_u, ↓gIfW_tt, ↓gIfW_ff, ↓gIfW_tf, ↓gIfW_ft, binI, divI, shiftI, add_mk, Nat.zero_add, cond_true, cond_false, decide_true, decide_false, Bool.not_true, Bool.not_false, Bool.and_true, Bool.true_and, Bool.and_false, Bool.false_and, Int.toNat_natCast, Nat.mul_one, ci, ↓eLdW, q1, Option.some.injEq, exists_eq_left']
    refine ⟨by omega, by first | trivial | omega, ?_⟩
    by_cases ck : keys[i].length = 32
    · have e : (((keys[i].length : Nat) : Int) != 32) = false := by rw [ck]; rfl
      simp only [↓eBinI, ↓eDiv, ↓eShift, ↓eBinS, ↓ePick, ↓eNot, ↓eNeg, ↓eConv, ↓eConvS, ↓eExt0, ↓eExt1, ↓eExt2, ↓eFA, ↓eIA, ↓eLenSl, ↓eCapSl, ↓eLenS, ↓eMin, ↓eMax, ↓eCondT, ↓eCondF, ↓gIf_tt, ↓gIf_ff, ↓gIf_tf, ↓gIf_ft, ↓gIf_u, ↓gIfW_u, ↓gIfW_tt, ↓gIfW_ff, ↓gIfW_tf, ↓gIfW_ft, binI, divI, shiftI, add_mk, Nat.zero_add, cond_true, cond_false, decide_true, decide_false, Bool.not_true, Bool.not_false, Bool.and_true, Bool.true_and, Bool.and_false, Bool.false_and, Int.toNat_natCast, Nat.mul_one, e]
      rw [wrap64 (by omega) (by omega)]
      refine oublietteref34_Why.leaf1 ⟨i + 1, by omega, by simp, rfl, fun j hj hl => ?_⟩ (by simp only [iv]; omega)
      by_cases hji : j = i
      · subst hji; exact ck
      · exact hn j (by omega) hl
    · have e : (((keys[i].length : Nat) : Int) != 32) = true := by simp; omega
      simp only [↓eBinI, ↓eDiv, ↓eShift, ↓eBinS, ↓ePick, ↓eNot, ↓eNeg, ↓eConv, ↓eConvS, ↓eExt0, ↓eExt1, ↓eExt2, ↓eFA, ↓eIA, ↓eLenSl, ↓eCapSl, ↓eLenS, ↓eMin, ↓eMax, ↓eCondT, ↓eCondF, ↓gIf_tt, ↓gIf_ff, ↓gIf_tf, ↓gIf_ft, ↓gIf_u, ↓gIfW_u, ↓gIfW_tt, ↓gIfW_ff, ↓gIfW_tf, ↓gIfW_ft, binI, divI, shiftI, add_mk, Nat.zero_add, cond_true, cond_false, decide_true, decide_false, Bool.not_true, Bool.not_false, Bool.and_true, Bool.true_and, Bool.and_false, Bool.false_and, Int.toNat_natCast, Nat.mul_one, e]
      rw [allKey_not (by omega) ck] at h
      exact h
  · simp only [↓eBinI, ↓eDiv, ↓eShift, ↓eBinS, ↓ePick, ↓eNot, ↓eNeg, ↓eConv, ↓eConvS, ↓eExt0, ↓eExt1, ↓eExt2, ↓eFA, ↓eIA, ↓eLenSl, ↓eCapSl, ↓eLenS, ↓eMin, ↓eMax, ↓eCondT, ↓eCondF, ↓gIf_tt, ↓gIf_ff, ↓gIf_tf, ↓gIf_ft, ↓gIf_u, ↓gIfW_u, ↓gIfW_tt, ↓gIfW_ff, ↓gIfW_tf, ↓gIfW_ft, binI, divI, shiftI, add_mk, Nat.zero_add, cond_true, cond_false, decide_true, decide_false, Bool.not_true, Bool.not_false, Bool.and_true, Bool.true_and, Bool.and_false, Bool.false_and, Int.toNat_natCast, Nat.mul_one, ci]
    rw [allKey_of (fun j hj => hn j (by omega) hj)] at h
    exact h
theorem odd_c {v : Value} {xs : List UInt8} (hv : Rd (.slice .byte) D w [v] xs) (h : K (.bool (!(xs.length == 32))) w) : GCalls Tryz.prog 51 [v] K X w := by
  obtain ⟨a1, c1, rfl, hc1, hl1⟩ := hv.form
  apply epoch_why_c1.calls; unfold epoch_why_c1.b
  have e : (((xs.length : Nat) : Int) != 32) = !(xs.length == 32) := by
    by_cases c : xs.length = 32
    · rw [c]; rfl
    · have h1 : (xs.length == 32) = false := by simpa using c
      have h2 : (((xs.length : Nat) : Int) != 32) = true := by simp; omega
      rw [h1, h2]; rfl
  simp only [↓eBinI, ↓eDiv, ↓eShift, ↓eBinS, ↓ePick, ↓eNot, ↓eNeg, ↓eConv, ↓eConvS, ↓eExt0, ↓eExt1, ↓eExt2, ↓eFA, ↓eIA, ↓eLenSl, ↓eCapSl, ↓eLenS, ↓eMin, ↓eMax, ↓eCondT, ↓eCondF, ↓gIf_tt, ↓gIf_ff, ↓gIf_tf, ↓gIf_ft, ↓gIf_u, ↓gIfW_u, ↓gIfW_tt, ↓gIfW_ff, ↓gIfW_tf, ↓gIfW_ft, binI, divI, shiftI, add_mk, Nat.zero_add, cond_true, cond_false, decide_true, decide_false, Bool.not_true, Bool.not_false, Bool.and_true, Bool.true_and, Bool.and_false, Bool.false_and, Int.toNat_natCast, Nat.mul_one]
  rw [e]; exact h
theorem IndexOdd_c {x : Value} {keys : List (List UInt8)} (hx : Rd (.slice (.slice .byte)) D w [x] keys) (h : ∀ r : Int, (if allKey keys then r = -1 else 0 ≤ r) → K (.int .i64 r) w) : GCalls Tryz.prog 69 [x, .func (.func 51) #[] #[]] K X w := by
  obtain ⟨a1, c1, rfl, hc1, hl1⟩ := hx.form
  apply slices_IndexFunc_byte_byte.calls; unfold slices_IndexFunc_byte_byte.b
  simp only [↓eBinI, ↓eDiv, ↓eShift, ↓eBinS, ↓ePick, ↓eNot, ↓eNeg, ↓eConv, ↓eConvS, ↓eExt0, ↓eExt1, ↓eExt2, ↓eFA, ↓eIA, ↓eLenSl, ↓eCapSl, ↓eLenS, ↓eMin, ↓eMax, ↓eCondT, ↓eCondF, ↓gIf_tt, ↓gIf_ff, ↓gIf_tf, ↓gIf_ft, ↓gIf_u, ↓gIfW_u, ↓gIfW_tt, ↓gIfW_ff, ↓gIfW_tf, ↓gIfW_ft, binI, divI, shiftI, add_mk, Nat.zero_add, cond_true, cond_false, decide_true, decide_false, Bool.not_true, Bool.not_false, Bool.and_true, Bool.true_and, Bool.and_false, Bool.false_and, Int.toNat_natCast, Nat.mul_one]
  refine slices_IndexFunc_byte_byte.loop1 (fun x8 w' => ∃ i : Nat, i ≤ keys.length ∧ x8 = .int .i64 (i : Int) ∧ w' = w ∧ ∀ j (hj : j < i) (hl : j < keys.length), keys[j].length = 32) (fun x8 _ => keys.length - (iv x8).toNat) ⟨0, by omega, rfl, rfl, fun j hj => by omega⟩ ?_
  rintro x8 gg w1 ⟨i, hi, rfl, rfl, hn⟩
  unfold slices_IndexFunc_byte_byte.b1
  by_cases ci : (i : Int) < (keys.length : Int)
  · obtain ⟨b1, k1, u1, e1, s1, hd, q1, r1⟩ := hx.idx rfl (i := i) (by omega)
    simp only [Value.slice.injEq] at e1
    obtain ⟨rfl, -, rfl⟩ := e1
    simp only [↓eBinI, ↓eDiv, ↓eShift, ↓eBinS, ↓ePick, ↓eNot, ↓eNeg, ↓eConv, ↓eConvS, ↓eExt0, ↓eExt1, ↓eExt2, ↓eFA, ↓eIA, ↓eLenSl, ↓eCapSl, ↓eLenS, ↓eMin, ↓eMax, ↓eCondT, ↓eCondF, ↓gIf_tt, ↓gIf_ff, ↓gIf_tf, ↓gIf_ft, ↓gIf_u, ↓gIfW_u, ↓gIfW_tt, ↓gIfW_ff, ↓gIfW_tf, ↓gIfW_ft, binI, divI, shiftI, add_mk, Nat.zero_add, cond_true, cond_false, decide_true, decide_false, Bool.not_true, Bool.not_false, Bool.and_true, Bool.true_and, Bool.and_false, Bool.false_and, Int.toNat_natCast, Nat.mul_one, ci, ↓eLdW, q1, Option.some.injEq, exists_eq_left']
    refine ⟨by omega, by first | trivial | omega, ?_⟩
    refine (?_ : GCalls Tryz.prog 51 [u1] _ X w1)
    refine odd_c r1 ?_
    by_cases ck : keys[i].length = 32
    · have e : (keys[i].length == 32) = true := by simpa using ck
      simp only [↓eBinI, ↓eDiv, ↓eShift, ↓eBinS, ↓ePick, ↓eNot, ↓eNeg, ↓eConv, ↓eConvS, ↓eExt0, ↓eExt1, ↓eExt2, ↓eFA, ↓eIA, ↓eLenSl, ↓eCapSl, ↓eLenS, ↓eMin, ↓eMax, ↓eCondT, ↓eCondF, ↓gIf_tt, ↓gIf_ff, ↓gIf_tf, ↓gIf_ft, ↓gIf_u, ↓gIfW_u, ↓gIfW_tt, ↓gIfW_ff, ↓gIfW_tf, ↓gIfW_ft, binI, divI, shiftI, add_mk, Nat.zero_add, cond_true, cond_false, decide_true, decide_false, Bool.not_true, Bool.not_false, Bool.and_true, Bool.true_and, Bool.and_false, Bool.false_and, Int.toNat_natCast, Nat.mul_one, e]
      rw [wrap64 (by omega) (by omega)]
      refine slices_IndexFunc_byte_byte.leaf1 ⟨i + 1, by omega, by simp, rfl, fun j hj hl => ?_⟩ (by simp only [iv]; omega)
      by_cases hji : j = i
      · subst hji; exact ck
      · exact hn j (by omega) hl
    · have e : (keys[i].length == 32) = false := by simpa using ck
      simp only [↓eBinI, ↓eDiv, ↓eShift, ↓eBinS, ↓ePick, ↓eNot, ↓eNeg, ↓eConv, ↓eConvS, ↓eExt0, ↓eExt1, ↓eExt2, ↓eFA, ↓eIA, ↓eLenSl, ↓eCapSl, ↓eLenS, ↓eMin, ↓eMax, ↓eCondT, ↓eCondF, ↓gIf_tt, ↓gIf_ff, ↓gIf_tf, ↓gIf_ft, ↓gIf_u, ↓gIfW_u, ↓gIfW_tt, ↓gIfW_ff, ↓gIfW_tf, ↓gIfW_ft, binI, divI, shiftI, add_mk, Nat.zero_add, cond_true, cond_false, decide_true, decide_false, Bool.not_true, Bool.not_false, Bool.and_true, Bool.true_and, Bool.and_false, Bool.false_and, Int.toNat_natCast, Nat.mul_one, e]
      exact h _ (by rw [allKey_not (by omega) ck]; simp)
  · simp only [↓eBinI, ↓eDiv, ↓eShift, ↓eBinS, ↓ePick, ↓eNot, ↓eNeg, ↓eConv, ↓eConvS, ↓eExt0, ↓eExt1, ↓eExt2, ↓eFA, ↓eIA, ↓eLenSl, ↓eCapSl, ↓eLenS, ↓eMin, ↓eMax, ↓eCondT, ↓eCondF, ↓gIf_tt, ↓gIf_ff, ↓gIf_tf, ↓gIf_ft, ↓gIf_u, ↓gIfW_u, ↓gIfW_tt, ↓gIfW_ff, ↓gIfW_tf, ↓gIfW_ft, binI, divI, shiftI, add_mk, Nat.zero_add, cond_true, cond_false, decide_true, decide_false, Bool.not_true, Bool.not_false, Bool.and_true, Bool.true_and, Bool.and_false, Bool.false_and, Int.toNat_natCast, Nat.mul_one, ci]
    exact h _ (by rw [allKey_of (fun j hj => hn j (by omega) hj)]; rfl)
theorem Why_c {gs : Nat} {x : Value} {keys : List (List UInt8)} {n : Int} (hx : Rd (.slice (.slice .byte)) D w [x] keys) (h : K (.int .i64 (whyF n keys)) w) : GCalls Tryz.prog 25 [.pointer (some ⟨gs, 0, none⟩), .int .i64 n, x] K X w := by
  apply epoch_why.calls; unfold epoch_why.b
  by_cases d1 : n < 1
  · simp only [↓eBinI, ↓eDiv, ↓eShift, ↓eBinS, ↓ePick, ↓eNot, ↓eNeg, ↓eConv, ↓eConvS, ↓eExt0, ↓eExt1, ↓eExt2, ↓eFA, ↓eIA, ↓eLenSl, ↓eCapSl, ↓eLenS, ↓eMin, ↓eMax, ↓eCondT, ↓eCondF, ↓gIf_tt, ↓gIf_ff, ↓gIf_tf, ↓gIf_ft, ↓gIf_u, ↓gIfW_u, ↓gIfW_tt, ↓gIfW_ff, ↓gIfW_tf, ↓gIfW_ft, binI, divI, shiftI, add_mk, Nat.zero_add, cond_true, cond_false, decide_true, decide_false, Bool.not_true, Bool.not_false, Bool.and_true, Bool.true_and, Bool.and_false, Bool.false_and, Int.toNat_natCast, Nat.mul_one, ↓ePEqS, d1]
    rw [whyF_out (.inl d1)] at h; exact h
  by_cases d2 : n > 4
  · simp only [↓eBinI, ↓eDiv, ↓eShift, ↓eBinS, ↓ePick, ↓eNot, ↓eNeg, ↓eConv, ↓eConvS, ↓eExt0, ↓eExt1, ↓eExt2, ↓eFA, ↓eIA, ↓eLenSl, ↓eCapSl, ↓eLenS, ↓eMin, ↓eMax, ↓eCondT, ↓eCondF, ↓gIf_tt, ↓gIf_ff, ↓gIf_tf, ↓gIf_ft, ↓gIf_u, ↓gIfW_u, ↓gIfW_tt, ↓gIfW_ff, ↓gIfW_tf, ↓gIfW_ft, binI, divI, shiftI, add_mk, Nat.zero_add, cond_true, cond_false, decide_true, decide_false, Bool.not_true, Bool.not_false, Bool.and_true, Bool.true_and, Bool.and_false, Bool.false_and, Int.toNat_natCast, Nat.mul_one, ↓ePEqS, d1, d2]
    rw [whyF_out (.inr d2)] at h; exact h
  simp only [↓eBinI, ↓eDiv, ↓eShift, ↓eBinS, ↓ePick, ↓eNot, ↓eNeg, ↓eConv, ↓eConvS, ↓eExt0, ↓eExt1, ↓eExt2, ↓eFA, ↓eIA, ↓eLenSl, ↓eCapSl, ↓eLenS, ↓eMin, ↓eMax, ↓eCondT, ↓eCondF, ↓gIf_tt, ↓gIf_ff, ↓gIf_tf, ↓gIf_ft, ↓gIf_u, ↓gIfW_u, ↓gIfW_tt, ↓gIfW_ff, ↓gIfW_tf, ↓gIfW_ft, binI, divI, shiftI, add_mk, Nat.zero_add, cond_true, cond_false, decide_true, decide_false, Bool.not_true, Bool.not_false, Bool.and_true, Bool.true_and, Bool.and_false, Bool.false_and, Int.toNat_natCast, Nat.mul_one, ↓ePEqS, d1, d2]
  rw [whyF_in d1 d2] at h
  refine slices_ContainsFunc_byte_byte.calls ?_
  unfold slices_ContainsFunc_byte_byte.b
  refine IndexOdd_c hx fun r hr => ?_
  cases ha : allKey keys with
  | true =>
    rw [ha] at hr h
    have e : ¬ (r ≥ 0) := by simp only [if_true] at hr; omega
    simp only [↓eBinI, ↓eDiv, ↓eShift, ↓eBinS, ↓ePick, ↓eNot, ↓eNeg, ↓eConv, ↓eConvS, ↓eExt0, ↓eExt1, ↓eExt2, ↓eFA, ↓eIA, ↓eLenSl, ↓eCapSl, ↓eLenS, ↓eMin, ↓eMax, ↓eCondT, ↓eCondF, ↓gIf_tt, ↓gIf_ff, ↓gIf_tf, ↓gIf_ft, ↓gIf_u, ↓gIfW_u, ↓gIfW_tt, ↓gIfW_ff, ↓gIfW_tf, ↓gIfW_ft, binI, divI, shiftI, add_mk, Nat.zero_add, cond_true, cond_false, decide_true, decide_false, Bool.not_true, Bool.not_false, Bool.and_true, Bool.true_and, Bool.and_false, Bool.false_and, Int.toNat_natCast, Nat.mul_one, e]
    exact h
  | false =>
    rw [ha] at hr h
    have e : r ≥ 0 := by simpa using hr
    simp only [↓eBinI, ↓eDiv, ↓eShift, ↓eBinS, ↓ePick, ↓eNot, ↓eNeg, ↓eConv, ↓eConvS, ↓eExt0, ↓eExt1, ↓eExt2, ↓eFA, ↓eIA, ↓eLenSl, ↓eCapSl, ↓eLenS, ↓eMin, ↓eMax, ↓eCondT, ↓eCondF, ↓gIf_tt, ↓gIf_ff, ↓gIf_tf, ↓gIf_ft, ↓gIf_u, ↓gIfW_u, ↓gIfW_tt, ↓gIfW_ff, ↓gIfW_tf, ↓gIfW_ft, binI, divI, shiftI, add_mk, Nat.zero_add, cond_true, cond_false, decide_true, decide_false, Bool.not_true, Bool.not_false, Bool.and_true, Bool.true_and, Bool.and_false, Bool.false_and, Int.toNat_natCast, Nat.mul_one, e]
    exact h
theorem WhyNil_c {x n : Value} (h : K (.int .i64 1) w) : GCalls Tryz.prog 25 [.pointer none, n, x] K X w := by
  apply epoch_why.calls; unfold epoch_why.b
  simp only [↓eBinI, ↓eDiv, ↓eShift, ↓eBinS, ↓ePick, ↓eNot, ↓eNeg, ↓eConv, ↓eConvS, ↓eExt0, ↓eExt1, ↓eExt2, ↓eFA, ↓eIA, ↓eLenSl, ↓eCapSl, ↓eLenS, ↓eMin, ↓eMax, ↓eCondT, ↓eCondF, ↓gIf_tt, ↓gIf_ff, ↓gIf_tf, ↓gIf_ft, ↓gIf_u, ↓gIfW_u, ↓gIfW_tt, ↓gIfW_ff, ↓gIfW_tf, ↓gIfW_ft, binI, divI, shiftI, add_mk, Nat.zero_add, cond_true, cond_false, decide_true, decide_false, Bool.not_true, Bool.not_false, Bool.and_true, Bool.true_and, Bool.and_false, Bool.false_and, Int.toNat_natCast, Nat.mul_one, ↓ePEqN]
  exact h
def sendL (n : Nat) : List UInt8 := [115, 101, 110, 100, 101, 114, 32] ++ Lib.decDigits n
theorem send_str (n : Nat) : ((⟨#[115, 101, 110, 100, 101, 114, 32]⟩ : ByteArray) ++ ⟨(Lib.decDigits n).toArray⟩).data.toList = sendL n := by rw [ba_list]; rfl
theorem sendL_len (n : Nat) (hn : n < 1000000) : (sendL n).length ≤ 14 := by
  have := dec_len 6 n (by omega)
  simp [sendL]; omega
theorem Label_c {n : Nat} (hn : n < 1000000) (pt : PT w) (h : ∀ w' l, l.data.toList = sendL n → Ext w w' → K (.string l) w') : GCalls Tryz.prog 23 [.int .i64 n] K X w := by
  apply epoch_Label.calls; unfold epoch_Label.b
  refine num_Print_c hn pt fun w1 h1 => ?_
  have l1 := dec_len 6 n (by omega)
  have hm : IntKind.i64.max = 9223372036854775807 := by decide
  have s1 : (⟨(Lib.decDigits n).toArray⟩ : ByteArray).size = (Lib.decDigits n).length := rfl
  have s2 : (⟨#[115, 101, 110, 100, 101, 114, 32]⟩ : ByteArray).size = 7 := rfl
  simp only [↓eBinS, binS]
  refine ⟨by rw [hm, s1, s2]; omega, ?_⟩
  exact h _ _ (send_str n) h1
theorem SMix_c {g : Nat} {xa xb : Value} {a b : List UInt8} (hs : SReal w g) (hk : KT w) (ha : Rd (.slice .byte) D w [xa] a) (hb : Rd (.slice .byte) D' w [xb] b) (hal : a.length ≤ 1000) (hbl : b.length ≤ 900)
    (h : ∀ v w', Ext w w' → Rd (.slice .byte) (w.heap.size ≤ ·) w' [v] (ofF a b) → K v w') : GCalls Tryz.prog 27 [.pointer (some ⟨g, 0, none⟩), xa, xb] K X w := by
  apply suite_Suite_Mix.calls; unfold suite_Suite_Mix.b
  refine none_c hs ?_
  simp only [↓eBinI, ↓eDiv, ↓eShift, ↓eBinS, ↓ePick, ↓eNot, ↓eNeg, ↓eConv, ↓eConvS, ↓eExt0, ↓eExt1, ↓eExt2, ↓eFA, ↓eIA, ↓eLenSl, ↓eCapSl, ↓eLenS, ↓eMin, ↓eMax, ↓eCondT, ↓eCondF, ↓gIf_tt, ↓gIf_ff, ↓gIf_tf, ↓gIf_ft, ↓gIf_u, ↓gIfW_u, ↓gIfW_tt, ↓gIfW_ff, ↓gIfW_tf, ↓gIfW_ft, binI, divI, shiftI, add_mk, Nat.zero_add, cond_true, cond_false, decide_true, decide_false, Bool.not_true, Bool.not_false, Bool.and_true, Bool.true_and, Bool.and_false, Bool.false_and, Int.toNat_natCast, Nat.mul_one]
  refine real_c hs ?_
  simp only [↓eBinI, ↓eDiv, ↓eShift, ↓eBinS, ↓ePick, ↓eNot, ↓eNeg, ↓eConv, ↓eConvS, ↓eExt0, ↓eExt1, ↓eExt2, ↓eFA, ↓eIA, ↓eLenSl, ↓eCapSl, ↓eLenS, ↓eMin, ↓eMax, ↓eCondT, ↓eCondF, ↓gIf_tt, ↓gIf_ff, ↓gIf_tf, ↓gIf_ft, ↓gIf_u, ↓gIfW_u, ↓gIfW_tt, ↓gIfW_ff, ↓gIfW_tf, ↓gIfW_ft, binI, divI, shiftI, add_mk, Nat.zero_add, cond_true, cond_false, decide_true, decide_false, Bool.not_true, Bool.not_false, Bool.and_true, Bool.true_and, Bool.and_false, Bool.false_and, Int.toNat_natCast, Nat.mul_one]
  refine kdf_Mix.calls ?_
  unfold kdf_Mix.b
  refine kdf_Extract.calls ?_
  unfold kdf_Extract.b
  refine Of_c hk ha hal hb hbl fun v w1 h1 o1 => ?_
  exact h v w1 h1 (own_rd o1 (by show (ofF a b).length < _; rw [ofF_len]; omega))
theorem ref_Mix_c {xa xb : Value} {a b : List UInt8} (ha : Rd (.slice .byte) D w [xa] a) (hb : Rd (.slice .byte) D' w [xb] b) (hal : a.length ≤ 1000) (hbl : b.length ≤ 900)
    (h : ∀ v w', Ext w w' → Rd (.slice .byte) (w.heap.size ≤ ·) w' [v] (ofF a b) → K v w') : GCalls Tryz.prog 35 [xa, xb] K X w := by
  apply oublietteref09_Mix.calls; unfold oublietteref09_Mix.b
  refine ref_Of_c ha hal hb hbl fun v w1 h1 o1 => ?_
  exact h v w1 h1 (own_rd o1 (by show (ofF a b).length < _; rw [ofF_len]; omega))
end Go.Proofs.YtkpgmaiklfjjgaaGreatDoor
end
section
set_option linter.unusedSimpArgs false
set_option linter.unusedVariables false
namespace Go.Proofs.YtkpgmaiklfjjgaaGreatDoor
open Go Go.G Go.RowKit
variable {X : KX} {w : World} {K : KV} {D D' D1 D2 D3 D4 D5 : Nat → Prop}
abbrev tCh : Ty := .pair (.int .i64) (.pair (.slice .byte) (.slice tSkip))
abbrev Ch := Int × List UInt8 × List (Int × List UInt8)
abbrev nilV : Value := .slice none 0 0
def exportL : List UInt8 := [101, 120, 112, 111, 114, 116]
def initL : List UInt8 := [105, 110, 105, 116]
def joinL : List UInt8 := [106, 111, 105, 110]
def bornL (j : List UInt8) (n : Nat) : List Ch := (List.range n).map fun k => (0, deriveF j (sendL k), [])
theorem bornL_succ (j : List UInt8) (n : Nat) : bornL j (n + 1) = bornL j n ++ [(0, deriveF j (sendL n), [])] := by simp [bornL, List.range_succ]
theorem bornL_len (j : List UInt8) (n : Nat) : (bornL j n).length = n := by simp [bornL]
def birthV (e i c : Value) : Value := .agg ⟨[e, i, c]⟩
/-- A value that reads as what an epoch is born with. -/
def IsBirth (D : Nat → Prop) (w : World) (v : Value) (e i : List UInt8) (l : List Ch) : Prop :=
  ∃ ve vi vc, v = birthV ve vi vc ∧ Rd (.slice .byte) D w [ve] e ∧ Rd (.slice .byte) D w [vi] i ∧ Rd (.slice tCh) D w [vc] l
theorem IsBirth.fr {T : Nat → Prop} {w w' : World} {v : Value} {e i : List UInt8} {l : List Ch} (h : IsBirth D w v e i l) (f : Fr T w w') (hT : ∀ b, D b → ¬ T b) : IsBirth D w' v e i l := by
  obtain ⟨ve, vi, vc, h0, h1, h2, h3⟩ := h
  exact ⟨ve, vi, vc, h0, h1.fr f hT, h2.fr f hT, h3.fr f hT⟩
theorem IsBirth.ext {w w' : World} {v : Value} {e i : List UInt8} {l : List Ch} (h : IsBirth D w v e i l) (f : Ext w w') : IsBirth D w' v e i l := h.fr f (fun _ _ h => h)
theorem IsBirth.wide {w : World} {v : Value} {e i : List UInt8} {l : List Ch} (h : IsBirth D w v e i l) (f : ∀ b, D b → D' b) : IsBirth D' w v e i l := by
  obtain ⟨ve, vi, vc, h0, h1, h2, h3⟩ := h
  exact ⟨ve, vi, vc, h0, h1.wide f, h2.wide f, h3.wide f⟩
theorem IsBirth.bd {w : World} {v : Value} {e i : List UInt8} {l : List Ch} (h : IsBirth D w v e i l) : IsBirth (fun b => D b ∧ b < w.heap.size) w v e i l := by
  obtain ⟨ve, vi, vc, h0, h1, h2, h3⟩ := h
  exact ⟨ve, vi, vc, h0, rd_bd h1, rd_bd h2, rd_bd h3⟩
theorem nil_any (t : Ty) (D : Nat → Prop) (w : World) : Rd (.slice t) D w [nilV] ([] : List t.D) := ⟨none, 0, rfl, Nat.le_refl _, by show 0 < _; omega, fun h => absurd rfl h⟩
theorem IsBirth.nil (D : Nat → Prop) (w : World) : IsBirth D w (birthV nilV nilV nilV) [] [] [] := ⟨_, _, _, rfl, nil_any _ D w, nil_any _ D w, nil_any _ D w⟩
/-- Two of three cells are written. -/
theorem Cs.set23 {g : Nat} {a b c a' b' : Value} (h : Cs w g [a, b, c]) (ha : one a' = true) (hb : one b' = true) (k : ∀ w', Cs w' g [a', b', c] → Fr (· = g) w w' → K undef w') : pStN 2 (.pointer (some ⟨g, 0, none⟩)) (.agg ⟨[a', b']⟩) w K := by
  have hc := h.c
  obtain ⟨T, h⟩ := h
  refine ⟨_, [a', b'], rfl, rfl, rfl, fun j v hj => ?_, k _ ?_ (Fr.setCells ⟨g, 0, none⟩ [a', b'] 0 w)⟩
  · have hjl := (List.getElem?_eq_some_iff.1 hj).1
    rw [add_mk, Nat.zero_add]
    have hv : one v = true := by
      rcases List.mem_of_getElem? hj with _ | ⟨_, h | h⟩
      · exact ha
      · exact hb
      · contradiction
    exact ⟨⟨_, by rw [hc]; exact List.getElem?_eq_getElem (by simp at hjl ⊢; omega)⟩, by simp [World.frozen?, h], hv⟩
  · obtain ⟨cs', g1, g2⟩ := setCells_heap (g := g) (o := 0) [a', b'] 0 w ⟨[a, b, c]⟩ [] [a, b, c] h rfl rfl (by simp)
    refine ⟨T, ?_⟩
    rw [g1]
    have : cs' = ⟨[a', b', c]⟩ := by
      apply Array.ext'
      rw [g2]; rfl
    rw [this]
/-- A fresh row of values of one cell each, read. -/
theorem rows_rd {t : Ty} {g : Nat} {vs : List Value} {xs : List t.D} (c : Cs w g vs) (ht : t.n = 1) (hl : vs.length = xs.length) (hlt : xs.length < 9223372036854775808) (h : ∀ i (hv : i < vs.length) (hx : i < xs.length), Rd t D w [vs[i]] xs[i]) :
    Rd (.slice t) (fun b => D b ∨ b = g) w [.slice (some ⟨g, 0, none⟩) xs.length xs.length] xs := by
  refine ⟨_, _, rfl, Nat.le_refl _, hlt, fun hne => ⟨_, rfl, rfl, .inr rfl, fun i hi => ⟨[vs[i]'(by omega)], by rw [ht]; rfl, fun j v hj => ?_, (h i (by omega) hi).wide fun b hb => .inl hb⟩⟩⟩
  rw [ht, Nat.mul_one, add_mk, Nat.zero_add, c.c]
  match j, hj with
  | 0, hj =>
    simp only [List.getElem?_cons_zero, Option.some.injEq] at hj
    rw [← hj]; exact List.getElem?_eq_getElem _
theorem row1 {g : Nat} {x : Value} {a : List UInt8} (c : Cs w g [x]) (h : Rd (.slice .byte) D w [x] a) : Rd (.slice (.slice .byte)) (fun b => D b ∨ b = g) w [.slice (some ⟨g, 0, none⟩) 1 1] [a] :=
  rows_rd (t := .slice .byte) (xs := [a]) c rfl rfl (by show 1 < _; omega) fun i hv hx => by
    match i, hv with
    | 0, _ => exact h
theorem row2 {g : Nat} {x y : Value} {a b : List UInt8} (c : Cs w g [x, y]) (h : Rd (.slice .byte) D w [x] a) (h' : Rd (.slice .byte) D' w [y] b) : Rd (.slice (.slice .byte)) (fun z => (D z ∨ D' z) ∨ z = g) w [.slice (some ⟨g, 0, none⟩) 2 2] [a, b] :=
  rows_rd (t := .slice .byte) (xs := [a, b]) c rfl rfl (by show 2 < _; omega) fun i hv hx => by
    match i, hv with
    | 0, _ => exact h.wide fun b hb => .inl hb
    | 1, _ => exact h'.wide fun b hb => .inr hb
theorem whyF_keys {n : Int} {keys : List (List UInt8)} (h : whyF n keys = 0) : 1 ≤ n ∧ n ≤ 4 ∧ ∀ k ∈ keys, k.length = 32 := by
  unfold whyF at h
  split at h
  · omega
  · rename_i h1
    refine ⟨by omega, by omega, ?_⟩
    split at h
    · rename_i h2
      intro k hk
      unfold allKey at h2
      simpa using List.all_eq_true.1 h2 k hk
    · omega
theorem dclos_c {gs g3 g4 : Nat} {x1 : Value} {j : List UInt8} {l : ByteArray} (hs : SReal w gs) (hk : KT w) (c3 : Cs w g3 [.pointer (some ⟨gs, 0, none⟩)]) (c4 : Cs w g4 [x1]) (hj : Rd (.slice .byte) D w [x1] j) (hjl : j.length ≤ 1000) (hll : l.data.toList.length ≤ 200)
    (h : ∀ v w', Ext w w' → Rd (.slice .byte) (w.heap.size ≤ ·) w' [v] (deriveF j l.data.toList) → K v w') : GCalls Tryz.prog 28 [.string l, .pointer (some ⟨g3, 0, none⟩), .pointer (some ⟨g4, 0, none⟩)] K X w := by
  apply epoch_Born_c1.calls; unfold epoch_Born_c1.b
  simp only [↓eBinI, ↓eDiv, ↓eShift, ↓eBinS, ↓ePick, ↓eNot, ↓eNeg, ↓eConv, ↓eConvS, ↓eExt0, ↓eExt1, ↓eExt2, ↓eFA, ↓eIA, ↓eLenSl, ↓eCapSl, ↓eLenS, ↓eMin, ↓eMax, ↓eCondT, ↓eCondF, ↓gIf_tt, ↓gIf_ff, ↓gIf_tf, ↓gIf_ft, ↓gIf_u, ↓gIfW_u, ↓gIfW_tt, ↓gIfW_ff, ↓gIfW_tf, ↓gIfW_ft, binI, divI, shiftI, add_mk, Nat.zero_add, cond_true, cond_false, decide_true, decide_false, Bool.not_true, Bool.not_false, Bool.and_true, Bool.true_and, Bool.and_false, Bool.false_and, Int.toNat_natCast, Nat.mul_one, ↓c3.c0, ↓c4.c0]
  exact SDerive_c hs hk hj hjl hll h
end Go.Proofs.YtkpgmaiklfjjgaaGreatDoor
end
