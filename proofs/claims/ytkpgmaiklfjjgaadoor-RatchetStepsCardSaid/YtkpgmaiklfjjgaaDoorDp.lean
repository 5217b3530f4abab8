/-
  Sources of keys.
-/
import Derived.Test.YtkpgmaiklfjjgaaDoorDo
set_option linter.unusedSimpArgs false
set_option linter.unusedVariables false
namespace Go.Proofs.YtkpgmaiklfjjgaaDoor
open Go Go.G Go.RowKit
variable {X : KX} {w : World} {K : KV} {D D' : Nat → Prop}
theorem ePNil {a : Addr} {K : KP} : pNil (.pointer (some a)) K = K (.pointer (some a)) := rfl
theorem ePEqS {a : Addr} {K : KP} : pEq .ptr false (.pointer (some a)) (.pointer none) K = K (.bool false) := by
  apply propext; exact ⟨fun ⟨b, h, k⟩ => by cases h; exact k, fun h => ⟨false, rfl, h⟩⟩
theorem ePEqN {K : KP} : pEq .ptr false (.pointer none) (.pointer none) K = K (.bool true) := by
  apply propext; exact ⟨fun ⟨b, h, k⟩ => by cases h; exact k, fun h => ⟨true, rfl, h⟩⟩
theorem fillFst {z0 z1 a : Value} (ha : one a = true) : fillL [z0, z1] [(0, 1, a)] = some [a, z1] := by simp [fillL, one_cells ha, cutIn]
/-- A source: its seed, and how many were drawn. -/
def Src (w : World) (g sb : Nat) (seed : List UInt8) (n : Nat) : Prop := ∃ v, Cs w g [v, .int .i64 (n : Int)] ∧ Rd (.slice .byte) (· = sb) w [v] seed ∧ sb < g
theorem Src.fr {T : Nat → Prop} {w w' : World} {g sb : Nat} {seed : List UInt8} {n : Nat} (h : Src w g sb seed n) (e : Fr T w w') (h1 : ¬ T g) (h2 : ¬ T sb) : Src w' g sb seed n := by
  obtain ⟨v, hc, hr, hn⟩ := h
  exact ⟨v, hc.fr e h1, hr.fr e (fun b hb => by subst hb; exact h2), hn⟩
theorem Src.ext {w w' : World} {g sb : Nat} {seed : List UInt8} {n : Nat} (h : Src w g sb seed n) (e : Ext w w') : Src w' g sb seed n := h.fr e (fun h => h) (fun h => h)
theorem Src.lt {w : World} {g sb : Nat} {seed : List UInt8} {n : Nat} (h : Src w g sb seed n) : g < w.heap.size := by obtain ⟨v, hc, _⟩ := h; exact hc.lt
theorem own_blk {B : Nat} {v : Value} {xs : List UInt8} (h : G.Own .byte NoB B w v xs) (hl : xs.length < 9223372036854775808) : ∃ sb, (B ≤ sb ∧ sb < w.heap.size ∨ sb = 0) ∧ Rd (.slice .byte) (· = sb) w [v] xs := by
  by_cases hx : xs = []
  · subst hx
    obtain ⟨a, c, e, hc⟩ := h.form
    exact ⟨0, .inr rfl, a, c, by rw [e], hc, hl, fun h => absurd rfl h⟩
  · obtain ⟨g, c, e, hB, hlt⟩ := h.some_of (List.length_pos_iff.2 hx)
    refine ⟨g, .inl ⟨hB, hlt⟩, h.rd2 (fun _ h => h.elim) (fun b hb _ _ => ?_) hl⟩
    obtain ⟨a, n, c', e', rfl⟩ := hb
    rw [e] at e'; cases e'; rfl
theorem New_c {x : Value} {seed : List UInt8} (h0 : 0 < w.heap.size) (hx : Rd (.slice .byte) D w [x] seed) (hl : seed.length ≤ 1000)
    (h : ∀ g sb w', Ext w w' → w.heap.size ≤ g → (w.heap.size ≤ sb ∨ sb = 0) → sb < g → Src w' g sb seed 0 → K (.pointer (some ⟨g, 0, none⟩)) w') : GCalls Tryd.prog 25 [x] K X w := by
  apply draw_New.calls; unfold draw_New.b
  refine Clone_c hx (by omega) fun v w1 h1 o1 hv => ?_
  refine ⟨[v, .int .i64 0], fillFst hv, ?_⟩
  refine boxC (cs := [v, .int .i64 0]) fun g w2 hg h2 c2 => ?_
  obtain ⟨sb, hsb, hr⟩ := own_blk o1 (by show seed.length < _; omega)
  have z1 := h1.size
  have hlt : sb < g := by rcases hsb with h | h <;> omega
  exact h g sb w2 (h1.tr h2) (by omega) (hsb.imp (fun h => h.1) id) hlt ⟨v, c2, hr.ext h2, by omega⟩
theorem SClone_c {g sb n : Nat} {seed : List UInt8} (hs : Src w g sb seed n) (hl : seed.length ≤ 1000)
    (h : ∀ g' sb' w', Ext w w' → w.heap.size ≤ g' → (w.heap.size ≤ sb' ∨ sb' = 0) → sb' < g' → Src w' g' sb' seed n → K (.pointer (some ⟨g', 0, none⟩)) w') : GCalls Tryd.prog 28 [.pointer (some ⟨g, 0, none⟩)] K X w := by
  obtain ⟨vs, hc, hr, hne⟩ := hs
  have l0 := hc.lt
  apply draw_Source_Clone.calls; unfold draw_Source_Clone.b
  simp only [↓eBinI, ↓eDiv, ↓eShift, ↓eBinS, ↓ePick, ↓eNot, ↓eNeg, ↓eConv, ↓eConvS, ↓eExt0, ↓eExt1, ↓eExt2, ↓eFA, ↓eIA, ↓eLenSl, ↓eCapSl, ↓eLenS, ↓eMin, ↓eMax, ↓eCondT, ↓eCondF, ↓gIf_tt, ↓gIf_ff, ↓gIf_tf, ↓gIf_ft, ↓gIf_u, ↓gIfW_u, ↓gIfW_tt, ↓gIfW_ff, ↓gIfW_tf, ↓gIfW_ft, binI, divI, shiftI, add_mk, Nat.zero_add, cond_true, cond_false, decide_true, decide_false, Bool.not_true, Bool.not_false, Bool.and_true, Bool.true_and, Bool.and_false, Bool.false_and, Int.toNat_natCast, Nat.mul_one, ↓ePEqS]
  refine draw_ fun w1 h1 => ?_
  simp only [↓eBinI, ↓eDiv, ↓eShift, ↓eBinS, ↓ePick, ↓eNot, ↓eNeg, ↓eConv, ↓eConvS, ↓eExt0, ↓eExt1, ↓eExt2, ↓eFA, ↓eIA, ↓eLenSl, ↓eCapSl, ↓eLenS, ↓eMin, ↓eMax, ↓eCondT, ↓eCondF, ↓gIf_tt, ↓gIf_ff, ↓gIf_tf, ↓gIf_ft, ↓gIf_u, ↓gIfW_u, ↓gIfW_tt, ↓gIfW_ff, ↓gIfW_tf, ↓gIfW_ft, binI, divI, shiftI, add_mk, Nat.zero_add, cond_true, cond_false, decide_true, decide_false, Bool.not_true, Bool.not_false, Bool.and_true, Bool.true_and, Bool.and_false, Bool.false_and, Int.toNat_natCast, Nat.mul_one, ↓ePNil, ↓(hc.ext h1).e0, ↓(hc.ext h1).e1]
  refine Clone_c (hr.ext h1) (by omega) fun v w2 h2 o2 hv => ?_
  refine ⟨h2, ?_⟩
  refine ⟨[v, .int .i64 (n : Int)], fill2 hv rfl, ?_⟩
  refine boxC (cs := [v, .int .i64 (n : Int)]) fun g' w3 hg h3 c3 => ?_
  refine ⟨h2.tr h3, ?_⟩
  obtain ⟨sb', hsb, hr'⟩ := own_blk o2 (by show seed.length < _; omega)
  have z1 := h1.size; have z2 := h2.size
  have hlt : sb' < g' := by rcases hsb with h | h <;> omega
  exact h g' sb' w3 ((h1.tr h2).tr h3) (by omega) (hsb.imp (fun h => by omega) id) hlt ⟨v, c3, hr'.ext h3, by omega⟩
theorem Drawn_c {g sb n : Nat} {seed : List UInt8} (hs : Src w g sb seed n) (h : K (.int .i64 (n : Int)) w) : GCalls Tryd.prog 31 [.pointer (some ⟨g, 0, none⟩)] K X w := by
  obtain ⟨vs, hc, hr, hne⟩ := hs
  apply draw_Source_Drawn.calls; unfold draw_Source_Drawn.b
  simp only [↓eBinI, ↓eDiv, ↓eShift, ↓eBinS, ↓ePick, ↓eNot, ↓eNeg, ↓eConv, ↓eConvS, ↓eExt0, ↓eExt1, ↓eExt2, ↓eFA, ↓eIA, ↓eLenSl, ↓eCapSl, ↓eLenS, ↓eMin, ↓eMax, ↓eCondT, ↓eCondF, ↓gIf_tt, ↓gIf_ff, ↓gIf_tf, ↓gIf_ft, ↓gIf_u, ↓gIfW_u, ↓gIfW_tt, ↓gIfW_ff, ↓gIfW_tf, ↓gIfW_ft, binI, divI, shiftI, add_mk, Nat.zero_add, cond_true, cond_false, decide_true, decide_false, Bool.not_true, Bool.not_false, Bool.and_true, Bool.true_and, Bool.and_false, Bool.false_and, Int.toNat_natCast, Nat.mul_one, ↓ePEqS, ↓ePNil, ↓hc.c1]
  exact h
theorem Draw_c {g sb n : Nat} {seed : List UInt8} (hk : KT w) (pt : PT w) (hg : 2 < g) (hgt : ∀ b, Tryd.prog.globalNamed "internal/strconv.uint64pow10" = some b → b < g) (hs : Src w g sb seed n) (hl : seed.length ≤ 1000) (hn : n < 100000)
    (h : ∀ v w', Fr (· = g) w w' → Src w' g sb seed (n + 1) → Rd (.slice .byte) (w.heap.size ≤ ·) w' [v] (atF seed n) → K v w') : GCalls Tryd.prog 29 [.pointer (some ⟨g, 0, none⟩)] K X w := by
  obtain ⟨vs, hc, hr, hne⟩ := hs
  apply draw_Source_Draw.calls; unfold draw_Source_Draw.b
  have e1 : IntKind.i64.wrap ((n : Int) + 1) = ((n + 1 : Nat) : Int) := by rw [wrap64 (by omega) (by omega)]; omega
  have e2 : IntKind.i64.wrap (((n + 1 : Nat) : Int) - 1) = (n : Int) := by rw [wrap64 (by omega) (by omega)]; omega
  simp only [↓eBinI, ↓eDiv, ↓eShift, ↓eBinS, ↓ePick, ↓eNot, ↓eNeg, ↓eConv, ↓eConvS, ↓eExt0, ↓eExt1, ↓eExt2, ↓eFA, ↓eIA, ↓eLenSl, ↓eCapSl, ↓eLenS, ↓eMin, ↓eMax, ↓eCondT, ↓eCondF, ↓gIf_tt, ↓gIf_ff, ↓gIf_tf, ↓gIf_ft, ↓gIf_u, ↓gIfW_u, ↓gIfW_tt, ↓gIfW_ff, ↓gIfW_tf, ↓gIfW_ft, binI, divI, shiftI, add_mk, Nat.zero_add, cond_true, cond_false, decide_true, decide_false, Bool.not_true, Bool.not_false, Bool.and_true, Bool.true_and, Bool.and_false, Bool.false_and, Int.toNat_natCast, Nat.mul_one, ↓ePEqS, ↓ePNil, ↓hc.c1, e1]
  refine hc.set (i := 1) (by simp) rfl fun w1 c1 f1 => ?_
  have c1 : Cs w1 g [vs, .int .i64 ((n + 1 : Nat) : Int)] := c1
  refine draw_ fun w2 h2 => ?_
  simp only [↓eBinI, ↓eDiv, ↓eShift, ↓eBinS, ↓ePick, ↓eNot, ↓eNeg, ↓eConv, ↓eConvS, ↓eExt0, ↓eExt1, ↓eExt2, ↓eFA, ↓eIA, ↓eLenSl, ↓eCapSl, ↓eLenS, ↓eMin, ↓eMax, ↓eCondT, ↓eCondF, ↓gIf_tt, ↓gIf_ff, ↓gIf_tf, ↓gIf_ft, ↓gIf_u, ↓gIfW_u, ↓gIfW_tt, ↓gIfW_ff, ↓gIfW_tf, ↓gIfW_ft, binI, divI, shiftI, add_mk, Nat.zero_add, cond_true, cond_false, decide_true, decide_false, Bool.not_true, Bool.not_false, Bool.and_true, Bool.true_and, Bool.and_false, Bool.false_and, Int.toNat_natCast, Nat.mul_one, ↓ePNil, ↓(c1.ext h2).e0, ↓(c1.ext h2).e1, e2]
  have f2 : Fr (· = g) w w2 := f1.trans (Fr.mono h2 (fun _ _ h => h.elim)) (fun _ _ h => h)
  have hr2 : Rd (.slice .byte) (· = sb) w2 [vs] seed := hr.fr f2 (fun b hb => by subst hb; show ¬ b = g; omega)
  refine At_c (hk.fr f2 (by show ¬ 2 = g; omega)) (tab_fr pt f2 (fun b hb => by have := hgt b hb; show ¬ b = g; omega)) hr2 hl (by omega) fun v w3 h3 r3 => ?_
  refine ⟨h3, ?_⟩
  have f3 : Fr (· = g) w w3 := f2.trans (Fr.mono h3 (fun _ _ h => h.elim)) (fun _ _ h => h)
  exact h v w3 f3 ⟨vs, (c1.ext h2).ext h3, hr2.ext h3, hne⟩ (r3.wide (fun b hb => Nat.le_trans f2.size hb))
def bytesF (seed : List UInt8) (n j : Nat) : List UInt8 := ((List.range j).map fun i => atF seed (n + i)).flatten
theorem bytesF_succ (seed : List UInt8) (n j : Nat) : bytesF seed n (j + 1) = bytesF seed n j ++ atF seed (n + j) := by simp [bytesF, List.range_succ]
theorem bytesF_len (seed : List UInt8) (n : Nat) : ∀ j, (bytesF seed n j).length = 32 * j
  | 0 => rfl
  | j + 1 => by rw [bytesF_succ, List.length_append, atF_len, bytesF_len seed n j]; omega
def cnt (l : Nat) : Nat := (l + 31) / 32
theorem Bytes_c {g sb n l : Nat} {seed : List UInt8} (hk : KT w) (pt : PT w) (hg : 2 < g) (hgt : ∀ b, Tryd.prog.globalNamed "internal/strconv.uint64pow10" = some b → b < g) (hs : Src w g sb seed n) (hl : seed.length ≤ 1000) (hn : n < 50000) (h1 : 1 ≤ l) (h2 : l ≤ 4096)
    (h : ∀ v w', Fr (· = g) w w' → Src w' g sb seed (n + cnt l) → Rd (.slice .byte) (w.heap.size ≤ ·) w' [v] ((bytesF seed n (cnt l)).take l) → K v w') : GCalls Tryd.prog 27 [.pointer (some ⟨g, 0, none⟩), .int .i64 (l : Int)] K X w := by
  have hgl := hs.lt
  apply draw_Source_Bytes.calls; unfold draw_Source_Bytes.b
  have d1 : ¬ ((l : Int) < 1) := by omega
  have d2 : ¬ ((l : Int) > 4096) := by omega
  simp only [↓eBinI, ↓eDiv, ↓eShift, ↓eBinS, ↓ePick, ↓eNot, ↓eNeg, ↓eConv, ↓eConvS, ↓eExt0, ↓eExt1, ↓eExt2, ↓eFA, ↓eIA, ↓eLenSl, ↓eCapSl, ↓eLenS, ↓eMin, ↓eMax, ↓eCondT, ↓eCondF, ↓gIf_tt, ↓gIf_ff, ↓gIf_tf, ↓gIf_ft, ↓gIf_u, ↓gIfW_u, ↓gIfW_tt, ↓gIfW_ff, ↓gIfW_tf, ↓gIfW_ft, binI, divI, shiftI, add_mk, Nat.zero_add, cond_true, cond_false, decide_true, decide_false, Bool.not_true, Bool.not_false, Bool.and_true, Bool.true_and, Bool.and_false, Bool.false_and, Int.toNat_natCast, Nat.mul_one, ↓ePEqS, d1, d2, show (false != false) = false from rfl]
  refine draw_Source_Bytes.loop1 (fun x4 w' => ∃ j, 32 * j < l ∧ Fr (· = g) w w' ∧ Src w' g sb seed (n + j) ∧ G.Own .byte NoB w.heap.size w' x4 (bytesF seed n j)) (fun x4 _ => l - lenV x4) ⟨0, by omega, Fr.refl _ _, hs, G.Own.nil⟩ ?_
  rintro x4 gg w1 ⟨j, hj, f1, s1, o1⟩
  unfold draw_Source_Bytes.b1
  refine (?_ : GCalls Tryd.prog 29 [.pointer (some ⟨g, 0, none⟩)] _ X w1)
  refine Draw_c (hk.fr f1 (by show ¬ 2 = g; omega)) (tab_fr pt f1 (fun b hb => by have := hgt b hb; show ¬ b = g; omega)) hg hgt s1 hl (by omega) fun v w2 f2 s2 r2 => ?_
  have f12 : Fr (· = g) w w2 := f1.trans f2 (fun _ _ h => h)
  have hlen := bytesF_len seed n j
  have hal := atF_len seed (n + j)
  have o2 : G.Own .byte NoB w.heap.size w2 x4 (bytesF seed n j) := o1.fr f2 (fun _ h => h.elim) (fun b hb hB => by show ¬ b = g; omega)
  refine o2.cat f12.size (fun h => h) rfl rfl r2 (fun cs h => h.flat rfl) (by show (2 * ((bytesF seed n j).length + (atF seed (n + j)).length) + 192) * 1 ≤ _; omega) fun v3 w3 o3 f3 _ => ?_
  have f13 : Fr (· = g) w w3 := f12.trans f3 (fun x hx h => by have := h.2; omega)
  rw [← bytesF_succ] at o3
  have hlen' := bytesF_len seed n (j + 1)
  have r3 := own_rd o3 (by show (bytesF seed n (j + 1)).length < _; omega)
  obtain ⟨a3, c3, rfl, hc3⟩ := o3.form
  rw [hlen'] at r3 hc3 o3 ⊢
  have s3 : Src w3 g sb seed (n + (j + 1)) := s2.fr f3 (fun h => by have := h.2; omega) (fun h => by
    obtain ⟨hb, hB⟩ := h
    obtain ⟨_, _, _, hlt⟩ := hs
    omega)
  by_cases cj : ((32 * (j + 1) : Nat) : Int) ≥ (l : Int)
  · simp only [↓eBinI, ↓eDiv, ↓eShift, ↓eBinS, ↓ePick, ↓eNot, ↓eNeg, ↓eConv, ↓eConvS, ↓eExt0, ↓eExt1, ↓eExt2, ↓eFA, ↓eIA, ↓eLenSl, ↓eCapSl, ↓eLenS, ↓eMin, ↓eMax, ↓eCondT, ↓eCondF, ↓gIf_tt, ↓gIf_ff, ↓gIf_tf, ↓gIf_ft, ↓gIf_u, ↓gIfW_u, ↓gIfW_tt, ↓gIfW_ff, ↓gIfW_tf, ↓gIfW_ft, binI, divI, shiftI, add_mk, Nat.zero_add, cond_true, cond_false, decide_true, decide_false, Bool.not_true, Bool.not_false, Bool.and_true, Bool.true_and, Bool.and_false, Bool.false_and, Int.toNat_natCast, Nat.mul_one, cj]
    have hcnt : cnt l = j + 1 := by unfold cnt; omega
    refine eSl (l := 0) (h := l) (m := l) bnd_none (bnd_int (by omega)) (bnd_int (by omega)) (by omega) (by omega) (by omega) (by simp) ?_
    have hcut := r3.cut (l := 0) (e := l) (m := l) (by omega) (by omega) (by omega) (by omega)
    rw [List.drop_zero] at hcut
    rw [← hcnt] at s3 hcut
    exact h _ _ f13 s3 hcut
  · simp only [↓eBinI, ↓eDiv, ↓eShift, ↓eBinS, ↓ePick, ↓eNot, ↓eNeg, ↓eConv, ↓eConvS, ↓eExt0, ↓eExt1, ↓eExt2, ↓eFA, ↓eIA, ↓eLenSl, ↓eCapSl, ↓eLenS, ↓eMin, ↓eMax, ↓eCondT, ↓eCondF, ↓gIf_tt, ↓gIf_ff, ↓gIf_tf, ↓gIf_ft, ↓gIf_u, ↓gIfW_u, ↓gIfW_tt, ↓gIfW_ff, ↓gIfW_tf, ↓gIfW_ft, binI, divI, shiftI, add_mk, Nat.zero_add, cond_true, cond_false, decide_true, decide_false, Bool.not_true, Bool.not_false, Bool.and_true, Bool.true_and, Bool.and_false, Bool.false_and, Int.toNat_natCast, Nat.mul_one, cj]
    refine draw_Source_Bytes.leaf1 ⟨j + 1, by omega, f13, s3, o3⟩ ?_
    obtain ⟨a4, c4, e4, _⟩ := o1.form
    rw [e4]
    simp only [lenV]; omega
end Go.Proofs.YtkpgmaiklfjjgaaDoor
