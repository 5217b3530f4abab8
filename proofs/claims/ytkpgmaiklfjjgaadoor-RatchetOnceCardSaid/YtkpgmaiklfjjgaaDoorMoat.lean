/-
  Numbers as digits; what is drawn, of both sides.
  Sources of keys.
  What is drawn: alive; alike.
-/
import Derived.Test.YtkpgmaiklfjjgaaDoorMoas
section
set_option linter.unusedSimpArgs false
set_option linter.unusedVariables false
namespace Go.Proofs.YtkpgmaiklfjjgaaDoor
open Go Go.G Go.RowKit
variable {X : KX} {w : World} {K : KV} {D D' : Nat → Prop}
/-- The table of the powers lies where start-up code laid it. -/
def PT (w : World) : Prop := Lib.TabIs Tryd.prog w "internal/strconv.uint64pow10" .u64 Lib.pow10Tab
theorem tab_fr {T : Nat → Prop} {w w' : World} {name : String} {k : IntKind} {zs : List Int} (h : Lib.TabIs Tryd.prog w name k zs) (e : Fr T w w') (hT : ∀ g, Tryd.prog.globalNamed name = some g → ¬ T g) : Lib.TabIs Tryd.prog w' name k zs := by
  unfold Lib.TabIs World.var? at *
  cases hg : Tryd.prog.globalNamed name with
  | none => rw [hg] at h; exact h
  | some g =>
    rw [hg] at h
    simp only [Option.bind_some] at h ⊢
    cases hh : w.heap[g]? with
    | none => rw [hh] at h; cases h
    | some o => rw [e.heap hh (hT g hg)]; rw [hh] at h; exact h
theorem PT.ext {w w' : World} (h : PT w) (e : Ext w w') : PT w' := tab_fr h e (fun _ _ h => h)
theorem ext_drewN (w : World) (k : Nat) : Ext w (w.drewN k) := ⟨rfl, rfl, rfl, Nat.le_refl _, fun _ _ _ => rfl⟩
theorem ext_grow (w : World) (os : Array Obj) : Ext w (Go.Sort.grow w os) := ⟨rfl, rfl, rfl, by simp [Go.Sort.grow], fun b hb _ => by
  show (w.heap ++ os)[b]? = _
  rw [Array.getElem?_append_left hb]⟩
theorem dec_len : ∀ (k n : Nat), n < 10 ^ (k + 1) → (Lib.decDigits n).length ≤ k + 1
  | 0, n, h => by rw [Lib.decDigits, dif_pos (by omega)]; simp
  | k + 1, n, h => by
    by_cases c : n < 10
    · rw [Lib.decDigits, dif_pos c]; simp
    · rw [Lib.decDigits, dif_neg c, List.length_append]
      have := dec_len k (n / 10) (by rw [Nat.pow_succ] at h; omega)
      simp; omega
theorem num_Print_c {n : Nat} (hn : n < 1000000) (pt : PT w) (h : ∀ w', Ext w w' → K (.string ⟨(Lib.decDigits n).toArray⟩) w') : GCalls Tryd.prog 55 [.int .i64 n] K X w := by
  apply num_Print.calls; unfold num_Print.b
  have c1 : ¬ ((n : Int) < 0) := by omega
  simp only [↓eBinI, ↓eDiv, ↓eShift, ↓eBinS, ↓ePick, ↓eNot, ↓eNeg, ↓eConv, ↓eConvS, ↓eExt0, ↓eExt1, ↓eExt2, ↓eFA, ↓eIA, ↓eLenSl, ↓eCapSl, ↓eLenS, ↓eMin, ↓eMax, ↓eCondT, ↓eCondF, ↓gIf_tt, ↓gIf_ff, ↓gIf_tf, ↓gIf_ft, ↓gIf_u, ↓gIfW_u, ↓gIfW_tt, ↓gIfW_ff, ↓gIfW_tf, ↓gIfW_ft, binI, divI, shiftI, add_mk, Nat.zero_add, cond_true, cond_false, decide_true, decide_false, Bool.not_true, Bool.not_false, Bool.and_true, Bool.true_and, Bool.and_false, Bool.false_and, Int.toNat_natCast, Nat.mul_one, c1]
  refine (?_ : GCalls Tryd.prog 80 [.int .i64 n] _ X w)
  apply strconv_Itoa.calls; unfold strconv_Itoa.b
  refine (?_ : GCalls Tryd.prog 98 [.int .i64 n] _ X w)
  refine .inl ⟨⟨_, Tryd.func98, by kernel_rfl, by kernel_rfl⟩, (Any.internal_strconv_Itoa Tryd.itoaL n (by omega) (by omega) w pt).mono fun e w' he => ?_⟩
  obtain ⟨rfl, k, os, rfl⟩ := he
  have : Lib.itoa (n : Int) = Lib.decDigits n := by
    unfold Lib.itoa; rw [if_neg (by omega), Int.toNat_natCast]
  show K (.string ⟨(Lib.itoa (n : Int)).toArray⟩) _
  rw [this]
  exact h _ ((ext_drewN w k).tr (ext_grow _ os))
theorem ba_of (a b : List UInt8) : ((⟨a.toArray⟩ : ByteArray) ++ ⟨b.toArray⟩) = ⟨(a ++ b).toArray⟩ := by
  apply ByteArray.ext; simp
theorem ref_Print_c : ∀ (m n : Nat), n ≤ m → n < 1000000 → ∀ {w : World} {K : KV}, (∀ w', Ext w w' → K (.string ⟨(Lib.decDigits n).toArray⟩) w') → GCalls Tryd.prog 53 [.int .i64 n] K X w := by
  intro m
  induction m with
  | zero =>
    intro n hm hn w K h
    have : n = 0 := by omega
    subst this
    apply oublietteref01_Print.calls; unfold oublietteref01_Print.b
    have e1 : IntKind.u8.wrap (IntKind.i64.wrap (48 + ((0 : Nat) : Int))) = (((48 : UInt8).toNat : Nat) : Int) := by decide
    simp only [↓eBinI, ↓eDiv, ↓eShift, ↓eBinS, ↓ePick, ↓eNot, ↓eNeg, ↓eConv, ↓eConvS, ↓eExt0, ↓eExt1, ↓eExt2, ↓eFA, ↓eIA, ↓eLenSl, ↓eCapSl, ↓eLenS, ↓eMin, ↓eMax, ↓eCondT, ↓eCondF, ↓gIf_tt, ↓gIf_ff, ↓gIf_tf, ↓gIf_ft, ↓gIf_u, ↓gIfW_u, ↓gIfW_tt, ↓gIfW_ff, ↓gIfW_tf, ↓gIfW_ft, binI, divI, shiftI, add_mk, Nat.zero_add, cond_true, cond_false, decide_true, decide_false, Bool.not_true, Bool.not_false, Bool.and_true, Bool.true_and, Bool.and_false, Bool.false_and, Int.toNat_natCast, Nat.mul_one, show decide (((0 : Nat) : Int) < 0) = false from by decide, show decide (((0 : Nat) : Int) < 10) = true from by decide, e1]
    refine bslice1 rfl fun r w2 hr h2 c2 => ?_
    refine strOf (S := (· = w2)) (w := w2) (D := Any1) (bs := [48]) (fun w' e => e ▸ Rd.of_rows (bv_rows Any1 w2 [48]) (fun _ h => h) (by simp) (by simp) fun i u hi => ⟨_, rfl, rfl, trivial, by rw [add_mk, Nat.zero_add, c2.c]; exact hi⟩) rfl ?_
    have := h w2 h2
    rw [Lib.decDigits, dif_pos (by omega)] at this
    exact this
  | succ m ih =>
    intro n hm hn w K h
    apply oublietteref01_Print.calls; unfold oublietteref01_Print.b
    have c0 : ¬ ((n : Int) < 0) := by omega
    by_cases c : n < 10
    · have c1 : (n : Int) < 10 := by omega
      have e1 : IntKind.u8.wrap (IntKind.i64.wrap (48 + (n : Int))) = (((UInt8.ofNat (48 + n)).toNat : Nat) : Int) := by rw [wrap64 (by omega) (by omega), wrapU8, ← u8_of]; rfl
      simp only [↓eBinI, ↓eDiv, ↓eShift, ↓eBinS, ↓ePick, ↓eNot, ↓eNeg, ↓eConv, ↓eConvS, ↓eExt0, ↓eExt1, ↓eExt2, ↓eFA, ↓eIA, ↓eLenSl, ↓eCapSl, ↓eLenS, ↓eMin, ↓eMax, ↓eCondT, ↓eCondF, ↓gIf_tt, ↓gIf_ff, ↓gIf_tf, ↓gIf_ft, ↓gIf_u, ↓gIfW_u, ↓gIfW_tt, ↓gIfW_ff, ↓gIfW_tf, ↓gIfW_ft, binI, divI, shiftI, add_mk, Nat.zero_add, cond_true, cond_false, decide_true, decide_false, Bool.not_true, Bool.not_false, Bool.and_true, Bool.true_and, Bool.and_false, Bool.false_and, Int.toNat_natCast, Nat.mul_one, c0, c1, e1]
      refine bslice1 rfl fun r w2 hr h2 c2 => ?_
      refine strOf (S := (· = w2)) (w := w2) (D := Any1) (bs := [UInt8.ofNat (48 + n)]) (fun w' e => e ▸ Rd.of_rows (bv_rows Any1 w2 [UInt8.ofNat (48 + n)]) (fun _ h => h) (by simp) (by simp) fun i u hi => ⟨_, rfl, rfl, trivial, by rw [add_mk, Nat.zero_add, c2.c]; exact hi⟩) rfl ?_
      have := h w2 h2
      rw [Lib.decDigits, dif_pos c] at this
      exact this
    · have c1 : ¬ ((n : Int) < 10) := by omega
      have e1 : (n : Int).tdiv 10 = ((n / 10 : Nat) : Int) := by rw [Int.tdiv_eq_ediv_of_nonneg (by omega)]; omega
      have e2 : (n : Int).tmod 10 = ((n % 10 : Nat) : Int) := by rw [Int.tmod_eq_emod_of_nonneg (by omega)]; omega
      have e3 : IntKind.i64.wrap ((n / 10 : Nat) : Int) = ((n / 10 : Nat) : Int) := wrap64 (by omega) (by omega)
      simp only [↓eBinI, ↓eDiv, ↓eShift, ↓eBinS, ↓ePick, ↓eNot, ↓eNeg, ↓eConv, ↓eConvS, ↓eExt0, ↓eExt1, ↓eExt2, ↓eFA, ↓eIA, ↓eLenSl, ↓eCapSl, ↓eLenS, ↓eMin, ↓eMax, ↓eCondT, ↓eCondF, ↓gIf_tt, ↓gIf_ff, ↓gIf_tf, ↓gIf_ft, ↓gIf_u, ↓gIfW_u, ↓gIfW_tt, ↓gIfW_ff, ↓gIfW_tf, ↓gIfW_ft, binI, divI, shiftI, add_mk, Nat.zero_add, cond_true, cond_false, decide_true, decide_false, Bool.not_true, Bool.not_false, Bool.and_true, Bool.true_and, Bool.and_false, Bool.false_and, Int.toNat_natCast, Nat.mul_one, c0, c1, e1, e2, e3, ne_eq, show ¬ ((10 : Int) = 0) from by decide, not_false_eq_true, true_and]
      refine ih (n / 10) (by omega) (by omega) fun w1 h1 => ?_
      refine ih (n % 10) (by omega) (by omega) fun w2 h2 => ?_
      have l1 := dec_len 6 (n / 10) (by omega)
      have l2 := dec_len 6 (n % 10) (by omega)
      have hm : IntKind.i64.max = 9223372036854775807 := by decide
      have s1 : (⟨(Lib.decDigits (n / 10)).toArray⟩ : ByteArray).size = (Lib.decDigits (n / 10)).length := rfl
      have s2 : (⟨(Lib.decDigits (n % 10)).toArray⟩ : ByteArray).size = (Lib.decDigits (n % 10)).length := rfl
      simp only [↓eBinS, binS, ba_of]
      refine ⟨by rw [hm, s1, s2]; omega, ?_⟩
      have := h w2 (h1.tr h2)
      rw [Lib.decDigits, dif_neg c] at this
      have e : Lib.decDigits (n % 10) = [UInt8.ofNat (48 + n % 10)] := by rw [Lib.decDigits, dif_pos (by omega)]
      rw [e]; exact this
def drawL (n : Nat) : List UInt8 := [100, 114, 97, 119, 32] ++ Lib.decDigits n
def atF (seed : List UInt8) (n : Nat) : List UInt8 := deriveF seed (drawL n)
theorem atF_len (seed : List UInt8) (n : Nat) : (atF seed n).length = 32 := deriveF_len _ _
theorem draw_str (n : Nat) : ((⟨#[100, 114, 97, 119, 32]⟩ : ByteArray) ++ ⟨(Lib.decDigits n).toArray⟩).data.toList = drawL n := by rw [ba_list]; rfl
theorem At_c {x : Value} {seed : List UInt8} {n : Nat} (hk : KT w) (pt : PT w) (hx : Rd (.slice .byte) D w [x] seed) (hl : seed.length ≤ 1000) (hn : n < 1000000)
    (h : ∀ v w', Ext w w' → Rd (.slice .byte) (w.heap.size ≤ ·) w' [v] (atF seed n) → K v w') : GCalls Tryd.prog 32 [x, .int .i64 n] K X w := by
  apply draw_At.calls; unfold draw_At.b
  refine num_Print_c hn pt fun w1 h1 => ?_
  have l1 := dec_len 6 n (by omega)
  have hm : IntKind.i64.max = 9223372036854775807 := by decide
  have s1 : (⟨(Lib.decDigits n).toArray⟩ : ByteArray).size = (Lib.decDigits n).length := rfl
  have s2 : (⟨#[100, 114, 97, 119, 32]⟩ : ByteArray).size = 5 := rfl
  simp only [↓eBinS, binS]
  refine ⟨by rw [hm, s1, s2]; omega, ?_⟩
  have hd := draw_str n
  refine Derive_c (hk.ext h1) (hx.ext h1) hl (by rw [hd]; simp [drawL]; omega) fun v w2 h2 r2 => ?_
  rw [hd] at r2
  exact h _ _ (h1.tr h2) (r2.wide (fun b hb => Nat.le_trans h1.size hb))
theorem ref_At_c {x : Value} {seed : List UInt8} {n : Nat} (hx : Rd (.slice .byte) D w [x] seed) (hl : seed.length ≤ 1000) (hn : n < 1000000)
    (h : ∀ v w', Ext w w' → Rd (.slice .byte) (w.heap.size ≤ ·) w' [v] (atF seed n) → K v w') : GCalls Tryd.prog 30 [x, .int .i64 n] K X w := by
  apply oublietteref14_At.calls; unfold oublietteref14_At.b
  refine ref_Print_c n n (Nat.le_refl _) hn fun w1 h1 => ?_
  have l1 := dec_len 6 n (by omega)
  have hm : IntKind.i64.max = 9223372036854775807 := by decide
  have s1 : (⟨(Lib.decDigits n).toArray⟩ : ByteArray).size = (Lib.decDigits n).length := rfl
  have s2 : (⟨#[100, 114, 97, 119, 32]⟩ : ByteArray).size = 5 := rfl
  simp only [↓eBinS, binS]
  refine ⟨by rw [hm, s1, s2]; omega, ?_⟩
  have hd := draw_str n
  refine ref_Derive_c (hx.ext h1) hl (by rw [hd]; simp [drawL]; omega) fun v w2 h2 r2 => ?_
  rw [hd] at r2
  exact h _ _ (h1.tr h2) (r2.wide (fun b hb => Nat.le_trans h1.size hb))
end Go.Proofs.YtkpgmaiklfjjgaaDoor
end
section
set_option linter.unusedSimpArgs false
set_option linter.unusedVariables false
namespace Go.Proofs.YtkpgmaiklfjjgaaDoor
open Go Go.G Go.RowKit
variable {X : KX} {w : World} {K : KV} {D D' : Nat → Prop}
theorem ePNil {a : Addr} {K : KP} : pNil (.pointer (some a)) K = K (.pointer (some a)) := rfl
theorem ePEqS {a : Addr} {K : KP} : pEq .ptr false (.pointer (some a)) (.pointer none) K = K (.bool false) := by
  apply propext; exact ⟨fun ⟨b, h, k⟩ => by cases h; exact k, fun h => ⟨false, rfl, h⟩⟩
theorem ePEqN {K : KP} : pEq .ptr false (.pointer none) (.pointer none) K = K (.bool true) := by
  apply propext; exact ⟨fun ⟨b, h, k⟩ => by cases h; exact k, fun h => ⟨true, rfl, h⟩⟩
theorem fillFst {z0 z1 a : Value} (ha : one a = true) : fillL [z0, z1] [(0, 1, a)] = some [a, z1] := by simp [fillL, one_cells ha, cutIn]
/-- A source: its seed, and how many were drawn. -/
def Src (w : World) (g sb : Nat) (seed : List UInt8) (n : Nat) : Prop := ∃ v, Cs w g [v, .int .i64 (n : Int)] ∧ Rd (.slice .byte) (· = sb) w [v] seed ∧ sb < g
theorem Src.fr {T : Nat → Prop} {w w' : World} {g sb : Nat} {seed : List UInt8} {n : Nat} (h : Src w g sb seed n) (e : Fr T w w') (h1 : ¬ T g) (h2 : ¬ T sb) : Src w' g sb seed n := by
  obtain ⟨v, hc, hr, hn⟩ := h
  exact ⟨v, hc.fr e h1, hr.fr e (fun b hb => by subst hb; exact h2), hn⟩
theorem Src.ext {w w' : World} {g sb : Nat} {seed : List UInt8} {n : Nat} (h : Src w g sb seed n) (e : Ext w w') : Src w' g sb seed n := h.fr e (fun h => h) (fun h => h)
theorem Src.lt {w : World} {g sb : Nat} {seed : List UInt8} {n : Nat} (h : Src w g sb seed n) : g < w.heap.size := by obtain ⟨v, hc, _⟩ := h; exact hc.lt
theorem own_blk {B : Nat} {v : Value} {xs : List UInt8} (h : G.Own .byte NoB B w v xs) (hl : xs.length < 9223372036854775808) : ∃ sb, (B ≤ sb ∧ sb < w.heap.size ∨ sb = 0) ∧ Rd (.slice .byte) (· = sb) w [v] xs := by
  by_cases hx : xs = []
  · subst hx
    obtain ⟨a, c, e, hc⟩ := h.form
    exact ⟨0, .inr rfl, a, c, by rw [e], hc, hl, fun h => absurd rfl h⟩
  · obtain ⟨g, c, e, hB, hlt⟩ := h.some_of (List.length_pos_iff.2 hx)
    refine ⟨g, .inl ⟨hB, hlt⟩, h.rd2 (fun _ h => h.elim) (fun b hb _ _ => ?_) hl⟩
    obtain ⟨a, n, c', e', rfl⟩ := hb
    rw [e] at e'; cases e'; rfl
theorem New_c {x : Value} {seed : List UInt8} (h0 : 0 < w.heap.size) (hx : Rd (.slice .byte) D w [x] seed) (hl : seed.length ≤ 1000)
    (h : ∀ g sb w', Ext w w' → w.heap.size ≤ g → (w.heap.size ≤ sb ∨ sb = 0) → sb < g → Src w' g sb seed 0 → K (.pointer (some ⟨g, 0, none⟩)) w') : GCalls Tryd.prog 25 [x] K X w := by
  apply draw_New.calls; unfold draw_New.b
  refine Clone_c hx (by omega) fun v w1 h1 o1 hv => ?_
  refine ⟨[v, .int .i64 0], fillFst hv, ?_⟩
  refine boxC (cs := [v, .int .i64 0]) fun g w2 hg h2 c2 => ?_
  obtain ⟨sb, hsb, hr⟩ := own_blk o1 (by show seed.length < _; omega)
  have z1 := h1.size
  have hlt : sb < g := by rcases hsb with h | h <;> omega
  exact h g sb w2 (h1.tr h2) (by omega) (hsb.imp (fun h => h.1) id) hlt ⟨v, c2, hr.ext h2, by omega⟩
theorem SClone_c {g sb n : Nat} {seed : List UInt8} (hs : Src w g sb seed n) (hl : seed.length ≤ 1000)
    (h : ∀ g' sb' w', Ext w w' → w.heap.size ≤ g' → (w.heap.size ≤ sb' ∨ sb' = 0) → sb' < g' → Src w' g' sb' seed n → K (.pointer (some ⟨g', 0, none⟩)) w') : GCalls Tryd.prog 28 [.pointer (some ⟨g, 0, none⟩)] K X w := by
  obtain ⟨vs, hc, hr, hne⟩ := hs
  have l0 := hc.lt
  apply draw_Source_Clone.calls; unfold draw_Source_Clone.b
  simp only [↓eBinI, ↓eDiv, ↓eShift, ↓eBinS, ↓ePick, ↓eNot, ↓eNeg, ↓eConv, ↓eConvS, ↓eExt0, ↓eExt1, ↓eExt2, ↓eFA, ↓eIA, ↓eLenSl, ↓eCapSl, ↓eLenS, ↓eMin, ↓eMax, ↓eCondT, ↓eCondF, ↓gIf_tt, ↓gIf_ff, ↓gIf_tf, ↓gIf_ft, ↓gIf_u, ↓gIfW_u, ↓gIfW_tt, ↓gIfW_ff, ↓gIfW_tf, ↓gIfW_ft, binI, divI, shiftI, add_mk, Nat.zero_add, cond_true, cond_false, decide_true, decide_false, Bool.not_true, Bool.not_false, Bool.and_true, Bool.true_and, Bool.and_false, Bool.false_and, Int.toNat_natCast, Nat.mul_one, ↓ePEqS]
  refine draw_ fun w1 h1 => ?_
  simp only [↓eBinI, ↓eDiv, ↓eShift, ↓eBinS, ↓ePick, ↓eNot, ↓eNeg, ↓eConv, ↓eConvS, ↓eExt0, ↓eExt1, ↓eExt2, ↓eFA, ↓eIA, ↓eLenSl, ↓eCapSl, ↓eLenS, ↓eMin, ↓eMax, ↓eCondT, ↓eCondF, ↓gIf_tt, ↓gIf_ff, ↓gIf_tf, ↓gIf_ft, ↓gIf_u, ↓gIfW_u, ↓gIfW_tt, ↓gIfW_ff, ↓gIfW_tf, ↓gIfW_ft, binI, divI, shiftI, add_mk, Nat.zero_add, cond_true, cond_false, decide_true, decide_false, Bool.not_true, Bool.not_false, Bool.and_true, Bool.true_and, Bool.and_false, Bool.false_and, Int.toNat_natCast, Nat.mul_one, ↓ePNil, ↓(hc.ext h1).e0, ↓(hc.ext h1).e1]
  refine Clone_c (hr.ext h1) (by omega) fun v w2 h2 o2 hv => ?_
  refine ⟨h2, ?_⟩
  refine ⟨[v, .int .i64 (n : Int)], fill2 hv rfl, ?_⟩
  refine boxC (cs := [v, .int .i64 (n : Int)]) fun g' w3 hg h3 c3 => ?_
  refine ⟨h2.tr h3, ?_⟩
  obtain ⟨sb', hsb, hr'⟩ := own_blk o2 (by show seed.length < _; omega)
  have z1 := h1.size; have z2 := h2.size
  have hlt : sb' < g' := by rcases hsb with h | h <;> omega
  exact h g' sb' w3 ((h1.tr h2).tr h3) (by omega) (hsb.imp (fun h => by omega) id) hlt ⟨v, c3, hr'.ext h3, by omega⟩
theorem Drawn_c {g sb n : Nat} {seed : List UInt8} (hs : Src w g sb seed n) (h : K (.int .i64 (n : Int)) w) : GCalls Tryd.prog 31 [.pointer (some ⟨g, 0, none⟩)] K X w := by
  obtain ⟨vs, hc, hr, hne⟩ := hs
  apply draw_Source_Drawn.calls; unfold draw_Source_Drawn.b
  simp only [↓eBinI, ↓eDiv, ↓eShift, ↓eBinS, ↓ePick, ↓eNot, ↓eNeg, ↓eConv, ↓eConvS, ↓eExt0, ↓eExt1, ↓eExt2, ↓eFA, ↓eIA, ↓eLenSl, ↓eCapSl, ↓eLenS, ↓eMin, ↓eMax, ↓eCondT, ↓eCondF, ↓gIf_tt, ↓gIf_ff, ↓gIf_tf, ↓gIf_ft, ↓gIf_u, ↓gIfW_u, ↓gIfW_tt, ↓gIfW_ff, ↓gIfW_tf, ↓gIfW_ft, binI, divI, shiftI, add_mk, Nat.zero_add, cond_true, cond_false, decide_true, decide_false, Bool.not_true, Bool.not_false, Bool.and_true, Bool.true_and, Bool.and_false, Bool.false_and, Int.toNat_natCast, Nat.mul_one, ↓ePEqS, ↓ePNil, ↓hc.c1]
  exact h
theorem Draw_c {g sb n : Nat} {seed : List UInt8} (hk : KT w) (pt : PT w) (hg : 2 < g) (hgt : ∀ b, Tryd.prog.globalNamed "internal/strconv.uint64pow10" = some b → b < g) (hs : Src w g sb seed n) (hl : seed.length ≤ 1000) (hn : n < 100000)
    (h : ∀ v w', Fr (· = g) w w' → Src w' g sb seed (n + 1) → Rd (.slice .byte) (w.heap.size ≤ ·) w' [v] (atF seed n) → K v w') : GCalls Tryd.prog 29 [.pointer (some ⟨g, 0, none⟩)] K X w := by
  obtain ⟨vs, hc, hr, hne⟩ := hs
  apply draw_Source_Draw.calls; unfold draw_Source_Draw.b
  have e1 : IntKind.i64.wrap ((n : Int) + 1) = ((n + 1 : Nat) : Int) := by rw [wrap64 (by omega) (by omega)]; omega
  have e2 : IntKind.i64.wrap (((n + 1 : Nat) : Int) - 1) = (n : Int) := by rw [wrap64 (by omega) (by omega)]; omega
  simp only [↓eBinI, ↓eDiv, ↓eShift, ↓eBinS, ↓ePick, ↓eNot, ↓eNeg, ↓eConv, ↓eConvS, ↓eExt0, ↓eExt1, ↓eExt2, ↓eFA, ↓eIA, ↓eLenSl, ↓eCapSl, ↓eLenS, ↓eMin, ↓eMax, ↓eCondT, ↓eCondF, ↓gIf_tt, ↓gIf_ff, ↓gIf_tf, ↓gIf_ft, ↓gIf_u, ↓gIfW_u, ↓gIfW_tt, ↓gIfW_ff, ↓gIfW_tf, ↓gIfW_ft, binI, divI, shiftI, add_mk, Nat.zero_add, cond_true, cond_false, decide_true, decide_false, Bool.not_true, Bool.not_false, Bool.and_true, Bool.true_and, Bool.and_false, Bool.false_and, Int.toNat_natCast, Nat.mul_one, ↓ePEqS, ↓ePNil, ↓hc.c1, e1]
  refine hc.set (i := 1) (by simp) rfl fun w1 c1 f1 => ?_
  have c1 : Cs w1 g [vs, .int .i64 ((n + 1 : Nat) : Int)] := c1
  refine draw_ fun w2 h2 => ?_
  simp only [↓eBinI, ↓eDiv, ↓eShift, ↓eBinS, ↓ePick, ↓eNot, ↓eNeg, ↓eConv, ↓eConvS, ↓eExt0, ↓eExt1, ↓eExt2, ↓eFA, ↓eIA, ↓eLenSl, ↓eCapSl, ↓eLenS, ↓eMin, ↓eMax, ↓eCondT, ↓eCondF, ↓gIf_tt, ↓gIf_ff, ↓gIf_tf, ↓gIf_ft, ↓gIf_u, ↓gIfW_u, ↓gIfW_tt, ↓gIfW_ff, ↓gIfW_tf, ↓gIfW_ft, binI, divI, shiftI, add_mk, Nat.zero_add, cond_true, cond_false, decide_true, decide_false, Bool.not_true, Bool.not_false, Bool.and_true, Bool.true_and, Bool.and_false, Bool.false_and, Int.toNat_natCast, Nat.mul_one, ↓ePNil, ↓(c1.ext h2).e0, ↓(c1.ext h2).e1, e2]
  have f2 : Fr (· = g) w w2 := f1.trans (Fr.mono h2 (fun _ _ h => h.elim)) (fun _ _ h => h)
  have hr2 : Rd (.slice .byte) (· = sb) w2 [vs] seed := hr.fr f2 (fun b hb => by subst hb; show ¬ b = g; omega)
  refine At_c (hk.fr f2 (by show ¬ 2 = g; omega)) (tab_fr pt f2 (fun b hb => by have := hgt b hb; show ¬ b = g; omega)) hr2 hl (by omega) fun v w3 h3 r3 => ?_
  refine ⟨h3, ?_⟩
  have f3 : Fr (· = g) w w3 := f2.trans (Fr.mono h3 (fun _ _ h => h.elim)) (fun _ _ h => h)
  exact h v w3 f3 ⟨vs, (c1.ext h2).ext h3, hr2.ext h3, hne⟩ (r3.wide (fun b hb => Nat.le_trans f2.size hb))
def bytesF (seed : List UInt8) (n j : Nat) : List UInt8 := ((List.range j).map fun i => atF seed (n + i)).flatten
theorem bytesF_succ (seed : List UInt8) (n j : Nat) : bytesF seed n (j + 1) = bytesF seed n j ++ atF seed (n + j) := by simp [bytesF, List.range_succ]
theorem bytesF_len (seed : List UInt8) (n : Nat) : ∀ j, (bytesF seed n j).length = 32 * j
  | 0 => rfl
  | j + 1 => by rw [bytesF_succ, List.length_append, atF_len, bytesF_len seed n j]; omega
def cnt (l : Nat) : Nat := (l + 31) / 32
theorem Bytes_c {g sb n l : Nat} {seed : List UInt8} (hk : KT w) (pt : PT w) (hg : 2 < g) (hgt : ∀ b, Tryd.prog.globalNamed "internal/strconv.uint64pow10" = some b → b < g) (hs : Src w g sb seed n) (hl : seed.length ≤ 1000) (hn : n < 50000) (h1 : 1 ≤ l) (h2 : l ≤ 4096)
    (h : ∀ v w', Fr (· = g) w w' → Src w' g sb seed (n + cnt l) → Rd (.slice .byte) (w.heap.size ≤ ·) w' [v] ((bytesF seed n (cnt l)).take l) → K v w') : GCalls Tryd.prog 27 [.pointer (some ⟨g, 0, none⟩), .int .i64 (l : Int)] K X w := by
  have hgl := hs.lt
  apply draw_Source_Bytes.calls; unfold draw_Source_Bytes.b
  have d1 : ¬ ((l : Int) < 1) := by omega
  have d2 : ¬ ((l : Int) > 4096) := by omega
  simp only [↓eBinI, ↓eDiv, ↓eShift, ↓eBinS, ↓ePick, ↓eNot, ↓eNeg, ↓eConv, ↓eConvS, ↓eExt0, ↓eExt1, ↓eExt2, ↓eFA, ↓eIA, ↓eLenSl, ↓eCapSl, ↓eLenS, ↓eMin, ↓eMax, ↓eCondT, ↓eCondF, ↓gIf_tt, ↓gIf_ff, ↓gIf_tf, ↓gIf_ft, ↓gIf_u, ↓gIfW_u, ↓gIfW_tt, ↓gIfW_ff, ↓gIfW_tf, ↓gIfW_ft, binI, divI, shiftI, add_mk, Nat.zero_add, cond_true, cond_false, decide_true, decide_false, Bool.not_true, Bool.not_false, Bool.and_true, Bool.true_and, Bool.and_false, Bool.false_and, Int.toNat_natCast, Nat.mul_one, ↓ePEqS, d1, d2, show (false != false) = false from rfl]
  refine draw_Source_Bytes.loop1 (fun x4 w' => ∃ j, 32 * j < l ∧ Fr (· = g) w w' ∧ Src w' g sb seed (n + j) ∧ G.Own .byte NoB w.heap.size w' x4 (bytesF seed n j)) (fun x4 _ => l - lenV x4) ⟨0, by omega, Fr.refl _ _, hs, G.Own.nil⟩ ?_
  rintro x4 gg w1 ⟨j, hj, f1, s1, o1⟩
  unfold draw_Source_Bytes.b1
  refine (?_ : GCalls Tryd.prog 29 [.pointer (some ⟨g, 0, none⟩)] _ X w1)
  refine Draw_c (hk.fr f1 (by show ¬ 2 = g; omega)) (tab_fr pt f1 (fun b hb => by have := hgt b hb; show ¬ b = g; omega)) hg hgt s1 hl (by omega) fun v w2 f2 s2 r2 => ?_
  have f12 : Fr (· = g) w w2 := f1.trans f2 (fun _ _ h => h)
  have hlen := bytesF_len seed n j
  have hal := atF_len seed (n + j)
  have o2 : G.Own .byte NoB w.heap.size w2 x4 (bytesF seed n j) := o1.fr f2 (fun _ h => h.elim) (fun b hb hB => by show ¬ b = g; omega)
  refine o2.cat f12.size (fun h => h) rfl rfl r2 (fun cs h => h.flat rfl) (by show (2 * ((bytesF seed n j).length + (atF seed (n + j)).length) + 192) * 1 ≤ _; omega) fun v3 w3 o3 f3 _ => ?_
  have f13 : Fr (· = g) w w3 := f12.trans f3 (fun x hx h => by have := h.2; omega)
  rw [← bytesF_succ] at o3
  have hlen' := bytesF_len seed n (j + 1)
  have r3 := own_rd o3 (by show (bytesF seed n (j + 1)).length < _; omega)
  obtain ⟨a3, c3, rfl, hc3⟩ := o3.form
  rw [hlen'] at r3 hc3 o3 ⊢
  have s3 : Src w3 g sb seed (n + (j + 1)) := s2.fr f3 (fun h => by have := h.2; omega) (fun h => by
    obtain ⟨hb, hB⟩ := h
    obtain ⟨_, _, _, hlt⟩ := hs
    omega)
  by_cases cj : ((32 * (j + 1) : Nat) : Int) ≥ (l : Int)
  · simp only [↓eBinI, ↓eDiv, ↓eShift, ↓eBinS, ↓ePick, ↓eNot, ↓eNeg, ↓eConv, ↓eConvS, ↓eExt0, ↓eExt1, ↓eExt2, ↓eFA, ↓eIA, ↓eLenSl, ↓eCapSl, ↓eLenS, ↓eMin, ↓eMax, ↓eCondT, ↓eCondF, ↓gIf_tt, ↓gIf_ff, ↓gIf_tf, ↓gIf_ft, ↓gIf_u, ↓gIfW_u, ↓gIfW_tt, ↓gIfW_ff, ↓gIfW_tf, ↓gIfW_ft, binI, divI, shiftI, add_mk, Nat.zero_add, cond_true, cond_false, decide_true, decide_false, Bool.not_true, Bool.not_false, Bool.and_true, Bool.true_and, Bool.and_false, Bool.false_and, Int.toNat_natCast, Nat.mul_one, cj]
    have hcnt : cnt l = j + 1 := by unfold cnt; omega
    refine eSl (l := 0) (h := l) (m := l) bnd_none (bnd_int (by omega)) (bnd_int (by omega)) (by omega) (by omega) (by omega) (by simp) ?_
    have hcut := r3.cut (l := 0) (e := l) (m := l) (by omega) (by omega) (by omega) (by omega)
    rw [List.drop_zero] at hcut
    rw [← hcnt] at s3 hcut
    exact h _ _ f13 s3 hcut
  · simp only [↓eBinI, ↓eDiv, ↓eShift, ↓eBinS, ↓ePick, ↓eNot, ↓eNeg, ↓eConv, ↓eConvS, ↓eExt0, ↓eExt1, ↓eExt2, ↓eFA, ↓eIA, ↓eLenSl, ↓eCapSl, ↓eLenS, ↓eMin, ↓eMax, ↓eCondT, ↓eCondF, ↓gIf_tt, ↓gIf_ff, ↓gIf_tf, ↓gIf_ft, ↓gIf_u, ↓gIfW_u, ↓gIfW_tt, ↓gIfW_ff, ↓gIfW_tf, ↓gIfW_ft, binI, divI, shiftI, add_mk, Nat.zero_add, cond_true, cond_false, decide_true, decide_false, Bool.not_true, Bool.not_false, Bool.and_true, Bool.true_and, Bool.and_false, Bool.false_and, Int.toNat_natCast, Nat.mul_one, cj]
    refine draw_Source_Bytes.leaf1 ⟨j + 1, by omega, f13, s3, o3⟩ ?_
    obtain ⟨a4, c4, e4, _⟩ := o1.form
    rw [e4]
    simp only [lenV]; omega
end Go.Proofs.YtkpgmaiklfjjgaaDoor
end
section
set_option linter.unusedSimpArgs false
set_option linter.unusedVariables false
namespace Go.Proofs.YtkpgmaiklfjjgaaDoor
open Go Go.G Go.RowKit
variable {X : KX} {w : World} {K : KV} {D D' : Nat → Prop}
theorem PT.lt {w : World} (h : PT w) : ∀ b, Tryd.prog.globalNamed "internal/strconv.uint64pow10" = some b → b < w.heap.size := by
  intro b hb
  unfold PT Lib.TabIs World.var? at h
  rw [hb] at h
  simp only [Option.bind_some] at h
  cases hh : w.heap[b]? with
  | none => rw [hh] at h; cases h
  | some o => exact heap_lt hh
theorem KT.two {w : World} (h : KT w) : 2 < w.heap.size := cell_lt (h 0 (by rw [kT_len]; omega))
/-- The tables that start-up code laid. -/
structure TB (w : World) : Prop where
  kt : KT w
  pt : PT w
theorem TB.ext {w w' : World} (h : TB w) (e : Ext w w') : TB w' := ⟨h.kt.ext e, h.pt.ext e⟩
theorem TB.draw {w : World} (h : TB w) {g sb n : Nat} {B : Nat} {w0 : World} (h0 : TB w0) (hB : w0.heap.size ≤ g) {seed : List UInt8} (hs : Src w g sb seed n) (hl : seed.length ≤ 1000) (hn : n < 100000)
    (hh : ∀ v w', Fr (· = g) w w' → Src w' g sb seed (n + 1) → Rd (.slice .byte) (w.heap.size ≤ ·) w' [v] (atF seed n) → K v w') : GCalls Tryd.prog 29 [.pointer (some ⟨g, 0, none⟩)] K X w :=
  Draw_c h.kt h.pt (by have := h0.kt.two; omega) (fun b hb => by have := h0.pt.lt b hb; omega) hs hl hn hh
theorem TB.fr {T : Nat → Prop} {w w' w0 : World} (h : TB w) (h0 : TB w0) (e : Fr T w w') (hT : ∀ x, T x → w0.heap.size ≤ x) : TB w' :=
  ⟨h.kt.fr e (fun h2 => by have := hT 2 h2; have := h0.kt.two; omega), tab_fr h.pt e (fun b hb hTb => by have := hT b hTb; have := h0.pt.lt b hb; omega)⟩
theorem bs1_rd {r : Nat} {c : UInt8} (h : Cs w r [.int .u8 (c.toNat : Int)]) : Rd (.slice .byte) (· = r) w [.slice (some ⟨r, 0, none⟩) 1 1] [c] :=
  Rd.of_rows (bv_rows (· = r) w [c]) (fun _ h => h) (by simp) (by simp) fun i u hi => ⟨_, rfl, rfl, rfl, by rw [add_mk, Nat.zero_add, h.c]; exact hi⟩
theorem alive_c (hb : TB w) (h : ∀ w', Ext w w' → K (.bool true) w') : GCalls Tryd.prog 24 [] K X w := by
  have h2 := hb.kt.two
  apply oubliettelaw14_alive.calls; unfold oubliettelaw14_alive.b
  refine bslice1 rfl fun r1 w1 hr1 h1 c1 => ?_
  have z1 := h1.size
  refine New_c (seed := [1]) (by omega) (bs1_rd (c := 1) c1) (by simp) fun g1 b1 w2 e2 q1 q2 q3 s1 => ?_
  have z2 := e2.size
  refine bslice1 rfl fun r3 w3 hr3 h3 c3 => ?_
  have z3 := h3.size
  refine New_c (seed := [1]) (by omega) (bs1_rd (c := 1) c3) (by simp) fun g2 b2 w4 e4 p1 p2 p3 s2 => ?_
  have z4 := e4.size
  have lg1 := s1.lt
  have lg2 := s2.lt
  have k4 := ((h1.tr e2).tr h3).tr e4
  have s1 := (s1.ext h3).ext e4
  have tb4 := hb.ext k4
  refine tb4.draw (B := 0) hb (by omega) s1 (by simp) (by omega) fun v5 w5 f5 s1 r5 => ?_
  have z5 := f5.size
  have k5 : Ext w w5 := k4.tn f5 (fun x hx => by omega)
  have hal := atF_len [1] 0
  obtain ⟨a5, c5, rfl, hc5, _⟩ := r5.form
  have e32 : (((atF [1] 0).length : Nat) : Int) = 32 := by rw [hal]; rfl
  simp only [↓eBinI, ↓eDiv, ↓eShift, ↓eBinS, ↓ePick, ↓eNot, ↓eNeg, ↓eConv, ↓eConvS, ↓eExt0, ↓eExt1, ↓eExt2, ↓eFA, ↓eIA, ↓eLenSl, ↓eCapSl, ↓eLenS, ↓eMin, ↓eMax, ↓eCondT, ↓eCondF, ↓gIf_tt, ↓gIf_ff, ↓gIf_tf, ↓gIf_ft, ↓gIf_u, ↓gIfW_u, ↓gIfW_tt, ↓gIfW_ff, ↓gIfW_tf, ↓gIfW_ft, binI, divI, shiftI, add_mk, Nat.zero_add, cond_true, cond_false, decide_true, decide_false, Bool.not_true, Bool.not_false, Bool.and_true, Bool.true_and, Bool.and_false, Bool.false_and, Int.toNat_natCast, Nat.mul_one, e32, show ((32 : Int) == 32) = true from by decide]
  have s2 : Src w5 g2 b2 [1] 0 := s2.fr f5 (by omega) (by omega)
  refine (hb.ext k5).draw (B := 0) hb (by omega) s2 (by simp) (by omega) fun v6 w6 f6 s2 r6 => ?_
  have k6 : Ext w w6 := k5.tn f6 (fun x hx => by omega)
  have r5 := r5.fr f6 (fun b hb => by show ¬ b = g2; omega)
  refine Same_c r5 r6 fun w7 h7 => ?_
  have s1 := (s1.fr f6 (by omega) (by omega)).ext h7
  simp only [decide_true]
  simp only [↓eBinI, ↓eDiv, ↓eShift, ↓eBinS, ↓ePick, ↓eNot, ↓eNeg, ↓eConv, ↓eConvS, ↓eExt0, ↓eExt1, ↓eExt2, ↓eFA, ↓eIA, ↓eLenSl, ↓eCapSl, ↓eLenS, ↓eMin, ↓eMax, ↓eCondT, ↓eCondF, ↓gIf_tt, ↓gIf_ff, ↓gIf_tf, ↓gIf_ft, ↓gIf_u, ↓gIfW_u, ↓gIfW_tt, ↓gIfW_ff, ↓gIfW_tf, ↓gIfW_ft, binI, divI, shiftI, add_mk, Nat.zero_add, cond_true, cond_false, decide_true, decide_false, Bool.not_true, Bool.not_false, Bool.and_true, Bool.true_and, Bool.and_false, Bool.false_and, Int.toNat_natCast, Nat.mul_one]
  refine Drawn_c s1 ?_
  simp only [↓eBinI, ↓eDiv, ↓eShift, ↓eBinS, ↓ePick, ↓eNot, ↓eNeg, ↓eConv, ↓eConvS, ↓eExt0, ↓eExt1, ↓eExt2, ↓eFA, ↓eIA, ↓eLenSl, ↓eCapSl, ↓eLenS, ↓eMin, ↓eMax, ↓eCondT, ↓eCondF, ↓gIf_tt, ↓gIf_ff, ↓gIf_tf, ↓gIf_ft, ↓gIf_u, ↓gIfW_u, ↓gIfW_tt, ↓gIfW_ff, ↓gIfW_tf, ↓gIfW_ft, binI, divI, shiftI, add_mk, Nat.zero_add, cond_true, cond_false, decide_true, decide_false, Bool.not_true, Bool.not_false, Bool.and_true, Bool.true_and, Bool.and_false, Bool.false_and, Int.toNat_natCast, Nat.mul_one, show ((((0 + 1 : Nat)) : Int) == 1) = true from by decide]
  exact h _ (k6.tr h7)
theorem DrawN_c (h : K (.slice none 0 0) w) : GCalls Tryd.prog 29 [.pointer none] K X w := by
  apply draw_Source_Draw.calls; unfold draw_Source_Draw.b
  simp only [↓eBinI, ↓eDiv, ↓eShift, ↓eBinS, ↓ePick, ↓eNot, ↓eNeg, ↓eConv, ↓eConvS, ↓eExt0, ↓eExt1, ↓eExt2, ↓eFA, ↓eIA, ↓eLenSl, ↓eCapSl, ↓eLenS, ↓eMin, ↓eMax, ↓eCondT, ↓eCondF, ↓gIf_tt, ↓gIf_ff, ↓gIf_tf, ↓gIf_ft, ↓gIf_u, ↓gIfW_u, ↓gIfW_tt, ↓gIfW_ff, ↓gIfW_tf, ↓gIfW_ft, binI, divI, shiftI, add_mk, Nat.zero_add, cond_true, cond_false, decide_true, decide_false, Bool.not_true, Bool.not_false, Bool.and_true, Bool.true_and, Bool.and_false, Bool.false_and, Int.toNat_natCast, Nat.mul_one, ↓ePEqN]
  exact h
theorem DrawnN_c (h : K (.int .i64 0) w) : GCalls Tryd.prog 31 [.pointer none] K X w := by
  apply draw_Source_Drawn.calls; unfold draw_Source_Drawn.b
  simp only [↓eBinI, ↓eDiv, ↓eShift, ↓eBinS, ↓ePick, ↓eNot, ↓eNeg, ↓eConv, ↓eConvS, ↓eExt0, ↓eExt1, ↓eExt2, ↓eFA, ↓eIA, ↓eLenSl, ↓eCapSl, ↓eLenS, ↓eMin, ↓eMax, ↓eCondT, ↓eCondF, ↓gIf_tt, ↓gIf_ff, ↓gIf_tf, ↓gIf_ft, ↓gIf_u, ↓gIfW_u, ↓gIfW_tt, ↓gIfW_ff, ↓gIfW_tf, ↓gIfW_ft, binI, divI, shiftI, add_mk, Nat.zero_add, cond_true, cond_false, decide_true, decide_false, Bool.not_true, Bool.not_false, Bool.and_true, Bool.true_and, Bool.and_false, Bool.false_and, Int.toNat_natCast, Nat.mul_one, ↓ePEqN]
  exact h
theorem CloneN_c (h : K (.pointer none) w) : GCalls Tryd.prog 28 [.pointer none] K X w := by
  apply draw_Source_Clone.calls; unfold draw_Source_Clone.b
  simp only [↓eBinI, ↓eDiv, ↓eShift, ↓eBinS, ↓ePick, ↓eNot, ↓eNeg, ↓eConv, ↓eConvS, ↓eExt0, ↓eExt1, ↓eExt2, ↓eFA, ↓eIA, ↓eLenSl, ↓eCapSl, ↓eLenS, ↓eMin, ↓eMax, ↓eCondT, ↓eCondF, ↓gIf_tt, ↓gIf_ff, ↓gIf_tf, ↓gIf_ft, ↓gIf_u, ↓gIfW_u, ↓gIfW_tt, ↓gIfW_ff, ↓gIfW_tf, ↓gIfW_ft, binI, divI, shiftI, add_mk, Nat.zero_add, cond_true, cond_false, decide_true, decide_false, Bool.not_true, Bool.not_false, Bool.and_true, Bool.true_and, Bool.and_false, Bool.false_and, Int.toNat_natCast, Nat.mul_one, ↓ePEqN]
  exact h
theorem BytesN_c {l : Int} (h : K (.slice none 0 0) w) : GCalls Tryd.prog 27 [.pointer none, .int .i64 l] K X w := by
  apply draw_Source_Bytes.calls; unfold draw_Source_Bytes.b
  simp only [↓eBinI, ↓eDiv, ↓eShift, ↓eBinS, ↓ePick, ↓eNot, ↓eNeg, ↓eConv, ↓eConvS, ↓eExt0, ↓eExt1, ↓eExt2, ↓eFA, ↓eIA, ↓eLenSl, ↓eCapSl, ↓eLenS, ↓eMin, ↓eMax, ↓eCondT, ↓eCondF, ↓gIf_tt, ↓gIf_ff, ↓gIf_tf, ↓gIf_ft, ↓gIf_u, ↓gIfW_u, ↓gIfW_tt, ↓gIfW_ff, ↓gIfW_tf, ↓gIfW_ft, binI, divI, shiftI, add_mk, Nat.zero_add, cond_true, cond_false, decide_true, decide_false, Bool.not_true, Bool.not_false, Bool.and_true, Bool.true_and, Bool.and_false, Bool.false_and, Int.toNat_natCast, Nat.mul_one, ↓ePEqN, show (true != false) = true from rfl]
  exact h
set_option maxHeartbeats 1000000 in
set_option maxRecDepth 100000 in
theorem DrawAlike_c {x : Value} {seed : List UInt8} {n : Int} (hb : TB w) (hx : Rd (.slice .byte) D w [x] seed) (h : ∀ w', Ext w w' → K (.bool true) w') : GCalls Tryd.prog 6 [x, .int .i64 n] K X w := by
  have h2 := hb.kt.two
  obtain ⟨ax, cx, rfl, hcx, hlx⟩ := hx.form
  apply oubliettelaw14_DrawAlike.calls; unfold oubliettelaw14_DrawAlike.b
  by_cases c1 : (seed.length : Int) > 100
  · simp only [↓eBinI, ↓eDiv, ↓eShift, ↓eBinS, ↓ePick, ↓eNot, ↓eNeg, ↓eConv, ↓eConvS, ↓eExt0, ↓eExt1, ↓eExt2, ↓eFA, ↓eIA, ↓eLenSl, ↓eCapSl, ↓eLenS, ↓eMin, ↓eMax, ↓eCondT, ↓eCondF, ↓gIf_tt, ↓gIf_ff, ↓gIf_tf, ↓gIf_ft, ↓gIf_u, ↓gIfW_u, ↓gIfW_tt, ↓gIfW_ff, ↓gIfW_tf, ↓gIfW_ft, binI, divI, shiftI, add_mk, Nat.zero_add, cond_true, cond_false, decide_true, decide_false, Bool.not_true, Bool.not_false, Bool.and_true, Bool.true_and, Bool.and_false, Bool.false_and, Int.toNat_natCast, Nat.mul_one, c1]
    exact alive_c hb h
  by_cases c2 : n < 0
  · simp only [↓eBinI, ↓eDiv, ↓eShift, ↓eBinS, ↓ePick, ↓eNot, ↓eNeg, ↓eConv, ↓eConvS, ↓eExt0, ↓eExt1, ↓eExt2, ↓eFA, ↓eIA, ↓eLenSl, ↓eCapSl, ↓eLenS, ↓eMin, ↓eMax, ↓eCondT, ↓eCondF, ↓gIf_tt, ↓gIf_ff, ↓gIf_tf, ↓gIf_ft, ↓gIf_u, ↓gIfW_u, ↓gIfW_tt, ↓gIfW_ff, ↓gIfW_tf, ↓gIfW_ft, binI, divI, shiftI, add_mk, Nat.zero_add, cond_true, cond_false, decide_true, decide_false, Bool.not_true, Bool.not_false, Bool.and_true, Bool.true_and, Bool.and_false, Bool.false_and, Int.toNat_natCast, Nat.mul_one, c1, c2]
    exact alive_c hb h
  by_cases c3 : n > 20
  · simp only [↓eBinI, ↓eDiv, ↓eShift, ↓eBinS, ↓ePick, ↓eNot, ↓eNeg, ↓eConv, ↓eConvS, ↓eExt0, ↓eExt1, ↓eExt2, ↓eFA, ↓eIA, ↓eLenSl, ↓eCapSl, ↓eLenS, ↓eMin, ↓eMax, ↓eCondT, ↓eCondF, ↓gIf_tt, ↓gIf_ff, ↓gIf_tf, ↓gIf_ft, ↓gIf_u, ↓gIfW_u, ↓gIfW_tt, ↓gIfW_ff, ↓gIfW_tf, ↓gIfW_ft, binI, divI, shiftI, add_mk, Nat.zero_add, cond_true, cond_false, decide_true, decide_false, Bool.not_true, Bool.not_false, Bool.and_true, Bool.true_and, Bool.and_false, Bool.false_and, Int.toNat_natCast, Nat.mul_one, c1, c2, c3]
    exact alive_c hb h
  simp only [↓eBinI, ↓eDiv, ↓eShift, ↓eBinS, ↓ePick, ↓eNot, ↓eNeg, ↓eConv, ↓eConvS, ↓eExt0, ↓eExt1, ↓eExt2, ↓eFA, ↓eIA, ↓eLenSl, ↓eCapSl, ↓eLenS, ↓eMin, ↓eMax, ↓eCondT, ↓eCondF, ↓gIf_tt, ↓gIf_ff, ↓gIf_tf, ↓gIf_ft, ↓gIf_u, ↓gIfW_u, ↓gIfW_tt, ↓gIfW_ff, ↓gIfW_tf, ↓gIfW_ft, binI, divI, shiftI, add_mk, Nat.zero_add, cond_true, cond_false, decide_true, decide_false, Bool.not_true, Bool.not_false, Bool.and_true, Bool.true_and, Bool.and_false, Bool.false_and, Int.toNat_natCast, Nat.mul_one, c1, c2, c3]
  obtain ⟨m, rfl⟩ : ∃ m : Nat, n = (m : Int) := ⟨n.toNat, by omega⟩
  refine New_c (by omega) hx (by omega) fun g sb w1 h1 q1 q2 q3 s1 => ?_
  have lg := s1.lt
  refine oubliettelaw14_DrawAlike.loop1 (fun x6 w' => ∃ i : Nat, i ≤ m ∧ x6 = .int .i64 i ∧ Ext w w' ∧ Src w' g sb seed i) (fun x6 _ => m - (iv x6).toNat) ⟨0, by omega, rfl, h1, s1⟩ ?_
  rintro x6 gg w2 ⟨i, hi, rfl, h2', s2⟩
  unfold oubliettelaw14_DrawAlike.b1
  by_cases ci : (i : Int) < (m : Int)
  · simp only [↓eBinI, ↓eDiv, ↓eShift, ↓eBinS, ↓ePick, ↓eNot, ↓eNeg, ↓eConv, ↓eConvS, ↓eExt0, ↓eExt1, ↓eExt2, ↓eFA, ↓eIA, ↓eLenSl, ↓eCapSl, ↓eLenS, ↓eMin, ↓eMax, ↓eCondT, ↓eCondF, ↓gIf_tt, ↓gIf_ff, ↓gIf_tf, ↓gIf_ft, ↓gIf_u, ↓gIfW_u, ↓gIfW_tt, ↓gIfW_ff, ↓gIfW_tf, ↓gIfW_ft, binI, divI, shiftI, add_mk, Nat.zero_add, cond_true, cond_false, decide_true, decide_false, Bool.not_true, Bool.not_false, Bool.and_true, Bool.true_and, Bool.and_false, Bool.false_and, Int.toNat_natCast, Nat.mul_one, ci]
    refine (hb.ext h2').draw (B := 0) hb (by omega) s2 (by omega) (by omega) fun v3 w3 f3 s3 r3 => ?_
    have k3 : Ext w w3 := h2'.tn f3 (fun x hx => by omega)
    refine At_c (hb.ext k3).kt (hb.ext k3).pt (hx.ext k3) (by omega) (by omega) fun v4 w4 h4 r4 => ?_
    refine Same_c (r3.ext h4) r4 fun w5 h5 => ?_
    simp only [decide_true]
    simp only [↓eBinI, ↓eDiv, ↓eShift, ↓eBinS, ↓ePick, ↓eNot, ↓eNeg, ↓eConv, ↓eConvS, ↓eExt0, ↓eExt1, ↓eExt2, ↓eFA, ↓eIA, ↓eLenSl, ↓eCapSl, ↓eLenS, ↓eMin, ↓eMax, ↓eCondT, ↓eCondF, ↓gIf_tt, ↓gIf_ff, ↓gIf_tf, ↓gIf_ft, ↓gIf_u, ↓gIfW_u, ↓gIfW_tt, ↓gIfW_ff, ↓gIfW_tf, ↓gIfW_ft, binI, divI, shiftI, add_mk, Nat.zero_add, cond_true, cond_false, decide_true, decide_false, Bool.not_true, Bool.not_false, Bool.and_true, Bool.true_and, Bool.and_false, Bool.false_and, Int.toNat_natCast, Nat.mul_one]
    have e1 : IntKind.i64.wrap ((i : Int) + 1) = ((i + 1 : Nat) : Int) := by rw [wrap64 (by omega) (by omega)]; omega
    try simp only [↓eBinI, ↓eDiv, ↓eShift, ↓eBinS, ↓ePick, ↓eNot, ↓eNeg, ↓eConv, ↓eConvS, ↓eExt0, ↓eExt1, ↓eExt2, ↓eFA, ↓eIA, ↓eLenSl, ↓eCapSl, ↓eLenS, ↓eMin, ↓eMax, ↓eCondT, ↓eCondF, ↓gIf_tt, ↓gIf_ff, ↓gIf_tf, ↓gIf_ft, ↓gIf_u, ↓gIfW_u, ↓gIfW_tt, ↓gIfW_ff, ↓gIfW_tf, ↓gIfW_ft, binI, divI, shiftI, add_mk, Nat.zero_add, cond_true, cond_false, decide_true, decide_false, Bool.not_true, Bool.not_false, Bool.and_true, Bool.true_and, Bool.and_false, Bool.false_and, Int.toNat_natCast, Nat.mul_one, e1]
    exact oubliettelaw14_DrawAlike.leaf1 ⟨i + 1, by omega, rfl, (k3.tr h4).tr h5, (s3.ext h4).ext h5⟩ (by simp only [iv]; omega)
  · simp only [↓eBinI, ↓eDiv, ↓eShift, ↓eBinS, ↓ePick, ↓eNot, ↓eNeg, ↓eConv, ↓eConvS, ↓eExt0, ↓eExt1, ↓eExt2, ↓eFA, ↓eIA, ↓eLenSl, ↓eCapSl, ↓eLenS, ↓eMin, ↓eMax, ↓eCondT, ↓eCondF, ↓gIf_tt, ↓gIf_ff, ↓gIf_tf, ↓gIf_ft, ↓gIf_u, ↓gIfW_u, ↓gIfW_tt, ↓gIfW_ff, ↓gIfW_tf, ↓gIfW_ft, binI, divI, shiftI, add_mk, Nat.zero_add, cond_true, cond_false, decide_true, decide_false, Bool.not_true, Bool.not_false, Bool.and_true, Bool.true_and, Bool.and_false, Bool.false_and, Int.toNat_natCast, Nat.mul_one, ci]
    have : i = m := by omega
    subst this
    have l2 := s2.lt
    refine SClone_c s2 (by omega) fun g' sb' w3 h3 p1 p2 p3 s3 => ?_
    have k3 := h2'.tr h3
    have s2 := s2.ext h3
    have z2 := h2'.size
    have l3 := s3.lt
    have z1 := h1.size
    refine Drawn_c s2 ?_
    simp only [↓eBinI, ↓eDiv, ↓eShift, ↓eBinS, ↓ePick, ↓eNot, ↓eNeg, ↓eConv, ↓eConvS, ↓eExt0, ↓eExt1, ↓eExt2, ↓eFA, ↓eIA, ↓eLenSl, ↓eCapSl, ↓eLenS, ↓eMin, ↓eMax, ↓eCondT, ↓eCondF, ↓gIf_tt, ↓gIf_ff, ↓gIf_tf, ↓gIf_ft, ↓gIf_u, ↓gIfW_u, ↓gIfW_tt, ↓gIfW_ff, ↓gIfW_tf, ↓gIfW_ft, binI, divI, shiftI, add_mk, Nat.zero_add, cond_true, cond_false, decide_true, decide_false, Bool.not_true, Bool.not_false, Bool.and_true, Bool.true_and, Bool.and_false, Bool.false_and, Int.toNat_natCast, Nat.mul_one, show ((i : Int) == (i : Int)) = true from by simp]
    refine (hb.ext k3).draw (B := 0) hb (by omega) s3 (by omega) (by omega) fun v4 w4 f4 s3' r4 => ?_
    have k4 : Ext w w4 := k3.tn f4 (fun x hx => by omega)
    have s2 : Src w4 g sb seed i := s2.fr f4 (by omega) (by omega)
    refine (hb.ext k4).draw (B := 0) hb (by omega) s2 (by omega) (by omega) fun v5 w5 f5 s2' r5 => ?_
    have k5 : Ext w w5 := k4.tn f5 (fun x hx => by omega)
    refine Same_c (r4.fr f5 (fun b hb => by show ¬ b = g; omega)) r5 fun w6 h6 => ?_
    simp only [decide_true]
    simp only [↓eBinI, ↓eDiv, ↓eShift, ↓eBinS, ↓ePick, ↓eNot, ↓eNeg, ↓eConv, ↓eConvS, ↓eExt0, ↓eExt1, ↓eExt2, ↓eFA, ↓eIA, ↓eLenSl, ↓eCapSl, ↓eLenS, ↓eMin, ↓eMax, ↓eCondT, ↓eCondF, ↓gIf_tt, ↓gIf_ff, ↓gIf_tf, ↓gIf_ft, ↓gIf_u, ↓gIfW_u, ↓gIfW_tt, ↓gIfW_ff, ↓gIfW_tf, ↓gIfW_ft, binI, divI, shiftI, add_mk, Nat.zero_add, cond_true, cond_false, decide_true, decide_false, Bool.not_true, Bool.not_false, Bool.and_true, Bool.true_and, Bool.and_false, Bool.false_and, Int.toNat_natCast, Nat.mul_one]
    refine DrawN_c ?_
    simp only [↓eBinI, ↓eDiv, ↓eShift, ↓eBinS, ↓ePick, ↓eNot, ↓eNeg, ↓eConv, ↓eConvS, ↓eExt0, ↓eExt1, ↓eExt2, ↓eFA, ↓eIA, ↓eLenSl, ↓eCapSl, ↓eLenS, ↓eMin, ↓eMax, ↓eCondT, ↓eCondF, ↓gIf_tt, ↓gIf_ff, ↓gIf_tf, ↓gIf_ft, ↓gIf_u, ↓gIfW_u, ↓gIfW_tt, ↓gIfW_ff, ↓gIfW_tf, ↓gIfW_ft, binI, divI, shiftI, add_mk, Nat.zero_add, cond_true, cond_false, decide_true, decide_false, Bool.not_true, Bool.not_false, Bool.and_true, Bool.true_and, Bool.and_false, Bool.false_and, Int.toNat_natCast, Nat.mul_one, show ((((0 : Nat)) : Int) == 0) = true from by decide]
    refine DrawnN_c ?_
    simp only [↓eBinI, ↓eDiv, ↓eShift, ↓eBinS, ↓ePick, ↓eNot, ↓eNeg, ↓eConv, ↓eConvS, ↓eExt0, ↓eExt1, ↓eExt2, ↓eFA, ↓eIA, ↓eLenSl, ↓eCapSl, ↓eLenS, ↓eMin, ↓eMax, ↓eCondT, ↓eCondF, ↓gIf_tt, ↓gIf_ff, ↓gIf_tf, ↓gIf_ft, ↓gIf_u, ↓gIfW_u, ↓gIfW_tt, ↓gIfW_ff, ↓gIfW_tf, ↓gIfW_ft, binI, divI, shiftI, add_mk, Nat.zero_add, cond_true, cond_false, decide_true, decide_false, Bool.not_true, Bool.not_false, Bool.and_true, Bool.true_and, Bool.and_false, Bool.false_and, Int.toNat_natCast, Nat.mul_one, show ((0 : Int) == 0) = true from by decide]
    refine BytesN_c ?_
    simp only [↓eBinI, ↓eDiv, ↓eShift, ↓eBinS, ↓ePick, ↓eNot, ↓eNeg, ↓eConv, ↓eConvS, ↓eExt0, ↓eExt1, ↓eExt2, ↓eFA, ↓eIA, ↓eLenSl, ↓eCapSl, ↓eLenS, ↓eMin, ↓eMax, ↓eCondT, ↓eCondF, ↓gIf_tt, ↓gIf_ff, ↓gIf_tf, ↓gIf_ft, ↓gIf_u, ↓gIfW_u, ↓gIfW_tt, ↓gIfW_ff, ↓gIfW_tf, ↓gIfW_ft, binI, divI, shiftI, add_mk, Nat.zero_add, cond_true, cond_false, decide_true, decide_false, Bool.not_true, Bool.not_false, Bool.and_true, Bool.true_and, Bool.and_false, Bool.false_and, Int.toNat_natCast, Nat.mul_one, show ((((0 : Nat)) : Int) == 0) = true from by decide]
    refine CloneN_c ?_
    simp only [↓eBinI, ↓eDiv, ↓eShift, ↓eBinS, ↓ePick, ↓eNot, ↓eNeg, ↓eConv, ↓eConvS, ↓eExt0, ↓eExt1, ↓eExt2, ↓eFA, ↓eIA, ↓eLenSl, ↓eCapSl, ↓eLenS, ↓eMin, ↓eMax, ↓eCondT, ↓eCondF, ↓gIf_tt, ↓gIf_ff, ↓gIf_tf, ↓gIf_ft, ↓gIf_u, ↓gIfW_u, ↓gIfW_tt, ↓gIfW_ff, ↓gIfW_tf, ↓gIfW_ft, binI, divI, shiftI, add_mk, Nat.zero_add, cond_true, cond_false, decide_true, decide_false, Bool.not_true, Bool.not_false, Bool.and_true, Bool.true_and, Bool.and_false, Bool.false_and, Int.toNat_natCast, Nat.mul_one, ↓ePEqN, show (true != false) = true from rfl]
    refine alive_c (hb.ext (k5.tr h6)) fun w7 h7 => ?_
    try simp only [↓eBinI, ↓eDiv, ↓eShift, ↓eBinS, ↓ePick, ↓eNot, ↓eNeg, ↓eConv, ↓eConvS, ↓eExt0, ↓eExt1, ↓eExt2, ↓eFA, ↓eIA, ↓eLenSl, ↓eCapSl, ↓eLenS, ↓eMin, ↓eMax, ↓eCondT, ↓eCondF, ↓gIf_tt, ↓gIf_ff, ↓gIf_tf, ↓gIf_ft, ↓gIf_u, ↓gIfW_u, ↓gIfW_tt, ↓gIfW_ff, ↓gIfW_tf, ↓gIfW_ft, binI, divI, shiftI, add_mk, Nat.zero_add, cond_true, cond_false, decide_true, decide_false, Bool.not_true, Bool.not_false, Bool.and_true, Bool.true_and, Bool.and_false, Bool.false_and, Int.toNat_natCast, Nat.mul_one]
    exact h _ ((k5.tr h6).tr h7)
end Go.Proofs.YtkpgmaiklfjjgaaDoor
end
