/-
  Numbers as digits; what is drawn, of both sides.
-/
import Derived.Test.YtkpgmaiklfjjgaaDoorDn
import Derived.Test.YtkpgmaiklfjjgaaDoorLy
set_option linter.unusedSimpArgs false
set_option linter.unusedVariables false
namespace Go.Proofs.YtkpgmaiklfjjgaaDoor
open Go Go.G Go.RowKit
variable {X : KX} {w : World} {K : KV} {D D' : Nat → Prop}
/-- The table of the powers lies where start-up code laid it. -/
def PT (w : World) : Prop := Lib.TabIs Tryd.prog w "internal/strconv.uint64pow10" .u64 Lib.pow10Tab
theorem tab_fr {T : Nat → Prop} {w w' : World} {name : String} {k : IntKind} {zs : List Int} (h : Lib.TabIs Tryd.prog w name k zs) (e : Fr T w w') (hT : ∀ g, Tryd.prog.globalNamed name = some g → ¬ T g) : Lib.TabIs Tryd.prog w' name k zs := by
  unfold Lib.TabIs World.var? at *
  cases hg : Tryd.prog.globalNamed name with
  | none => rw [hg] at h; exact h
  | some g =>
    rw [hg] at h
    simp only [Option.bind_some] at h ⊢
    cases hh : w.heap[g]? with
    | none => rw [hh] at h; cases h
    | some o => rw [e.heap hh (hT g hg)]; rw [hh] at h; exact h
theorem PT.ext {w w' : World} (h : PT w) (e : Ext w w') : PT w' := tab_fr h e (fun _ _ h => h)
theorem ext_drewN (w : World) (k : Nat) : Ext w (w.drewN k) := ⟨rfl, rfl, rfl, Nat.le_refl _, fun _ _ _ => rfl⟩
theorem ext_grow (w : World) (os : Array Obj) : Ext w (Go.Sort.grow w os) := ⟨rfl, rfl, rfl, by simp [Go.Sort.grow], fun b hb _ => by
  show (w.heap ++ os)[b]? = _
  rw [Array.getElem?_append_left hb]⟩
theorem dec_len : ∀ (k n : Nat), n < 10 ^ (k + 1) → (Lib.decDigits n).length ≤ k + 1
  | 0, n, h => by rw [Lib.decDigits, dif_pos (by omega)]; simp
  | k + 1, n, h => by
    by_cases c : n < 10
    · rw [Lib.decDigits, dif_pos c]; simp
    · rw [Lib.decDigits, dif_neg c, List.length_append]
      have := dec_len k (n / 10) (by rw [Nat.pow_succ] at h; omega)
      simp; omega
theorem num_Print_c {n : Nat} (hn : n < 1000000) (pt : PT w) (h : ∀ w', Ext w w' → K (.string ⟨(Lib.decDigits n).toArray⟩) w') : GCalls Tryd.prog 55 [.int .i64 n] K X w := by
  apply num_Print.calls; unfold num_Print.b
  have c1 : ¬ ((n : Int) < 0) := by omega
  simp only [↓eBinI, ↓eDiv, ↓eShift, ↓eBinS, ↓ePick, ↓eNot, ↓eNeg, ↓eConv, ↓eConvS, ↓eExt0, ↓eExt1, ↓eExt2, ↓eFA, ↓eIA, ↓eLenSl, ↓eCapSl, ↓eLenS, ↓eMin, ↓eMax, ↓eCondT, ↓eCondF, ↓gIf_tt, ↓gIf_ff, ↓gIf_tf, ↓gIf_ft, ↓gIf_u, ↓gIfW_u, ↓gIfW_tt, ↓gIfW_ff, ↓gIfW_tf, ↓gIfW_ft, binI, divI, shiftI, add_mk, Nat.zero_add, cond_true, cond_false, decide_true, decide_false, Bool.not_true, Bool.not_false, Bool.and_true, Bool.true_and, Bool.and_false, Bool.false_and, Int.toNat_natCast, Nat.mul_one, c1]
  refine (?_ : GCalls Tryd.prog 80 [.int .i64 n] _ X w)
  apply strconv_Itoa.calls; unfold strconv_Itoa.b
  refine (?_ : GCalls Tryd.prog 98 [.int .i64 n] _ X w)
  refine .inl ⟨⟨_, Tryd.func98, by kernel_rfl, by kernel_rfl⟩, (Any.internal_strconv_Itoa Tryd.itoaL n (by omega) (by omega) w pt).mono fun e w' he => ?_⟩
  obtain ⟨rfl, k, os, rfl⟩ := he
  have : Lib.itoa (n : Int) = Lib.decDigits n := by
    unfold Lib.itoa; rw [if_neg (by omega), Int.toNat_natCast]
  show K (.string ⟨(Lib.itoa (n : Int)).toArray⟩) _
  rw [this]
  exact h _ ((ext_drewN w k).tr (ext_grow _ os))
theorem ba_of (a b : List UInt8) : ((⟨a.toArray⟩ : ByteArray) ++ ⟨b.toArray⟩) = ⟨(a ++ b).toArray⟩ := by
  apply ByteArray.ext; simp
theorem ref_Print_c : ∀ (m n : Nat), n ≤ m → n < 1000000 → ∀ {w : World} {K : KV}, (∀ w', Ext w w' → K (.string ⟨(Lib.decDigits n).toArray⟩) w') → GCalls Tryd.prog 53 [.int .i64 n] K X w := by
  intro m
  induction m with
  | zero =>
    intro n hm hn w K h
    have : n = 0 := by omega
    subst this
    apply oublietteref01_Print.calls; unfold oublietteref01_Print.b
    have e1 : IntKind.u8.wrap (IntKind.i64.wrap (48 + ((0 : Nat) : Int))) = (((48 : UInt8).toNat : Nat) : Int) := by decide
    simp only [↓eBinI, ↓eDiv, ↓eShift, ↓eBinS, ↓ePick, ↓eNot, ↓eNeg, ↓eConv, ↓eConvS, ↓eExt0, ↓eExt1, ↓eExt2, ↓eFA, ↓eIA, ↓eLenSl, ↓eCapSl, ↓eLenS, ↓eMin, ↓eMax, ↓eCondT, ↓eCondF, ↓gIf_tt, ↓gIf_ff, ↓gIf_tf, ↓gIf_ft, ↓gIf_u, ↓gIfW_u, ↓gIfW_tt, ↓gIfW_ff, ↓gIfW_tf, ↓gIfW_ft, binI, divI, shiftI, add_mk, Nat.zero_add, cond_true, cond_false, decide_true, decide_false, Bool.not_true, Bool.not_false, Bool.and_true, Bool.true_and, Bool.and_false, Bool.false_and, Int.toNat_natCast, Nat.mul_one, show decide (((0 : Nat) : Int) < 0) = false from by decide, show decide (((0 : Nat) : Int) < 10) = true from by decide, e1]
    refine bslice1 rfl fun r w2 hr h2 c2 => ?_
    refine strOf (S := (· = w2)) (w := w2) (D := Any1) (bs := [48]) (fun w' e => e ▸ Rd.of_rows (bv_rows Any1 w2 [48]) (fun _ h => h) (by simp) (by simp) fun i u hi => ⟨_, rfl, rfl, trivial, by rw [add_mk, Nat.zero_add, c2.c]; exact hi⟩) rfl ?_
    have := h w2 h2
    rw [Lib.decDigits, dif_pos (by omega)] at this
    exact this
  | succ m ih =>
    intro n hm hn w K h
    apply oublietteref01_Print.calls; unfold oublietteref01_Print.b
    have c0 : ¬ ((n : Int) < 0) := by omega
    by_cases c : n < 10
    · have c1 : (n : Int) < 10 := by omega
      have e1 : IntKind.u8.wrap (IntKind.i64.wrap (48 + (n : Int))) = (((UInt8.ofNat (48 + n)).toNat : Nat) : Int) := by rw [wrap64 (by omega) (by omega), wrapU8, ← u8_of]; rfl
      simp only [↓eBinI, ↓eDiv, ↓eShift, ↓eBinS, ↓ePick, ↓eNot, ↓eNeg, ↓eConv, ↓eConvS, ↓eExt0, ↓eExt1, ↓eExt2, ↓eFA, ↓eIA, ↓eLenSl, ↓eCapSl, ↓eLenS, ↓eMin, ↓eMax, ↓eCondT, ↓eCondF, ↓gIf_tt, ↓gIf_ff, ↓gIf_tf, ↓gIf_ft, ↓gIf_u, ↓gIfW_u, ↓gIfW_tt, ↓gIfW_ff, ↓gIfW_tf, ↓gIfW_ft, binI, divI, shiftI, add_mk, Nat.zero_add, cond_true, cond_false, decide_true, decide_false, Bool.not_true, Bool.not_false, Bool.and_true, Bool.true_and, Bool.and_false, Bool.false_and, Int.toNat_natCast, Nat.mul_one, c0, c1, e1]
      refine bslice1 rfl fun r w2 hr h2 c2 => ?_
      refine strOf (S := (· = w2)) (w := w2) (D := Any1) (bs := [UInt8.ofNat (48 + n)]) (fun w' e => e ▸ Rd.of_rows (bv_rows Any1 w2 [UInt8.ofNat (48 + n)]) (fun _ h => h) (by simp) (by simp) fun i u hi => ⟨_, rfl, rfl, trivial, by rw [add_mk, Nat.zero_add, c2.c]; exact hi⟩) rfl ?_
      have := h w2 h2
      rw [Lib.decDigits, dif_pos c] at this
      exact this
    · have c1 : ¬ ((n : Int) < 10) := by omega
      have e1 : (n : Int).tdiv 10 = ((n / 10 : Nat) : Int) := by rw [Int.tdiv_eq_ediv_of_nonneg (by omega)]; omega
      have e2 : (n : Int).tmod 10 = ((n % 10 : Nat) : Int) := by rw [Int.tmod_eq_emod_of_nonneg (by omega)]; omega
      have e3 : IntKind.i64.wrap ((n / 10 : Nat) : Int) = ((n / 10 : Nat) : Int) := wrap64 (by omega) (by omega)
      simp only [↓eBinI, ↓eDiv, ↓eShift, ↓eBinS, ↓ePick, ↓eNot, ↓eNeg, ↓eConv, ↓eConvS, ↓eExt0, ↓eExt1, ↓eExt2, ↓eFA, ↓eIA, ↓eLenSl, ↓eCapSl, ↓eLenS, ↓eMin, ↓eMax, ↓eCondT, ↓eCondF, ↓gIf_tt, ↓gIf_ff, ↓gIf_tf, ↓gIf_ft, ↓gIf_u, ↓gIfW_u, ↓gIfW_tt, ↓gIfW_ff, ↓gIfW_tf, ↓gIfW_ft, binI, divI, shiftI, add_mk, Nat.zero_add, cond_true, cond_false, decide_true, decide_false, Bool.not_true, Bool.not_false, Bool.and_true, Bool.true_and, Bool.and_false, Bool.false_and, Int.toNat_natCast, Nat.mul_one, c0, c1, e1, e2, e3, ne_eq, show ¬ ((10 : Int) = 0) from by decide, not_false_eq_true, true_and]
      refine ih (n / 10) (by omega) (by omega) fun w1 h1 => ?_
      refine ih (n % 10) (by omega) (by omega) fun w2 h2 => ?_
      have l1 := dec_len 6 (n / 10) (by omega)
      have l2 := dec_len 6 (n % 10) (by omega)
      have hm : IntKind.i64.max = 9223372036854775807 := by decide
      have s1 : (⟨(Lib.decDigits (n / 10)).toArray⟩ : ByteArray).size = (Lib.decDigits (n / 10)).length := rfl
      have s2 : (⟨(Lib.decDigits (n % 10)).toArray⟩ : ByteArray).size = (Lib.decDigits (n % 10)).length := rfl
      simp only [↓eBinS, binS, ba_of]
      refine ⟨by rw [hm, s1, s2]; omega, ?_⟩
      have := h w2 (h1.tr h2)
      rw [Lib.decDigits, dif_neg c] at this
      have e : Lib.decDigits (n % 10) = [UInt8.ofNat (48 + n % 10)] := by rw [Lib.decDigits, dif_pos (by omega)]
      rw [e]; exact this
def drawL (n : Nat) : List UInt8 := [100, 114, 97, 119, 32] ++ Lib.decDigits n
def atF (seed : List UInt8) (n : Nat) : List UInt8 := deriveF seed (drawL n)
theorem atF_len (seed : List UInt8) (n : Nat) : (atF seed n).length = 32 := deriveF_len _ _
theorem draw_str (n : Nat) : ((⟨#[100, 114, 97, 119, 32]⟩ : ByteArray) ++ ⟨(Lib.decDigits n).toArray⟩).data.toList = drawL n := by rw [ba_list]; rfl
theorem At_c {x : Value} {seed : List UInt8} {n : Nat} (hk : KT w) (pt : PT w) (hx : Rd (.slice .byte) D w [x] seed) (hl : seed.length ≤ 1000) (hn : n < 1000000)
    (h : ∀ v w', Ext w w' → Rd (.slice .byte) (w.heap.size ≤ ·) w' [v] (atF seed n) → K v w') : GCalls Tryd.prog 32 [x, .int .i64 n] K X w := by
  apply draw_At.calls; unfold draw_At.b
  refine num_Print_c hn pt fun w1 h1 => ?_
  have l1 := dec_len 6 n (by omega)
  have hm : IntKind.i64.max = 9223372036854775807 := by decide
  have s1 : (⟨(Lib.decDigits n).toArray⟩ : ByteArray).size = (Lib.decDigits n).length := rfl
  have s2 : (⟨#[100, 114, 97, 119, 32]⟩ : ByteArray).size = 5 := rfl
  simp only [↓eBinS, binS]
  refine ⟨by rw [hm, s1, s2]; omega, ?_⟩
  have hd := draw_str n
  refine Derive_c (hk.ext h1) (hx.ext h1) hl (by rw [hd]; simp [drawL]; omega) fun v w2 h2 r2 => ?_
  rw [hd] at r2
  exact h _ _ (h1.tr h2) (r2.wide (fun b hb => Nat.le_trans h1.size hb))
theorem ref_At_c {x : Value} {seed : List UInt8} {n : Nat} (hx : Rd (.slice .byte) D w [x] seed) (hl : seed.length ≤ 1000) (hn : n < 1000000)
    (h : ∀ v w', Ext w w' → Rd (.slice .byte) (w.heap.size ≤ ·) w' [v] (atF seed n) → K v w') : GCalls Tryd.prog 30 [x, .int .i64 n] K X w := by
  apply oublietteref14_At.calls; unfold oublietteref14_At.b
  refine ref_Print_c n n (Nat.le_refl _) hn fun w1 h1 => ?_
  have l1 := dec_len 6 n (by omega)
  have hm : IntKind.i64.max = 9223372036854775807 := by decide
  have s1 : (⟨(Lib.decDigits n).toArray⟩ : ByteArray).size = (Lib.decDigits n).length := rfl
  have s2 : (⟨#[100, 114, 97, 119, 32]⟩ : ByteArray).size = 5 := rfl
  simp only [↓eBinS, binS]
  refine ⟨by rw [hm, s1, s2]; omega, ?_⟩
  have hd := draw_str n
  refine ref_Derive_c (hx.ext h1) hl (by rw [hd]; simp [drawL]; omega) fun v w2 h2 r2 => ?_
  rw [hd] at r2
  exact h _ _ (h1.tr h2) (r2.wide (fun b hb => Nat.le_trans h1.size hb))
end Go.Proofs.YtkpgmaiklfjjgaaDoor
