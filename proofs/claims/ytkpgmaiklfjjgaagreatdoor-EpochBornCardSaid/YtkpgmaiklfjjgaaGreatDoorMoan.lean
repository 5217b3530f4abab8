/-
  Numbers as digits; what is drawn, of both sides.
  The row's frame: what comes in reads as lists and numbers; a law that hands back true and turns nothing holds.
  What the rows' conditions say of the tables that start-up code lays.
-/
import Derived.Test.YtkpgmaiklfjjgaaGreatDoorMoam
import Derived.WalkKit
import Derived.ProofKit
import Derived.OpenShut
import Derived.Carry
import Derived.Test.YtkpgmaiklfjjgaaGreatDoorCards
import Derived.Test.YtkpgmaiklfjjgaaGreatDoorTie
import Derived.ChangeSame
import Derived.ChangeVars
import Derived.JoinedOf
import Derived.RowKit
import Derived.RowKitTokens
import Derived.LaidLaws
import Derived.LaidMore
import Derived.LaidHandle
import Derived.LaidByTextLater
import Derived.SevenTiedAt
import Derived.Lib.LaidTab
import Derived.Stop.Joined
import Derived.Stop.LaidErr
import Derived.MakeChecks
section
set_option linter.unusedSimpArgs false
set_option linter.unusedVariables false
namespace Go.Proofs.YtkpgmaiklfjjgaaGreatDoor
open Go Go.G Go.RowKit
variable {X : KX} {w : World} {K : KV} {D D' : Nat → Prop}
/-- The table of the powers lies where start-up code laid it. -/
def PT (w : World) : Prop := Lib.TabIs Tryz.prog w "internal/strconv.uint64pow10" .u64 Lib.pow10Tab
theorem tab_fr {T : Nat → Prop} {w w' : World} {name : String} {k : IntKind} {zs : List Int} (h : Lib.TabIs Tryz.prog w name k zs) (e : Fr T w w') (hT : ∀ g, Tryz.prog.globalNamed name = some g → ¬ T g) : Lib.TabIs Tryz.prog w' name k zs := by
  unfold Lib.TabIs World.var? at *
  cases hg : Tryz.prog.globalNamed name with
  | none => rw [hg] at h; exact h
  | some g =>
    rw [hg] at h
    simp only [Option.bind_some] at h ⊢
    cases hh : w.heap[g]? with
    | none => rw [hh] at h; cases h
    | some o => rw [e.heap hh (hT g hg)]; rw [hh] at h; exact h
theorem PT.ext {w w' : World} (h : PT w) (e : Ext w w') : PT w' := tab_fr h e (fun _ _ h => h)
theorem ext_drewN (w : World) (k : Nat) : Ext w (w.drewN k) := ⟨rfl, rfl, rfl, Nat.le_refl _, fun _ _ _ => rfl⟩
theorem ext_grow (w : World) (os : Array Obj) : Ext w (Go.Sort.grow w os) := ⟨rfl, rfl, rfl, by simp [Go.Sort.grow], fun b hb _ => by
  show (w.heap ++ os)[b]? = _
  rw [Array.getElem?_append_left hb]⟩
theorem dec_len : ∀ (k n : Nat), n < 10 ^ (k + 1) → (Lib.decDigits n).length ≤ k + 1
  | 0, n, h => by rw [Lib.decDigits, dif_pos (by omega)]; simp
  | k + 1, n, h => by
    by_cases c : n < 10
    · rw [Lib.decDigits, dif_pos c]; simp
    · rw [Lib.decDigits, dif_neg c, List.length_append]
      have := dec_len k (n / 10) (by rw [Nat.pow_succ] at h; omega)
      simp; omega
theorem num_Print_c {n : Nat} (hn : n < 1000000) (pt : PT w) (h : ∀ w', Ext w w' → K (.string ⟨(Lib.decDigits n).toArray⟩) w') : GCalls Tryz.prog 49 [.int .i64 n] K X w := by
  apply num_Print.calls; unfold num_Print.b
  have c1 : ¬ ((n : Int) < 0) := by omega
  simp only [↓eBinI, ↓eDiv, ↓eShift, ↓eBinS, ↓ePick, ↓eNot, ↓eNeg, ↓eConv, ↓eConvS, ↓eExt0, ↓eExt1, ↓eExt2, ↓eFA, ↓eIA, ↓eLenSl, ↓eCapSl, ↓eLenS, ↓eMin, ↓eMax, ↓eCondT, ↓eCondF, ↓gIf_tt, ↓gIf_ff, ↓gIf_tf, ↓gIf_ft, ↓gIf_u, ↓gIfW_u, ↓gIfW_tt, ↓gIfW_ff, ↓gIfW_tf, ↓gIfW_ft, binI, divI, shiftI, add_mk, Nat.zero_add, cond_true, cond_false, decide_true, decide_false, Bool.not_true, Bool.not_false, Bool.and_true, Bool.true_and, Bool.and_false, Bool.false_and, Int.toNat_natCast, Nat.mul_one, c1]
  refine (?_ : GCalls Tryz.prog 68 [.int .i64 n] _ X w)
  apply strconv_Itoa.calls; unfold strconv_Itoa.b
  refine (?_ : GCalls Tryz.prog 80 [.int .i64 n] _ X w)
  refine .inl ⟨⟨_, Tryz.func80, by kernel_rfl, by kernel_rfl⟩, (Any.internal_strconv_Itoa Tryz.itoaL n (by omega) (by omega) w pt).mono fun e w' he => ?_⟩
  obtain ⟨rfl, k, os, rfl⟩ := he
  have : Lib.itoa (n : Int) = Lib.decDigits n := by
    unfold Lib.itoa; rw [if_neg (by omega), Int.toNat_natCast]
  show K (.string ⟨(Lib.itoa (n : Int)).toArray⟩) _
  rw [this]
  exact h _ ((ext_drewN w k).tr (ext_grow _ os))
theorem ba_of (a b : List UInt8) : ((⟨a.toArray⟩ : ByteArray) ++ ⟨b.toArray⟩) = ⟨(a ++ b).toArray⟩ := by
  apply ByteArray.ext; simp
theorem ref_Print_c : ∀ (m n : Nat), n ≤ m → n < 1000000 → ∀ {w : World} {K : KV}, (∀ w', Ext w w' → K (.string ⟨(Lib.decDigits n).toArray⟩) w') → GCalls Tryz.prog 34 [.int .i64 n] K X w := by
  intro m
  induction m with
  | zero =>
    intro n hm hn w K h
    have : n = 0 := by omega
    subst this
    apply oublietteref01_Print.calls; unfold oublietteref01_Print.b
    have e1 : IntKind.u8.wrap (IntKind.i64.wrap (48 + ((0 : Nat) : Int))) = (((48 : UInt8).toNat : Nat) : Int) := by decide
    simp only [↓eBinI, ↓eDiv, ↓eShift, ↓eBinS, ↓ePick, ↓eNot, ↓eNeg, ↓eConv, ↓eConvS, ↓eExt0, ↓eExt1, ↓eExt2, ↓eFA, ↓eIA, ↓eLenSl, ↓eCapSl, ↓eLenS, ↓eMin, ↓eMax, ↓eCondT, ↓eCondF, ↓gIf_tt, ↓gIf_ff, ↓gIf_tf, ↓gIf_ft, ↓gIf_u, ↓gIfW_u, ↓gIfW_tt, ↓gIfW_ff, ↓gIfW_tf, ↓gIfW_ft, binI, divI, shiftI, add_mk, Nat.zero_add, cond_true, cond_false, decide_true, decide_false, Bool.not_true, Bool.not_false, Bool.and_true, Bool.true_and, Bool.and_false, Bool.false_and, Int.toNat_natCast, Nat.mul_one, show decide (((0 : Nat) : Int) < 0) = false from by decide, show decide (((0 : Nat) : Int) < 10) = true from by decide, e1]
    refine bslice1 rfl fun r w2 hr h2 c2 => ?_
    refine strOf (S := (· = w2)) (w := w2) (D := Any1) (bs := [48]) (fun w' e => e ▸ Rd.of_rows (bv_rows Any1 w2 [48]) (fun _ h => h) (by simp) (by simp) fun i u hi => ⟨_, rfl, rfl, trivial, by rw [add_mk, Nat.zero_add, c2.c]; exact hi⟩) rfl ?_
    have := h w2 h2
    rw [Lib.decDigits, dif_pos (by omega)] at this
    exact this
  | succ m ih =>
    intro n hm hn w K h
    apply oublietteref01_Print.calls; unfold oublietteref01_Print.b
    have c0 : ¬ ((n : Int) < 0) := by omega
    by_cases c : n < 10
    · have c1 : (n : Int) < 10 := by omega
      have e1 : IntKind.u8.wrap (IntKind.i64.wrap (48 + (n : Int))) = (((UInt8.ofNat (48 + n)).toNat : Nat) : Int) := by rw [wrap64 (by omega) (by omega), wrapU8, ← u8_of]; rfl
      simp only [↓eBinI, ↓eDiv, ↓eShift, ↓eBinS, ↓ePick, ↓eNot, ↓eNeg, ↓eConv, ↓eConvS, ↓eExt0, ↓eExt1, ↓eExt2, ↓eFA, ↓eIA, ↓eLenSl, ↓eCapSl, ↓eLenS, ↓eMin, ↓eMax, ↓eCondT, ↓eCondF, ↓gIf_tt, ↓gIf_ff, ↓gIf_tf, ↓gIf_ft, ↓gIf_u, ↓gIfW_u, ↓gIfW_tt, ↓gIfW_ff, ↓gIfW_tf, ↓gIfW_ft, binI, divI, shiftI, add_mk, Nat.zero_add, cond_true, cond_false, decide_true, decide_false, Bool.not_true, Bool.not_false, Bool.and_true, Bool.true_and, Bool.and_false, Bool.false_and, Int.toNat_natCast, Nat.mul_one, c0, c1, e1]
      refine bslice1 rfl fun r w2 hr h2 c2 => ?_
      refine strOf (S := (· = w2)) (w := w2) (D := Any1) (bs := [UInt8.ofNat (48 + n)]) (fun w' e => e ▸ Rd.of_rows (bv_rows Any1 w2 [UInt8.ofNat (48 + n)]) (fun _ h => h) (by simp) (by simp) fun i u hi => ⟨_, rfl, rfl, trivial, by rw [add_mk, Nat.zero_add, c2.c]; exact hi⟩) rfl ?_
      have := h w2 h2
      rw [Lib.decDigits, dif_pos c] at this
      exact this
    · have c1 : ¬ ((n : Int) < 10) := by omega
      have e1 : (n : Int).tdiv 10 = ((n / 10 : Nat) : Int) := by rw [Int.tdiv_eq_ediv_of_nonneg (by omega)]; omega
      have e2 : (n : Int).tmod 10 = ((n % 10 : Nat) : Int) := by rw [Int.tmod_eq_emod_of_nonneg (by omega)]; omega
      have e3 : IntKind.i64.wrap ((n / 10 : Nat) : Int) = ((n / 10 : Nat) : Int) := wrap64 (by omega) (by omega)
      simp only [↓eBinI, ↓eDiv, ↓eShift, ↓eBinS, ↓ePick, ↓eNot, ↓eNeg, ↓eConv, ↓eConvS, ↓eExt0, ↓eExt1, ↓eExt2, ↓eFA, ↓eIA, ↓eLenSl, ↓eCapSl, ↓eLenS, ↓eMin, ↓eMax, ↓eCondT, ↓eCondF, ↓gIf_tt, ↓gIf_ff, ↓gIf_tf, ↓gIf_ft, ↓gIf_u, ↓gIfW_u, ↓gIfW_tt, ↓gIfW_ff, ↓gIfW_tf, ↓gIfW_ft, binI, divI, shiftI, add_mk, Nat.zero_add, cond_true, cond_false, decide_true, decide_false, Bool.not_true, Bool.not_false, Bool.and_true, Bool.true_and, Bool.and_false, Bool.false_and, Int.toNat_natCast, Nat.mul_one, c0, c1, e1, e2, e3, ne_eq, show ¬ ((10 : Int) = 0) from by decide, not_false_eq_true, true_and]
      refine ih (n / 10) (by omega) (by omega) fun w1 h1 => ?_
      refine ih (n % 10) (by omega) (by omega) fun w2 h2 => ?_
      have l1 := dec_len 6 (n / 10) (by omega)
      have l2 := dec_len 6 (n % 10) (by omega)
      have hm : IntKind.i64.max = 9223372036854775807 := by decide
      have s1 : (⟨(Lib.decDigits (n / 10)).toArray⟩ : ByteArray).size = (Lib.decDigits (n / 10)).length := rfl
      have s2 : (⟨(Lib.decDigits (n % 10)).toArray⟩ : ByteArray).size = (Lib.decDigits (n % 10)).length := rfl
      simp only [↓eBinS, binS, ba_of]
      refine ⟨by rw [hm, s1, s2]; omega, ?_⟩
      have := h w2 (h1.tr h2)
      rw [Lib.decDigits, dif_neg c] at this
      have e : Lib.decDigits (n % 10) = [UInt8.ofNat (48 + n % 10)] := by rw [Lib.decDigits, dif_pos (by omega)]
      rw [e]; exact this
def drawL (n : Nat) : List UInt8 := [100, 114, 97, 119, 32] ++ Lib.decDigits n
def atF (seed : List UInt8) (n : Nat) : List UInt8 := deriveF seed (drawL n)
theorem atF_len (seed : List UInt8) (n : Nat) : (atF seed n).length = 32 := deriveF_len _ _
theorem draw_str (n : Nat) : ((⟨#[100, 114, 97, 119, 32]⟩ : ByteArray) ++ ⟨(Lib.decDigits n).toArray⟩).data.toList = drawL n := by rw [ba_list]; rfl
theorem At_c {x : Value} {seed : List UInt8} {n : Nat} (hk : KT w) (pt : PT w) (hx : Rd (.slice .byte) D w [x] seed) (hl : seed.length ≤ 1000) (hn : n < 1000000)
    (h : ∀ v w', Ext w w' → Rd (.slice .byte) (w.heap.size ≤ ·) w' [v] (atF seed n) → K v w') : GCalls Tryz.prog 61 [x, .int .i64 n] K X w := by
  apply draw_At.calls; unfold draw_At.b
  refine num_Print_c hn pt fun w1 h1 => ?_
  have l1 := dec_len 6 n (by omega)
  have hm : IntKind.i64.max = 9223372036854775807 := by decide
  have s1 : (⟨(Lib.decDigits n).toArray⟩ : ByteArray).size = (Lib.decDigits n).length := rfl
  have s2 : (⟨#[100, 114, 97, 119, 32]⟩ : ByteArray).size = 5 := rfl
  simp only [↓eBinS, binS]
  refine ⟨by rw [hm, s1, s2]; omega, ?_⟩
  have hd := draw_str n
  refine Derive_c (hk.ext h1) (hx.ext h1) hl (by rw [hd]; simp [drawL]; omega) fun v w2 h2 r2 => ?_
  rw [hd] at r2
  exact h _ _ (h1.tr h2) (r2.wide (fun b hb => Nat.le_trans h1.size hb))
end Go.Proofs.YtkpgmaiklfjjgaaGreatDoor
end
section
set_option linter.unusedSimpArgs false
set_option linter.unusedVariables false
namespace Go.G
open Go Go.ChangeShapes Go.WideShapes Go.ChangeAt Go.RowKit
/-- Whatever is read at this type of the program reads as this. -/
def Opens (P : Program) (t : TypeId) (ty : Ty) : Prop :=
  ∀ (H : Type) (enc : TypeId × Value → H) (w : World) (sp : Nat → Bool) (fuel : Nat) (cs : List Value) (x : DataW H × List MemPlace),
    DataW.trod enc P w 0 sp true fuel t cs = some x → ∃ y, Rd ty (fun b => b < w.heap.size) w cs y
variable {P : Program} {t : TypeId}
theorem wf_min_max {k : IntKind} {n : Int} (h : (Lit.int k n).wf = true) : k.min ≤ n ∧ n ≤ k.max := by
  simp only [Lit.wf, Bool.and_eq_true, decide_eq_true_eq] at h; exact h
theorem opens_int {k : IntKind} (ht : P.underlying t = some (.int k)) : Opens P t (.int k) := fun H enc w sp fuel cs x h => by
  obtain ⟨n, rfl, _, hw⟩ := DataW.trod_int ht h
  exact ⟨n, rfl, wf_min_max hw⟩
theorem opens_byte (ht : P.underlying t = some (.int .u8)) : Opens P t .byte := fun H enc w sp fuel cs x h => by
  obtain ⟨n, rfl, _, hw⟩ := DataW.trod_int ht h
  have := wf_min_max hw
  simp [IntKind.min, IntKind.max, IntKind.signed, IntKind.bits] at this
  refine ⟨UInt8.ofNat n.toNat, ?_⟩
  show [Value.int .u8 n] = [Value.int .u8 _]
  congr 2
  rw [UInt8.toNat_ofNat']
  omega
theorem opens_bool (ht : P.underlying t = some .bool) : Opens P t .bool := fun H enc w sp fuel cs x h => by
  obtain ⟨b, rfl, _⟩ := DataW.trod_bool ht h
  exact ⟨b, rfl⟩
theorem opens_str (ht : P.underlying t = some .string) : Opens P t .str := fun H enc w sp fuel cs x h => by
  obtain ⟨s, rfl, _, hl⟩ := DataW.trod_string ht h
  refine ⟨s.data.toList, ?_, ?_⟩
  · simp
  · simp [maxLen] at hl ⊢
    have : s.data.size = s.size := rfl
    omega
theorem list_choice {α : Type} {p : Nat → α → Prop} : ∀ (n : Nat), (∀ i, i < n → ∃ y, p i y) → ∃ l : List α, l.length = n ∧ ∀ i (h : i < l.length), p i l[i]
  | 0, _ => ⟨[], rfl, fun i h => by simp at h⟩
  | n + 1, h => by
    obtain ⟨l, hl, hp⟩ := list_choice n (fun i hi => h i (by omega))
    obtain ⟨y, hy⟩ := h n (by omega)
    refine ⟨l ++ [y], by simp [hl], fun i hi => ?_⟩
    by_cases hin : i < l.length
    · rw [List.getElem_append_left hin]; exact hp i hin
    · have : i = l.length := by simp at hi; omega
      subst this
      rw [List.getElem_append_right (by omega)]
      simpa [hl] using hy
theorem opens_slice {e : TypeId} {ty : Ty} (ht : P.underlying t = some (.slice e)) (hc : P.cellsOf e = ty.n) (he : Opens P e ty) : Opens P t (.slice ty) := fun H enc w sp fuel cs x h => by
  rcases DataW.trod_slice ht h with ⟨rfl, _⟩ | ⟨a, len, cap, elems, rest, n, rfl, rfl, _, _, hlc, hcm, hel, hget, _, _⟩
  · exact ⟨[], none, 0, rfl, Nat.le_refl _, by simp, fun h => absurd rfl h⟩
  · have hp := ty.n_pos
    have hspot : 0 < len → a.spot = none := fun h0 => by
      have hg := hget 0 h0
      rw [List.getElem?_eq_getElem (by omega)] at hg
      obtain ⟨cs, h1, _⟩ := Option.bind_eq_some_iff.1 hg
      obtain ⟨_, hlen, hcell⟩ := World.cells?_some h1
      rw [hc] at hcell hlen
      have h0 := hcell 0 (by omega)
      rw [List.getElem?_eq_getElem (by omega), add_zero, Nat.zero_mul, add_zero] at h0
      exact World.cell?_spot h0
    have key : ∀ i, i < len → ∃ y, a.spot = none ∧ a.block < w.heap.size ∧ ∃ cs : List Value, cs.length = ty.n ∧ (∀ j v, cs[j]? = some v → w.cell? (a.add (i * ty.n + j)) = some v) ∧ Rd ty (fun b => b < w.heap.size) w cs y := by
      intro i hi
      have hg := hget i hi
      rw [List.getElem?_eq_getElem (by omega)] at hg
      obtain ⟨cs, h1, h2⟩ := Option.bind_eq_some_iff.1 hg
      obtain ⟨_, hlen, hcell⟩ := World.cells?_some h1
      obtain ⟨y, hy⟩ := he H enc w sp n cs _ h2
      rw [hc] at hcell hlen
      have h0 := hcell 0 (by omega)
      rw [List.getElem?_eq_getElem (by omega)] at h0
      have hsp : a.spot = none := hspot (by omega)
      refine ⟨y, hsp, ?_, cs, hlen, fun j v hj => ?_, hy⟩
      · have := cell_lt h0
        rwa [add_block, add_block] at this
      · have hjl := (List.getElem?_eq_some_iff.1 hj).1
        have := hcell j (by omega)
        rw [add_add _ _ _ hsp] at this
        rw [this]; exact hj
    obtain ⟨ys, hl, hy⟩ := list_choice len key
    refine ⟨ys, some a, cap, by rw [hl], by omega, by simp [maxLen] at hcm; omega, fun hne => ?_⟩
    have hpos : 0 < ys.length := List.length_pos_iff.2 hne
    obtain ⟨s0, b0, _⟩ := hy 0 hpos
    exact ⟨a, rfl, s0, b0, fun i hi => (hy i hi).2.2⟩
theorem opens_pair {fs : Array Field} {f1 f2 : Field} {a b : Ty} (ht : P.underlying t = some (.struct fs)) (hf : fs = #[f1, f2]) (hn : P.cellsOf t = a.n + b.n) (o1 : f1.offset = 0) (o2 : f2.offset = a.n) (c1 : P.cellsOf f1.type = a.n) (c2 : P.cellsOf f2.type = b.n)
    (h1 : Opens P f1.type a) (h2 : Opens P f2.type b) : Opens P t (.pair a b) := fun H enc w sp fuel cs x h => by
  subst hf
  obtain ⟨xs, n, _, _, hl, hxl, hx⟩ := DataW.trod_struct ht h
  have g1 := hx 0 f1 rfl
  have g2 := hx 1 f2 rfl
  simp at hxl
  rw [List.getElem?_eq_getElem (by omega), o1, c1] at g1
  rw [List.getElem?_eq_getElem (by omega), o2, c2] at g2
  obtain ⟨y1, hy1⟩ := h1 H enc w sp n _ _ g1
  obtain ⟨y2, hy2⟩ := h2 H enc w sp n _ _ g2
  rw [hn] at hl
  refine ⟨(y1, y2), cs.take a.n, cs.drop a.n, (List.take_append_drop _ _).symm, by simp; omega, by simp; omega, by simpa using hy1, ?_⟩
  rw [List.take_of_length_le (by simp; omega)] at hy2
  exact hy2
theorem opens_three {fs : Array Field} {f1 f2 f3 : Field} {a b c : Ty} (ht : P.underlying t = some (.struct fs)) (hf : fs = #[f1, f2, f3]) (hn : P.cellsOf t = a.n + (b.n + c.n)) (o1 : f1.offset = 0) (o2 : f2.offset = a.n) (o3 : f3.offset = a.n + b.n) (c1 : P.cellsOf f1.type = a.n) (c2 : P.cellsOf f2.type = b.n) (c3 : P.cellsOf f3.type = c.n)
    (h1 : Opens P f1.type a) (h2 : Opens P f2.type b) (h3 : Opens P f3.type c) : Opens P t (.pair a (.pair b c)) := fun H enc w sp fuel cs x h => by
  subst hf
  obtain ⟨xs, n, _, _, hl, hxl, hx⟩ := DataW.trod_struct ht h
  have g1 := hx 0 f1 rfl
  have g2 := hx 1 f2 rfl
  have g3 := hx 2 f3 rfl
  simp at hxl
  rw [List.getElem?_eq_getElem (by omega), o1, c1] at g1
  rw [List.getElem?_eq_getElem (by omega), o2, c2] at g2
  rw [List.getElem?_eq_getElem (by omega), o3, c3] at g3
  obtain ⟨y1, hy1⟩ := h1 H enc w sp n _ _ g1
  obtain ⟨y2, hy2⟩ := h2 H enc w sp n _ _ g2
  obtain ⟨y3, hy3⟩ := h3 H enc w sp n _ _ g3
  rw [hn] at hl
  refine ⟨(y1, y2, y3), cs.take a.n, cs.drop a.n, (List.take_append_drop _ _).symm, by simp; omega, by simp [Ty.n]; omega, by simpa using hy1, (cs.drop a.n).take b.n, (cs.drop a.n).drop b.n, (List.take_append_drop _ _).symm, by simp; omega, by simp; omega, hy2, ?_⟩
  rw [List.take_of_length_le (by simp; omega)] at hy3
  rw [List.drop_drop]
  exact hy3
theorem trodAll_stays {H : Type} {enc : TypeId × Value → H} (hl : laidOutB P = true) {W W' : World} (hb : Below W.heap.size W W') : ∀ {ts : List TypeId} {vs : List Value} {ds : List (DataW H)} {ps : List MemPlace}, (∀ t ∈ ts, P.readableRec t = true ∧ t < P.types.size) →
    DataW.TrodAll enc P W 0 (fun _ => true) true ts vs ds ps → DataW.TrodAll enc P W' 0 (fun b => decide (b < W.heap.size)) true ts vs ds ps
  | [], [], [], _, _, h => h
  | t :: ts, v :: vs, d :: ds, ps, hr, h => by
    obtain ⟨p, q, h1, h2, h3⟩ := h
    refine ⟨p, q, ?_, trodAll_stays hl hb (fun t ht => hr t (List.mem_cons_of_mem _ ht)) h2, h3⟩
    obtain ⟨fuel, hf⟩ := h1
    exact Below.trod hl (hr t (by simp)).1 (hr t (by simp)).2 ⟨fuel, hf⟩ hb (fun x hx => DataW.trod_lt _ _ _ _ hf x hx)
  | [], _ :: _, _, _, _, h => by simp [DataW.TrodAll] at h
  | [], [], _ :: _, _, _, h => by simp [DataW.TrodAll] at h
  | _ :: _, [], _, _, _, h => by simp [DataW.TrodAll] at h
  | _ :: _, _ :: _, [], _, _, h => by simp [DataW.TrodAll] at h
theorem trodAll_len {H : Type} {enc : TypeId × Value → H} {W : World} {base : Nat} {sp : Nat → Bool} {hd : Bool} : ∀ {ts : List TypeId} {vs : List Value} {ds : List (DataW H)} {ps : List MemPlace}, DataW.TrodAll enc P W base sp hd ts vs ds ps → ds.length = ts.length ∧ vs.length = ts.length
  | [], [], [], _, _ => ⟨rfl, rfl⟩
  | t :: ts, v :: vs, d :: ds, _, h => by
    obtain ⟨p, q, _, h2, _⟩ := h
    have := trodAll_len h2
    simp [this]
  | [], _ :: _, _, _, h => by simp [DataW.TrodAll] at h
  | [], [], _ :: _, _, h => by simp [DataW.TrodAll] at h
  | _ :: _, [], _, _, h => by simp [DataW.TrodAll] at h
  | _ :: _, _ :: _, [], _, h => by simp [DataW.TrodAll] at h
theorem Ext.below {w w' : World} (h : Ext w w') : Below w.heap.size w w' := ⟨h.os, h.tape, h.output, h.size, fun k hk => h.keep k hk (fun h => h)⟩
/-- A law: it hands back true, and nothing has turned. -/
theorem law_end {fn : Func} {s : ChangeSpec} {H : Type} {enc : TypeId × Value → H} {W : World} {args : Array Value} {ds gs : List (DataW H)} {before : List MemPlace} {f : FuncId} {tb : TypeId}
    (hW : DataW.Whole enc P fn.params.toList s.vars false W args.toList ds gs before) (hv : s.vars = []) (hs : ∀ ds : List (DataW H), ds.length = fn.params.toList.length → s.fn H ds = { results := [.lit (.bool true)], args := ds })
    (hr : fn.resultTypes = #[tb]) (hb : P.underlying tb = some .bool) (hl : laidOutB P = true) (hp : ∀ t ∈ fn.params.toList, P.readableRec t = true ∧ t < P.types.size)
    (walk : GCalls P f args.toList (fun v w' => v = .bool true ∧ Ext W w') (fun _ _ => False) W) (hfb : ((P.funcs[f]?).bind (·.body)).isSome = true := by kernel_rfl) :
    Calls P f args W fun e w' => ∃ v, e = .returned v ∧ s.post enc P fn false true false false W args v w' := by
  have hw := walk.calls hfb
  rw [Array.toArray_toList] at hw
  refine hw.mono fun e w' he => ?_
  cases e with
  | returned v =>
    obtain ⟨rfl, hE⟩ := he
    refine ⟨_, rfl, ds, gs, before, [], before, [], hW, ?_⟩
    obtain ⟨p, q, hA, hV, rfl, _, _⟩ := hW
    rw [hv] at hV
    cases gs with
    | cons _ _ => simp [DataW.TrodVars] at hV
    | nil =>
    have hq : q = [] := hV
    subst hq
    rw [List.append_nil, hs ds (trodAll_len hA).1, hr]
    simp only [List.append_nil]
    refine ⟨?_, trodAll_stays hl hE.below hp hA, ?_, hE.below.frame _, fun h => by cases h⟩
    · refine ⟨[], [], ⟨1, ?_⟩, rfl, rfl⟩
      simp [DataW.trod, hb, Value.cells]
    · rw [hv]; rfl
  | panicked ch => exact he.elim
  | outgrown => exact he.elim
end Go.G
end
section
set_option maxRecDepth 100000
set_option linter.unusedVariables false
namespace Go.Proofs.YtkpgmaiklfjjgaaGreatDoor
open Go Go.G Go.ChangeShapes Go.WideShapes Go.ChangeAt Go.RowKit
theorem opens_bytes : Opens Tryz.prog 22 (.slice .byte) := opens_slice Tryz.underlying22 (by kernel_rfl) (opens_byte Tryz.underlying5)
def kInts : List Int := kT.map fun x => (x.toNat : Int)
theorem k_data : (Rows.laid_oubliette_sha_k : DataW Unit) = Lib.tabData .u32 kInts := by kernel_rfl
theorem p_data : (Rows.laid_internal_strconv_uint64pow10 : DataW Unit) = Lib.tabData .u64 Lib.pow10Tab := by kernel_rfl
abbrev laid4 : List (String × DataW Unit) := [("math/bits.deBruijn32tab", Rows.laid_math_bits_deBruijn32tab), ("math/bits.deBruijn64tab", Rows.laid_math_bits_deBruijn64tab), ("internal/strconv.uint64pow10", Rows.laid_internal_strconv_uint64pow10), ("oubliette/sha.k", Rows.laid_oubliette_sha_k)]
theorem gK : Tryz.prog.globalNamed "oubliette/sha.k" = some 2 := by kernel_rfl
theorem kt_of {W : World} (h : Lib.TabIs Tryz.prog W "oubliette/sha.k" .u32 kInts) : KT W := fun i hi => by
  have hl : kInts.length = kT.length := by simp [kInts]
  have := h.cell gK i (by omega)
  rw [this]
  simp [kInts, u, List.getD, hi]
theorem gP : Tryz.prog.globalNamed "internal/strconv.uint64pow10" = some 0 := by kernel_rfl
theorem of_laid4 {W : World} (h : laidMetH Tryz.prog laid4 W) : KT W ∧ PT W := by
  rw [MakeChecks.laidMetH_plain _ _ _ (by kernel_rfl)] at h
  unfold laid4 at h
  have h2 := h.tail.tail
  have h3 := h2.tail
  rw [k_data] at h3
  rw [p_data] at h2
  exact ⟨kt_of (Lib.tabIs_of_head gK (by kernel_rfl) Tryz.underlying138 Tryz.underlying137 (by kernel_rfl) (by kernel_rfl) h3),
    Lib.tabIs_of_head gP (by kernel_rfl) Tryz.underlying157 Tryz.underlying89 (by kernel_rfl) (by kernel_rfl) h2⟩
theorem own : ownKnob Tryz.prog.godebug = none := by kernel_rfl
theorem door_met4 (os : Os) (args : Array Value) : laidMetH Tryz.prog laid4 ((World.doorLaid Tryz.prog 600 os).forCall (fun _ _ => 0) ⟨#[], args, []⟩).memory := by
  rw [MakeChecks.laidMetH_plain _ _ _ (by kernel_rfl)]
  exact laidMet_of_run' 8 (by kernel_rfl) (by kernel_rfl)
end Go.Proofs.YtkpgmaiklfjjgaaGreatDoor
end
