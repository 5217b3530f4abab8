/-
  Who knows: what was learned, and what is had of it.
  A clone of who knows; the kinds and parts of all terms.
  The kinds and parts of all terms, laid up.
-/
import Derived.Test.YtkpgmaiklfjjgaaMaal
import Derived.Shelf.SlMaps.Clone
section
set_option linter.unusedSimpArgs false
set_option linter.unusedVariables false
set_option maxRecDepth 100000
namespace Go.Proofs.Ytkpgmaiklfjjgaa
open Go Go.G
variable {X : KX} {w : World} {K : KV} {D D' : Nat → Prop} {gT gK gL : Nat} {F FK : Nat → Prop} {ns : List Node} {ml : List (Int × Value)}
abbrev tyMapI : TypeId := 53
def inL (ml : List (Int × Value)) (i : Int) : Bool := decide (i ∈ ml.map (·.1))
def kindsTo (ns : List Node) (m : Nat) : List Int := (List.range m).map fun (i : Nat) => kindN ns (i : Int)
def partsTo (ns : List Node) (m : Nat) : List (List Int) := (List.range m).map fun (i : Nat) => partsN ns (i : Int)
/-- Who knows, at gK, of the table at gT, in blocks of FK. -/
def Know (w : World) (gK gT gL : Nat) (FK : Nat → Prop) (ns : List Node) (ml : List (Int × Value)) : Prop :=
  ∃ (vk vp vi : Value) (m : Nat) (is : List Bool) (DP DI : Nat → Prop), Cs w gK [.pointer (some ⟨gT, 0, none⟩), .map (some gL), vk, vp, vi] ∧ G.Own (.int .i64) NoB 0 w vk (kindsTo ns m) ∧ G.Own (.slice (.int .i64)) DP 0 w vp (partsTo ns m) ∧ MapB encI w gL ml ∧ Rd (.slice .bool) DI w [vi] is ∧
    (is.length = ns.length + 1 → Least ns (inL ml) (bit is)) ∧ m ≤ ns.length + 1 ∧ (∀ p ∈ ml, 1 ≤ p.1 ∧ p.1 ≤ (ns.length : Int)) ∧
    FK gK ∧ FK gL ∧ (∀ b, Blk vk b → FK b) ∧ (∀ b, Blk vp b → FK b) ∧ (∀ b, DP b → FK b) ∧ (∀ b, DI b → FK b) ∧ (∀ b, FK b → b < w.heap.size) ∧ gK ≠ gL ∧
    (∀ b, Blk vk b → b ≠ gK ∧ b ≠ gL ∧ ¬ Blk vp b ∧ ¬ DP b ∧ ¬ DI b) ∧ (∀ b, Blk vp b → b ≠ gK ∧ b ≠ gL ∧ ¬ DI b) ∧ (∀ b, DP b → b ≠ gK ∧ b ≠ gL) ∧ (∀ b, DI b → b ≠ gK ∧ b ≠ gL)
theorem Know.fr {T : Nat → Prop} {w' : World} (h : Know w gK gT gL FK ns ml) (f : Fr T w w') (hT : ∀ b, FK b → ¬ T b) : Know w' gK gT gL FK ns ml := by
  obtain ⟨vk, vp, vi, m, is, DP, DI, h1, h2, h3, h4, h5, h6, h7, h8, h9, h10, h11, h12, h13, h14, h15, h16⟩ := h
  have z := f.size
  exact ⟨vk, vp, vi, m, is, DP, DI, h1.fr f (hT _ h9), h2.fr f (fun _ h => h.elim) (fun b hb _ => hT b (h11 b hb)), h3.fr f (fun b hb => hT b (h13 b hb)) (fun b hb _ => hT b (h12 b hb)), h4.fr f (hT _ h10), h5.fr f (fun b hb => hT b (h14 b hb)), h6, h7, h8, h9, h10, h11, h12, h13, h14, fun b hb => Nat.lt_of_lt_of_le (h15 b hb) z, h16⟩
theorem Know.ext {w' : World} (h : Know w gK gT gL FK ns ml) (f : Ext w w') : Know w' gK gT gL FK ns ml := h.fr f (fun _ _ h => h)
theorem Know.fp (h : Know w gK gT gL FK ns ml) : ∀ b, FK b → b < w.heap.size := by
  obtain ⟨vk, vp, vi, m, is, DP, DI, h1, h2, h3, h4, h5, h6, h7, h8, h9, h10, h11, h12, h13, h14, h15, h16⟩ := h; exact h15
theorem Know.nums (h : Know w gK gT gL FK ns ml) : ∀ p ∈ ml, 1 ≤ p.1 ∧ p.1 ≤ (ns.length : Int) := by
  obtain ⟨vk, vp, vi, m, is, DP, DI, h1, h2, h3, h4, h5, h6, h7, h8, h9⟩ := h; exact h8
theorem nilBools (D : Nat → Prop) (w : World) : Rd (.slice .bool) D w [.slice none 0 0] ([] : List Bool) := ⟨none, 0, rfl, Nat.le_refl _, by show 0 < _; omega, fun h => absurd rfl h⟩
theorem noBlk {b : Nat} (h : Blk (.slice none 0 0) b) : False := by obtain ⟨_, _, _, e, _⟩ := h; cases e
theorem KNew_c (h : ∀ gK gL FK w', Ext w w' → (∀ b, FK b → w.heap.size ≤ b) → Know w' gK gT gL FK ns [] → K (.pointer (some ⟨gK, 0, none⟩)) w') : GCalls Try.prog 9 [.pointer (some ⟨gT, 0, none⟩)] K X w := by
  apply know_New.calls; unfold know_New.b
  simp only [↓eBinI, ↓eDiv, ↓eShift, ↓eBinS, ↓ePick, ↓eNot, ↓eNeg, ↓eConv, ↓eConvS, ↓eExt0, ↓eExt1, ↓eExt2, ↓eFA, ↓eIA, ↓eLenSl, ↓eCapSl, ↓eLenS, ↓eMin, ↓eMax, ↓eCondT, ↓eCondF, ↓gIf_tt, ↓gIf_ff, ↓gIf_tf, ↓gIf_ft, ↓gIf_u, ↓gIfW_u, ↓gIfW_tt, ↓gIfW_ff, ↓gIfW_tf, ↓gIfW_ft, binI, divI, shiftI, add_mk, Nat.zero_add, cond_true, cond_false, decide_true, decide_false, Bool.not_true, Bool.not_false, Bool.and_true, Bool.true_and, Bool.and_false, Bool.false_and, Int.toNat_natCast, Nat.mul_one, ↓ePEqS]
  refine map_ (κ := Int) (enc := encI) fun gL w1 hg h1 m1 => ?_
  refine ⟨[.pointer (some ⟨gT, 0, none⟩), .map (some gL), .slice none 0 0, .slice none 0 0, .slice none 0 0], by simp [fillL, one_cells, cutIn, Value.cells], ?_⟩
  refine boxC (cs := [.pointer (some ⟨gT, 0, none⟩), .map (some gL), .slice none 0 0, .slice none 0 0, .slice none 0 0]) fun gK w2 hg2 h2 c2 => ?_
  have z1 := h1.size; have z2 := h2.size; have l1 := m1.lt; have l2 := c2.lt
  exact h gK gL (fun b => b = gK ∨ b = gL) w2 (h1.tr h2) (fun b hb => by omega) ⟨.slice none 0 0, .slice none 0 0, .slice none 0 0, 0, [], NoB, NoB, c2, G.Own.nil, G.Own.nil, m1.ext h2, nilBools _ _, fun e => by simp at e, by omega, fun p hp => (by cases hp),
    .inl rfl, .inr rfl, fun b hb => (noBlk hb).elim, fun b hb => (noBlk hb).elim, fun b hb => hb.elim, fun b hb => hb.elim, fun b hb => by omega, by omega, fun b hb => (noBlk hb).elim, fun b hb => (noBlk hb).elim, fun b hb => hb.elim, fun b hb => hb.elim⟩
def markV : Value := .agg #[]
def learnN (ns : List Node) (ml : List (Int × Value)) (ids : List Int) : List (Int × Value) := ids.foldl (fun ml id => if thereN ns id then mput ml id markV else ml) ml
theorem kind_pos (hg : GoodN ns) {id : Int} : kindN ns id > 0 ↔ thereN ns id = true := by
  cases hth : thereN ns id with
  | false => rw [(thereNot hth).1]; simp
  | true =>
    obtain ⟨i, hi, rfl, ek, _⟩ := thereAt hth
    have ⟨hk, _⟩ := hg.form i hi
    rw [ek]
    simp only [iff_true]
    rcases hk with hk | hk | hk | ⟨hk | hk, _⟩ <;> omega
theorem learn_nums {id : Int} (h : ∀ p ∈ ml, 1 ≤ p.1 ∧ p.1 ≤ (ns.length : Int)) (ht : thereN ns id = true) : ∀ p ∈ mput ml id markV, 1 ≤ p.1 ∧ p.1 ≤ (ns.length : Int) := by
  intro p hp
  have hk : p.1 ∈ (mput ml id markV).map (·.1) := List.mem_map.2 ⟨p, hp, rfl⟩
  rw [mput_keys] at hk
  have hold : ∀ k ∈ ml.map (·.1), 1 ≤ k ∧ k ≤ (ns.length : Int) := fun k hk => by
    obtain ⟨q, hq, rfl⟩ := List.mem_map.1 hk; exact h q hq
  split at hk
  · exact hold _ hk
  · rcases List.mem_append.1 hk with hk | hk
    · exact hold _ hk
    · rw [List.mem_singleton.1 hk]; exact thereN_iff.1 ht
set_option maxHeartbeats 1000000 in
theorem Learn_c {x : Value} {ids : List Int} (hk : Know w gK gT gL FK ns ml) (ht : Tab w gT F ns) (hx : Rd (.slice (.int .i64)) D w [x] ids) (hd : ∀ b, FK b → ¬ F b ∧ ¬ D b)
    (h : ∀ w', Fr FK w w' → Know w' gK gT gL FK ns (learnN ns ml ids) → K (.tuple #[]) w') : GCalls Try.prog 10 [.pointer (some ⟨gK, 0, none⟩), x] K X w := by
  obtain ⟨vk, vp, vi, m, is, DP, DI, h1, h2, h3, h4, h5, h6, h7, h8, h9, h10, h11, h12, h13, h14, h15, h16, h17, h18, h19, h20⟩ := hk
  obtain ⟨ax, cx, rfl, _, _⟩ := hx.form
  apply know_Know_Learn.calls; unfold know_Know_Learn.b
  simp only [↓eBinI, ↓eDiv, ↓eShift, ↓eBinS, ↓ePick, ↓eNot, ↓eNeg, ↓eConv, ↓eConvS, ↓eExt0, ↓eExt1, ↓eExt2, ↓eFA, ↓eIA, ↓eLenSl, ↓eCapSl, ↓eLenS, ↓eMin, ↓eMax, ↓eCondT, ↓eCondF, ↓gIf_tt, ↓gIf_ff, ↓gIf_tf, ↓gIf_ft, ↓gIf_u, ↓gIfW_u, ↓gIfW_tt, ↓gIfW_ff, ↓gIfW_tf, ↓gIfW_ft, binI, divI, shiftI, add_mk, Nat.zero_add, cond_true, cond_false, decide_true, decide_false, Bool.not_true, Bool.not_false, Bool.and_true, Bool.true_and, Bool.and_false, Bool.false_and, Int.toNat_natCast, Nat.mul_one, ↓ePEqS]
  refine know_Know_Learn.loop1 (fun x10 w' => ∃ i : Nat, i ≤ ids.length ∧ x10 = .int .i64 (i : Int) ∧ Fr (· = gL) w w' ∧ MapB encI w' gL (learnN ns ml (ids.take i)) ∧ ∀ p ∈ learnN ns ml (ids.take i), 1 ≤ p.1 ∧ p.1 ≤ (ns.length : Int)) (fun x10 _ => ids.length - (iv x10).toNat)
    ⟨0, by omega, rfl, Fr.refl _ _, h4, h8⟩ ?_
  rintro x10 gg w1 ⟨i, hi, rfl, f1, m1, n1⟩
  unfold know_Know_Learn.b1
  have z1 := f1.size
  have c1 := h1.fr f1 h16
  by_cases ci : (i : Int) < (ids.length : Int)
  · have hi' : i < ids.length := by omega
    have nD : ∀ b, D b → ¬ b = gL := fun b hb e => (hd gL h10).2 (e ▸ hb)
    obtain ⟨ad, k1, u1, e1, s1, _, q1, r1⟩ := (hx.fr f1 nD).idx rfl hi'
    simp only [Value.slice.injEq] at e1
    obtain ⟨rfl, -, rfl⟩ := e1
    have v1 := r1.1
    simp only [List.cons.injEq, and_true] at v1
    subst v1
    have hin : InI ids[i] := ⟨r1.2.1, r1.2.2⟩
    have t1 := ht.fr f1 (fun b hb e => (hd gL h10).1 (e ▸ hb))
    have e0 : IntKind.i64.wrap ((i : Int) + 1) = ((i + 1 : Nat) : Int) := by rw [wrap64 (by omega) (by omega)]; omega
    have el : learnN ns ml (ids.take (i + 1)) = if thereN ns ids[i] then mput (learnN ns ml (ids.take i)) ids[i] markV else learnN ns ml (ids.take i) := by
      rw [learnN, List.take_succ_eq_append_getElem hi', List.foldl_append]; rfl
    simp only [↓eBinI, ↓eDiv, ↓eShift, ↓eBinS, ↓ePick, ↓eNot, ↓eNeg, ↓eConv, ↓eConvS, ↓eExt0, ↓eExt1, ↓eExt2, ↓eFA, ↓eIA, ↓eLenSl, ↓eCapSl, ↓eLenS, ↓eMin, ↓eMax, ↓eCondT, ↓eCondF, ↓gIf_tt, ↓gIf_ff, ↓gIf_tf, ↓gIf_ft, ↓gIf_u, ↓gIfW_u, ↓gIfW_tt, ↓gIfW_ff, ↓gIfW_tf, ↓gIfW_ft, binI, divI, shiftI, add_mk, Nat.zero_add, cond_true, cond_false, decide_true, decide_false, Bool.not_true, Bool.not_false, Bool.and_true, Bool.true_and, Bool.and_false, Bool.false_and, Int.toNat_natCast, Nat.mul_one, ci]
    refine ⟨by omega, by first | trivial | omega, ?_⟩
    simp only [↓eLdW, q1, Option.some.injEq, exists_eq_left']
    simp only [↓eBinI, ↓eDiv, ↓eShift, ↓eBinS, ↓ePick, ↓eNot, ↓eNeg, ↓eConv, ↓eConvS, ↓eExt0, ↓eExt1, ↓eExt2, ↓eFA, ↓eIA, ↓eLenSl, ↓eCapSl, ↓eLenS, ↓eMin, ↓eMax, ↓eCondT, ↓eCondF, ↓gIf_tt, ↓gIf_ff, ↓gIf_tf, ↓gIf_ft, ↓gIf_u, ↓gIfW_u, ↓gIfW_tt, ↓gIfW_ff, ↓gIfW_tf, ↓gIfW_ft, binI, divI, shiftI, add_mk, Nat.zero_add, cond_true, cond_false, decide_true, decide_false, Bool.not_true, Bool.not_false, Bool.and_true, Bool.true_and, Bool.and_false, Bool.false_and, Int.toNat_natCast, Nat.mul_one, ↓ePNil, ↓c1.c0]
    refine Kind_c t1 hin fun w2 h2' => ?_
    have z2 := h2'.size
    have c2 := c1.ext h2'
    by_cases hp : kindN ns ids[i] > 0
    · have hth := (kind_pos t1.good).1 hp
      rw [hth, if_pos rfl] at el
      simp only [↓eBinI, ↓eDiv, ↓eShift, ↓eBinS, ↓ePick, ↓eNot, ↓eNeg, ↓eConv, ↓eConvS, ↓eExt0, ↓eExt1, ↓eExt2, ↓eFA, ↓eIA, ↓eLenSl, ↓eCapSl, ↓eLenS, ↓eMin, ↓eMax, ↓eCondT, ↓eCondF, ↓gIf_tt, ↓gIf_ff, ↓gIf_tf, ↓gIf_ft, ↓gIf_u, ↓gIfW_u, ↓gIfW_tt, ↓gIfW_ff, ↓gIfW_tf, ↓gIfW_ft, binI, divI, shiftI, add_mk, Nat.zero_add, cond_true, cond_false, decide_true, decide_false, Bool.not_true, Bool.not_false, Bool.and_true, Bool.true_and, Bool.and_false, Bool.false_and, Int.toNat_natCast, Nat.mul_one, hp, ↓ePNil, ↓c2.c1]
      refine ⟨[], rfl, ?_⟩
      refine (?_ : pRunU Try.prog (Instr.mapUpdate tyMapI (.map (some gL)) (encI ids[i]) markV) w2 _)
      refine eMapUpd (m1.ext h2') keyI Try.underlying53 Try.underlying3 fun w3 m3 f3 => ?_
      unfold know_Know_Learn.j1
      simp only [↓eBinI, ↓eDiv, ↓eShift, ↓eBinS, ↓ePick, ↓eNot, ↓eNeg, ↓eConv, ↓eConvS, ↓eExt0, ↓eExt1, ↓eExt2, ↓eFA, ↓eIA, ↓eLenSl, ↓eCapSl, ↓eLenS, ↓eMin, ↓eMax, ↓eCondT, ↓eCondF, ↓gIf_tt, ↓gIf_ff, ↓gIf_tf, ↓gIf_ft, ↓gIf_u, ↓gIfW_u, ↓gIfW_tt, ↓gIfW_ff, ↓gIfW_tf, ↓gIfW_ft, binI, divI, shiftI, add_mk, Nat.zero_add, cond_true, cond_false, decide_true, decide_false, Bool.not_true, Bool.not_false, Bool.and_true, Bool.true_and, Bool.and_false, Bool.false_and, Int.toNat_natCast, Nat.mul_one, e0]
      exact know_Know_Learn.leaf1 ⟨i + 1, by omega, rfl, (f1.trans h2' (fun _ _ h => h.elim)).trans f3 (fun _ _ h => h), by rw [el]; exact m3, by rw [el]; exact learn_nums n1 hth⟩ (by simp only [iv]; omega)
    · have hth : thereN ns ids[i] = false := by
        cases hc : thereN ns ids[i] with
        | false => rfl
        | true => exact absurd ((kind_pos t1.good).2 hc) hp
      rw [hth, if_neg (by simp)] at el
      simp only [↓eBinI, ↓eDiv, ↓eShift, ↓eBinS, ↓ePick, ↓eNot, ↓eNeg, ↓eConv, ↓eConvS, ↓eExt0, ↓eExt1, ↓eExt2, ↓eFA, ↓eIA, ↓eLenSl, ↓eCapSl, ↓eLenS, ↓eMin, ↓eMax, ↓eCondT, ↓eCondF, ↓gIf_tt, ↓gIf_ff, ↓gIf_tf, ↓gIf_ft, ↓gIf_u, ↓gIfW_u, ↓gIfW_tt, ↓gIfW_ff, ↓gIfW_tf, ↓gIfW_ft, binI, divI, shiftI, add_mk, Nat.zero_add, cond_true, cond_false, decide_true, decide_false, Bool.not_true, Bool.not_false, Bool.and_true, Bool.true_and, Bool.and_false, Bool.false_and, Int.toNat_natCast, Nat.mul_one, hp]
      unfold know_Know_Learn.j1
      simp only [↓eBinI, ↓eDiv, ↓eShift, ↓eBinS, ↓ePick, ↓eNot, ↓eNeg, ↓eConv, ↓eConvS, ↓eExt0, ↓eExt1, ↓eExt2, ↓eFA, ↓eIA, ↓eLenSl, ↓eCapSl, ↓eLenS, ↓eMin, ↓eMax, ↓eCondT, ↓eCondF, ↓gIf_tt, ↓gIf_ff, ↓gIf_tf, ↓gIf_ft, ↓gIf_u, ↓gIfW_u, ↓gIfW_tt, ↓gIfW_ff, ↓gIfW_tf, ↓gIfW_ft, binI, divI, shiftI, add_mk, Nat.zero_add, cond_true, cond_false, decide_true, decide_false, Bool.not_true, Bool.not_false, Bool.and_true, Bool.true_and, Bool.and_false, Bool.false_and, Int.toNat_natCast, Nat.mul_one, e0]
      exact know_Know_Learn.leaf1 ⟨i + 1, by omega, rfl, f1.trans h2' (fun _ _ h => h.elim), by rw [el]; exact m1.ext h2', by rw [el]; exact n1⟩ (by simp only [iv]; omega)
  · have hi' : i = ids.length := by omega
    subst hi'
    rw [List.take_length] at m1 n1
    simp only [↓eBinI, ↓eDiv, ↓eShift, ↓eBinS, ↓ePick, ↓eNot, ↓eNeg, ↓eConv, ↓eConvS, ↓eExt0, ↓eExt1, ↓eExt2, ↓eFA, ↓eIA, ↓eLenSl, ↓eCapSl, ↓eLenS, ↓eMin, ↓eMax, ↓eCondT, ↓eCondF, ↓gIf_tt, ↓gIf_ff, ↓gIf_tf, ↓gIf_ft, ↓gIf_u, ↓gIfW_u, ↓gIfW_tt, ↓gIfW_ff, ↓gIfW_tf, ↓gIfW_ft, binI, divI, shiftI, add_mk, Nat.zero_add, cond_true, cond_false, decide_true, decide_false, Bool.not_true, Bool.not_false, Bool.and_true, Bool.true_and, Bool.and_false, Bool.false_and, Int.toNat_natCast, Nat.mul_one, ci, ↓ePNil]
    refine c1.set (i := 4) (by simp) rfl fun w2 c2 f2 => ?_
    have z2 := f2.size
    have f12 : Fr (fun b => b = gL ∨ b = gK) w w2 := (f1.mono (fun _ _ h => .inl h)).trans f2 (fun _ _ h => .inr h)
    refine h w2 (f12.mono (fun b _ hb => by rcases hb with rfl | rfl <;> assumption)) ⟨vk, vp, .slice none 0 0, m, [], DP, NoB, c2, ?_, ?_, m1.fr f2 (fun e => h16 e.symm), nilBools _ _, fun e => by simp at e, h7, n1, h9, h10, h11, h12, h13, fun b hb => hb.elim, fun b hb => by have := h15 b hb; omega, h16, fun b hb => ⟨(h17 b hb).1, (h17 b hb).2.1, (h17 b hb).2.2.1, (h17 b hb).2.2.2.1, fun h => h⟩, fun b hb => ⟨(h18 b hb).1, (h18 b hb).2.1, fun h => h⟩, h19, fun b hb => hb.elim⟩
    · exact h2.fr f12 (fun _ h => h.elim) (fun b hb _ e => by rcases e with e | e
                                                              · exact (h17 b hb).2.1 e
                                                              · exact (h17 b hb).1 e)
    · exact h3.fr f12 (fun b hb e => by rcases e with e | e
                                        · exact (h19 b hb).2 e
                                        · exact (h19 b hb).1 e) (fun b hb _ e => by rcases e with e | e
                                                                                    · exact (h18 b hb).2.1 e
                                                                                    · exact (h18 b hb).1 e)
end Go.Proofs.Ytkpgmaiklfjjgaa
end
section
set_option linter.unusedSimpArgs false
set_option linter.unusedVariables false
set_option maxRecDepth 100000
namespace Go.Proofs.Ytkpgmaiklfjjgaa
open Go Go.G
variable {X : KX} {w : World} {K : KV} {D D' : Nat → Prop} {gT gK gL : Nat} {F FK : Nat → Prop} {ns : List Node} {ml : List (Int × Value)}
theorem MClone_c (hm : MapB encI w gL ml) (h : ∀ g w', w.heap.size = g → Ext w w' → MapB encI w' g ml → K (.map (some g)) w') : GCalls Try.prog 28 [.map (some gL)] K X w := by
  obtain ⟨es, cl, hb, hs, hl⟩ := hm
  apply maps_Clone_map_int_know_mark_int_know_mark.calls; unfold maps_Clone_map_int_know_mark_int_know_mark.b
  refine ⟨false, rfl, ?_⟩
  simp only [↓eBinI, ↓eDiv, ↓eShift, ↓eBinS, ↓ePick, ↓eNot, ↓eNeg, ↓eConv, ↓eConvS, ↓eExt0, ↓eExt1, ↓eExt2, ↓eFA, ↓eIA, ↓eLenSl, ↓eCapSl, ↓eLenS, ↓eMin, ↓eMax, ↓eCondT, ↓eCondF, ↓gIf_tt, ↓gIf_ff, ↓gIf_tf, ↓gIf_ft, ↓gIf_u, ↓gIfW_u, ↓gIfW_tt, ↓gIfW_ff, ↓gIfW_tf, ↓gIfW_ft, binI, divI, shiftI, add_mk, Nat.zero_add, cond_true, cond_false, decide_true, decide_false, Bool.not_true, Bool.not_false, Bool.and_true, Bool.true_and, Bool.and_false, Bool.false_and, Int.toNat_natCast, Nat.mul_one, show (false != false) = false from rfl]
  refine .inr ⟨.iface tyMapI (.map (some w.heap.size)), w.alloc (.map es cl), ?_, ?_⟩
  · rw [run_callFunc_extern Try.func45 (by kernel_rfl) (by kernel_rfl) (by kernel_rfl) (e := Extern.MapsClone.clone) (by kernel_rfl)]
    have hr := Go.Proofs.run_maps_clone_sl (P := Try.prog) w tyMapI hb
    rw [show ([Value.iface 53 (.map (some gL))] : List Value).toArray = #[.iface tyMapI (.map (some gL))] from rfl, hr]
    rfl
  · refine ⟨_, _, Go.Proofs.run_typeAssert_map_sl _ tyMapI 20 _ _ _ Try.underlying53, ?_⟩
    exact h _ _ rfl (Ext.alloc w _) ⟨es, cl, alloc_new w _, hs, hl⟩
theorem KClone_c (hk : Know w gK gT gL FK ns ml) (h : ∀ gK' gL' FK' w', Ext w w' → (∀ b, FK' b → w.heap.size ≤ b) → Know w' gK' gT gL' FK' ns ml → K (.pointer (some ⟨gK', 0, none⟩)) w') : GCalls Try.prog 12 [.pointer (some ⟨gK, 0, none⟩)] K X w := by
  obtain ⟨vk, vp, vi, m, is, DP, DI, h1, h2, h3, h4, h5, h6, h7, h8, _⟩ := hk
  apply know_Know_Clone.calls; unfold know_Know_Clone.b
  simp only [↓eBinI, ↓eDiv, ↓eShift, ↓eBinS, ↓ePick, ↓eNot, ↓eNeg, ↓eConv, ↓eConvS, ↓eExt0, ↓eExt1, ↓eExt2, ↓eFA, ↓eIA, ↓eLenSl, ↓eCapSl, ↓eLenS, ↓eMin, ↓eMax, ↓eCondT, ↓eCondF, ↓gIf_tt, ↓gIf_ff, ↓gIf_tf, ↓gIf_ft, ↓gIf_u, ↓gIfW_u, ↓gIfW_tt, ↓gIfW_ff, ↓gIfW_tf, ↓gIfW_ft, binI, divI, shiftI, add_mk, Nat.zero_add, cond_true, cond_false, decide_true, decide_false, Bool.not_true, Bool.not_false, Bool.and_true, Bool.true_and, Bool.and_false, Bool.false_and, Int.toNat_natCast, Nat.mul_one, ↓ePEqS]
  refine draw_ fun w1 x1 => ?_
  have c1 := h1.ext x1
  simp only [↓eBinI, ↓eDiv, ↓eShift, ↓eBinS, ↓ePick, ↓eNot, ↓eNeg, ↓eConv, ↓eConvS, ↓eExt0, ↓eExt1, ↓eExt2, ↓eFA, ↓eIA, ↓eLenSl, ↓eCapSl, ↓eLenS, ↓eMin, ↓eMax, ↓eCondT, ↓eCondF, ↓gIf_tt, ↓gIf_ff, ↓gIf_tf, ↓gIf_ft, ↓gIf_u, ↓gIfW_u, ↓gIfW_tt, ↓gIfW_ff, ↓gIfW_tf, ↓gIfW_ft, binI, divI, shiftI, add_mk, Nat.zero_add, cond_true, cond_false, decide_true, decide_false, Bool.not_true, Bool.not_false, Bool.and_true, Bool.true_and, Bool.and_false, Bool.false_and, Int.toNat_natCast, Nat.mul_one, ↓ePNil, ↓c1.e0, ↓c1.e1]
  refine MClone_c (h4.ext x1) fun gm w2 hg2 x2 m2 => ⟨x2, ?_⟩
  refine ⟨[.pointer (some ⟨gT, 0, none⟩), .map (some gm), .slice none 0 0, .slice none 0 0, .slice none 0 0], by simp [fillL, one_cells, cutIn, Value.cells], ?_⟩
  refine boxC (cs := [.pointer (some ⟨gT, 0, none⟩), .map (some gm), .slice none 0 0, .slice none 0 0, .slice none 0 0]) fun g3 w3 hg3 x3 c3 => ⟨x2.tr x3, ?_⟩
  have z1 := x1.size; have z2 := x2.size; have z3 := x3.size; have l2 := m2.lt; have l3 := c3.lt
  exact h g3 gm (fun b => b = g3 ∨ b = gm) w3 ((x1.tr x2).tr x3) (fun b hb => by omega) ⟨.slice none 0 0, .slice none 0 0, .slice none 0 0, 0, [], NoB, NoB, c3, G.Own.nil, G.Own.nil, m2.ext x3, nilBools _ _, fun e => by simp at e, by omega, h8,
    .inl rfl, .inr rfl, fun b hb => (noBlk hb).elim, fun b hb => (noBlk hb).elim, fun b hb => hb.elim, fun b hb => hb.elim, fun b hb => by omega, by omega, fun b hb => (noBlk hb).elim, fun b hb => (noBlk hb).elim, fun b hb => hb.elim, fun b hb => hb.elim⟩
end Go.Proofs.Ytkpgmaiklfjjgaa
end
section
set_option linter.unusedSimpArgs false
set_option linter.unusedVariables false
set_option maxRecDepth 100000
namespace Go.Proofs.Ytkpgmaiklfjjgaa
open Go Go.G
variable {X : KX} {w : World} {K : KV} {D D' : Nat → Prop} {gT gK gL : Nat} {F FK : Nat → Prop} {ns : List Node} {ml : List (Int × Value)}
/-- What lies beside what is laid up: rows of kinds and parts, in their own blocks. -/
structure Rows2 (w : World) (FK : Nat → Prop) (gK gL : Nat) (ns : List Node) (vk vp : Value) (DP DI : Nat → Prop) (m : Nat) : Prop where
  ok : G.Own (.int .i64) NoB 0 w vk (kindsTo ns m)
  op : G.Own (.slice (.int .i64)) DP 0 w vp (partsTo ns m)
  fk : ∀ b, Blk vk b → FK b
  fp : ∀ b, Blk vp b → FK b
  fd : ∀ b, DP b → FK b
  lt : ∀ b, FK b → b < w.heap.size
  nk : ∀ b, Blk vk b → b ≠ gK ∧ b ≠ gL ∧ ¬ Blk vp b ∧ ¬ DP b ∧ ¬ DI b
  np : ∀ b, Blk vp b → b ≠ gK ∧ b ≠ gL ∧ ¬ DI b
  nd : ∀ b, DP b → b ≠ gK ∧ b ≠ gL
theorem rd_bd : ∀ {t : Ty} {D : Nat → Prop} {w : World} {vs : List Value} {x : t.D}, Rd t D w vs x → Rd t (fun b => D b ∧ b < w.heap.size) w vs x
  | .int _, _, _, _, _, h => h
  | .byte, _, _, _, _, h => h
  | .bool, _, _, _, _, h => h
  | .str, _, _, _, _, h => h
  | .raw, _, _, _, _, h => h
  | .slice t, D, w, vs, xs, h => by
    obtain ⟨a, c, e, hc, hl, hne⟩ := h
    refine ⟨a, c, e, hc, hl, fun hn => ?_⟩
    obtain ⟨ad, e1, e2, e3, e4⟩ := hne hn
    have hp : 0 < xs.length := List.length_pos_iff.2 hn
    have hlt : ad.block < w.heap.size := by
      obtain ⟨cs, f1, f2, _⟩ := e4 0 hp
      have hn0 := t.n_pos
      have := cell_lt (f2 0 (cs[0]'(by omega)) (List.getElem?_eq_getElem _))
      rwa [add_block] at this
    refine ⟨ad, e1, e2, ⟨e3, hlt⟩, fun i hi => ?_⟩
    obtain ⟨cs, f1, f2, f3⟩ := e4 i hi
    exact ⟨cs, f1, f2, rd_bd f3⟩
  | .pair a b, D, w, vs, x, h => by
    obtain ⟨va, vb, e, ha, hb, h1, h2⟩ := h
    exact ⟨va, vb, e, ha, hb, rd_bd h1, rd_bd h2⟩
theorem kindsTo_succ (ns : List Node) (m : Nat) : kindsTo ns (m + 1) = kindsTo ns m ++ [kindN ns (m : Int)] := by simp [kindsTo, List.range_succ]
theorem partsTo_succ (ns : List Node) (m : Nat) : partsTo ns (m + 1) = partsTo ns m ++ [partsN ns (m : Int)] := by simp [partsTo, List.range_succ]
theorem kindsTo_len (ns : List Node) (m : Nat) : (kindsTo ns m).length = m := by simp [kindsTo]
theorem partsTo_len (ns : List Node) (m : Nat) : (partsTo ns m).length = m := by simp [partsTo]
theorem kindN_in (hg : GoodN ns) (id : Int) : InI (kindN ns id) := by
  cases hth : thereN ns id with
  | false => rw [(thereNot hth).1]; exact ⟨by omega, by omega⟩
  | true =>
    obtain ⟨i, hi, rfl, ek, _⟩ := thereAt hth
    have ⟨hk, _⟩ := hg.form i hi
    rw [ek]
    rcases hk with hk | hk | hk | ⟨hk | hk, _⟩ <;> exact ⟨by omega, by omega⟩
set_option maxHeartbeats 2000000 in
theorem Grow_c {vk vp vi : Value} {DP DI : Nat → Prop} {m : Nat} (c0 : Cs w gK [.pointer (some ⟨gT, 0, none⟩), .map (some gL), vk, vp, vi]) (hr : Rows2 w FK gK gL ns vk vp DP DI m) (hm : m ≤ ns.length + 1) (ht : Tab w gT F ns) (hK : FK gK) (hd : ∀ b, FK b → ¬ F b) (hDI : ∀ b, DI b → b < w.heap.size)
    (hgL : gL < w.heap.size) (hne : gK ≠ gL) (hDK : ¬ DI gK) (hDL : ¬ DI gL)
    (h : ∀ vk' vp' DP' FK' w', Fr (fun b => FK b ∧ b ≠ gL ∧ ¬ DI b) w w' → (∀ b, FK' b → FK b ∨ w.heap.size ≤ b) → (∀ b, FK b → FK' b) → Cs w' gK [.pointer (some ⟨gT, 0, none⟩), .map (some gL), vk', vp', vi] → Rows2 w' FK' gK gL ns vk' vp' DP' DI (ns.length + 1) → K (.tuple #[]) w') :
    GCalls Try.prog 51 [.pointer (some ⟨gK, 0, none⟩)] K X w := by
  have hlen := ht.len
  have lK := c0.lt
  have hg := ht.good
  have hFw := ht.fp
  obtain ⟨ak, ck, ek0, _⟩ := hr.ok.form
  rw [kindsTo_len] at ek0
  apply know_Know_grow.calls; unfold know_Know_grow.b
  rw [ek0] at c0
  simp only [↓eBinI, ↓eDiv, ↓eShift, ↓eBinS, ↓ePick, ↓eNot, ↓eNeg, ↓eConv, ↓eConvS, ↓eExt0, ↓eExt1, ↓eExt2, ↓eFA, ↓eIA, ↓eLenSl, ↓eCapSl, ↓eLenS, ↓eMin, ↓eMax, ↓eCondT, ↓eCondF, ↓gIf_tt, ↓gIf_ff, ↓gIf_tf, ↓gIf_ft, ↓gIf_u, ↓gIfW_u, ↓gIfW_tt, ↓gIfW_ff, ↓gIfW_tf, ↓gIfW_ft, binI, divI, shiftI, add_mk, Nat.zero_add, cond_true, cond_false, decide_true, decide_false, Bool.not_true, Bool.not_false, Bool.and_true, Bool.true_and, Bool.and_false, Bool.false_and, Int.toNat_natCast, Nat.mul_one, ↓ePNil, ↓c0.c2]
  rw [← ek0] at c0
  refine know_Know_grow.loop1 (fun x2 w' => ∃ (m' : Nat) (vk vp : Value) (DP FK' : Nat → Prop), m' ≤ ns.length + 1 ∧ x2 = .int .i64 (m' : Int) ∧ Fr (fun b => FK b ∧ b ≠ gL ∧ ¬ DI b) w w' ∧ (∀ b, FK' b → FK b ∨ w.heap.size ≤ b) ∧ (∀ b, FK b → FK' b) ∧ Cs w' gK [.pointer (some ⟨gT, 0, none⟩), .map (some gL), vk, vp, vi] ∧ Rows2 w' FK' gK gL ns vk vp DP DI m')
    (fun x2 _ => ns.length + 1 - (iv x2).toNat) ⟨m, vk, vp, DP, FK, hm, rfl, Fr.refl _ _, fun b hb => .inl hb, fun b hb => hb, c0, hr⟩ ?_
  rintro x2 gg w1 ⟨m', vk, vp, DP, FK', hm', rfl, f1, g1, g2, c1, r1⟩
  unfold know_Know_grow.b1
  have z1 := f1.size
  have ht1 := ht.fr f1 (fun b hb hh => hd b hh.1 hb)
  have hF1 : ∀ b, F b → ¬ FK' b := fun b hb hh => by
    rcases g1 b hh with hq | hq
    · exact hd b hq hb
    · have := hFw b hb; omega
  simp only [↓eBinI, ↓eDiv, ↓eShift, ↓eBinS, ↓ePick, ↓eNot, ↓eNeg, ↓eConv, ↓eConvS, ↓eExt0, ↓eExt1, ↓eExt2, ↓eFA, ↓eIA, ↓eLenSl, ↓eCapSl, ↓eLenS, ↓eMin, ↓eMax, ↓eCondT, ↓eCondF, ↓gIf_tt, ↓gIf_ff, ↓gIf_tf, ↓gIf_ft, ↓gIf_u, ↓gIfW_u, ↓gIfW_tt, ↓gIfW_ff, ↓gIfW_tf, ↓gIfW_ft, binI, divI, shiftI, add_mk, Nat.zero_add, cond_true, cond_false, decide_true, decide_false, Bool.not_true, Bool.not_false, Bool.and_true, Bool.true_and, Bool.and_false, Bool.false_and, Int.toNat_natCast, Nat.mul_one, ↓ePNil, ↓c1.c0]
  refine TLen_c ht1 ?_
  by_cases ci : (m' : Int) ≤ (ns.length : Int)
  · have nT : ¬ (fun b => Blk vk b ∨ Blk vp b) gK := fun hh => by
      rcases hh with hh | hh
      · exact (r1.nk _ hh).1 rfl
      · exact (r1.np _ hh).1 rfl
    have e0 : IntKind.i64.wrap ((m' : Int) + 1) = ((m' + 1 : Nat) : Int) := by rw [wrap64 (by omega) (by omega)]; omega
    have hin : InI (m' : Int) := ⟨by omega, by omega⟩
    simp only [↓eBinI, ↓eDiv, ↓eShift, ↓eBinS, ↓ePick, ↓eNot, ↓eNeg, ↓eConv, ↓eConvS, ↓eExt0, ↓eExt1, ↓eExt2, ↓eFA, ↓eIA, ↓eLenSl, ↓eCapSl, ↓eLenS, ↓eMin, ↓eMax, ↓eCondT, ↓eCondF, ↓gIf_tt, ↓gIf_ff, ↓gIf_tf, ↓gIf_ft, ↓gIf_u, ↓gIfW_u, ↓gIfW_tt, ↓gIfW_ff, ↓gIfW_tf, ↓gIfW_ft, binI, divI, shiftI, add_mk, Nat.zero_add, cond_true, cond_false, decide_true, decide_false, Bool.not_true, Bool.not_false, Bool.and_true, Bool.true_and, Bool.and_false, Bool.false_and, Int.toNat_natCast, Nat.mul_one, ci]
    refine drawS (fun b => Blk vk b ∨ Blk vp b) fun w2 h2 => ?_
    have c2 := c1.ext h2
    have ld0 : ∀ {K : KP}, pLd (Fr (fun b => Blk vk b ∨ Blk vp b) w2) (.pointer (some ⟨gK, 0, none⟩)) K = K (.pointer (some ⟨gT, 0, none⟩)) := c2.f nT rfl
    have ld2 : ∀ {K : KP}, pLd (Fr (fun b => Blk vk b ∨ Blk vp b) w2) (.pointer (some ⟨gK, 2, none⟩)) K = K vk := c2.f nT rfl
    have ld3 : ∀ {K : KP}, pLd (Fr (fun b => Blk vk b ∨ Blk vp b) w2) (.pointer (some ⟨gK, 3, none⟩)) K = K vp := c2.f nT rfl
    simp only [↓eBinI, ↓eDiv, ↓eShift, ↓eBinS, ↓ePick, ↓eNot, ↓eNeg, ↓eConv, ↓eConvS, ↓eExt0, ↓eExt1, ↓eExt2, ↓eFA, ↓eIA, ↓eLenSl, ↓eCapSl, ↓eLenS, ↓eMin, ↓eMax, ↓eCondT, ↓eCondF, ↓gIf_tt, ↓gIf_ff, ↓gIf_tf, ↓gIf_ft, ↓gIf_u, ↓gIfW_u, ↓gIfW_tt, ↓gIfW_ff, ↓gIfW_tf, ↓gIfW_ft, binI, divI, shiftI, add_mk, Nat.zero_add, cond_true, cond_false, decide_true, decide_false, Bool.not_true, Bool.not_false, Bool.and_true, Bool.true_and, Bool.and_false, Bool.false_and, Int.toNat_natCast, Nat.mul_one, ↓ePNil, ↓ld0, ↓ld2, ↓ld3]
    have z2 := h2.size
    refine Kind_c (ht1.ext h2) hin fun w3 h3 => ⟨h3.mono (fun _ _ h => h.elim), ?_⟩
    have z3 := h3.size
    refine bslice1 rfl fun r4 w4 hr4 h4 c4 => ⟨(h3.tr h4).mono (fun _ _ h => h.elim), ?_⟩
    have z4 := h4.size
    have k4 := (h2.tr h3).tr h4
    have hki := kindN_in hg (m' : Int)
    refine (r1.ok.ext k4).push1 c4 ⟨rfl, hki.1, hki.2⟩ (by omega) (fun h => h) rfl (by rw [kindsTo_len]; omega) fun vk' w5 o5 f5 b5 => ?_
    have z5 := f5.size
    have k5 : Fr (fun b => Blk vk b ∨ Blk vp b) w2 w5 := ((h3.tr h4).mono (fun _ _ h => h.elim)).trans f5 (fun x _ h => .inl h.1)
    refine ⟨k5, ?_⟩
    have ht5 := (ht1.ext k4).fr f5 (fun b hb hh => hF1 b hb (r1.fk b hh.1))
    refine Parts_c ht5 hin fun v w6 h6 r6 => ⟨k5.trans h6 (fun _ _ h => h.elim), ?_⟩
    have z6 := h6.size
    refine bslice1 (by obtain ⟨_, _, e, _⟩ := r6.form; rw [e]; rfl) fun r7 w7 hr7 h7 c7 => ⟨(k5.trans h6 (fun _ _ h => h.elim)).trans h7 (fun _ _ h => h.elim), ?_⟩
    have z7 := h7.size
    have hop5 : G.Own (.slice (.int .i64)) DP 0 w7 vp (partsTo ns m') := ((((r1.op.ext k4).fr f5 (fun b hb hh => (r1.nk b hh.1).2.2.2.1 hb) (fun b hb _ hh => (r1.nk b hh.1).2.2.1 hb)).ext h6).ext h7)
    have hop7 : G.Own (.slice (.int .i64)) (fun b => DP b ∨ (w5.heap.size ≤ b ∧ b < w6.heap.size)) 0 w7 vp (partsTo ns m') := hop5.wide2 (fun b hb => .inl hb) (fun b hb _ hn => by
      rintro (hq | hq)
      · exact hn hq
      · have := r1.lt b (r1.fp b hb); omega)
    refine hop7.push1 c7 (((rd_bd r6).ext h7).wide fun b hb => .inr hb) (by omega) (fun hq => by
      rcases hq with hq | hq
      · have := r1.lt _ (r1.fd _ hq); omega
      · omega) rfl (by rw [partsTo_len]; omega) fun vp' w8 o8 f8 b8 => ?_
    have z8 := f8.size
    have k8 : Fr (fun b => Blk vk b ∨ Blk vp b) w2 w8 := ((k5.trans h6 (fun _ _ h => h.elim)).trans h7 (fun _ _ h => h.elim)).trans f8 (fun x _ h => .inr h.1)
    refine ⟨k8, ?_⟩
    have ok' : one vk' = true := by obtain ⟨a, c, e, _⟩ := o5.form; rw [e]; rfl
    have op' : one vp' = true := by obtain ⟨a, c, e, _⟩ := o8.form; rw [e]; rfl
    have c8 := c2.fr k8 nT
    refine c8.set (i := 2) (by simp) ok' fun w9 c9 f9 => ?_
    refine anew_ ?_
    have z9 := f9.size
    try simp only [↓eBinI, ↓eDiv, ↓eShift, ↓eBinS, ↓ePick, ↓eNot, ↓eNeg, ↓eConv, ↓eConvS, ↓eExt0, ↓eExt1, ↓eExt2, ↓eFA, ↓eIA, ↓eLenSl, ↓eCapSl, ↓eLenS, ↓eMin, ↓eMax, ↓eCondT, ↓eCondF, ↓gIf_tt, ↓gIf_ff, ↓gIf_tf, ↓gIf_ft, ↓gIf_u, ↓gIfW_u, ↓gIfW_tt, ↓gIfW_ff, ↓gIfW_tf, ↓gIfW_ft, binI, divI, shiftI, add_mk, Nat.zero_add, cond_true, cond_false, decide_true, decide_false, Bool.not_true, Bool.not_false, Bool.and_true, Bool.true_and, Bool.and_false, Bool.false_and, Int.toNat_natCast, Nat.mul_one, ↓ePNil]
    refine c9.set (i := 3) (by simp) op' fun w10 c10 f10 => ?_
    refine anew_ ?_
    have z10 := f10.size
    have c10 : Cs w10 gK [.pointer (some ⟨gT, 0, none⟩), .map (some gL), vk', vp', vi] := c10
    try simp only [↓eBinI, ↓eDiv, ↓eShift, ↓eBinS, ↓ePick, ↓eNot, ↓eNeg, ↓eConv, ↓eConvS, ↓eExt0, ↓eExt1, ↓eExt2, ↓eFA, ↓eIA, ↓eLenSl, ↓eCapSl, ↓eLenS, ↓eMin, ↓eMax, ↓eCondT, ↓eCondF, ↓gIf_tt, ↓gIf_ff, ↓gIf_tf, ↓gIf_ft, ↓gIf_u, ↓gIfW_u, ↓gIfW_tt, ↓gIfW_ff, ↓gIfW_tf, ↓gIfW_ft, binI, divI, shiftI, add_mk, Nat.zero_add, cond_true, cond_false, decide_true, decide_false, Bool.not_true, Bool.not_false, Bool.and_true, Bool.true_and, Bool.and_false, Bool.false_and, Int.toNat_natCast, Nat.mul_one]
    rw [e0]
    have nvk : ∀ b, Blk vk' b → Blk vk b ∨ (w1.heap.size ≤ b ∧ b < w5.heap.size) := fun b hb => (b5 b hb).imp id (fun hh => by omega)
    have nvp : ∀ b, Blk vp' b → Blk vp b ∨ (w7.heap.size ≤ b ∧ b < w8.heap.size) := b8
    have lkb : ∀ b, Blk vk b → b < w1.heap.size := fun b hb => r1.lt b (r1.fk b hb)
    have lpb : ∀ b, Blk vp b → b < w1.heap.size := fun b hb => r1.lt b (r1.fp b hb)
    have lK1 := c1.lt
    have nkK : ∀ b, Blk vk' b → b ≠ gK ∧ b ≠ gL := fun b hb => by
      rcases nvk b hb with hq | hq
      · exact ⟨(r1.nk b hq).1, (r1.nk b hq).2.1⟩
      · exact ⟨by omega, by omega⟩
    have npK : ∀ b, Blk vp' b → b ≠ gK ∧ b ≠ gL := fun b hb => by
      rcases nvp b hb with hq | hq
      · exact ⟨(r1.np b hq).1, (r1.np b hq).2.1⟩
      · exact ⟨by omega, by omega⟩
    have ndK : ∀ b, (DP b ∨ (w5.heap.size ≤ b ∧ b < w6.heap.size)) → b ≠ gK ∧ b ≠ gL := fun b hb => by
      rcases hb with hq | hq
      · exact r1.nd b hq
      · exact ⟨by omega, by omega⟩
    have f810 : Fr (· = gK) w8 w10 := f9.trans f10 (fun _ _ h => h)
    have o5' : G.Own (.int .i64) NoB 0 w8 vk' (kindsTo ns m' ++ [kindN ns (m' : Int)]) := ((o5.ext h6).ext h7).fr f8 (fun _ h => h.elim) (fun b hb _ hh => by
      rcases nvk b hb with hq | hq
      · exact (r1.nk b hq).2.2.1 hh.1
      · have := lpb b hh.1; omega)
    refine know_Know_grow.leaf1 ⟨m' + 1, vk', vp', fun b => DP b ∨ (w5.heap.size ≤ b ∧ b < w6.heap.size), fun b => FK' b ∨ (w1.heap.size ≤ b ∧ b < w8.heap.size), by omega, rfl, ?_, fun b hb => ?_, fun b hb => .inl (g2 b hb), c10, ⟨?_, ?_, ?_, ?_, ?_, ?_, ?_, ?_, ?_⟩⟩ (by simp only [iv]; omega)
    · refine ((f1.trans (h2.mono (T' := fun b => Blk vk b ∨ Blk vp b) (fun _ _ h => h.elim)) (fun b hb hh => ?_)).trans k8 (fun b hb hh => ?_)).trans f810 (fun b hb hh => ?_)
      · rcases hh with hh | hh
        · exact ⟨(g1 b (r1.fk b hh)).elim id (fun hq => by omega), (r1.nk b hh).2.1, (r1.nk b hh).2.2.2.2⟩
        · exact ⟨(g1 b (r1.fp b hh)).elim id (fun hq => by omega), (r1.np b hh).2.1, (r1.np b hh).2.2⟩
      · rcases hh with hh | hh
        · exact ⟨(g1 b (r1.fk b hh)).elim id (fun hq => by omega), (r1.nk b hh).2.1, (r1.nk b hh).2.2.2.2⟩
        · exact ⟨(g1 b (r1.fp b hh)).elim id (fun hq => by omega), (r1.np b hh).2.1, (r1.np b hh).2.2⟩
      · rw [hh]; exact ⟨hK, hne, hDK⟩
    · rcases hb with hb | hb
      · exact g1 b hb
      · exact .inr (by omega)
    · rw [kindsTo_succ]
      exact o5'.fr f810 (fun _ h => h.elim) (fun b hb _ e => (nkK b hb).1 e)
    · rw [partsTo_succ]
      exact o8.fr f810 (fun b hb e => (ndK b hb).1 e) (fun b hb _ e => (npK b hb).1 e)
    · intro b hb
      rcases nvk b hb with hq | hq
      · exact .inl (r1.fk b hq)
      · exact .inr (by omega)
    · intro b hb
      rcases nvp b hb with hq | hq
      · exact .inl (r1.fp b hq)
      · exact .inr (by omega)
    · intro b hb
      rcases hb with hq | hq
      · exact .inl (r1.fd b hq)
      · exact .inr (by omega)
    · intro b hb
      rcases hb with hq | hq
      · have := r1.lt b hq; omega
      · omega
    · intro b hb
      refine ⟨(nkK b hb).1, (nkK b hb).2, fun hq => ?_, fun hq => ?_, fun hq => ?_⟩
      · rcases nvk b hb with ha | ha <;> rcases nvp b hq with hc | hc
        · exact (r1.nk b ha).2.2.1 hc
        · have := lkb b ha; omega
        · have := lpb b hc; omega
        · omega
      · rcases nvk b hb with ha | ha <;> rcases hq with hc | hc
        · exact (r1.nk b ha).2.2.2.1 hc
        · have := lkb b ha; omega
        · have := r1.lt b (r1.fd b hc); omega
        · omega
      · rcases nvk b hb with ha | ha
        · exact (r1.nk b ha).2.2.2.2 hq
        · have := hDI b hq; omega
    · intro b hb
      refine ⟨(npK b hb).1, (npK b hb).2, fun hq => ?_⟩
      rcases nvp b hb with ha | ha
      · exact (r1.np b ha).2.2 hq
      · have := hDI b hq; omega
    · exact ndK
  · have : m' = ns.length + 1 := by omega
    subst this
    simp only [↓eBinI, ↓eDiv, ↓eShift, ↓eBinS, ↓ePick, ↓eNot, ↓eNeg, ↓eConv, ↓eConvS, ↓eExt0, ↓eExt1, ↓eExt2, ↓eFA, ↓eIA, ↓eLenSl, ↓eCapSl, ↓eLenS, ↓eMin, ↓eMax, ↓eCondT, ↓eCondF, ↓gIf_tt, ↓gIf_ff, ↓gIf_tf, ↓gIf_ft, ↓gIf_u, ↓gIfW_u, ↓gIfW_tt, ↓gIfW_ff, ↓gIfW_tf, ↓gIfW_ft, binI, divI, shiftI, add_mk, Nat.zero_add, cond_true, cond_false, decide_true, decide_false, Bool.not_true, Bool.not_false, Bool.and_true, Bool.true_and, Bool.and_false, Bool.false_and, Int.toNat_natCast, Nat.mul_one, ci]
    exact h vk vp DP FK' w1 f1 g1 g2 c1 r1
end Go.Proofs.Ytkpgmaiklfjjgaa
end
