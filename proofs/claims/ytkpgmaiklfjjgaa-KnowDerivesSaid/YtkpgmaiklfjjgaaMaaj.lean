/-
  Kinds and parts of terms, of the program and of the reference.
  The reference's table: ids, kinds, parts.
  Terms as they come to be: the plain law.
-/
import Derived.Test.YtkpgmaiklfjjgaaMaai
section
set_option linter.unusedSimpArgs false
set_option linter.unusedVariables false
set_option maxRecDepth 100000
namespace Go.Proofs.Ytkpgmaiklfjjgaa
open Go Go.G
variable {X : KX} {w : World} {K : KV} {D D' : Nat → Prop}
def kindN (ns : List Node) (id : Int) : Int := if thereN ns id then ((ns[(id - 1).toNat]?).map (·.1)).getD 0 else 0
def partsOf (x : Node) : List Int := if x.1 < 3 then [] else if x.1 = 3 then [x.2.1] else [x.2.1, x.2.2.1]
def partsN (ns : List Node) (id : Int) : List Int := if thereN ns id then ((ns[(id - 1).toNat]?).map partsOf).getD [] else []
theorem thereAt {ns : List Node} {id : Int} (h : thereN ns id = true) : ∃ i : Nat, ∃ hi : i < ns.length, id = (i : Int) + 1 ∧ kindN ns id = ns[i].1 ∧ partsN ns id = partsOf ns[i] := by
  obtain ⟨h1, h2⟩ := thereN_iff.1 h
  refine ⟨(id - 1).toNat, by omega, by omega, ?_, ?_⟩
  · rw [kindN, if_pos h, List.getElem?_eq_getElem (by omega)]; rfl
  · rw [partsN, if_pos h, List.getElem?_eq_getElem (by omega)]; rfl
theorem thereNot {ns : List Node} {id : Int} (h : thereN ns id = false) : kindN ns id = 0 ∧ partsN ns id = [] := by
  constructor
  · rw [kindN, h]; rfl
  · rw [partsN, h]; rfl
theorem ints1 {g : Nat} {n : Int} (c : Cs w g [.int .i64 n]) (hn : InI n) : Rd (.slice (.int .i64)) (· = g) w [.slice (some ⟨g, 0, none⟩) 1 1] [n] :=
  ⟨_, _, rfl, Nat.le_refl _, by show 1 < _; omega, fun _ => ⟨_, rfl, rfl, rfl, fun i hi => ⟨[.int .i64 n], rfl, fun j v hj => by
    have hi0 : i = 0 := by simp at hi; exact hi
    subst hi0
    rw [add_mk, c.c]
    match j, hj with
    | 0, hj => simpa [Ty.n] using hj, by
    have hi0 : i = 0 := by simp at hi; exact hi
    subst hi0
    exact ⟨rfl, hn.1, hn.2⟩⟩⟩⟩
theorem ints2 {g : Nat} {n m : Int} (c : Cs w g [.int .i64 n, .int .i64 m]) (hn : InI n) (hm : InI m) : Rd (.slice (.int .i64)) (· = g) w [.slice (some ⟨g, 0, none⟩) 2 2] [n, m] :=
  ⟨_, _, rfl, Nat.le_refl _, by show 2 < _; omega, fun _ => ⟨_, rfl, rfl, rfl, fun i hi => by
    match i, hi with
    | 0, _ => exact ⟨[.int .i64 n], rfl, fun j v hj => by
        rw [add_mk, c.c]
        match j, hj with
        | 0, hj => simpa [Ty.n] using hj, rfl, hn.1, hn.2⟩
    | 1, _ => exact ⟨[.int .i64 m], rfl, fun j v hj => by
        rw [add_mk, c.c]
        match j, hj with
        | 0, hj => simpa [Ty.n] using hj, rfl, hm.1, hm.2⟩⟩⟩
theorem ex20 {a b : Value} {K : KP} (h : K a) : pExt (.tuple #[a, b]) 0 K := by rw [eExt0]; exact h
theorem ex21 {a b : Value} {K : KP} (h : K b) : pExt (.tuple #[a, b]) 1 K := by rw [eExt1]; exact h
set_option maxHeartbeats 1000000 in
theorem Kind_c {gT : Nat} {F : Nat → Prop} {ns : List Node} {id : Int} (ht : Tab w gT F ns) (hid : InI id) (h : ∀ w', Ext w w' → K (.int .i64 (kindN ns id)) w') : GCalls Try.prog 26 [.pointer (some ⟨gT, 0, none⟩), .int .i64 id] K X w := by
  apply term_Table_Kind.calls; unfold term_Table_Kind.b
  refine bslice1 rfl fun g1 w1 hg h1 c1 => ?_
  refine There_c (ht.ext h1) (ints1 c1 hid) fun w2 h2 => ?_
  have h12 := h1.tr h2
  have ht := ht.ext h12
  cases hth : thereN ns id with
  | false =>
    simp only [List.all_cons, List.all_nil, hth, Bool.and_true]
    simp only [↓eBinI, ↓eDiv, ↓eShift, ↓eBinS, ↓ePick, ↓eNot, ↓eNeg, ↓eConv, ↓eConvS, ↓eExt0, ↓eExt1, ↓eExt2, ↓eFA, ↓eIA, ↓eLenSl, ↓eCapSl, ↓eLenS, ↓eMin, ↓eMax, ↓eCondT, ↓eCondF, ↓gIf_tt, ↓gIf_ff, ↓gIf_tf, ↓gIf_ft, ↓gIf_u, ↓gIfW_u, ↓gIfW_tt, ↓gIfW_ff, ↓gIfW_tf, ↓gIfW_ft, binI, divI, shiftI, add_mk, Nat.zero_add, cond_true, cond_false, decide_true, decide_false, Bool.not_true, Bool.not_false, Bool.and_true, Bool.true_and, Bool.and_false, Bool.false_and, Int.toNat_natCast, Nat.mul_one]
    have h := h _ h12
    rw [(thereNot hth).1] at h
    exact h
  | true =>
    simp only [List.all_cons, List.all_nil, hth, Bool.and_true]
    obtain ⟨i, hi, rfl, ek, ep⟩ := thereAt hth
    have hlen := ht.len
    have ⟨hok, hlab⟩ := ht.good.form i hi
    obtain ⟨vl, vs, gm, sz, ml, b1, b2, _⟩ := ht
    have r2 := b2.rd (D' := fun _ => True) (fun _ h => h.elim) (fun _ _ => trivial) (by show (ns.map encN).length < _; rw [List.length_map]; omega)
    obtain ⟨ad, cl, u, e, s1, _, q, ru⟩ := r2.idx rfl (i := i) (by rw [List.length_map]; exact hi)
    subst e
    have hu := ru.1
    simp only [List.getElem_map, List.cons.injEq, and_true] at hu
    subst hu
    have e0 : IntKind.i64.wrap ((i : Int) + 1 - 1) = (i : Int) := by rw [wrap64 (by omega) (by omega)]; omega
    have hi' : (i : Int) < (ns.length : Int) := by omega
    simp only [↓eBinI, ↓eDiv, ↓eShift, ↓eBinS, ↓ePick, ↓eNot, ↓eNeg, ↓eConv, ↓eConvS, ↓eExt0, ↓eExt1, ↓eExt2, ↓eFA, ↓eIA, ↓eLenSl, ↓eCapSl, ↓eLenS, ↓eMin, ↓eMax, ↓eCondT, ↓eCondF, ↓gIf_tt, ↓gIf_ff, ↓gIf_tf, ↓gIf_ft, ↓gIf_u, ↓gIfW_u, ↓gIfW_tt, ↓gIfW_ff, ↓gIfW_tf, ↓gIfW_ft, binI, divI, shiftI, add_mk, Nat.zero_add, cond_true, cond_false, decide_true, decide_false, Bool.not_true, Bool.not_false, Bool.and_true, Bool.true_and, Bool.and_false, Bool.false_and, Int.toNat_natCast, Nat.mul_one, ↓ePNil, ↓b1.c0, e0, List.length_map]
    refine ⟨by omega, hi', ?_⟩
    simp only [↓eLdW, Int.toNat_natCast, Nat.mul_one, q, Option.some.injEq, exists_eq_left']
    rw [ek] at h
    rcases hok with hk | hk | hk | ⟨hk | hk, _⟩
    · have e : encN ns[i] = .iface tyAtom (.agg #[.int .i64 ns[i].2.2.2.2]) := by simp [encN, hk.1]
      rw [e]
      rw [hk.1] at h
      refine ta_yes Try.underlying75 ?_
      refine ex20 (ex21 ?_)
      refine boxC (cs := [.int .i64 0]) fun g3 w3 hg3 h3 c3 => ?_
      refine c3.setN (l' := [.int .i64 ns[i].2.2.2.2]) rfl rfl (by intro v hv; simp only [List.mem_cons, List.not_mem_nil, or_false] at hv; rcases hv with rfl <;> rfl) fun w4 c4 f4 => ?_
      have z3 := h3.size; have x3 : Ext w2 w4 := h3.tn f4 (fun x hx => by omega)
      simp only [↓gIf_tt, ↓eCondT, ↓eCondF]
      exact h _ (h12.tr x3)
    · have e : encN ns[i] = .iface tyText (.agg #[strV ns[i].2.2.2.1]) := by simp [encN, hk.1]
      rw [e]
      rw [hk.1] at h
      refine ta_no Try.underlying75 zAtom (by decide) ?_
      refine ex20 (ex21 ?_)
      refine boxC (cs := [.int .i64 0]) fun g3 w3 hg3 h3 c3 => ?_
      refine c3.setN (l' := [.int .i64 0]) rfl rfl (by intro v hv; simp only [List.mem_cons, List.not_mem_nil, or_false] at hv; rcases hv with rfl <;> rfl) fun w4 c4 f4 => ?_
      have z3 := h3.size; have x3 : Ext w2 w4 := h3.tn f4 (fun x hx => by omega)
      simp only [↓gIf_tt, ↓eCondT, ↓eCondF]
      refine ta_yes Try.underlying90 ?_
      refine ex20 (ex21 ?_)
      refine boxC (cs := [.string ⟨#[]⟩]) fun g5 w5 hg5 h5 c5 => ?_
      refine c5.setN (l' := [strV ns[i].2.2.2.1]) rfl rfl (by intro v hv; simp only [List.mem_cons, List.not_mem_nil, or_false] at hv; rcases hv with rfl <;> rfl) fun w6 c6 f6 => ?_
      have z5 := h5.size; have x5 : Ext w4 w6 := h5.tn f6 (fun x hx => by omega)
      simp only [↓gIf_tt, ↓eCondT, ↓eCondF]
      exact h _ ((h12.tr x3).tr x5)
    · have e : encN ns[i] = .iface tyKdf (.agg #[.int .i64 ns[i].2.1, strV ns[i].2.2.2.1]) := by simp [encN, hk.1]
      rw [e]
      rw [hk.1] at h
      refine ta_no Try.underlying75 zAtom (by decide) ?_
      refine ex20 (ex21 ?_)
      refine boxC (cs := [.int .i64 0]) fun g3 w3 hg3 h3 c3 => ?_
      refine c3.setN (l' := [.int .i64 0]) rfl rfl (by intro v hv; simp only [List.mem_cons, List.not_mem_nil, or_false] at hv; rcases hv with rfl <;> rfl) fun w4 c4 f4 => ?_
      have z3 := h3.size; have x3 : Ext w2 w4 := h3.tn f4 (fun x hx => by omega)
      simp only [↓gIf_tt, ↓eCondT, ↓eCondF]
      refine ta_no Try.underlying90 zText (by decide) ?_
      refine ex20 (ex21 ?_)
      refine boxC (cs := [.string ⟨#[]⟩]) fun g5 w5 hg5 h5 c5 => ?_
      refine c5.setN (l' := [.string ⟨#[]⟩]) rfl rfl (by intro v hv; simp only [List.mem_cons, List.not_mem_nil, or_false] at hv; rcases hv with rfl <;> rfl) fun w6 c6 f6 => ?_
      have z5 := h5.size; have x5 : Ext w4 w6 := h5.tn f6 (fun x hx => by omega)
      simp only [↓gIf_tt, ↓eCondT, ↓eCondF]
      refine ta_yes Try.underlying93 ?_
      refine ex20 (ex21 ?_)
      refine boxC (cs := [.int .i64 0, .string ⟨#[]⟩]) fun g7 w7 hg7 h7 c7 => ?_
      refine c7.setN (l' := [.int .i64 ns[i].2.1, strV ns[i].2.2.2.1]) rfl rfl (by intro v hv; simp only [List.mem_cons, List.not_mem_nil, or_false] at hv; rcases hv with rfl | rfl <;> rfl) fun w8 c8 f8 => ?_
      have z7 := h7.size; have x7 : Ext w6 w8 := h7.tn f8 (fun x hx => by omega)
      simp only [↓gIf_tt, ↓eCondT, ↓eCondF]
      exact h _ (((h12.tr x3).tr x5).tr x7)
    · have e : encN ns[i] = .iface tyMix (.agg #[.int .i64 ns[i].2.1, .int .i64 ns[i].2.2.1]) := by simp [encN, hk]
      rw [e]
      rw [hk] at h
      refine ta_no Try.underlying75 zAtom (by decide) ?_
      refine ex20 (ex21 ?_)
      refine boxC (cs := [.int .i64 0]) fun g3 w3 hg3 h3 c3 => ?_
      refine c3.setN (l' := [.int .i64 0]) rfl rfl (by intro v hv; simp only [List.mem_cons, List.not_mem_nil, or_false] at hv; rcases hv with rfl <;> rfl) fun w4 c4 f4 => ?_
      have z3 := h3.size; have x3 : Ext w2 w4 := h3.tn f4 (fun x hx => by omega)
      simp only [↓gIf_tt, ↓eCondT, ↓eCondF]
      refine ta_no Try.underlying90 zText (by decide) ?_
      refine ex20 (ex21 ?_)
      refine boxC (cs := [.string ⟨#[]⟩]) fun g5 w5 hg5 h5 c5 => ?_
      refine c5.setN (l' := [.string ⟨#[]⟩]) rfl rfl (by intro v hv; simp only [List.mem_cons, List.not_mem_nil, or_false] at hv; rcases hv with rfl <;> rfl) fun w6 c6 f6 => ?_
      have z5 := h5.size; have x5 : Ext w4 w6 := h5.tn f6 (fun x hx => by omega)
      simp only [↓gIf_tt, ↓eCondT, ↓eCondF]
      refine ta_no Try.underlying93 zKdf (by decide) ?_
      refine ex20 (ex21 ?_)
      refine boxC (cs := [.int .i64 0, .string ⟨#[]⟩]) fun g7 w7 hg7 h7 c7 => ?_
      refine c7.setN (l' := [.int .i64 0, .string ⟨#[]⟩]) rfl rfl (by intro v hv; simp only [List.mem_cons, List.not_mem_nil, or_false] at hv; rcases hv with rfl | rfl <;> rfl) fun w8 c8 f8 => ?_
      have z7 := h7.size; have x7 : Ext w6 w8 := h7.tn f8 (fun x hx => by omega)
      simp only [↓gIf_tt, ↓eCondT, ↓eCondF]
      refine ta_yes Try.underlying96 ?_
      refine ex20 (ex21 ?_)
      refine boxC (cs := [.int .i64 0, .int .i64 0]) fun g9 w9 hg9 h9 c9 => ?_
      refine c9.setN (l' := [.int .i64 ns[i].2.1, .int .i64 ns[i].2.2.1]) rfl rfl (by intro v hv; simp only [List.mem_cons, List.not_mem_nil, or_false] at hv; rcases hv with rfl | rfl <;> rfl) fun w10 c10 f10 => ?_
      have z9 := h9.size; have x9 : Ext w8 w10 := h9.tn f10 (fun x hx => by omega)
      simp only [↓gIf_tt, ↓eCondT, ↓eCondF]
      exact h _ ((((h12.tr x3).tr x5).tr x7).tr x9)
    · have e : encN ns[i] = .iface tyEnc (.agg #[.int .i64 ns[i].2.1, .int .i64 ns[i].2.2.1]) := by simp [encN, hk]
      rw [e]
      rw [hk] at h
      refine ta_no Try.underlying75 zAtom (by decide) ?_
      refine ex20 (ex21 ?_)
      refine boxC (cs := [.int .i64 0]) fun g3 w3 hg3 h3 c3 => ?_
      refine c3.setN (l' := [.int .i64 0]) rfl rfl (by intro v hv; simp only [List.mem_cons, List.not_mem_nil, or_false] at hv; rcases hv with rfl <;> rfl) fun w4 c4 f4 => ?_
      have z3 := h3.size; have x3 : Ext w2 w4 := h3.tn f4 (fun x hx => by omega)
      simp only [↓gIf_tt, ↓eCondT, ↓eCondF]
      refine ta_no Try.underlying90 zText (by decide) ?_
      refine ex20 (ex21 ?_)
      refine boxC (cs := [.string ⟨#[]⟩]) fun g5 w5 hg5 h5 c5 => ?_
      refine c5.setN (l' := [.string ⟨#[]⟩]) rfl rfl (by intro v hv; simp only [List.mem_cons, List.not_mem_nil, or_false] at hv; rcases hv with rfl <;> rfl) fun w6 c6 f6 => ?_
      have z5 := h5.size; have x5 : Ext w4 w6 := h5.tn f6 (fun x hx => by omega)
      simp only [↓gIf_tt, ↓eCondT, ↓eCondF]
      refine ta_no Try.underlying93 zKdf (by decide) ?_
      refine ex20 (ex21 ?_)
      refine boxC (cs := [.int .i64 0, .string ⟨#[]⟩]) fun g7 w7 hg7 h7 c7 => ?_
      refine c7.setN (l' := [.int .i64 0, .string ⟨#[]⟩]) rfl rfl (by intro v hv; simp only [List.mem_cons, List.not_mem_nil, or_false] at hv; rcases hv with rfl | rfl <;> rfl) fun w8 c8 f8 => ?_
      have z7 := h7.size; have x7 : Ext w6 w8 := h7.tn f8 (fun x hx => by omega)
      simp only [↓gIf_tt, ↓eCondT, ↓eCondF]
      refine ta_no Try.underlying96 zMix (by decide) ?_
      refine ex20 (ex21 ?_)
      refine boxC (cs := [.int .i64 0, .int .i64 0]) fun g9 w9 hg9 h9 c9 => ?_
      refine c9.setN (l' := [.int .i64 0, .int .i64 0]) rfl rfl (by intro v hv; simp only [List.mem_cons, List.not_mem_nil, or_false] at hv; rcases hv with rfl | rfl <;> rfl) fun w10 c10 f10 => ?_
      have z9 := h9.size; have x9 : Ext w8 w10 := h9.tn f10 (fun x hx => by omega)
      simp only [↓gIf_tt, ↓eCondT, ↓eCondF]
      exact h _ ((((h12.tr x3).tr x5).tr x7).tr x9)
set_option maxHeartbeats 1000000 in
theorem Parts_c {gT : Nat} {F : Nat → Prop} {ns : List Node} {id : Int} (ht : Tab w gT F ns) (hid : InI id) (h : ∀ v w', Ext w w' → Rd (.slice (.int .i64)) (w.heap.size ≤ ·) w' [v] (partsN ns id) → K v w') : GCalls Try.prog 30 [.pointer (some ⟨gT, 0, none⟩), .int .i64 id] K X w := by
  apply term_Table_Parts.calls; unfold term_Table_Parts.b
  refine bslice1 rfl fun g1 w1 hg h1 c1 => ?_
  refine There_c (ht.ext h1) (ints1 c1 hid) fun w2 h2 => ?_
  have h12 := h1.tr h2
  have ht := ht.ext h12
  cases hth : thereN ns id with
  | false =>
    simp only [List.all_cons, List.all_nil, hth, Bool.and_true]
    simp only [↓eBinI, ↓eDiv, ↓eShift, ↓eBinS, ↓ePick, ↓eNot, ↓eNeg, ↓eConv, ↓eConvS, ↓eExt0, ↓eExt1, ↓eExt2, ↓eFA, ↓eIA, ↓eLenSl, ↓eCapSl, ↓eLenS, ↓eMin, ↓eMax, ↓eCondT, ↓eCondF, ↓gIf_tt, ↓gIf_ff, ↓gIf_tf, ↓gIf_ft, ↓gIf_u, ↓gIfW_u, ↓gIfW_tt, ↓gIfW_ff, ↓gIfW_tf, ↓gIfW_ft, binI, divI, shiftI, add_mk, Nat.zero_add, cond_true, cond_false, decide_true, decide_false, Bool.not_true, Bool.not_false, Bool.and_true, Bool.true_and, Bool.and_false, Bool.false_and, Int.toNat_natCast, Nat.mul_one]
    refine h _ w2 h12 ?_
    rw [(thereNot hth).2]
    exact ⟨none, 0, rfl, Nat.le_refl _, by show 0 < _; omega, fun h => absurd rfl h⟩
  | true =>
    simp only [List.all_cons, List.all_nil, hth, Bool.and_true]
    obtain ⟨i, hi, rfl, ek, ep⟩ := thereAt hth
    have hlen := ht.len
    have ⟨hok, hlab⟩ := ht.good.form i hi
    obtain ⟨vl, vs, gm, sz, ml, b1, b2, _⟩ := ht
    have r2 := b2.rd (D' := fun _ => True) (fun _ h => h.elim) (fun _ _ => trivial) (by show (ns.map encN).length < _; rw [List.length_map]; omega)
    obtain ⟨ad, cl, u, e, s1, _, q, ru⟩ := r2.idx rfl (i := i) (by rw [List.length_map]; exact hi)
    subst e
    have hu := ru.1
    simp only [List.getElem_map, List.cons.injEq, and_true] at hu
    subst hu
    have e0 : IntKind.i64.wrap ((i : Int) + 1 - 1) = (i : Int) := by rw [wrap64 (by omega) (by omega)]; omega
    have hi' : (i : Int) < (ns.length : Int) := by omega
    simp only [↓eBinI, ↓eDiv, ↓eShift, ↓eBinS, ↓ePick, ↓eNot, ↓eNeg, ↓eConv, ↓eConvS, ↓eExt0, ↓eExt1, ↓eExt2, ↓eFA, ↓eIA, ↓eLenSl, ↓eCapSl, ↓eLenS, ↓eMin, ↓eMax, ↓eCondT, ↓eCondF, ↓gIf_tt, ↓gIf_ff, ↓gIf_tf, ↓gIf_ft, ↓gIf_u, ↓gIfW_u, ↓gIfW_tt, ↓gIfW_ff, ↓gIfW_tf, ↓gIfW_ft, binI, divI, shiftI, add_mk, Nat.zero_add, cond_true, cond_false, decide_true, decide_false, Bool.not_true, Bool.not_false, Bool.and_true, Bool.true_and, Bool.and_false, Bool.false_and, Int.toNat_natCast, Nat.mul_one, ↓ePNil, ↓b1.c0, e0, List.length_map]
    refine ⟨by omega, hi', ?_⟩
    simp only [↓eLdW, Int.toNat_natCast, Nat.mul_one, q, Option.some.injEq, exists_eq_left']
    have z12 := h12.size
    rw [ep] at h
    have hlo : ∀ n : Int, 1 ≤ n → n ≤ (i : Int) → InI n := fun n h1 h2 => ⟨by omega, by omega⟩
    rcases hok with hk | hk | hk | ⟨hk | hk, hk2⟩
    · have e : encN ns[i] = .iface tyAtom (.agg #[.int .i64 ns[i].2.2.2.2]) := by simp [encN, hk.1]
      rw [e]
      have hp : partsOf ns[i] = [] := by simp [partsOf, hk.1]
      rw [hp] at h
      refine ta_no Try.underlying93 zKdf (by decide) ?_
      refine ex21 (ex20 ?_)
      simp only [↓eCondT, ↓eCondF]
      refine ta_no Try.underlying96 zMix (by decide) ?_
      refine ex21 (ex20 ?_)
      simp only [↓eCondT, ↓eCondF]
      refine ta_no Try.underlying80 zEnc (by decide) ?_
      refine ex21 (ex20 ?_)
      simp only [↓eCondT, ↓eCondF]
      exact h _ w2 h12 ⟨none, 0, rfl, Nat.le_refl _, by show 0 < _; omega, fun h => absurd rfl h⟩
    · have e : encN ns[i] = .iface tyText (.agg #[strV ns[i].2.2.2.1]) := by simp [encN, hk.1]
      rw [e]
      have hp : partsOf ns[i] = [] := by simp [partsOf, hk.1]
      rw [hp] at h
      refine ta_no Try.underlying93 zKdf (by decide) ?_
      refine ex21 (ex20 ?_)
      simp only [↓eCondT, ↓eCondF]
      refine ta_no Try.underlying96 zMix (by decide) ?_
      refine ex21 (ex20 ?_)
      simp only [↓eCondT, ↓eCondF]
      refine ta_no Try.underlying80 zEnc (by decide) ?_
      refine ex21 (ex20 ?_)
      simp only [↓eCondT, ↓eCondF]
      exact h _ w2 h12 ⟨none, 0, rfl, Nat.le_refl _, by show 0 < _; omega, fun h => absurd rfl h⟩
    · have e : encN ns[i] = .iface tyKdf (.agg #[.int .i64 ns[i].2.1, strV ns[i].2.2.2.1]) := by simp [encN, hk.1]
      rw [e]
      have hp : partsOf ns[i] = [ns[i].2.1] := by simp [partsOf, hk.1]
      rw [hp] at h
      refine ta_yes Try.underlying93 ?_
      refine ex21 (ex20 ?_)
      simp only [↓eCondT, ↓eCondF]
      refine boxC (cs := [.int .i64 0, .string ⟨#[]⟩]) fun g3 w3 hg3 h3 c3 => ?_
      refine c3.setN (l' := [.int .i64 ns[i].2.1, strV ns[i].2.2.2.1]) rfl rfl (by intro v hv; simp only [List.mem_cons, List.not_mem_nil, or_false] at hv; rcases hv with rfl | rfl <;> rfl) fun w4 c4 f4 => ?_
      have z3 := h3.size; have x3 : Ext w2 w4 := h3.tn f4 (fun x hx => by omega)
      have z4 := f4.size
      simp only [↓eBinI, ↓eDiv, ↓eShift, ↓eBinS, ↓ePick, ↓eNot, ↓eNeg, ↓eConv, ↓eConvS, ↓eExt0, ↓eExt1, ↓eExt2, ↓eFA, ↓eIA, ↓eLenSl, ↓eCapSl, ↓eLenS, ↓eMin, ↓eMax, ↓eCondT, ↓eCondF, ↓gIf_tt, ↓gIf_ff, ↓gIf_tf, ↓gIf_ft, ↓gIf_u, ↓gIfW_u, ↓gIfW_tt, ↓gIfW_ff, ↓gIfW_tf, ↓gIfW_ft, binI, divI, shiftI, add_mk, Nat.zero_add, cond_true, cond_false, decide_true, decide_false, Bool.not_true, Bool.not_false, Bool.and_true, Bool.true_and, Bool.and_false, Bool.false_and, Int.toNat_natCast, Nat.mul_one, ↓c4.c0]
      refine bslice1 rfl fun g5 w5 hg5 h5 c5 => ?_
      exact h _ w5 ((h12.tr x3).tr h5) ((ints1 c5 (hlo _ hk.2.1 hk.2.2.1)).wide fun b hb => by show w.heap.size ≤ b; omega)
    · have e : encN ns[i] = .iface tyMix (.agg #[.int .i64 ns[i].2.1, .int .i64 ns[i].2.2.1]) := by simp [encN, hk]
      rw [e]
      have hp : partsOf ns[i] = [ns[i].2.1, ns[i].2.2.1] := by simp [partsOf, hk]
      rw [hp] at h
      refine ta_no Try.underlying93 zKdf (by decide) ?_
      refine ex21 (ex20 ?_)
      simp only [↓eCondT, ↓eCondF]
      refine ta_yes Try.underlying96 ?_
      refine ex21 (ex20 ?_)
      simp only [↓eCondT, ↓eCondF]
      refine boxC (cs := [.int .i64 0, .int .i64 0]) fun g3 w3 hg3 h3 c3 => ?_
      refine c3.setN (l' := [.int .i64 ns[i].2.1, .int .i64 ns[i].2.2.1]) rfl rfl (by intro v hv; simp only [List.mem_cons, List.not_mem_nil, or_false] at hv; rcases hv with rfl | rfl <;> rfl) fun w4 c4 f4 => ?_
      have z3 := h3.size; have x3 : Ext w2 w4 := h3.tn f4 (fun x hx => by omega)
      have z4 := f4.size
      simp only [↓eBinI, ↓eDiv, ↓eShift, ↓eBinS, ↓ePick, ↓eNot, ↓eNeg, ↓eConv, ↓eConvS, ↓eExt0, ↓eExt1, ↓eExt2, ↓eFA, ↓eIA, ↓eLenSl, ↓eCapSl, ↓eLenS, ↓eMin, ↓eMax, ↓eCondT, ↓eCondF, ↓gIf_tt, ↓gIf_ff, ↓gIf_tf, ↓gIf_ft, ↓gIf_u, ↓gIfW_u, ↓gIfW_tt, ↓gIfW_ff, ↓gIfW_tf, ↓gIfW_ft, binI, divI, shiftI, add_mk, Nat.zero_add, cond_true, cond_false, decide_true, decide_false, Bool.not_true, Bool.not_false, Bool.and_true, Bool.true_and, Bool.and_false, Bool.false_and, Int.toNat_natCast, Nat.mul_one, ↓c4.c0, ↓c4.c1]
      refine Cs.bslice (cs := [.int .i64 ns[i].2.1, .int .i64 ns[i].2.2.1]) (by simp [rowOf, fillL, one_cells, cutIn, Value.cells]) fun g5 w5 hg5 h5 c5 => ?_
      exact h _ w5 ((h12.tr x3).tr h5) ((ints2 c5 (hlo _ hk2.1 hk2.2.1) (hlo _ hk2.2.2.1 hk2.2.2.2.1)).wide fun b hb => by show w.heap.size ≤ b; omega)
    · have e : encN ns[i] = .iface tyEnc (.agg #[.int .i64 ns[i].2.1, .int .i64 ns[i].2.2.1]) := by simp [encN, hk]
      rw [e]
      have hp : partsOf ns[i] = [ns[i].2.1, ns[i].2.2.1] := by simp [partsOf, hk]
      rw [hp] at h
      refine ta_no Try.underlying93 zKdf (by decide) ?_
      refine ex21 (ex20 ?_)
      simp only [↓eCondT, ↓eCondF]
      refine ta_no Try.underlying96 zMix (by decide) ?_
      refine ex21 (ex20 ?_)
      simp only [↓eCondT, ↓eCondF]
      refine ta_yes Try.underlying80 ?_
      refine ex21 (ex20 ?_)
      simp only [↓eCondT, ↓eCondF]
      refine boxC (cs := [.int .i64 0, .int .i64 0]) fun g3 w3 hg3 h3 c3 => ?_
      refine c3.setN (l' := [.int .i64 ns[i].2.1, .int .i64 ns[i].2.2.1]) rfl rfl (by intro v hv; simp only [List.mem_cons, List.not_mem_nil, or_false] at hv; rcases hv with rfl | rfl <;> rfl) fun w4 c4 f4 => ?_
      have z3 := h3.size; have x3 : Ext w2 w4 := h3.tn f4 (fun x hx => by omega)
      have z4 := f4.size
      simp only [↓eBinI, ↓eDiv, ↓eShift, ↓eBinS, ↓ePick, ↓eNot, ↓eNeg, ↓eConv, ↓eConvS, ↓eExt0, ↓eExt1, ↓eExt2, ↓eFA, ↓eIA, ↓eLenSl, ↓eCapSl, ↓eLenS, ↓eMin, ↓eMax, ↓eCondT, ↓eCondF, ↓gIf_tt, ↓gIf_ff, ↓gIf_tf, ↓gIf_ft, ↓gIf_u, ↓gIfW_u, ↓gIfW_tt, ↓gIfW_ff, ↓gIfW_tf, ↓gIfW_ft, binI, divI, shiftI, add_mk, Nat.zero_add, cond_true, cond_false, decide_true, decide_false, Bool.not_true, Bool.not_false, Bool.and_true, Bool.true_and, Bool.and_false, Bool.false_and, Int.toNat_natCast, Nat.mul_one, ↓c4.c0, ↓c4.c1]
      refine Cs.bslice (cs := [.int .i64 ns[i].2.1, .int .i64 ns[i].2.2.1]) (by simp [rowOf, fillL, one_cells, cutIn, Value.cells]) fun g5 w5 hg5 h5 c5 => ?_
      exact h _ w5 ((h12.tr x3).tr h5) ((ints2 c5 (hlo _ hk2.1 hk2.2.1) (hlo _ hk2.2.2.1 hk2.2.2.2.1)).wide fun b hb => by show w.heap.size ≤ b; omega)
end Go.Proofs.Ytkpgmaiklfjjgaa
end
section
set_option linter.unusedSimpArgs false
set_option linter.unusedVariables false
set_option maxRecDepth 100000
namespace Go.Proofs.Ytkpgmaiklfjjgaa
open Go Go.G
variable {X : KX} {w : World} {K : KV} {D D' : Nat → Prop} {ns : List Node} {x : Value} {id : Int}
def nodeV (x : Node) : List Value := [.int .i64 x.1, .int .i64 x.2.1, .int .i64 x.2.2.1, strV x.2.2.2.1, .int .i64 x.2.2.2.2]
theorem nodeRd {vs : List Value} {n : Node} (h : Rd tNode D w vs n) : vs = nodeV n ∧ InI n.1 ∧ InI n.2.1 ∧ InI n.2.2.1 ∧ InI n.2.2.2.2 ∧ n.2.2.2.1.length < 9223372036854775808 := by
  obtain ⟨a1, b1, rfl, _, _, h1, a2, b2, rfl, _, _, h2, a3, b3, rfl, _, _, h3, a4, b4, rfl, _, _, h4, h5⟩ := h
  obtain ⟨rfl, p1, q1⟩ := h1
  obtain ⟨rfl, p2, q2⟩ := h2
  obtain ⟨rfl, p3, q3⟩ := h3
  obtain ⟨rfl, p4⟩ := h4
  obtain ⟨rfl, p5, q5⟩ := h5
  exact ⟨rfl, ⟨p1, q1⟩, ⟨p2, q2⟩, ⟨p3, q3⟩, ⟨p5, q5⟩, p4⟩
theorem rdNode {n : Node} (h1 : InI n.1) (h2 : InI n.2.1) (h3 : InI n.2.2.1) (h5 : InI n.2.2.2.2) (h4 : n.2.2.2.1.length < 9223372036854775808) : Rd tNode D w (nodeV n) n :=
  ⟨[_], [_, _, _, _], rfl, rfl, rfl, ⟨rfl, h1.1, h1.2⟩, [_], [_, _, _], rfl, rfl, rfl, ⟨rfl, h2.1, h2.2⟩, [_], [_, _], rfl, rfl, rfl, ⟨rfl, h3.1, h3.2⟩, [_], [_], rfl, rfl, rfl, ⟨rfl, h4⟩, ⟨rfl, h5.1, h5.2⟩⟩
/-- The cells of a node of the reference's table. -/
theorem nodeAt (hx : Rd (.slice tNode) D w [x] ns) {i : Nat} (hi : i < ns.length) : ∃ ad c, x = .slice (some ad) ns.length c ∧ ad.spot = none ∧ D ad.block ∧ ∀ j u, (nodeV ns[i])[j]? = some u → w.cell? (ad.add (i * 5 + j)) = some u := by
  obtain ⟨ad, c', us, e1, s1, hd, hus, q1, r1⟩ := hx.idxN hi
  obtain ⟨rfl, _⟩ := nodeRd r1
  exact ⟨ad, c', e1, s1, hd, q1⟩
theorem RThere_c (hx : Rd (.slice tNode) D w [x] ns) (h : K (.bool (thereN ns id)) w) : GCalls Try.prog 47 [x, .int .i64 id] K X w := by
  obtain ⟨a1, c1, rfl, hc1, hl1⟩ := hx.form
  apply oublietteref15_Table_there.calls; unfold oublietteref15_Table_there.b
  by_cases d1 : id ≥ 1
  · by_cases d2 : id ≤ (ns.length : Int)
    · simp only [↓eBinI, ↓eDiv, ↓eShift, ↓eBinS, ↓ePick, ↓eNot, ↓eNeg, ↓eConv, ↓eConvS, ↓eExt0, ↓eExt1, ↓eExt2, ↓eFA, ↓eIA, ↓eLenSl, ↓eCapSl, ↓eLenS, ↓eMin, ↓eMax, ↓eCondT, ↓eCondF, ↓gIf_tt, ↓gIf_ff, ↓gIf_tf, ↓gIf_ft, ↓gIf_u, ↓gIfW_u, ↓gIfW_tt, ↓gIfW_ff, ↓gIfW_tf, ↓gIfW_ft, binI, divI, shiftI, add_mk, Nat.zero_add, cond_true, cond_false, decide_true, decide_false, Bool.not_true, Bool.not_false, Bool.and_true, Bool.true_and, Bool.and_false, Bool.false_and, Int.toNat_natCast, Nat.mul_one, d1, d2]
      rw [thereN, decide_eq_true (by omega), decide_eq_true (by omega)] at h
      exact h
    · simp only [↓eBinI, ↓eDiv, ↓eShift, ↓eBinS, ↓ePick, ↓eNot, ↓eNeg, ↓eConv, ↓eConvS, ↓eExt0, ↓eExt1, ↓eExt2, ↓eFA, ↓eIA, ↓eLenSl, ↓eCapSl, ↓eLenS, ↓eMin, ↓eMax, ↓eCondT, ↓eCondF, ↓gIf_tt, ↓gIf_ff, ↓gIf_tf, ↓gIf_ft, ↓gIf_u, ↓gIfW_u, ↓gIfW_tt, ↓gIfW_ff, ↓gIfW_tf, ↓gIfW_ft, binI, divI, shiftI, add_mk, Nat.zero_add, cond_true, cond_false, decide_true, decide_false, Bool.not_true, Bool.not_false, Bool.and_true, Bool.true_and, Bool.and_false, Bool.false_and, Int.toNat_natCast, Nat.mul_one, d1, d2]
      rw [thereN, decide_eq_true (by omega), decide_eq_false (by omega)] at h
      exact h
  · simp only [↓eBinI, ↓eDiv, ↓eShift, ↓eBinS, ↓ePick, ↓eNot, ↓eNeg, ↓eConv, ↓eConvS, ↓eExt0, ↓eExt1, ↓eExt2, ↓eFA, ↓eIA, ↓eLenSl, ↓eCapSl, ↓eLenS, ↓eMin, ↓eMax, ↓eCondT, ↓eCondF, ↓gIf_tt, ↓gIf_ff, ↓gIf_tf, ↓gIf_ft, ↓gIf_u, ↓gIfW_u, ↓gIfW_tt, ↓gIfW_ff, ↓gIfW_tf, ↓gIfW_ft, binI, divI, shiftI, add_mk, Nat.zero_add, cond_true, cond_false, decide_true, decide_false, Bool.not_true, Bool.not_false, Bool.and_true, Bool.true_and, Bool.and_false, Bool.false_and, Int.toNat_natCast, Nat.mul_one, d1]
    rw [thereN, decide_eq_false (by omega)] at h
    exact h
theorem RKind_c (hx : Rd (.slice tNode) D w [x] ns) (hid : InI id) (h : K (.int .i64 (kindN ns id)) w) : GCalls Try.prog 31 [x, .int .i64 id] K X w := by
  apply oublietteref15_Table_Kind.calls; unfold oublietteref15_Table_Kind.b
  refine RThere_c hx ?_
  cases hth : thereN ns id with
  | false =>
    simp only [↓eBinI, ↓eDiv, ↓eShift, ↓eBinS, ↓ePick, ↓eNot, ↓eNeg, ↓eConv, ↓eConvS, ↓eExt0, ↓eExt1, ↓eExt2, ↓eFA, ↓eIA, ↓eLenSl, ↓eCapSl, ↓eLenS, ↓eMin, ↓eMax, ↓eCondT, ↓eCondF, ↓gIf_tt, ↓gIf_ff, ↓gIf_tf, ↓gIf_ft, ↓gIf_u, ↓gIfW_u, ↓gIfW_tt, ↓gIfW_ff, ↓gIfW_tf, ↓gIfW_ft, binI, divI, shiftI, add_mk, Nat.zero_add, cond_true, cond_false, decide_true, decide_false, Bool.not_true, Bool.not_false, Bool.and_true, Bool.true_and, Bool.and_false, Bool.false_and, Int.toNat_natCast, Nat.mul_one]
    rw [(thereNot hth).1] at h; exact h
  | true =>
    obtain ⟨i, hi, rfl, ek, ep⟩ := thereAt hth
    rw [ek] at h
    obtain ⟨ad, c, rfl, s1, _, q⟩ := nodeAt hx hi
    obtain ⟨_, _, _, _, hl⟩ := hx.form
    have e0 : IntKind.i64.wrap ((i : Int) + 1 - 1) = (i : Int) := by rw [wrap64 (by omega) (by omega)]; omega
    have q0 := q 0 _ rfl
    have a0 : (ad.add (i * 5)).add 0 = ad.add (i * 5 + 0) := by rw [add_add _ _ _ s1]
    simp only [↓eBinI, ↓eDiv, ↓eShift, ↓eBinS, ↓ePick, ↓eNot, ↓eNeg, ↓eConv, ↓eConvS, ↓eExt0, ↓eExt1, ↓eExt2, ↓eFA, ↓eIA, ↓eLenSl, ↓eCapSl, ↓eLenS, ↓eMin, ↓eMax, ↓eCondT, ↓eCondF, ↓gIf_tt, ↓gIf_ff, ↓gIf_tf, ↓gIf_ft, ↓gIf_u, ↓gIfW_u, ↓gIfW_tt, ↓gIfW_ff, ↓gIfW_tf, ↓gIfW_ft, binI, divI, shiftI, add_mk, Nat.zero_add, cond_true, cond_false, decide_true, decide_false, Bool.not_true, Bool.not_false, Bool.and_true, Bool.true_and, Bool.and_false, Bool.false_and, Int.toNat_natCast, Nat.mul_one, e0]
    refine ⟨by omega, by omega, ?_⟩
    simp only [a0, ↓eLdW, q0, Option.some.injEq, exists_eq_left']
    exact h
theorem RParts_c (hx : Rd (.slice tNode) D w [x] ns) (hg : GoodN ns) (hid : InI id) (h : ∀ v w', Ext w w' → Rd (.slice (.int .i64)) (w.heap.size ≤ ·) w' [v] (partsN ns id) → K v w') : GCalls Try.prog 32 [x, .int .i64 id] K X w := by
  apply oublietteref15_Table_Parts.calls; unfold oublietteref15_Table_Parts.b
  refine RThere_c hx ?_
  have hnil : ∀ (D : Nat → Prop) (w : World), Rd (.slice (.int .i64)) D w [.slice none 0 0] ([] : List Int) := fun D w => ⟨none, 0, rfl, Nat.le_refl _, by show 0 < _; omega, fun h => absurd rfl h⟩
  cases hth : thereN ns id with
  | false =>
    simp only [↓eBinI, ↓eDiv, ↓eShift, ↓eBinS, ↓ePick, ↓eNot, ↓eNeg, ↓eConv, ↓eConvS, ↓eExt0, ↓eExt1, ↓eExt2, ↓eFA, ↓eIA, ↓eLenSl, ↓eCapSl, ↓eLenS, ↓eMin, ↓eMax, ↓eCondT, ↓eCondF, ↓gIf_tt, ↓gIf_ff, ↓gIf_tf, ↓gIf_ft, ↓gIf_u, ↓gIfW_u, ↓gIfW_tt, ↓gIfW_ff, ↓gIfW_tf, ↓gIfW_ft, binI, divI, shiftI, add_mk, Nat.zero_add, cond_true, cond_false, decide_true, decide_false, Bool.not_true, Bool.not_false, Bool.and_true, Bool.true_and, Bool.and_false, Bool.false_and, Int.toNat_natCast, Nat.mul_one]
    refine h _ w (Fr.refl _ _) ?_
    rw [(thereNot hth).2]; exact hnil _ _
  | true =>
    obtain ⟨i, hi, rfl, ek, ep⟩ := thereAt hth
    rw [ep] at h
    have ⟨hok, _⟩ := hg.form i hi
    obtain ⟨ad, c, rfl, s1, _, q⟩ := nodeAt hx hi
    obtain ⟨_, _, _, _, hl⟩ := hx.form
    have e0 : IntKind.i64.wrap ((i : Int) + 1 - 1) = (i : Int) := by rw [wrap64 (by omega) (by omega)]; omega
    have q0 := q 0 _ rfl
    have a0 : (ad.add (i * 5)).add 0 = ad.add (i * 5 + 0) := by rw [add_add _ _ _ s1]
    have hlo : ∀ n : Int, 1 ≤ n → n ≤ (i : Int) → InI n := fun n h1 h2 => ⟨by omega, by omega⟩
    simp only [↓eBinI, ↓eDiv, ↓eShift, ↓eBinS, ↓ePick, ↓eNot, ↓eNeg, ↓eConv, ↓eConvS, ↓eExt0, ↓eExt1, ↓eExt2, ↓eFA, ↓eIA, ↓eLenSl, ↓eCapSl, ↓eLenS, ↓eMin, ↓eMax, ↓eCondT, ↓eCondF, ↓gIf_tt, ↓gIf_ff, ↓gIf_tf, ↓gIf_ft, ↓gIf_u, ↓gIfW_u, ↓gIfW_tt, ↓gIfW_ff, ↓gIfW_tf, ↓gIfW_ft, binI, divI, shiftI, add_mk, Nat.zero_add, cond_true, cond_false, decide_true, decide_false, Bool.not_true, Bool.not_false, Bool.and_true, Bool.true_and, Bool.and_false, Bool.false_and, Int.toNat_natCast, Nat.mul_one, e0]
    refine ⟨by omega, by omega, ?_⟩
    simp only [a0, ↓eLdW, q0, Option.some.injEq, exists_eq_left']
    by_cases c3 : ns[i].1 < 3
    · have hp : partsOf ns[i] = [] := by simp [partsOf, c3]
      simp only [↓eBinI, ↓eDiv, ↓eShift, ↓eBinS, ↓ePick, ↓eNot, ↓eNeg, ↓eConv, ↓eConvS, ↓eExt0, ↓eExt1, ↓eExt2, ↓eFA, ↓eIA, ↓eLenSl, ↓eCapSl, ↓eLenS, ↓eMin, ↓eMax, ↓eCondT, ↓eCondF, ↓gIf_tt, ↓gIf_ff, ↓gIf_tf, ↓gIf_ft, ↓gIf_u, ↓gIfW_u, ↓gIfW_tt, ↓gIfW_ff, ↓gIfW_tf, ↓gIfW_ft, binI, divI, shiftI, add_mk, Nat.zero_add, cond_true, cond_false, decide_true, decide_false, Bool.not_true, Bool.not_false, Bool.and_true, Bool.true_and, Bool.and_false, Bool.false_and, Int.toNat_natCast, Nat.mul_one, c3]
      refine h _ w (Fr.refl _ _) ?_
      rw [hp]; exact hnil _ _
    · simp only [↓eBinI, ↓eDiv, ↓eShift, ↓eBinS, ↓ePick, ↓eNot, ↓eNeg, ↓eConv, ↓eConvS, ↓eExt0, ↓eExt1, ↓eExt2, ↓eFA, ↓eIA, ↓eLenSl, ↓eCapSl, ↓eLenS, ↓eMin, ↓eMax, ↓eCondT, ↓eCondF, ↓gIf_tt, ↓gIf_ff, ↓gIf_tf, ↓gIf_ft, ↓gIf_u, ↓gIfW_u, ↓gIfW_tt, ↓gIfW_ff, ↓gIfW_tf, ↓gIfW_ft, binI, divI, shiftI, add_mk, Nat.zero_add, cond_true, cond_false, decide_true, decide_false, Bool.not_true, Bool.not_false, Bool.and_true, Bool.true_and, Bool.and_false, Bool.false_and, Int.toNat_natCast, Nat.mul_one, c3, e0]
      refine ⟨by omega, by omega, ?_⟩
      refine ⟨ad.add (i * 5), nodeV ns[i], rfl, rfl, fun w' e j hj => ?_, ?_⟩
      · subst e
        rw [add_add _ _ _ s1, List.getElem?_eq_getElem (show j < (nodeV ns[i]).length from hj)]
        exact q j _ (List.getElem?_eq_getElem _)
      refine boxC (cs := [.int .i64 0, .int .i64 0, .int .i64 0, .string ⟨#[]⟩, .int .i64 0]) fun g3 w3 hg3 h3 b3 => ?_
      refine b3.setN (l' := nodeV ns[i]) rfl rfl (by intro v hv; simp only [nodeV, List.mem_cons, List.not_mem_nil, or_false] at hv; rcases hv with rfl | rfl | rfl | rfl | rfl <;> rfl) fun w4 b4 f4 => ?_
      have z3 := h3.size; have x3 : Ext w w4 := h3.tn f4 (fun x hx => by omega)
      have z4 := f4.size
      have b4 : Cs w4 g3 [.int .i64 ns[i].1, .int .i64 ns[i].2.1, .int .i64 ns[i].2.2.1, strV ns[i].2.2.2.1, .int .i64 ns[i].2.2.2.2] := b4
      rcases hok with hk | hk | hk | ⟨hk, hk2⟩
      · omega
      · omega
      · have hp : partsOf ns[i] = [ns[i].2.1] := by simp [partsOf, hk.1]
        have e3 : (ns[i].1 == 3) = true := by simp [hk.1]
        simp only [↓eBinI, ↓eDiv, ↓eShift, ↓eBinS, ↓ePick, ↓eNot, ↓eNeg, ↓eConv, ↓eConvS, ↓eExt0, ↓eExt1, ↓eExt2, ↓eFA, ↓eIA, ↓eLenSl, ↓eCapSl, ↓eLenS, ↓eMin, ↓eMax, ↓eCondT, ↓eCondF, ↓gIf_tt, ↓gIf_ff, ↓gIf_tf, ↓gIf_ft, ↓gIf_u, ↓gIfW_u, ↓gIfW_tt, ↓gIfW_ff, ↓gIfW_tf, ↓gIfW_ft, binI, divI, shiftI, add_mk, Nat.zero_add, cond_true, cond_false, decide_true, decide_false, Bool.not_true, Bool.not_false, Bool.and_true, Bool.true_and, Bool.and_false, Bool.false_and, Int.toNat_natCast, Nat.mul_one, ↓b4.c0, ↓b4.c1, e3]
        refine bslice1 rfl fun g5 w5 hg5 h5 c5 => ?_
        refine h _ w5 (x3.tr h5) ?_
        rw [hp]
        exact (ints1 c5 (hlo _ hk.2.1 hk.2.2.1)).wide fun b hb => by show w.heap.size ≤ b; omega
      · have hn3 : ¬ ns[i].1 = 3 := by rcases hk with hk | hk <;> omega
        have hp : partsOf ns[i] = [ns[i].2.1, ns[i].2.2.1] := by simp [partsOf, c3, hn3]
        have e3 : (ns[i].1 == 3) = false := by simpa using hn3
        simp only [↓eBinI, ↓eDiv, ↓eShift, ↓eBinS, ↓ePick, ↓eNot, ↓eNeg, ↓eConv, ↓eConvS, ↓eExt0, ↓eExt1, ↓eExt2, ↓eFA, ↓eIA, ↓eLenSl, ↓eCapSl, ↓eLenS, ↓eMin, ↓eMax, ↓eCondT, ↓eCondF, ↓gIf_tt, ↓gIf_ff, ↓gIf_tf, ↓gIf_ft, ↓gIf_u, ↓gIfW_u, ↓gIfW_tt, ↓gIfW_ff, ↓gIfW_tf, ↓gIfW_ft, binI, divI, shiftI, add_mk, Nat.zero_add, cond_true, cond_false, decide_true, decide_false, Bool.not_true, Bool.not_false, Bool.and_true, Bool.true_and, Bool.and_false, Bool.false_and, Int.toNat_natCast, Nat.mul_one, ↓b4.c0, ↓b4.c1, ↓b4.c2, e3]
        refine Cs.bslice (cs := [.int .i64 ns[i].2.1, .int .i64 ns[i].2.2.1]) (by simp [rowOf, fillL, one_cells, cutIn, Value.cells]) fun g5 w5 hg5 h5 c5 => ?_
        refine h _ w5 (x3.tr h5) ?_
        rw [hp]
        exact (ints2 c5 (hlo _ hk2.1 hk2.2.1) (hlo _ hk2.2.2.1 hk2.2.2.2.1)).wide fun b hb => by show w.heap.size ≤ b; omega
end Go.Proofs.Ytkpgmaiklfjjgaa
end
section
set_option linter.unusedSimpArgs false
set_option linter.unusedVariables false
set_option maxRecDepth 100000
namespace Go.Proofs.Ytkpgmaiklfjjgaa
open Go Go.G
abbrev Act := Int × Int × Int × List UInt8
abbrev tAct : Ty := .pair (.int .i64) (.pair (.int .i64) (.pair (.int .i64) .str))
def nodeOf (a : Act) : Node := if a.1 = 2 then (2, 0, 0, a.2.2.2, 0) else if a.1 = 3 then (3, a.2.1, 0, a.2.2.2, 0) else if a.1 = 4 then (4, a.2.1, a.2.2.1, [], 0) else (5, a.2.1, a.2.2.1, [], 0)
def atomOf (ns : List Node) : Node := (1, 0, 0, [], atomsN ns)
def putN (ns : List Node) (x : Node) : List Node := if (partsOf x).all (thereN ns) then (if x ∈ ns then ns else ns ++ [x]) else ns
def putId (ns : List Node) (x : Node) : Int := if (partsOf x).all (thereN ns) then (ns.idxOf x : Int) + 1 else 0
def actN (ns : List Node) (a : Act) : List Node := if a.1 = 1 then ns ++ [atomOf ns] else putN ns (nodeOf a)
def actId (ns : List Node) (a : Act) : Int := if a.1 = 1 then (ns.length : Int) + 1 else putId ns (nodeOf a)
/-- A term that is no atom, its parts aside. -/
def Norm (x : Node) : Prop := (x.1 = 2 ∧ x.2.1 = 0 ∧ x.2.2.1 = 0 ∧ x.2.2.2.2 = 0) ∨ (x.1 = 3 ∧ x.2.2.1 = 0 ∧ x.2.2.2.2 = 0) ∨ ((x.1 = 4 ∨ x.1 = 5) ∧ x.2.2.2.1 = [] ∧ x.2.2.2.2 = 0)
theorem norm_of (a : Act) : Norm (nodeOf a) := by
  unfold nodeOf Norm
  split
  · exact .inl ⟨rfl, rfl, rfl, rfl⟩
  · split
    · exact .inr (.inl ⟨rfl, rfl, rfl⟩)
    · split
      · exact .inr (.inr ⟨.inl rfl, rfl, rfl⟩)
      · exact .inr (.inr ⟨.inr rfl, rfl, rfl⟩)
theorem Norm.ne1 {x : Node} (h : Norm x) : x.1 ≠ 1 := by
  rcases h with h | h | ⟨h | h, _⟩ <;> omega
theorem Norm.zero {x : Node} (h : Norm x) : x.2.2.2.2 = 0 := by
  rcases h with h | h | h
  · exact h.2.2.2
  · exact h.2.2
  · exact h.2.2
theorem NodeOk.zero {i : Nat} {x : Node} (h : NodeOk i x) (h1 : x.1 ≠ 1) : x.2.2.2.2 = 0 := by
  rcases h with h | h | h | h
  · exact absurd h.1 h1
  · exact h.2.2.2
  · exact h.2.2.2.2
  · exact h.2.2.2.2.2.2
theorem key_eq {x y : Node} (hx : x.2.2.2.2 = 0) (hy : y.2.2.2.2 = 0) (h : keyN x = keyN y) : x = y := by
  obtain ⟨a, b, c, d, e⟩ := x
  obtain ⟨a', b', c', d', e'⟩ := y
  simp only [keyN, Prod.mk.injEq] at h
  simp only at hx hy
  obtain ⟨rfl, rfl, rfl, rfl⟩ := h
  rw [hx, hy]
theorem NodeOk.of {ns : List Node} {x : Node} (h : Norm x) (hp : (partsOf x).all (thereN ns) = true) : NodeOk ns.length x := by
  rcases h with h | h | ⟨h, h2, h3⟩
  · exact .inr (.inl h)
  · have : partsOf x = [x.2.1] := by simp [partsOf, h.1]
    rw [this] at hp
    simp only [List.all_cons, List.all_nil, Bool.and_true] at hp
    have := thereN_iff.1 hp
    exact .inr (.inr (.inl ⟨h.1, this.1, this.2, h.2.1, h.2.2⟩))
  · have c3 : ¬ x.1 < 3 := by rcases h with h | h <;> omega
    have n3 : ¬ x.1 = 3 := by rcases h with h | h <;> omega
    have : partsOf x = [x.2.1, x.2.2.1] := by simp [partsOf, c3, n3]
    rw [this] at hp
    simp only [List.all_cons, List.all_nil, Bool.and_true, Bool.and_eq_true] at hp
    have h1 := thereN_iff.1 hp.1
    have h2' := thereN_iff.1 hp.2
    exact .inr (.inr (.inr ⟨h, h1.1, h1.2, h2'.1, h2'.2, h2, h3⟩))
theorem atomsN_le (ns : List Node) : 0 ≤ atomsN ns ∧ atomsN ns ≤ (ns.length : Int) := by
  have : (ns.countP fun x => x.1 == 1) ≤ ns.length := List.countP_le_length
  constructor
  · show (0 : Int) ≤ ((ns.countP fun x => x.1 == 1 : Nat) : Int); omega
  · show ((ns.countP fun x => x.1 == 1 : Nat) : Int) ≤ _; omega
theorem GoodN.snoc {ns : List Node} {x : Node} (h : GoodN ns) (hx : NodeOk ns.length x) (hl : x.2.2.2.1.length ≤ 1000000) (hn : x ∉ ns) (hz : x.1 ≠ 1 → x.2.2.2.2 = 0) : GoodN (ns ++ [x]) := by
  refine ⟨fun i hi => ?_, fun i j hi hj h1 he => ?_⟩
  · rcases Nat.lt_or_ge i ns.length with c | c
    · rw [List.getElem_append_left c]; exact h.form i c
    · have : i = ns.length := by simp at hi; omega
      subst this
      rw [List.getElem_append_right (Nat.le_refl _)]
      simpa using ⟨hx, hl⟩
  · rcases Nat.lt_or_ge i ns.length with c | c
    · rcases Nat.lt_or_ge j ns.length with d | d
      · rw [List.getElem_append_left c] at h1 he
        rw [List.getElem_append_left d] at he
        exact h.uniq i j c d h1 he
      · have : j = ns.length := by simp at hj; omega
        subst this
        rw [List.getElem_append_left c] at h1 he
        rw [List.getElem_append_right (Nat.le_refl _)] at he
        simp only [Nat.sub_self, List.getElem_cons_zero] at he
        have hk : ns[i].1 = x.1 := congrArg (fun k : Key => k.1) he
        have := key_eq ((h.form i c).1.zero h1) (hz (by rw [← hk]; exact h1)) he
        exact absurd (this ▸ List.getElem_mem c) hn
    · have : i = ns.length := by simp at hi; omega
      subst this
      rcases Nat.lt_or_ge j ns.length with d | d
      · rw [List.getElem_append_right (Nat.le_refl _)] at h1 he
        rw [List.getElem_append_left d] at he
        simp only [Nat.sub_self, List.getElem_cons_zero] at h1 he
        have hk : x.1 = ns[j].1 := congrArg (fun k : Key => k.1) he
        have := key_eq (hz h1) ((h.form j d).1.zero (by rw [← hk]; exact h1)) he
        exact absurd (this ▸ List.getElem_mem d) hn
      · simp at hj; omega
theorem atom_new {ns : List Node} (h : GoodN ns) : True := trivial
theorem GoodN.atom {ns : List Node} (h : GoodN ns) : GoodN (ns ++ [atomOf ns]) := by
  have ha := atomsN_le ns
  refine ⟨fun i hi => ?_, fun i j hi hj h1 he => ?_⟩
  · rcases Nat.lt_or_ge i ns.length with c | c
    · rw [List.getElem_append_left c]; exact h.form i c
    · have : i = ns.length := by simp at hi; omega
      subst this
      rw [List.getElem_append_right (Nat.le_refl _)]
      simp only [Nat.sub_self, List.getElem_cons_zero]
      exact ⟨.inl ⟨rfl, rfl, rfl, rfl, ha.1, ha.2⟩, by simp [atomOf]⟩
  · rcases Nat.lt_or_ge i ns.length with c | c
    · rw [List.getElem_append_left c] at h1 he
      rcases Nat.lt_or_ge j ns.length with d | d
      · rw [List.getElem_append_left d] at he
        exact h.uniq i j c d h1 he
      · have : j = ns.length := by simp at hj; omega
        subst this
        rw [List.getElem_append_right (Nat.le_refl _)] at he
        simp only [Nat.sub_self, List.getElem_cons_zero] at he
        exact absurd (congrArg (fun k : Key => k.1) he : ns[i].1 = 1) h1
    · have : i = ns.length := by simp at hi; omega
      subst this
      rw [List.getElem_append_right (Nat.le_refl _)] at h1
      simp [atomOf] at h1
theorem atomsN_snoc (ns : List Node) (x : Node) : atomsN (ns ++ [x]) = atomsN ns + (if x.1 = 1 then 1 else 0) := by
  unfold atomsN
  rw [List.countP_append, List.countP_singleton]
  by_cases h : x.1 = 1 <;> simp [h]
theorem MapOk.atom {ns : List Node} {ml : List (Key × Value)} (h : MapOk ns ml) : MapOk (ns ++ [atomOf ns]) ml := by
  obtain ⟨h1, h2, h3⟩ := h
  refine ⟨fun i hi hk => ?_, fun k v hv => ?_, h3⟩
  · rcases Nat.lt_or_ge i ns.length with c | c
    · rw [List.getElem_append_left c] at hk ⊢; exact h1 i c hk
    · have : i = ns.length := by simp at hi; omega
      subst this
      rw [List.getElem_append_right (Nat.le_refl _)] at hk
      simp [atomOf] at hk
  · obtain ⟨i, hi, a, b, c⟩ := h2 k v hv
    exact ⟨i, by simp; omega, by rw [List.getElem_append_left hi]; exact a, by rw [List.getElem_append_left hi]; exact b, c⟩
theorem MapOk.none {ns : List Node} {ml : List (Key × Value)} {x : Node} (h : MapOk ns ml) (hg : GoodN ns) (hz : x.2.2.2.2 = 0) (hn : x ∉ ns) : mget ml (keyN x) = none := by
  cases e : mget ml (keyN x) with
  | none => rfl
  | some v =>
    obtain ⟨i, hi, a, b, c⟩ := h.2.1 _ _ e
    have := key_eq ((hg.form i hi).1.zero a) hz b
    exact absurd (this ▸ List.getElem_mem hi) hn
theorem MapOk.mem {ns : List Node} {ml : List (Key × Value)} {x : Node} (h : MapOk ns ml) (h1 : x.1 ≠ 1) (hn : x ∈ ns) : mget ml (keyN x) = some (.int .i64 ((ns.idxOf x : Int) + 1)) := by
  have hi := List.idxOf_lt_length_of_mem hn
  have := h.1 (ns.idxOf x) hi (by rw [List.getElem_idxOf]; exact h1)
  rwa [List.getElem_idxOf] at this
theorem MapOk.put {ns : List Node} {ml : List (Key × Value)} {x : Node} (h : MapOk ns ml) (hg : GoodN ns) (h1 : x.1 ≠ 1) (hz : x.2.2.2.2 = 0) (hn : x ∉ ns) (hk : KeyOk Try.prog tyKey (encK (keyN x))) : MapOk (ns ++ [x]) (mput ml (keyN x) (.int .i64 ((ns.length : Int) + 1))) := by
  have hno := h.none hg hz hn
  obtain ⟨a1, a2, a3⟩ := h
  refine ⟨fun i hi hki => ?_, fun k v hv => ?_, fun p hp => ?_⟩
  · rw [mget_put]
    rcases Nat.lt_or_ge i ns.length with c | c
    · rw [List.getElem_append_left c] at hki ⊢
      have hne : keyN x ≠ keyN ns[i] := fun e => by
        have := a1 i c hki
        rw [← e, hno] at this; cases this
      rw [if_neg hne]; exact a1 i c hki
    · have : i = ns.length := by simp at hi; omega
      subst this
      rw [List.getElem_append_right (Nat.le_refl _)]
      simp
  · rw [mget_put] at hv
    split at hv
    · rename_i e
      cases hv
      exact ⟨ns.length, by simp, by rw [List.getElem_append_right (Nat.le_refl _)]; simpa using h1, by rw [List.getElem_append_right (Nat.le_refl _)]; simpa using e, rfl⟩
    · obtain ⟨i, hi, a, b, c⟩ := a2 k v hv
      exact ⟨i, by simp; omega, by rw [List.getElem_append_left hi]; exact a, by rw [List.getElem_append_left hi]; exact b, c⟩
  · rw [mput_none hno] at hp
    rcases List.mem_append.1 hp with hp | hp
    · exact a3 p hp
    · rw [List.mem_singleton.1 hp]; exact hk
end Go.Proofs.Ytkpgmaiklfjjgaa
end
