/-
  What was seen of writes: the document's answer; and what the law on it hands back.
-/
import Derived.Test.YtlolomdgchkibaaTs
set_option linter.unusedSimpArgs false
set_option linter.unusedVariables false
namespace Go.Proofs.Ytlolomdgchkibaa
open Go Go.G
variable {X : KX} {w : World} {K : KV} {D D' : Nat → Prop}
theorem places_hid (l : List (Int × List UInt8)) (hid : List Int) : placesF ((l.filter fun r => decide (r.1 ∈ hid)).map (·.1)) = (placesF (l.map (·.1))).filter fun p => decide (p ∈ hid) := by
  have h1 := places_spec ((l.filter fun r => decide (r.1 ∈ hid)).map (·.1))
  have h2 := places_spec (l.map (·.1))
  have s2 : ((placesF (l.map (·.1))).filter fun p => decide (p ∈ hid)).Pairwise (· < ·) := h2.1.filter _
  have hm : ∀ q, q ∈ placesF ((l.filter fun r => decide (r.1 ∈ hid)).map (·.1)) ↔ q ∈ (placesF (l.map (·.1))).filter fun p => decide (p ∈ hid) := fun q => by
    rw [h1.2, List.mem_filter, h2.2, List.mem_map, List.mem_map]
    constructor
    · rintro ⟨r, hr, rfl⟩
      obtain ⟨hr, hh⟩ := List.mem_filter.1 hr
      exact ⟨⟨r, hr, rfl⟩, hh⟩
    · rintro ⟨⟨r, hr, rfl⟩, hh⟩
      exact ⟨r, List.mem_filter.2 ⟨hr, hh⟩, rfl⟩
  have hp := (List.perm_ext_iff_of_nodup (h1.1.imp (fun h => by omega)) (s2.imp (fun h => by omega))).2 hm
  exact List.Perm.eq_of_pairwise (le := fun a b => a < b) (fun a b _ _ h1 h2 => by omega) h1.1 s2 hp
theorem ofF_hid {l : List (Int × List UInt8)} {hid : List Int} {p : Int} (h : p ∈ hid) : ofF (l.filter fun r => decide (r.1 ∈ hid)) p = ofF l p := by
  unfold ofF
  rw [List.filter_filter]
  congr 1
  apply List.filter_congr
  intro r _
  by_cases e : r.1 = p
  · simp [e, h]
  · simp [e]
theorem lastF_get {l : List (Int × List UInt8)} {p : Int} (h : ofF l p ≠ []) : ∃ hlt : (ofF l p).length - 1 < (ofF l p).length, (ofF l p)[(ofF l p).length - 1] = lastF l p := by
  have hp : 0 < (ofF l p).length := List.length_pos_iff.2 h
  refine ⟨by omega, ?_⟩
  unfold lastF
  rw [List.getLast?_eq_getElem?, List.getElem?_eq_getElem (by omega)]
  rfl
/-- An element, read as a row. -/
theorem ld_write {ad : Addr} {n c : Nat} {l : List (Int × List UInt8)} {i : Nat} {Kp : KP} (hx : Rd (.slice tWrite) D w [.slice (some ad) n c] l) (hi : i < l.length)
    (k : ∀ us : List Value, us.length = 2 → Rd tWrite D w us l[i] → Kp (.agg ⟨us⟩)) : pLdN (· = w) 2 (.pointer (some (ad.add (i * 2)))) Kp := by
  obtain ⟨ad, c, us, e1, s1, _, hus, q1, r1⟩ := hx.idxN hi
  simp only [Value.slice.injEq, Option.some.injEq] at e1
  obtain ⟨rfl, -, rfl⟩ := e1
  refine ⟨_, us, rfl, hus, fun w' e j hj => ?_, k us hus r1⟩
  subst e
  rw [add_add _ _ _ s1]
  have : us[j]? = some (us[j]'(by have : tWrite.n = 2 := rfl; omega)) := List.getElem?_eq_getElem _
  rw [this]; exact q1 j _ this
set_option maxHeartbeats 1000000 in
theorem ref20_Seen_c {x y : Value} {l : List (Int × List UInt8)} {hid : List Int} {D2 : Nat → Prop} (hx : Rd (.slice tWrite) D w [x] l) (hD : ∀ b, D b → b < w.heap.size) (hy : Rd (.slice (.int .i64)) D2 w [y] hid) (hl : l.length ≤ 100)
    (h : ∀ v w' D', Ext w w' → Own tWrite D' w.heap.size w' v (seenF l hid) → K v w') : GCalls Try.prog 46 [x, y] K X w := by
  obtain ⟨a1, c1, rfl, hc1, hl1⟩ := hx.form
  apply oublietteref20_Seen.calls; unfold oublietteref20_Seen.b
  refine oublietteref20_Seen.loop1 (fun x5 x6 x7 w' => ∃ (i : Nat), i ≤ l.length ∧ x7 = .int .i64 i ∧ Ext w w' ∧ Own tWrite D w.heap.size w' x5 ((l.take i).filter fun r => !decide (r.1 ∈ hid)) ∧ Own tWrite D w.heap.size w' x6 ((l.take i).filter fun r => decide (r.1 ∈ hid)) ∧
      (∀ b, Blk x5 b → b < w'.heap.size) ∧ (∀ b, Blk x6 b → b < w'.heap.size) ∧ (∀ b, Blk x5 b → Blk x6 b → False)) (fun _ _ x7 _ => l.length - (iv x7).toNat)
    ⟨0, by omega, rfl, Fr.refl _ _, Own.nil, Own.nil, (by rintro b ⟨a', n', c', e, _⟩; cases e), (by rintro b ⟨a', n', c', e, _⟩; cases e), (by rintro b ⟨a', n', c', e, _⟩; cases e)⟩ ?_
  rintro x5 x6 x7 gg w1 ⟨i, hi, rfl, h1, o5, o6, b5, b6, dis⟩
  unfold oublietteref20_Seen.b1
  simp only [↓eBinI, ↓eDiv, ↓eShift, ↓eBinS, ↓ePick, ↓eNot, ↓eNeg, ↓eConv, ↓eConvS, ↓eExt0, ↓eExt1, ↓eExt2, ↓eFA, ↓eIA, ↓eLenSl, ↓eCapSl, ↓eLenS, ↓eMin, ↓eMax, ↓eCondT, ↓eCondF, ↓gIf_tt, ↓gIf_ff, ↓gIf_tf, ↓gIf_ft, ↓gIf_u, ↓gIfW_u, ↓gIfW_tt, ↓gIfW_ff, ↓gIfW_tf, ↓gIfW_ft, binI, divI, shiftI, add_mk, Nat.zero_add, cond_true, cond_false, decide_true, decide_false, Bool.not_true, Bool.not_false, Bool.and_true, Bool.true_and, Bool.and_false, Bool.false_and, Int.toNat_natCast, Nat.mul_one]
  have s1 := h1.size
  by_cases ci : (i : Int) < (l.length : Int)
  · have hi' : i < l.length := by omega
    obtain ⟨b2, k2, p2, k2', e2, q2, q2', r2, hp0, hp1⟩ := idxWrite (hx.ext h1) (i := i) (by omega)
    simp only [Value.slice.injEq] at e2
    obtain ⟨rfl, -, rfl⟩ := e2
    simp only [↓eBinI, ↓eDiv, ↓eShift, ↓eBinS, ↓ePick, ↓eNot, ↓eNeg, ↓eConv, ↓eConvS, ↓eExt0, ↓eExt1, ↓eExt2, ↓eFA, ↓eIA, ↓eLenSl, ↓eCapSl, ↓eLenS, ↓eMin, ↓eMax, ↓eCondT, ↓eCondF, ↓gIf_tt, ↓gIf_ff, ↓gIf_tf, ↓gIf_ft, ↓gIf_u, ↓gIfW_u, ↓gIfW_tt, ↓gIfW_ff, ↓gIfW_tf, ↓gIfW_ft, binI, divI, shiftI, add_mk, Nat.zero_add, cond_true, cond_false, decide_true, decide_false, Bool.not_true, Bool.not_false, Bool.and_true, Bool.true_and, Bool.and_false, Bool.false_and, Int.toNat_natCast, Nat.mul_one, ci, add_zero, ↓eLdW, q2, Option.some.injEq, exists_eq_left']
    refine ⟨by omega, by first | trivial | omega, ?_⟩
    refine ref01_Has_c (hy.ext h1) fun w2 h2 => ?_
    have s2 := h2.size
    have f1 := filter_snoc (p := fun r : Int × List UInt8 => !decide (r.1 ∈ hid)) hi'
    have f2 := filter_snoc (p := fun r : Int × List UInt8 => decide (r.1 ∈ hid)) hi'
    have n1 : ((l.take i).filter fun r => !decide (r.1 ∈ hid)).length ≤ 100 := Nat.le_trans (List.length_filter_le _ _) (by rw [List.length_take]; omega)
    have n2 : ((l.take i).filter fun r => decide (r.1 ∈ hid)).length ≤ 100 := Nat.le_trans (List.length_filter_le _ _) (by rw [List.length_take]; omega)
    have g2 := h1.tr h2
    by_cases ce : l[i].1 ∈ hid
    · have e : decide (l[i].1 ∈ hid) = true := decide_eq_true ce
      simp only [↓eBinI, ↓eDiv, ↓eShift, ↓eBinS, ↓ePick, ↓eNot, ↓eNeg, ↓eConv, ↓eConvS, ↓eExt0, ↓eExt1, ↓eExt2, ↓eFA, ↓eIA, ↓eLenSl, ↓eCapSl, ↓eLenS, ↓eMin, ↓eMax, ↓eCondT, ↓eCondF, ↓gIf_tt, ↓gIf_ff, ↓gIf_tf, ↓gIf_ft, ↓gIf_u, ↓gIfW_u, ↓gIfW_tt, ↓gIfW_ff, ↓gIfW_tf, ↓gIfW_ft, binI, divI, shiftI, add_mk, Nat.zero_add, cond_true, cond_false, decide_true, decide_false, Bool.not_true, Bool.not_false, Bool.and_true, Bool.true_and, Bool.and_false, Bool.false_and, Int.toNat_natCast, Nat.mul_one, e]
      refine ⟨by omega, by first | trivial | omega, ?_⟩
      refine ld_write (hx.ext g2) hi' fun us hus hr => ?_
      refine Cs.bslice (cs := us) (fillAgg hus rfl) fun r w3 hr3 h3 b3 => ?_
      obtain ⟨T3, b3⟩ := b3
      have s3 := h3.size
      refine (o6.ext (h2.tr h3)).push (by omega) (fun hd => by have := hD _ hd; omega) rfl rfl b3 (hr.ext h3) (show (2 * (((l.take i).filter fun r => decide (r.1 ∈ hid)).length + 1) + 192) * 32 ≤ 2 ^ 48 from by omega) fun v4 w4 o4 hf4 hb4 => ?_
      have s4 := hf4.size
      unfold oublietteref20_Seen.j1
      simp only [↓eBinI, ↓eDiv, ↓eShift, ↓eBinS, ↓ePick, ↓eNot, ↓eNeg, ↓eConv, ↓eConvS, ↓eExt0, ↓eExt1, ↓eExt2, ↓eFA, ↓eIA, ↓eLenSl, ↓eCapSl, ↓eLenS, ↓eMin, ↓eMax, ↓eCondT, ↓eCondF, ↓gIf_tt, ↓gIf_ff, ↓gIf_tf, ↓gIf_ft, ↓gIf_u, ↓gIfW_u, ↓gIfW_tt, ↓gIfW_ff, ↓gIfW_tf, ↓gIfW_ft, binI, divI, shiftI, add_mk, Nat.zero_add, cond_true, cond_false, decide_true, decide_false, Bool.not_true, Bool.not_false, Bool.and_true, Bool.true_and, Bool.and_false, Bool.false_and, Int.toNat_natCast, Nat.mul_one]
      rw [wrap64 (by omega) (by omega)]
      refine oublietteref20_Seen.leaf1 ⟨i + 1, by omega, by simp, (g2.tr h3).tn hf4 (fun x hx => hx.2), ?_, ?_, fun b hb => ?_, fun b hb => ?_, fun b h5 h6 => ?_⟩ (by simp only [iv]; omega)
      · rw [f1, if_neg (by simp [ce])]
        exact (o5.ext (h2.tr h3)).fr hf4 (fun b hb ht => by have := hD b hb; omega) (fun b hb _ ht => dis b hb ht.1)
      · rw [f2, if_pos (by simpa using ce)]; exact o4
      · have := b5 b hb; omega
      · rcases hb4 b hb with hb | hb
        · have := b6 b hb; omega
        · omega
      · rcases hb4 b h6 with hb | hb
        · exact dis b h5 hb
        · have := b5 b h5; omega
    · have e : decide (l[i].1 ∈ hid) = false := decide_eq_false ce
      simp only [↓eBinI, ↓eDiv, ↓eShift, ↓eBinS, ↓ePick, ↓eNot, ↓eNeg, ↓eConv, ↓eConvS, ↓eExt0, ↓eExt1, ↓eExt2, ↓eFA, ↓eIA, ↓eLenSl, ↓eCapSl, ↓eLenS, ↓eMin, ↓eMax, ↓eCondT, ↓eCondF, ↓gIf_tt, ↓gIf_ff, ↓gIf_tf, ↓gIf_ft, ↓gIf_u, ↓gIfW_u, ↓gIfW_tt, ↓gIfW_ff, ↓gIfW_tf, ↓gIfW_ft, binI, divI, shiftI, add_mk, Nat.zero_add, cond_true, cond_false, decide_true, decide_false, Bool.not_true, Bool.not_false, Bool.and_true, Bool.true_and, Bool.and_false, Bool.false_and, Int.toNat_natCast, Nat.mul_one, e]
      refine ⟨by omega, by first | trivial | omega, ?_⟩
      refine ld_write (hx.ext g2) hi' fun us hus hr => ?_
      refine Cs.bslice (cs := us) (fillAgg hus rfl) fun r w3 hr3 h3 b3 => ?_
      obtain ⟨T3, b3⟩ := b3
      have s3 := h3.size
      refine (o5.ext (h2.tr h3)).push (by omega) (fun hd => by have := hD _ hd; omega) rfl rfl b3 (hr.ext h3) (show (2 * (((l.take i).filter fun r => !decide (r.1 ∈ hid)).length + 1) + 192) * 32 ≤ 2 ^ 48 from by omega) fun v4 w4 o4 hf4 hb4 => ?_
      have s4 := hf4.size
      unfold oublietteref20_Seen.j1
      simp only [↓eBinI, ↓eDiv, ↓eShift, ↓eBinS, ↓ePick, ↓eNot, ↓eNeg, ↓eConv, ↓eConvS, ↓eExt0, ↓eExt1, ↓eExt2, ↓eFA, ↓eIA, ↓eLenSl, ↓eCapSl, ↓eLenS, ↓eMin, ↓eMax, ↓eCondT, ↓eCondF, ↓gIf_tt, ↓gIf_ff, ↓gIf_tf, ↓gIf_ft, ↓gIf_u, ↓gIfW_u, ↓gIfW_tt, ↓gIfW_ff, ↓gIfW_tf, ↓gIfW_ft, binI, divI, shiftI, add_mk, Nat.zero_add, cond_true, cond_false, decide_true, decide_false, Bool.not_true, Bool.not_false, Bool.and_true, Bool.true_and, Bool.and_false, Bool.false_and, Int.toNat_natCast, Nat.mul_one]
      rw [wrap64 (by omega) (by omega)]
      refine oublietteref20_Seen.leaf1 ⟨i + 1, by omega, by simp, (g2.tr h3).tn hf4 (fun x hx => hx.2), ?_, ?_, fun b hb => ?_, fun b hb => ?_, fun b h5 h6 => ?_⟩ (by simp only [iv]; omega)
      · rw [f1, if_pos (by simp [ce])]; exact o4
      · rw [f2, if_neg (by simpa using ce)]
        exact (o6.ext (h2.tr h3)).fr hf4 (fun b hb ht => by have := hD b hb; omega) (fun b hb _ ht => dis b ht.1 hb)
      · rcases hb4 b hb with hb | hb
        · have := b5 b hb; omega
        · omega
      · have := b6 b hb; omega
      · rcases hb4 b h5 with hb | hb
        · exact dis b hb h6
        · have := b6 b h6; omega
  · simp only [↓eBinI, ↓eDiv, ↓eShift, ↓eBinS, ↓ePick, ↓eNot, ↓eNeg, ↓eConv, ↓eConvS, ↓eExt0, ↓eExt1, ↓eExt2, ↓eFA, ↓eIA, ↓eLenSl, ↓eCapSl, ↓eLenS, ↓eMin, ↓eMax, ↓eCondT, ↓eCondF, ↓gIf_tt, ↓gIf_ff, ↓gIf_tf, ↓gIf_ft, ↓gIf_u, ↓gIfW_u, ↓gIfW_tt, ↓gIfW_ff, ↓gIfW_tf, ↓gIfW_ft, binI, divI, shiftI, add_mk, Nat.zero_add, cond_true, cond_false, decide_true, decide_false, Bool.not_true, Bool.not_false, Bool.and_true, Bool.true_and, Bool.and_false, Bool.false_and, Int.toNat_natCast, Nat.mul_one, ci]
    have : i = l.length := by omega
    subst this
    rw [List.take_length] at o5 o6
    obtain ⟨ll, hll⟩ : ∃ ll, (l.filter fun r => decide (r.1 ∈ hid)) = ll := ⟨_, rfl⟩
    have lll : ll.length ≤ l.length := by rw [← hll]; exact List.length_filter_le _ _
    rw [hll] at o6
    have r6 : Rd (.slice tWrite) (fun b => D b ∨ Blk x6 b) w1 [x6] ll := o6.rd2 (fun b hb => .inl hb) (fun b hb _ _ => .inr hb) (by omega)
    have d6 : ∀ b, D b ∨ Blk x6 b → b < w1.heap.size := fun b hb => by
      rcases hb with hb | hb
      · have := hD b hb; omega
      · exact b6 b hb
    refine ref20_Places_c r6 (by omega) fun v2 w2 h2 o2 hb2 => ?_
    obtain ⟨ps, hps⟩ : ∃ ps, placesF (ll.map (·.1)) = ps := ⟨_, rfl⟩
    have hpl : ps.length ≤ ll.length := by have := placesF_len (ll.map (·.1)); rw [hps, List.length_map] at this; exact this
    rw [hps] at o2
    have s2 := h2.size
    have hpe : ps = (placesF (l.map (·.1))).filter fun p => decide (p ∈ hid) := by rw [← hps, ← hll, places_hid]
    have hpm : ∀ p ∈ ps, p ∈ hid ∧ ofF l p ≠ [] := fun p hp => by
      rw [hpe] at hp
      obtain ⟨h1, h2⟩ := List.mem_filter.1 hp
      refine ⟨of_decide_eq_true h2, fun e => ?_⟩
      rw [(places_spec _).2] at h1
      obtain ⟨r, hr, rfl⟩ := List.mem_map.1 h1
      unfold ofF at e
      rw [List.map_eq_nil_iff, List.filter_eq_nil_iff] at e
      exact e r hr (by simp)
    have rp : Rd (.slice (.int .i64)) (fun b => w1.heap.size ≤ b ∧ b < w2.heap.size) w2 [v2] ps := o2.rd2 (fun _ h => h.elim) (fun b _ hb hb2 => ⟨hb, hb2⟩) (by omega)
    obtain ⟨ap, cp, rfl, hcp, _⟩ := rp.form
    have n1 : (l.filter fun r => !decide (r.1 ∈ hid)).length ≤ 100 := Nat.le_trans (List.length_filter_le _ _) (by omega)
    refine oublietteref20_Seen.loop2 (fun x5 x9 w' => ∃ (i : Nat), i ≤ ps.length ∧ x9 = .int .i64 i ∧ Fr (fun b => w.heap.size ≤ b ∧ ¬ Blk x6 b ∧ (b < w1.heap.size ∨ w2.heap.size ≤ b)) w2 w' ∧ Own tWrite (fun b => D b ∨ Blk x6 b) w.heap.size w' x5 ((l.filter fun r => !decide (r.1 ∈ hid)) ++ (ps.take i).map fun p => (p, lastF l p)) ∧ (∀ b, Blk x5 b → (b < w1.heap.size ∧ ¬ Blk x6 b) ∨ w2.heap.size ≤ b) ∧ (∀ b, Blk x5 b → b < w'.heap.size)) (fun _ x9 _ => ps.length - (iv x9).toNat)
      ⟨0, by omega, rfl, Fr.refl _ _, by simpa using (o5.wide2 (D' := fun b => D b ∨ Blk x6 b) (fun b hb => .inl hb) (fun b hb _ hn hh => hh.elim hn (dis b hb))).ext h2, fun b hb => .inl ⟨b5 b hb, dis b hb⟩, fun b hb => by have := b5 b hb; omega⟩ ?_
    rintro x5' x9 gg2 w3 ⟨i, hi2, rfl, h3, o3, hb3, hb3'⟩
    unfold oublietteref20_Seen.b2
    simp only [↓eBinI, ↓eDiv, ↓eShift, ↓eBinS, ↓ePick, ↓eNot, ↓eNeg, ↓eConv, ↓eConvS, ↓eExt0, ↓eExt1, ↓eExt2, ↓eFA, ↓eIA, ↓eLenSl, ↓eCapSl, ↓eLenS, ↓eMin, ↓eMax, ↓eCondT, ↓eCondF, ↓gIf_tt, ↓gIf_ff, ↓gIf_tf, ↓gIf_ft, ↓gIf_u, ↓gIfW_u, ↓gIfW_tt, ↓gIfW_ff, ↓gIfW_tf, ↓gIfW_ft, binI, divI, shiftI, add_mk, Nat.zero_add, cond_true, cond_false, decide_true, decide_false, Bool.not_true, Bool.not_false, Bool.and_true, Bool.true_and, Bool.and_false, Bool.false_and, Int.toNat_natCast, Nat.mul_one]
    have s3 := h3.size
    have g3 : Ext w w3 := (h1.tr h2).tn h3 (fun x hx => hx.1)
    by_cases ci2 : (i : Int) < (ps.length : Int)
    · have hi3 : i < ps.length := by omega
      have rp3 := rp.fr h3 (fun b hb ht => by omega)
      obtain ⟨bp, kp, u1, e1, _, dbp, q1, r1⟩ := rp3.idx rfl (i := i) hi3
      simp only [Value.slice.injEq] at e1
      obtain ⟨rfl, -, rfl⟩ := e1
      have v1 := r1.1
      simp only [List.cons.injEq, and_true] at v1
      subst v1
      have hr0 := r1.2
      simp only [↓eBinI, ↓eDiv, ↓eShift, ↓eBinS, ↓ePick, ↓eNot, ↓eNeg, ↓eConv, ↓eConvS, ↓eExt0, ↓eExt1, ↓eExt2, ↓eFA, ↓eIA, ↓eLenSl, ↓eCapSl, ↓eLenS, ↓eMin, ↓eMax, ↓eCondT, ↓eCondF, ↓gIf_tt, ↓gIf_ff, ↓gIf_tf, ↓gIf_ft, ↓gIf_u, ↓gIfW_u, ↓gIfW_tt, ↓gIfW_ff, ↓gIfW_tf, ↓gIfW_ft, binI, divI, shiftI, add_mk, Nat.zero_add, cond_true, cond_false, decide_true, decide_false, Bool.not_true, Bool.not_false, Bool.and_true, Bool.true_and, Bool.and_false, Bool.false_and, Int.toNat_natCast, Nat.mul_one, ci2, ↓eLdW, q1, Option.some.injEq, exists_eq_left']
      refine ⟨by omega, by first | trivial | omega, ?_⟩
      have h23 : Fr (fun b => w.heap.size ≤ b ∧ ¬ Blk x6 b ∧ (b < w1.heap.size ∨ w2.heap.size ≤ b)) w1 w3 := (h2.mono (fun _ _ h => h.elim)).trans h3 (fun _ _ h => h)
      refine ref20_Of_c (r6.fr h23 (fun b hb ht => by
        rcases hb with hb | hb
        · have := hD b hb; omega
        · exact ht.2.1 hb)) (fun b hb => by have := d6 b hb; omega) (by omega) fun v4 w4 h4 o4 => ?_
      obtain ⟨hph, hpo⟩ := hpm _ (List.getElem_mem hi3)
      rw [← hll, ofF_hid hph] at o4
      have s4 := h4.size
      have ol := ofF_len l ps[i]
      have pos : 0 < (ofF l ps[i]).length := List.length_pos_iff.2 hpo
      obtain ⟨hlt, hlast⟩ := lastF_get hpo
      have g4 := g3.tr h4
      obtain ⟨gb, cb, rfl, hgb, hltb⟩ := o4.some_of pos
      have hT1 : ¬ (Blk x5' bp.block ∧ w.heap.size ≤ bp.block) := fun hh => by
        rcases hb3 _ hh.1 with hb | hb <;> omega
      have hT2 : ¬ (Blk x5' gb ∧ w.heap.size ≤ gb) := fun hh => by have := hb3' _ hh.1; omega
      refine drawS (fun b => Blk x5' b ∧ w.heap.size ≤ b) fun w5 h5 => ?_
      have s5 := h5.size
      have q5 := ((h4.tr h5).cell q1)
      obtain ⟨u4, q4, rb⟩ := (o4.ext h5).cell1 rfl hlt
      have ew : IntKind.i64.wrap ((((ofF l ps[i]).length : Nat) : Int) - 1) = (((ofF l ps[i]).length - 1 : Nat) : Int) := by rw [wrap64 (by omega) (by omega)]; omega
      simp only [↓eBinI, ↓eDiv, ↓eShift, ↓eBinS, ↓ePick, ↓eNot, ↓eNeg, ↓eConv, ↓eConvS, ↓eExt0, ↓eExt1, ↓eExt2, ↓eFA, ↓eIA, ↓eLenSl, ↓eCapSl, ↓eLenS, ↓eMin, ↓eMax, ↓eCondT, ↓eCondF, ↓gIf_tt, ↓gIf_ff, ↓gIf_tf, ↓gIf_ft, ↓gIf_u, ↓gIfW_u, ↓gIfW_tt, ↓gIfW_ff, ↓gIfW_tf, ↓gIfW_ft, binI, divI, shiftI, add_mk, Nat.zero_add, cond_true, cond_false, decide_true, decide_false, Bool.not_true, Bool.not_false, Bool.and_true, Bool.true_and, Bool.and_false, Bool.false_and, Int.toNat_natCast, Nat.mul_one, ew, ↓eLdT (T := fun b => Blk x5' b ∧ w.heap.size ≤ b) (show ¬ (Blk x5' (bp.add i).block ∧ w.heap.size ≤ (bp.add i).block) by rw [add_block]; exact hT1) q5, ↓eLdT (T := fun b => Blk x5' b ∧ w.heap.size ≤ b) (a := ⟨gb, (ofF l ps[i]).length - 1, none⟩) hT2 q4]
      refine ⟨by omega, by first | trivial | omega, by omega, by omega, ?_⟩
      have hone : G.one u4 = true := rb.isOne (by simp)
      refine ⟨_, fill2 rfl hone, ?_⟩
      refine Cs.bslice (cs := [.int .i64 ps[i], u4]) (fillAgg rfl rfl) fun r w6 hr6 h6 b6' => ⟨h6.mono (fun _ _ h => h.elim), ?_⟩
      obtain ⟨T6, b6'⟩ := b6'
      have s6 := h6.size
      have hrow : Rd tWrite (fun b => D b ∨ Blk x6 b) w6 [.int .i64 ps[i], u4] (ps[i], lastF l ps[i]) := ⟨[.int .i64 ps[i]], [u4], rfl, rfl, rfl, ⟨rfl, hr0⟩, by rw [← hlast]; exact rb.ext h6⟩
      have n3 : ((l.filter fun r => !decide (r.1 ∈ hid)) ++ (ps.take i).map fun p => (p, lastF l p)).length ≤ 300 := by
        rw [List.length_append, List.length_map, List.length_take]; omega
      have h36 := (h4.tr h5).tr h6
      refine (o3.ext h36).push (by omega) (fun hd => by have := d6 _ hd; omega) rfl rfl b6' hrow (show (2 * (((l.filter fun r => !decide (r.1 ∈ hid)) ++ (ps.take i).map fun p => (p, lastF l p)).length + 1) + 192) * 32 ≤ 2 ^ 48 from by omega) fun v7 w7 o7 hf7 hb7 => ?_
      have s7 := hf7.size
      refine ⟨(h6.mono (fun _ _ h => h.elim)).trans hf7 (fun _ _ h => h), ?_⟩
      rw [wrap64 (by omega) (by omega)]
      refine oublietteref20_Seen.leaf2 ⟨i + 1, by omega, by simp, (h3.trans h36 (fun _ _ h => h.elim)).trans hf7 (fun x hlt hx => ?_), ?_, fun b hb => ?_, fun b hb => ?_⟩ (by simp only [iv]; omega)
      · refine ⟨hx.2, fun h6 => ?_, ?_⟩
        · rcases hb3 _ hx.1 with hb | hb
          · exact hb.2 h6
          · have := b6 _ h6; omega
        · rcases hb3 _ hx.1 with hb | hb
          · exact .inl hb.1
          · exact .inr hb
      · rw [List.take_succ_eq_append_getElem hi3, List.map_append, ← List.append_assoc]; exact o7
      · rcases hb7 b hb with hb | hb
        · exact hb3 b hb
        · exact .inr (by omega)
      · rcases hb7 b hb with hb | hb
        · have := hb3' b hb; omega
        · omega
    · simp only [↓eBinI, ↓eDiv, ↓eShift, ↓eBinS, ↓ePick, ↓eNot, ↓eNeg, ↓eConv, ↓eConvS, ↓eExt0, ↓eExt1, ↓eExt2, ↓eFA, ↓eIA, ↓eLenSl, ↓eCapSl, ↓eLenS, ↓eMin, ↓eMax, ↓eCondT, ↓eCondF, ↓gIf_tt, ↓gIf_ff, ↓gIf_tf, ↓gIf_ft, ↓gIf_u, ↓gIfW_u, ↓gIfW_tt, ↓gIfW_ff, ↓gIfW_tf, ↓gIfW_ft, binI, divI, shiftI, add_mk, Nat.zero_add, cond_true, cond_false, decide_true, decide_false, Bool.not_true, Bool.not_false, Bool.and_true, Bool.true_and, Bool.and_false, Bool.false_and, Int.toNat_natCast, Nat.mul_one, ci2]
      have : i = ps.length := by omega
      subst this
      rw [List.take_length, hpe] at o3
      exact h _ w3 _ g3 o3
theorem law20_Seen_c {x y : Value} {l : List (Int × List UInt8)} {hid : List Int} (hx : Rd (.slice tWrite) D w [x] l) (hy : Rd (.slice (.int .i64)) D w [y] hid) (hD : ∀ b, D b → b < w.heap.size)
    (h : ∀ w', Ext w w' → K (.bool true) w') : GCalls Try.prog 8 [x, y] K X w := by
  obtain ⟨a1, c1, rfl, hc1, hl1⟩ := hx.form
  obtain ⟨a2, c2, rfl, hc2, hl2⟩ := hy.form
  apply oubliettelaw20_TrailSeen.calls; unfold oubliettelaw20_TrailSeen.b
  refine law20_light_c hx fun w1 h1 => ?_
  have away : ∀ w', Ext w w' → GCalls Try.prog 11 [] (fun v w => K v w) X w' := fun w' h' => law20_alive_c fun w2 h2 => h w2 (h'.tr h2)
  cases cl : lightF l with
  | false =>
    simp only [↓eBinI, ↓eDiv, ↓eShift, ↓eBinS, ↓ePick, ↓eNot, ↓eNeg, ↓eConv, ↓eConvS, ↓eExt0, ↓eExt1, ↓eExt2, ↓eFA, ↓eIA, ↓eLenSl, ↓eCapSl, ↓eLenS, ↓eMin, ↓eMax, ↓eCondT, ↓eCondF, ↓gIf_tt, ↓gIf_ff, ↓gIf_tf, ↓gIf_ft, ↓gIf_u, ↓gIfW_u, ↓gIfW_tt, ↓gIfW_ff, ↓gIfW_tf, ↓gIfW_ft, binI, divI, shiftI, add_mk, Nat.zero_add, cond_true, cond_false, decide_true, decide_false, Bool.not_true, Bool.not_false, Bool.and_true, Bool.true_and, Bool.and_false, Bool.false_and, Int.toNat_natCast, Nat.mul_one]
    exact away w1 h1
  | true =>
  obtain ⟨hl, hs⟩ := light_spec cl
  by_cases d1 : (hid.length : Int) > 30
  · simp only [↓eBinI, ↓eDiv, ↓eShift, ↓eBinS, ↓ePick, ↓eNot, ↓eNeg, ↓eConv, ↓eConvS, ↓eExt0, ↓eExt1, ↓eExt2, ↓eFA, ↓eIA, ↓eLenSl, ↓eCapSl, ↓eLenS, ↓eMin, ↓eMax, ↓eCondT, ↓eCondF, ↓gIf_tt, ↓gIf_ff, ↓gIf_tf, ↓gIf_ft, ↓gIf_u, ↓gIfW_u, ↓gIfW_tt, ↓gIfW_ff, ↓gIfW_tf, ↓gIfW_ft, binI, divI, shiftI, add_mk, Nat.zero_add, cond_true, cond_false, decide_true, decide_false, Bool.not_true, Bool.not_false, Bool.and_true, Bool.true_and, Bool.and_false, Bool.false_and, Int.toNat_natCast, Nat.mul_one, d1]
    exact away w1 h1
  simp only [↓eBinI, ↓eDiv, ↓eShift, ↓eBinS, ↓ePick, ↓eNot, ↓eNeg, ↓eConv, ↓eConvS, ↓eExt0, ↓eExt1, ↓eExt2, ↓eFA, ↓eIA, ↓eLenSl, ↓eCapSl, ↓eLenS, ↓eMin, ↓eMax, ↓eCondT, ↓eCondF, ↓gIf_tt, ↓gIf_ff, ↓gIf_tf, ↓gIf_ft, ↓gIf_u, ↓gIfW_u, ↓gIfW_tt, ↓gIfW_ff, ↓gIfW_tf, ↓gIfW_ft, binI, divI, shiftI, add_mk, Nat.zero_add, cond_true, cond_false, decide_true, decide_false, Bool.not_true, Bool.not_false, Bool.and_true, Bool.true_and, Bool.and_false, Bool.false_and, Int.toNat_natCast, Nat.mul_one, d1]
  have lt : ∀ {w'}, Ext w w' → ∀ b, D b → b < w'.heap.size := fun h' b hb => by have := hD b hb; have := h'.size; omega
  refine trail_Seen_c (hx.ext h1) (lt h1) (hy.ext h1) (lt h1) (by omega) (fun i hi => by have := hs i hi; omega) fun v2 w2 D2 h2 o2 => ?_
  have g2 := h1.tr h2
  refine ref20_Seen_c (hx.ext g2) (lt g2) (hy.ext g2) (by omega) fun v3 w3 D3 h3 o3 => ?_
  have g3 := g2.tr h3
  have sl : (seenF l hid).length ≤ 1000 := by
    unfold seenF
    rw [List.length_append, List.length_map]
    have e1 := List.length_filter_le (fun r : Int × List UInt8 => !decide (r.1 ∈ hid)) l
    have e2 := List.length_filter_le (fun p => decide (p ∈ hid)) (placesF (l.map (·.1)))
    have e3 := placesF_len (l.map (·.1))
    rw [List.length_map] at e3
    omega
  refine ref19_Writes_c (D := fun _ => True) (D' := fun _ => True) ((o2.ext h3).rd2 (fun _ _ => trivial) (fun _ _ _ _ => trivial) (by omega)) (o3.rd2 (fun _ _ => trivial) (fun _ _ _ _ => trivial) (by omega)) fun w4 h4 => ?_
  rw [decide_eq_true rfl]
  simp only [↓eBinI, ↓eDiv, ↓eShift, ↓eBinS, ↓ePick, ↓eNot, ↓eNeg, ↓eConv, ↓eConvS, ↓eExt0, ↓eExt1, ↓eExt2, ↓eFA, ↓eIA, ↓eLenSl, ↓eCapSl, ↓eLenS, ↓eMin, ↓eMax, ↓eCondT, ↓eCondF, ↓gIf_tt, ↓gIf_ff, ↓gIf_tf, ↓gIf_ft, ↓gIf_u, ↓gIfW_u, ↓gIfW_tt, ↓gIfW_ff, ↓gIfW_tf, ↓gIfW_ft, binI, divI, shiftI, add_mk, Nat.zero_add, cond_true, cond_false, decide_true, decide_false, Bool.not_true, Bool.not_false, Bool.and_true, Bool.true_and, Bool.and_false, Bool.false_and, Int.toNat_natCast, Nat.mul_one]
  exact away w4 (g3.tr h4)
end Go.Proofs.Ytlolomdgchkibaa
