/-
  What was seen of writes: the program's answer.
-/
import Derived.Test.YtlolomdgchkibaaTr
set_option linter.unusedSimpArgs false
set_option linter.unusedVariables false
namespace Go.Proofs.Ytlolomdgchkibaa
open Go Go.G
variable {X : KX} {w : World} {K : KV} {D D' : Nat → Prop}
def lastF (l : List (Int × List UInt8)) (p : Int) : List UInt8 := ((ofF l p).getLast?).getD []
theorem ofF_append (a b : List (Int × List UInt8)) (p : Int) : ofF (a ++ b) p = ofF a p ++ ofF b p := by unfold ofF; rw [List.filter_append, List.map_append]
theorem ofF_none {l : List (Int × List UInt8)} {p : Int} (h : ∀ r ∈ l, r.1 ≠ p) : ofF l p = [] := by
  unfold ofF
  rw [List.map_eq_nil_iff, List.filter_eq_nil_iff]
  intro r hr; simpa using h r hr
theorem last_of {l : List (Int × List UInt8)} {j : Nat} (hj : j < l.length) (h : ∀ i (hi : i < l.length), j < i → l[i].1 ≠ l[j].1) : lastF l l[j].1 = l[j].2 := by
  have e : ofF l l[j].1 = ofF (l.take j) l[j].1 ++ [l[j].2] := by
    have : ofF l l[j].1 = ofF (l.take (j + 1) ++ l.drop (j + 1)) l[j].1 := by rw [List.take_append_drop]
    rw [this, ofF_append, List.take_succ_eq_append_getElem hj, ofF_snoc, if_pos rfl, ofF_none (l := l.drop (j + 1)), List.append_nil]
    intro r hr
    obtain ⟨i, hi, rfl⟩ := List.getElem_of_mem hr
    rw [List.getElem_drop]
    rw [List.length_drop] at hi
    exact h _ (by omega) (by omega)
  unfold lastF
  rw [e]; simp
def seenF (l : List (Int × List UInt8)) (hid : List Int) : List (Int × List UInt8) :=
  (l.filter fun r => !decide (r.1 ∈ hid)) ++ ((placesF (l.map (·.1))).filter fun p => decide (p ∈ hid)).map fun p => (p, lastF l p)
theorem DeleteW_nil {a : Option Addr} {f : Value} (h : K (.slice a 0 0) w) : GCalls Try.prog 72 [.slice a 0 0, f] K X w := by
  apply slices_DeleteFunc_api_Write_api_Write.calls; unfold slices_DeleteFunc_api_Write_api_Write.b
  refine (?_ : GCalls Try.prog 85 [.slice a 0 0, f] _ X w)
  apply slices_IndexFunc_api_Write_api_Write.calls; unfold slices_IndexFunc_api_Write_api_Write.b
  simp only [↓eBinI, ↓eDiv, ↓eShift, ↓eBinS, ↓ePick, ↓eNot, ↓eNeg, ↓eConv, ↓eConvS, ↓eExt0, ↓eExt1, ↓eExt2, ↓eFA, ↓eIA, ↓eLenSl, ↓eCapSl, ↓eLenS, ↓eMin, ↓eMax, ↓eCondT, ↓eCondF, ↓gIf_tt, ↓gIf_ff, ↓gIf_tf, ↓gIf_ft, ↓gIf_u, ↓gIfW_u, ↓gIfW_tt, ↓gIfW_ff, ↓gIfW_tf, ↓gIfW_ft, binI, divI, shiftI, add_mk, Nat.zero_add, cond_true, cond_false, decide_true, decide_false, Bool.not_true, Bool.not_false, Bool.and_true, Bool.true_and, Bool.and_false, Bool.false_and, Int.toNat_natCast, Nat.mul_one]
  refine slices_IndexFunc_api_Write_api_Write.loop1 (fun x8 w' => x8 = .int .i64 0 ∧ w' = w) (fun x8 _ => 0) ⟨rfl, rfl⟩ ?_
  rintro x8 gg w1 ⟨rfl, rfl⟩
  unfold slices_IndexFunc_api_Write_api_Write.b1
  have e1 : decide ((0 : Int) < ((0 : Nat) : Int)) = false := by decide
  have e2 : ((-1 : Int) == -1) = true := by decide
  simp only [↓eBinI, ↓eDiv, ↓eShift, ↓eBinS, ↓ePick, ↓eNot, ↓eNeg, ↓eConv, ↓eConvS, ↓eExt0, ↓eExt1, ↓eExt2, ↓eFA, ↓eIA, ↓eLenSl, ↓eCapSl, ↓eLenS, ↓eMin, ↓eMax, ↓eCondT, ↓eCondF, ↓gIf_tt, ↓gIf_ff, ↓gIf_tf, ↓gIf_ft, ↓gIf_u, ↓gIfW_u, ↓gIfW_tt, ↓gIfW_ff, ↓gIfW_tf, ↓gIfW_ft, binI, divI, shiftI, add_mk, Nat.zero_add, cond_true, cond_false, decide_true, decide_false, Bool.not_true, Bool.not_false, Bool.and_true, Bool.true_and, Bool.and_false, Bool.false_and, Int.toNat_natCast, Nat.mul_one, e1, e2]
  exact h
theorem Delete_c {v0 : Value} {gh : Nat} {l : List (Int × List UInt8)} {hid : List Int} {vh : Value} {B : Nat} {D2 : Nat → Prop} (ho : Own tWrite D B w v0 l) (hD : ∀ b, D b → b < B) (hBw : B ≤ w.heap.size)
    (hg : Cs w gh [vh]) (hgh : gh < B) (hh : Rd (.slice (.int .i64)) D2 w [vh] hid) (hD2 : ∀ b, D2 b → b < B) (hl : l.length ≤ 1000)
    (h : ∀ v w', Fr (fun b => B ≤ b) w w' → Own tWrite D B w' v (l.filter fun r => !decide (r.1 ∈ hid)) → K v w') : GCalls Try.prog 72 [v0, .func (.func 70) #[] #[.pointer (some ⟨gh, 0, none⟩)]] K X w := by
  have ho' := ho
  rcases ho with ⟨rfl, a, rfl⟩ | ⟨g, c, cs, T, fz, old, rest, rfl, _⟩
  · exact DeleteW_nil (h _ w (Fr.refl _ _) ho')
  · exact DeleteW_c ho' hD hBw hg hgh hh hD2 hl h
theorem seen_take {l : List (Int × List UInt8)} {hid ps : List Int} {i : Nat} (hi : i < ps.length) :
    (((ps.take (i + 1)).filter fun p => decide (p ∈ hid)).map fun p => (p, lastF l p)) = if ps[i] ∈ hid then (((ps.take i).filter fun p => decide (p ∈ hid)).map fun p => (p, lastF l p)) ++ [(ps[i], lastF l ps[i])] else (((ps.take i).filter fun p => decide (p ∈ hid)).map fun p => (p, lastF l p)) := by
  rw [filter_snoc (p := fun p => decide (p ∈ hid)) hi]
  by_cases h : ps[i] ∈ hid
  · rw [if_pos (by simpa using h), if_pos h, List.map_append]; rfl
  · rw [if_neg (by simpa using h), if_neg h]
set_option maxHeartbeats 1000000 in
theorem trail_Seen_c {x y : Value} {l : List (Int × List UInt8)} {hid : List Int} {D2 : Nat → Prop} (hx : Rd (.slice tWrite) D w [x] l) (hD : ∀ b, D b → b < w.heap.size) (hy : Rd (.slice (.int .i64)) D2 w [y] hid) (hD2 : ∀ b, D2 b → b < w.heap.size) (hl : l.length ≤ 100) (hs : ∀ i (h : i < l.length), l[i].2.length ≤ 1000)
    (h : ∀ v w' D', Ext w w' → Own tWrite D' w.heap.size w' v (seenF l hid) → K v w') : GCalls Try.prog 45 [x, y] K X w := by
  apply trail_Seen.calls; unfold trail_Seen.b
  have hy1 : G.one y = true := hy.isOne (by simp)
  refine boxV hy1 fun g3 w1 hg3 h1 b1 => ?_
  have s1 := h1.size
  have hg3' := b1.lt
  refine CloneW_c (hx.ext h1) (fun b hb => by have := hD b hb; omega) (by omega) fun v2 w2 h2 o2 => ?_
  have g2 := h1.tr h2
  have s2 := h2.size
  have fl : (l.filter fun r => !decide (r.1 ∈ hid)).length ≤ l.length := List.length_filter_le _ _
  have fm : ∀ i (h : i < (l.filter fun r => !decide (r.1 ∈ hid)).length), (l.filter fun r => !decide (r.1 ∈ hid))[i].2.length ≤ 1000 := fun i hi => by
    have : (l.filter fun r => !decide (r.1 ∈ hid))[i] ∈ l := (List.mem_filter.1 (List.getElem_mem hi)).1
    obtain ⟨j, hj, e⟩ := List.getElem_of_mem this
    rw [← e]; exact hs j hj
  refine Delete_c (D := D) (D2 := D2) o2 (fun b hb => by have := hD b hb; omega) (by omega) (b1.ext h2) (by omega) (hy.ext g2) (fun b hb => by have := hD2 b hb; omega) (by omega) fun v3 w3 h3 o3 => ?_
  have g3' : Ext w w3 := g2.tn h3 (fun x hx => by omega)
  have s3 := h3.size
  refine trail_copied_c (D := fun _ => True) (o3.rd2 (fun _ _ => trivial) (fun _ _ _ _ => trivial) (Nat.lt_of_le_of_lt fl (by omega))) (Nat.le_trans fl (by omega)) fm fun v4 w4 D4 h4 o4 hD4 hb4 => ?_
  have g4 := g3'.tr h4
  have s4 := h4.size
  have lt : ∀ {w'}, Ext w w' → ∀ b, D b → b < w'.heap.size := fun h' b hb => by have := hD b hb; have := h'.size; omega
  refine trail_last_c (hx.ext g4) (lt g4) fun gm m w5 hgm h5 hm hk hla => ?_
  have g5 := g4.tr h5
  have s5 := h5.size
  refine trail_Places_c (hx.ext g5) (lt g5) (by omega) fun v6 w6 h6 o6 => ?_
  have g6 := g5.tr h6
  have s6 := h6.size
  obtain ⟨ps, hps⟩ : ∃ ps, placesF (l.map (·.1)) = ps := ⟨_, rfl⟩
  have hpl : ps.length ≤ l.length := by have := placesF_len (l.map (·.1)); rw [hps, List.length_map] at this; exact this
  have hpm : ∀ p ∈ ps, p ∈ l.map (·.1) := fun p hp => by rw [← hps] at hp; exact ((places_spec _).2 p).1 hp
  rw [hps] at o6
  unfold seenF at h
  rw [hps] at h
  have rp : Rd (.slice (.int .i64)) (fun b => w5.heap.size ≤ b) w6 [v6] ps := o6.rd2 (fun _ h => h.elim) (fun b _ hb _ => hb) (by omega)
  obtain ⟨ap, cp, rfl, hcp, _⟩ := rp.form
  simp only [↓eBinI, ↓eDiv, ↓eShift, ↓eBinS, ↓ePick, ↓eNot, ↓eNeg, ↓eConv, ↓eConvS, ↓eExt0, ↓eExt1, ↓eExt2, ↓eFA, ↓eIA, ↓eLenSl, ↓eCapSl, ↓eLenS, ↓eMin, ↓eMax, ↓eCondT, ↓eCondF, ↓gIf_tt, ↓gIf_ff, ↓gIf_tf, ↓gIf_ft, ↓gIf_u, ↓gIfW_u, ↓gIfW_tt, ↓gIfW_ff, ↓gIfW_tf, ↓gIfW_ft, binI, divI, shiftI, add_mk, Nat.zero_add, cond_true, cond_false, decide_true, decide_false, Bool.not_true, Bool.not_false, Bool.and_true, Bool.true_and, Bool.and_false, Bool.false_and, Int.toNat_natCast, Nat.mul_one]
  refine trail_Seen.loop1 (fun x6 x22 w' => ∃ (i : Nat) (D' : Nat → Prop), i ≤ ps.length ∧ x22 = .int .i64 i ∧ Fr (fun b => w3.heap.size ≤ b ∧ b < w4.heap.size) w6 w' ∧ Own tWrite D' w3.heap.size w' x6 ((l.filter fun r => !decide (r.1 ∈ hid)) ++ ((ps.take i).filter fun p => decide (p ∈ hid)).map fun p => (p, lastF l p)) ∧ (∀ b, D' b → b < w'.heap.size) ∧ (∀ b, Blk x6 b → b < w4.heap.size ∨ w6.heap.size ≤ b) ∧ (∀ b, Blk x6 b → b < w'.heap.size)) (fun _ x22 _ => ps.length - (iv x22).toNat)
    ⟨0, D4, by omega, rfl, Fr.refl _ _, by simpa using (o4.ext h5).ext h6, fun b hb => by have := hD4 b hb; omega, fun b hb => .inl (hb4 b hb), fun b hb => by have := hb4 b hb; omega⟩ ?_
  rintro x6 x22 gg w7 ⟨i, D7, hi, rfl, h7, o7, hD7, hb7, hb7'⟩
  unfold trail_Seen.b1
  have s7 := h7.size
  have g7 : Ext w w7 := g6.tn h7 (fun x hx => by omega)
  by_cases ci : (i : Int) < (ps.length : Int)
  · have hi' : i < ps.length := by omega
    obtain ⟨bp, kp, u1, e1, _, _, q1, r1⟩ := (rp.fr h7 (fun b hb ht => by omega)).idx rfl (i := i) hi'
    simp only [Value.slice.injEq] at e1
    obtain ⟨rfl, -, rfl⟩ := e1
    have v1 := r1.1
    simp only [List.cons.injEq, and_true] at v1
    subst v1
    simp only [↓eBinI, ↓eDiv, ↓eShift, ↓eBinS, ↓ePick, ↓eNot, ↓eNeg, ↓eConv, ↓eConvS, ↓eExt0, ↓eExt1, ↓eExt2, ↓eFA, ↓eIA, ↓eLenSl, ↓eCapSl, ↓eLenS, ↓eMin, ↓eMax, ↓eCondT, ↓eCondF, ↓gIf_tt, ↓gIf_ff, ↓gIf_tf, ↓gIf_ft, ↓gIf_u, ↓gIfW_u, ↓gIfW_tt, ↓gIfW_ff, ↓gIfW_tf, ↓gIfW_ft, binI, divI, shiftI, add_mk, Nat.zero_add, cond_true, cond_false, decide_true, decide_false, Bool.not_true, Bool.not_false, Bool.and_true, Bool.true_and, Bool.and_false, Bool.false_and, Int.toNat_natCast, Nat.mul_one, ci, ↓eLdW, q1, Option.some.injEq, exists_eq_left']
    refine ⟨by omega, by first | trivial | omega, ?_⟩
    have h57 : Fr (fun b => w3.heap.size ≤ b ∧ b < w4.heap.size) w5 w7 := (h6.mono (fun _ _ h => h.elim)).trans h7 (fun _ _ h => h)
    refine eLook (enc := encI) (k := ps[i]) (z := .agg #[.int .i64 0, .slice none 0 0]) (fun w' e => by subst e; exact hm.fr h57 (fun ht => by omega)) keyI Try.underlying69 Try.underlying3 Try.zeroValue55 ?_
    have hin : ps[i] ∈ keysF (l.map (·.1)) := mem_keysF.2 (hpm _ (List.getElem_mem _))
    rw [← hk, ← mget_isSome] at hin
    obtain ⟨v, hv⟩ := Option.isSome_iff_exists.1 hin
    rw [hv, Option.getD_some]
    obtain ⟨j, hj, hjn, ej, hafter, us, rfl, hus⟩ := hla _ v hv
    have hlast : lastF l ps[i] = l[j].2 := by
      rw [← ej]
      exact last_of hj (fun i hi hji => by rw [ej]; exact hafter i hi hi hji)
    have hpair : (ps[i], lastF l ps[i]) = l[j] := by rw [hlast, ← ej]
    have hus7 := hus.fr h57 (fun b hb ht => by have := hD b hb; omega)
    have husl := hus.len
    refine boxC fun g10 w8 hg10 h8 b8 => ?_
    refine b8.setN (l' := us) (by rw [husl]; rfl) husl hus.allOne fun w9 b9 hf9 => ?_
    have h79 : Ext w7 w9 := h8.tn hf9 (fun x e => by omega)
    simp only [↓b9.ld (show us.length = 2 from husl)]
    have g1 : Ext w1 w7 := ((((h2.tn h3 (fun x hx => hx)).tr h4).tr h5)).tn h57 (fun x hx => by omega)
    refine covert_c (b1.ext (g1.tr h79)) (hy.ext (g7.tr h79)) (hus7.ext h79) fun w10 h10 => ?_
    rw [ej]
    have s79 := h79.size; have s10 := h10.size
    by_cases ce : ps[i] ∈ hid
    · have e : decide (ps[i] ∈ hid) = true := decide_eq_true ce
      simp only [↓eBinI, ↓eDiv, ↓eShift, ↓eBinS, ↓ePick, ↓eNot, ↓eNeg, ↓eConv, ↓eConvS, ↓eExt0, ↓eExt1, ↓eExt2, ↓eFA, ↓eIA, ↓eLenSl, ↓eCapSl, ↓eLenS, ↓eMin, ↓eMax, ↓eCondT, ↓eCondF, ↓gIf_tt, ↓gIf_ff, ↓gIf_tf, ↓gIf_ft, ↓gIf_u, ↓gIfW_u, ↓gIfW_tt, ↓gIfW_ff, ↓gIfW_tf, ↓gIfW_ft, binI, divI, shiftI, add_mk, Nat.zero_add, cond_true, cond_false, decide_true, decide_false, Bool.not_true, Bool.not_false, Bool.and_true, Bool.true_and, Bool.and_false, Bool.false_and, Int.toNat_natCast, Nat.mul_one, e, ↓(b9.ext h10).ld (show us.length = 2 from husl)]
      refine Cs.bslice (cs := us) (fillAgg (show us.length = 2 from husl) rfl) fun r w11 hr h11 b11 => ?_
      obtain ⟨T11, b11'⟩ := b11
      have h711 := (h79.tr h10).tr h11
      have rr : Rd (.slice tWrite) (fun _ => True) w11 [.slice (some ⟨r, 0, none⟩) 1 1] [l[j]] := by
        refine Rd.of_rows (D := fun _ => True) (cs := us) (RdL.single ((hus7.ext h711).wide (fun _ _ => trivial))) (fun _ h => h) (by simp) (by simp) fun k u hk => ⟨_, rfl, rfl, trivial, ?_⟩
        rw [add_mk, Nat.zero_add, cell_mk b11']; simpa using hk
      have s11 := h11.size
      refine trail_copied_c rr (by simp) (fun k hk => by have : k = 0 := by simpa using hk
                                                         subst this; exact hs j hj) fun v12 w12 D12 h12 o12 hD12 hb12 => ?_
      have s12 := h12.size
      have h712 := h711.tr h12
      have hD2' : Own tWrite (fun b => D7 b ∨ (w11.heap.size ≤ b ∧ b < w12.heap.size)) w3.heap.size w12 x6 ((l.filter fun r => !decide (r.1 ∈ hid)) ++ ((ps.take i).filter fun p => decide (p ∈ hid)).map fun p => (p, lastF l p)) := (o7.ext h712).wide2 (fun b hb => .inl hb) (fun b hb hB hn => by
        rintro (hd | hd)
        · exact hn hd
        · have := hb7' b hb; omega)
      have fl2 : (((ps.take i).filter fun p => decide (p ∈ hid)).map fun p => (p, lastF l p)).length ≤ 100 := by
        rw [List.length_map]; have := List.length_filter_le (fun p => decide (p ∈ hid)) (ps.take i); rw [List.length_take] at this; omega
      have r12 : Rd (.slice tWrite) (fun b => w11.heap.size ≤ b ∧ b < w12.heap.size) w12 [v12] [l[j]] := o12.rd2 (fun b hb => hD12 b hb) (fun b _ h1 h2 => ⟨h1, h2⟩) (by simp)
      refine hD2'.cat (by omega) (fun hd => by rcases hd with hd | hd; · have := hD7 _ hd; omega
                                               · omega) rfl rfl r12 (fun cs hh => hh.imp (fun b hb => .inr hb) (fun _ _ _ => rfl)) (by rw [List.length_append]; have := Nat.le_trans fl (by omega : l.length ≤ 100); simp only [List.length_singleton]; omega) fun v13 w13 o13 hf13 hb13 => ?_
      have s13 := hf13.size
      unfold trail_Seen.j1
      simp only [↓eBinI, ↓eDiv, ↓eShift, ↓eBinS, ↓ePick, ↓eNot, ↓eNeg, ↓eConv, ↓eConvS, ↓eExt0, ↓eExt1, ↓eExt2, ↓eFA, ↓eIA, ↓eLenSl, ↓eCapSl, ↓eLenS, ↓eMin, ↓eMax, ↓eCondT, ↓eCondF, ↓gIf_tt, ↓gIf_ff, ↓gIf_tf, ↓gIf_ft, ↓gIf_u, ↓gIfW_u, ↓gIfW_tt, ↓gIfW_ff, ↓gIfW_tf, ↓gIfW_ft, binI, divI, shiftI, add_mk, Nat.zero_add, cond_true, cond_false, decide_true, decide_false, Bool.not_true, Bool.not_false, Bool.and_true, Bool.true_and, Bool.and_false, Bool.false_and, Int.toNat_natCast, Nat.mul_one]
      rw [wrap64 (by omega) (by omega)]
      refine trail_Seen.leaf1 ⟨i + 1, (fun b => D7 b ∨ (w11.heap.size ≤ b ∧ b < w12.heap.size)), by omega, by simp, (h7.trans h712 (fun _ _ h => h.elim)).trans hf13 (fun x hlt hx => ?_), ?_, fun b hb => ?_, fun b hb => ?_, fun b hb => ?_⟩ (by simp only [iv]; omega)
      · rcases hb7 x hx.1 with hb | hb
        · exact ⟨hx.2, hb⟩
        · omega
      · rw [seen_take hi', if_pos ce, ← List.append_assoc, hpair]; exact o13
      · rcases hb with hb | hb
        · have := hD7 b hb; omega
        · omega
      · rcases hb13 b hb with hb | hb
        · exact hb7 b hb
        · exact .inr (by omega)
      · rcases hb13 b hb with hb | hb
        · have := hb7' b hb; omega
        · omega
    · have e : decide (ps[i] ∈ hid) = false := decide_eq_false ce
      simp only [↓eBinI, ↓eDiv, ↓eShift, ↓eBinS, ↓ePick, ↓eNot, ↓eNeg, ↓eConv, ↓eConvS, ↓eExt0, ↓eExt1, ↓eExt2, ↓eFA, ↓eIA, ↓eLenSl, ↓eCapSl, ↓eLenS, ↓eMin, ↓eMax, ↓eCondT, ↓eCondF, ↓gIf_tt, ↓gIf_ff, ↓gIf_tf, ↓gIf_ft, ↓gIf_u, ↓gIfW_u, ↓gIfW_tt, ↓gIfW_ff, ↓gIfW_tf, ↓gIfW_ft, binI, divI, shiftI, add_mk, Nat.zero_add, cond_true, cond_false, decide_true, decide_false, Bool.not_true, Bool.not_false, Bool.and_true, Bool.true_and, Bool.and_false, Bool.false_and, Int.toNat_natCast, Nat.mul_one, e]
      unfold trail_Seen.j1
      simp only [↓eBinI, ↓eDiv, ↓eShift, ↓eBinS, ↓ePick, ↓eNot, ↓eNeg, ↓eConv, ↓eConvS, ↓eExt0, ↓eExt1, ↓eExt2, ↓eFA, ↓eIA, ↓eLenSl, ↓eCapSl, ↓eLenS, ↓eMin, ↓eMax, ↓eCondT, ↓eCondF, ↓gIf_tt, ↓gIf_ff, ↓gIf_tf, ↓gIf_ft, ↓gIf_u, ↓gIfW_u, ↓gIfW_tt, ↓gIfW_ff, ↓gIfW_tf, ↓gIfW_ft, binI, divI, shiftI, add_mk, Nat.zero_add, cond_true, cond_false, decide_true, decide_false, Bool.not_true, Bool.not_false, Bool.and_true, Bool.true_and, Bool.and_false, Bool.false_and, Int.toNat_natCast, Nat.mul_one]
      rw [wrap64 (by omega) (by omega)]
      have h710 := h79.tr h10
      refine trail_Seen.leaf1 ⟨i + 1, D7, by omega, by simp, h7.trans h710 (fun _ _ h => h.elim), ?_, fun b hb => ?_, fun b hb => hb7 b hb, fun b hb => ?_⟩ (by simp only [iv]; omega)
      · rw [seen_take hi', if_neg ce]; exact o7.ext h710
      · have := hD7 b hb; omega
      · have := hb7' b hb; omega
  · simp only [↓eBinI, ↓eDiv, ↓eShift, ↓eBinS, ↓ePick, ↓eNot, ↓eNeg, ↓eConv, ↓eConvS, ↓eExt0, ↓eExt1, ↓eExt2, ↓eFA, ↓eIA, ↓eLenSl, ↓eCapSl, ↓eLenS, ↓eMin, ↓eMax, ↓eCondT, ↓eCondF, ↓gIf_tt, ↓gIf_ff, ↓gIf_tf, ↓gIf_ft, ↓gIf_u, ↓gIfW_u, ↓gIfW_tt, ↓gIfW_ff, ↓gIfW_tf, ↓gIfW_ft, binI, divI, shiftI, add_mk, Nat.zero_add, cond_true, cond_false, decide_true, decide_false, Bool.not_true, Bool.not_false, Bool.and_true, Bool.true_and, Bool.and_false, Bool.false_and, Int.toNat_natCast, Nat.mul_one, ci]
    have : i = ps.length := by omega
    subst this
    rw [List.take_length] at o7
    exact h _ w7 _ g7 (o7.low g3'.size)
end Go.Proofs.Ytlolomdgchkibaa
