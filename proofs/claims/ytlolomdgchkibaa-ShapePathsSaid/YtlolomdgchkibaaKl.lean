/-
  The pages of slots; and what the law on paths hands back.
-/
import Derived.Test.YtlolomdgchkibaaKk
set_option maxRecDepth 100000
set_option linter.unusedSimpArgs false
set_option linter.unusedVariables false
namespace Go.Proofs.Ytlolomdgchkibaa
open Go Go.G
variable {X : KX} {w : World} {K : KV} {a d l : Int} {D : Nat → Prop}
theorem keysB_c {g : Nat} (h : K (.func (.func 86) #[] #[.pointer (some ⟨w.heap.size, 0, none⟩)]) (w.alloc (.cells #[.map (some g)] 74))) : GCalls Try.prog 75 [.map (some g)] K X w := by
  refine Calls.g (fn := Try.f75) ((callsIn_wide (n := 5)).1 (AnyZI.keys_in Try.keysB Fence.wide 5 trivial rfl (some g) w)) Try.func75 (by kernel_rfl) (by kernel_rfl) ?_
  rintro e w' ⟨rfl, rfl⟩
  exact ⟨_, rfl, h⟩
theorem keysF_append (xs : List Int) : ∀ ys : List Int, keysF (xs ++ ys) = ys.foldl (fun l k => if k ∈ l then l else l ++ [k]) (keysF xs) := fun ys => by unfold keysF; rw [List.foldl_append]
theorem keysF_len (ks : List Int) : (keysF ks).length ≤ ks.length := by
  have : ∀ (ks acc : List Int), (ks.foldl (fun l k => if k ∈ l then l else l ++ [k]) acc).length ≤ acc.length + ks.length := by
    intro ks
    induction ks with
    | nil => intro acc; simp
    | cons a ks ih =>
      intro acc
      have := ih (if a ∈ acc then acc else acc ++ [a])
      rw [List.foldl_cons]
      have h2 : (if a ∈ acc then acc else acc ++ [a]).length ≤ acc.length + 1 := by split <;> simp
      simp at this ⊢; omega
  simpa [keysF] using this ks []
theorem shape_Touched_c {y : Value} {sl : List Int} (hy : Rd (.slice (.int .i64)) D w [y] sl) (hD : ∀ b, D b → b < w.heap.size) (hl : sl.length ≤ 100)
    (h : ∀ v w', Ext w w' → Own (.int .i64) (fun _ => False) w.heap.size w' v (touchF a d l sl) → K v w') : GCalls Try.prog 49 [geo a d l, y] K X w := by
  obtain ⟨a1, c1, rfl, hc1, hl1⟩ := hy.form
  apply shape_Touched.calls; unfold shape_Touched.b
  refine boxC fun g w1 hg h1 b => ?_
  refine map_ (enc := encI) fun gm w2 hgm h2 hm => ?_
  simp only [↓eBinI, ↓eDiv, ↓eShift, ↓eBinS, ↓ePick, ↓eNot, ↓eNeg, ↓eConv, ↓eConvS, ↓eExt0, ↓eExt1, ↓eExt2, ↓eFA, ↓eIA, ↓eLenSl, ↓eCapSl, ↓eLenS, ↓eMin, ↓eMax, ↓eCondT, ↓eCondF, ↓gIf_tt, ↓gIf_ff, ↓gIf_tf, ↓gIf_ft, ↓gIf_u, ↓gIfW_u, ↓gIfW_tt, ↓gIfW_ff, ↓gIfW_tf, ↓gIfW_ft, binI, divI, shiftI, add_mk, Nat.zero_add, cond_true, cond_false, decide_true, decide_false, Bool.not_true, Bool.not_false, Bool.and_true, Bool.true_and, Bool.and_false, Bool.false_and, Int.toNat_natCast, Nat.mul_one]
  have h12 := h1.tr h2
  have s1 := h1.size; have hgl := b.lt
  have b2 := b.ext h2
  obtain ⟨all, hall⟩ : ∃ f : Nat → List Int, f = fun i => ((sl.take i).map fun s => upF a d l (leafF a d l s)).flatten := ⟨_, rfl⟩
  refine shape_Touched.loop1 (fun x13 w' => ∃ (i : Nat) (m : List (Int × Value)), i ≤ sl.length ∧ x13 = .int .i64 i ∧ Ext w w' ∧ Cs w' g [.int .i64 a, .int .i64 d, .int .i64 l] ∧ MapB encI w' gm m ∧ m.map (·.1) = keysF (all i) ∧ (∀ p v, mget m p = some v → ∃ c : Int, v = .int .i64 c) ∧ (∀ p ∈ all i, 0 ≤ p ∧ p ≤ 85) ∧ (all i).length ≤ 4 * i) (fun x13 _ => sl.length - (iv x13).toNat)
    ⟨0, [], by omega, rfl, h12, b2, hm, (by rw [hall]; rfl), (fun p v h => by cases h), (by rw [hall]; simp), (by rw [hall]; simp)⟩ ?_
  rintro x13 gg w3 ⟨i, m, hi, rfl, h3, b3, m3, k3, v3, r3, n3⟩
  unfold shape_Touched.b1
  have s3 := h3.size
  have hgmw : w.heap.size ≤ gm := by omega
  by_cases ci : (i : Int) < (sl.length : Int)
  · have hi' : i < sl.length := by omega
    obtain ⟨bp, kp, u1, e1, _, _, q1, r1⟩ := (hy.ext h3).idx rfl (i := i) hi'
    simp only [Value.slice.injEq] at e1
    obtain ⟨rfl, -, rfl⟩ := e1
    have v1 := r1.1
    simp only [List.cons.injEq, and_true] at v1
    subst v1
    simp only [↓eBinI, ↓eDiv, ↓eShift, ↓eBinS, ↓ePick, ↓eNot, ↓eNeg, ↓eConv, ↓eConvS, ↓eExt0, ↓eExt1, ↓eExt2, ↓eFA, ↓eIA, ↓eLenSl, ↓eCapSl, ↓eLenS, ↓eMin, ↓eMax, ↓eCondT, ↓eCondF, ↓gIf_tt, ↓gIf_ff, ↓gIf_tf, ↓gIf_ft, ↓gIf_u, ↓gIfW_u, ↓gIfW_tt, ↓gIfW_ff, ↓gIfW_tf, ↓gIfW_ft, binI, divI, shiftI, add_mk, Nat.zero_add, cond_true, cond_false, decide_true, decide_false, Bool.not_true, Bool.not_false, Bool.and_true, Bool.true_and, Bool.and_false, Bool.false_and, Int.toNat_natCast, Nat.mul_one, ci, ↓eLdW, q1, Option.some.injEq, exists_eq_left']
    refine ⟨by omega, by first | trivial | omega, ?_⟩
    refine draw_ fun w4 h4 => ?_
    have b4 := b3.ext h4
    simp only [↓b4.le3]
    refine shape_Leaf_c fun w5 h5 => ⟨h5, ?_⟩
    refine shape_up_c fun v6 w6 h6 o6 hb6 => ⟨h5.tr h6, ?_⟩
    have h36 := (h4.tr h5).tr h6
    obtain ⟨us, hus⟩ : ∃ us, upF a d l (leafF a d l sl[i]) = us := ⟨_, rfl⟩
    rw [hus] at o6
    have usl : us.length ≤ 4 := by rw [← hus]; exact up_le
    have usr : ∀ p ∈ us, 0 ≤ p ∧ p ≤ 85 := fun p hp => by
      rw [← hus] at hp
      have ht := ((touch_law _ _).1 hp).1
      have := there_bd ht; omega
    have hnext : all (i + 1) = all i ++ us := by
      rw [hall]
      show ((sl.take (i + 1)).map _).flatten = _
      rw [List.take_succ_eq_append_getElem hi', List.map_append, List.flatten_append, ← hus]
      simp
    have s4 := h4.size; have s5 := h5.size; have s6 := h6.size
    have ru : Rd (.slice (.int .i64)) (fun b => w5.heap.size ≤ b) w6 [v6] us := o6.rd2 (fun _ h => h.elim) (fun b _ hb _ => hb) (by omega)
    obtain ⟨au, cu, rfl, hcu, _⟩ := ru.form
    simp only [↓eBinI, ↓eDiv, ↓eShift, ↓eBinS, ↓ePick, ↓eNot, ↓eNeg, ↓eConv, ↓eConvS, ↓eExt0, ↓eExt1, ↓eExt2, ↓eFA, ↓eIA, ↓eLenSl, ↓eCapSl, ↓eLenS, ↓eMin, ↓eMax, ↓eCondT, ↓eCondF, ↓gIf_tt, ↓gIf_ff, ↓gIf_tf, ↓gIf_ft, ↓gIf_u, ↓gIfW_u, ↓gIfW_tt, ↓gIfW_ff, ↓gIfW_tf, ↓gIfW_ft, binI, divI, shiftI, add_mk, Nat.zero_add, cond_true, cond_false, decide_true, decide_false, Bool.not_true, Bool.not_false, Bool.and_true, Bool.true_and, Bool.and_false, Bool.false_and, Int.toNat_natCast, Nat.mul_one]
    have mlt := m3.lt
    refine shape_Touched.loop2 (fun x23 w' => ∃ (j : Nat) (m : List (Int × Value)), j ≤ us.length ∧ x23 = .int .i64 j ∧ Fr (· = gm) w6 w' ∧ MapB encI w' gm m ∧ m.map (·.1) = keysF (all i ++ us.take j) ∧ (∀ p v, mget m p = some v → ∃ c : Int, v = .int .i64 c)) (fun x23 _ => us.length - (iv x23).toNat)
      ⟨0, m, by omega, rfl, Fr.refl _ _, m3.ext h36, by simpa using k3, v3⟩ ?_
    rintro x23 gg2 w7 ⟨j, m7, hj, rfl, h7, mm7, k7, v7⟩
    unfold shape_Touched.b2
    have g7 : Ext w w7 := (h3.tr h36).tn h7 (fun x hx => by omega)
    have b7 := (b3.ext h36).fr h7 (fun e => by omega)
    by_cases cj : (j : Int) < (us.length : Int)
    · have hj' : j < us.length := by omega
      obtain ⟨bq, kq, u2, e2, _, _, q2, r2⟩ := (ru.fr h7 (fun b hb e => by omega)).idx rfl (i := j) hj'
      simp only [Value.slice.injEq] at e2
      obtain ⟨rfl, -, rfl⟩ := e2
      have v2 := r2.1
      simp only [List.cons.injEq, and_true] at v2
      subst v2
      simp only [↓eBinI, ↓eDiv, ↓eShift, ↓eBinS, ↓ePick, ↓eNot, ↓eNeg, ↓eConv, ↓eConvS, ↓eExt0, ↓eExt1, ↓eExt2, ↓eFA, ↓eIA, ↓eLenSl, ↓eCapSl, ↓eLenS, ↓eMin, ↓eMax, ↓eCondT, ↓eCondF, ↓gIf_tt, ↓gIf_ff, ↓gIf_tf, ↓gIf_ft, ↓gIf_u, ↓gIfW_u, ↓gIfW_tt, ↓gIfW_ff, ↓gIfW_tf, ↓gIfW_ft, binI, divI, shiftI, add_mk, Nat.zero_add, cond_true, cond_false, decide_true, decide_false, Bool.not_true, Bool.not_false, Bool.and_true, Bool.true_and, Bool.and_false, Bool.false_and, Int.toNat_natCast, Nat.mul_one, cj, ↓eLdW, q2, Option.some.injEq, exists_eq_left']
      refine ⟨by omega, by first | trivial | omega, ?_⟩
      refine eLook (enc := encI) (k := us[j]) (z := .int .i64 0) (fun w' e => by subst e; exact mm7) keyI Try.underlying74 Try.underlying3 Try.zeroValue3 ?_
      obtain ⟨c, hc⟩ : ∃ c : Int, (mget m7 us[j]).getD (.int .i64 0) = .int .i64 c := by
        cases hm : mget m7 us[j] with
        | none => exact ⟨0, rfl⟩
        | some v => obtain ⟨c, rfl⟩ := v7 _ v hm; exact ⟨c, rfl⟩
      rw [hc]
      simp only [↓eBinI, ↓eDiv, ↓eShift, ↓eBinS, ↓ePick, ↓eNot, ↓eNeg, ↓eConv, ↓eConvS, ↓eExt0, ↓eExt1, ↓eExt2, ↓eFA, ↓eIA, ↓eLenSl, ↓eCapSl, ↓eLenS, ↓eMin, ↓eMax, ↓eCondT, ↓eCondF, ↓gIf_tt, ↓gIf_ff, ↓gIf_tf, ↓gIf_ft, ↓gIf_u, ↓gIfW_u, ↓gIfW_tt, ↓gIfW_ff, ↓gIfW_tf, ↓gIfW_ft, binI, divI, shiftI, add_mk, Nat.zero_add, cond_true, cond_false, decide_true, decide_false, Bool.not_true, Bool.not_false, Bool.and_true, Bool.true_and, Bool.and_false, Bool.false_and, Int.toNat_natCast, Nat.mul_one]
      refine eMapUpd (k := us[j]) mm7 keyI Try.underlying74 Try.underlying3 fun w8 m8 hf8 => ?_
      rw [wrap64 (by omega) (by omega)]
      refine shape_Touched.leaf2 ⟨j + 1, _, by omega, by simp, h7.trans hf8 (fun _ _ h => h), m8, ?_, fun p v hv => ?_⟩ (by simp only [iv]; omega)
      · rw [mput_keys, k7, List.take_succ_eq_append_getElem hj', ← List.append_assoc, keysF_snoc]
      · rw [mget_put] at hv
        split at hv
        · cases hv; exact ⟨_, rfl⟩
        · exact v7 p v hv
    · simp only [↓eBinI, ↓eDiv, ↓eShift, ↓eBinS, ↓ePick, ↓eNot, ↓eNeg, ↓eConv, ↓eConvS, ↓eExt0, ↓eExt1, ↓eExt2, ↓eFA, ↓eIA, ↓eLenSl, ↓eCapSl, ↓eLenS, ↓eMin, ↓eMax, ↓eCondT, ↓eCondF, ↓gIf_tt, ↓gIf_ff, ↓gIf_tf, ↓gIf_ft, ↓gIf_u, ↓gIfW_u, ↓gIfW_tt, ↓gIfW_ff, ↓gIfW_tf, ↓gIfW_ft, binI, divI, shiftI, add_mk, Nat.zero_add, cond_true, cond_false, decide_true, decide_false, Bool.not_true, Bool.not_false, Bool.and_true, Bool.true_and, Bool.and_false, Bool.false_and, Int.toNat_natCast, Nat.mul_one, cj]
      have : j = us.length := by omega
      subst this
      rw [List.take_length] at k7
      rw [wrap64 (by omega) (by omega)]
      refine shape_Touched.leaf1 ⟨i + 1, m7, by omega, by simp, g7, b7, mm7, by rw [hnext]; exact k7, v7, ?_, ?_⟩ (by simp only [iv]; omega)
      · rw [hnext]
        intro p hp
        rcases List.mem_append.1 hp with hp | hp
        · exact r3 p hp
        · exact usr p hp
      · rw [hnext, List.length_append]; omega
  · simp only [↓eBinI, ↓eDiv, ↓eShift, ↓eBinS, ↓ePick, ↓eNot, ↓eNeg, ↓eConv, ↓eConvS, ↓eExt0, ↓eExt1, ↓eExt2, ↓eFA, ↓eIA, ↓eLenSl, ↓eCapSl, ↓eLenS, ↓eMin, ↓eMax, ↓eCondT, ↓eCondF, ↓gIf_tt, ↓gIf_ff, ↓gIf_tf, ↓gIf_ft, ↓gIf_u, ↓gIfW_u, ↓gIfW_tt, ↓gIfW_ff, ↓gIfW_tf, ↓gIfW_ft, binI, divI, shiftI, add_mk, Nat.zero_add, cond_true, cond_false, decide_true, decide_false, Bool.not_true, Bool.not_false, Bool.and_true, Bool.true_and, Bool.and_false, Bool.false_and, Int.toNat_natCast, Nat.mul_one, ci]
    have : i = sl.length := by omega
    subst this
    have hmk : ∀ p ∈ m, p.1 ∈ all sl.length := fun p hp => by
      have : p.1 ∈ m.map (·.1) := List.mem_map.2 ⟨p, hp, rfl⟩
      rw [k3] at this
      exact mem_keysF.1 this
    have hml : m.length ≤ 4 * sl.length := by
      have e := congrArg List.length k3
      rw [List.length_map] at e
      have := keysF_len (all sl.length); omega
    obtain ⟨c1, c2⟩ := sorted_keys (ρ := Try.keysB_ren) (ρ2 := Try.sortedA_ren) Try.keysB Try.sortedA sortsA m3 (fun p hp => by
      have := r3 _ (hmk p hp)
      have e1 : IntKind.i64.min = -9223372036854775808 := by decide
      have e2 : IntKind.i64.max = 9223372036854775807 := by decide
      omega) (by omega) Try.underlying3 (enters_of Try.func82 (by kernel_rfl) rfl) (enters_of Try.func86 (by kernel_rfl) rfl)
    refine keysB_c ?_
    refine Calls.g (fn := Try.f67) c2 Try.func67 (by kernel_rfl) (by kernel_rfl) ?_
    rintro e w' ⟨v, rfl, hE, ho⟩
    refine ⟨v, rfl, h v w' (h3.tr hE) ?_⟩
    rw [k3, hall] at ho
    simp only [List.take_length] at ho
    rw [touch_sort] at ho
    exact ho.low s3
end Go.Proofs.Ytlolomdgchkibaa
