/-
  'sem' is sound: what it asks is enough for the walk's own 'Code.wp'.
-/
import Derived.Test.YtkpgmaiklfjjgaaDoorGa
set_option linter.unusedSimpArgs false
set_option linter.unusedVariables false
namespace Go.G
open Go

/-! ### 1. Slots -/
theorem nth_eq (e : List Value) : ∀ t, e.toArray.getD t undef = nth e t := by
  intro t
  simp only [Array.getD_eq_getD_getElem?, List.getElem?_toArray]
  induction e generalizing t with
  | nil => simp [nth]
  | cons v l ih => cases t with
    | zero => simp [nth]
    | succ t => simpa [nth] using ih t
theorem upd_eq (e : List Value) : ∀ d v, e.set d v = upd e d v := by
  induction e with
  | nil => intro d v; simp [upd]
  | cons a l ih => intro d v; cases d <;> simp [upd, ih]
theorem eval_eq (e : List Value) (ds : List Deferred) : Act.eval ⟨e.toArray, ds⟩ = evl e := by
  funext x
  cases x <;> simp only [Act.eval, evl]
  exact nth_eq e _
theorem put_eq (e : List Value) (ds : List Deferred) (dst : Option Tmp) (v : Value) : Act.put ⟨e.toArray, ds⟩ dst v = ⟨(put e dst v).toArray, ds⟩ := by
  cases dst with
  | none => rfl
  | some d => simp [Act.put, put, ← upd_eq]
theorem nth_bool {e : List Value} {d : Nat} {b : Bool} (h : nth e d = .bool b) : e[d]? = some (.bool b) := by
  rw [← nth_eq] at h
  simp only [Array.getD_eq_getD_getElem?, List.getElem?_toArray] at h
  cases hx : e[d]? with
  | none => rw [hx] at h; simp [undef] at h
  | some v => rw [hx] at h; simpa using h
theorem gval_bool {ops : Array Oper} {j : Nat} {e : List Value} {b : Bool} (h : gval ops j e = .bool b) : yielded ops e.toArray j = some b := by
  unfold gval dstOf at h
  unfold yielded
  cases ho : ops[j]? with
  | none => simp [ho, undef] at h
  | some o =>
    simp only [ho] at h ⊢
    cases hd : o.dst with
    | none => simp [hd, undef] at h
    | some d =>
      simp only [hd] at h
      simp [hd, nth_bool h]

theorem gval_undef {ops : Array Oper} {j : Nat} {e : List Value} (h : gval ops j e = undef) : yielded ops e.toArray j = none := by
  unfold gval dstOf at h
  unfold yielded
  cases ho : ops[j]? with
  | none => rfl
  | some o =>
    simp only [ho] at h ⊢
    cases hd : o.dst with
    | none => simp [hd]
    | some d =>
      simp only [hd] at h
      rw [← nth_eq] at h
      simp only [Array.getD_eq_getD_getElem?, List.getElem?_toArray] at h
      cases hx : e[d]? with
      | none => simp [hd, hx]
      | some v => rw [hx] at h; simp at h; subst h; simp [hd, hx, undef]
/-! ### 2. Tables -/
theorem run_underlying {P : Program} {T : TypeId} {d : TypeDesc} (h : P.underlying T = some d) (w : World) : (underlying T).run P w = .ok d w := by
  simp [underlying, h, Sem.run, program]
theorem info_some {P : Program} {T : TypeId} {d : TypeDesc} (h : P.underlying T = some d) : ∃ i, P.info? T = some i := by
  unfold Program.underlying at h
  cases hi : P.info? T with
  | none => rw [hi] at h; cases h
  | some i => exact ⟨i, rfl⟩
theorem run_typeInfo {P : Program} {T : TypeId} {i : TypeInfo} (h : P.info? T = some i) (w : World) : (typeInfo T).run P w = .ok i w := by
  simp [typeInfo, h, Sem.run, program]
theorem cellsOf_eq {P : Program} {T : TypeId} {i : TypeInfo} (h : P.info? T = some i) : P.cellsOf T = i.size := by simp [Program.cellsOf, h]
theorem bytesOf_eq {P : Program} {T : TypeId} {i : TypeInfo} (h : P.info? T = some i) : P.bytesOf T = i.bytes := by simp [Program.bytesOf, h]
theorem run_sizeOf {P : Program} {T : TypeId} {i : TypeInfo} (h : P.info? T = some i) (w : World) : (sizeOf T).run P w = .ok (P.cellsOf T) w := by
  simp [sizeOf, run_typeInfo h, cellsOf_eq h]
theorem info_of_cells {P : Program} {T : TypeId} {n : Nat} (h : P.cellsOf T = n + 1) : ∃ i, P.info? T = some i := by
  unfold Program.cellsOf at h
  cases hi : P.info? T with
  | none => simp [hi] at h
  | some i => exact ⟨i, rfl⟩
theorem run_zero {P : Program} {T : TypeId} (h : hasZero P T = true) : ∃ z, (∀ w, (zeroValue T).run P w = .ok z w) ∧ z.cells.toList = zeroL P T ∧ ∃ i, P.info? T = some i := by
  unfold hasZero at h
  unfold zeroL
  cases hi : P.info? T with
  | none => simp [hi] at h
  | some i =>
    simp only [hi, Option.bind_some] at h ⊢
    cases hz : i.zero with
    | none => simp [hz] at h
    | some z => exact ⟨z, fun w => by simp [zeroValue, run_typeInfo hi, hz], by simp, i, rfl⟩
theorem run_isAgg {P : Program} {T : TypeId} {d : TypeDesc} (h : P.underlying T = some d) (w : World) :
    (isAgg T).run P w = .ok (match d with | .struct _ | .array _ _ => true | _ => false) w := by
  simp only [isAgg, Sem.run_bind, run_underlying h, Result.andThen_ok]
  cases d <;> rfl
theorem tk_agg {P : Program} {T : TypeId} {n : Nat} (h : tkOf P T = .agg n) : (∀ w, (isAgg T).run P w = .ok true w) ∧ n = P.cellsOf T ∧ ∃ i, P.info? T = some i := by
  unfold tkOf at h
  split at h
  · rename_i hu; cases h; exact ⟨fun w => run_isAgg hu w, rfl, info_some hu⟩
  · rename_i hu; cases h; exact ⟨fun w => run_isAgg hu w, rfl, info_some hu⟩
  · split at h <;> cases h
  · cases h
theorem tk_cell {P : Program} {T : TypeId} (h : tkOf P T = .cell) : (∀ w, (isAgg T).run P w = .ok false w) ∧ P.cellsOf T = 1 ∧ ∃ i, P.info? T = some i := by
  unfold tkOf at h
  split at h
  · cases h
  · cases h
  · rename_i d h1 h2 hu
    split at h
    · rename_i h3
      refine ⟨fun w => ?_, h3, info_some hu⟩
      rw [run_isAgg hu]
      cases d <;> simp_all
    · cases h
  · cases h

/-! ### 3. What is filled -/
theorem foldl_cells (c : List Value) : ∀ (cs : List Value) (off k : Nat), off + k + c.length ≤ cs.length →
    (c.zipIdx k).foldl (fun (cs : Array Value) (p : Value × Nat) => cs.setIfInBounds (off + p.2) p.1) cs.toArray = (cs.take (off + k) ++ c ++ cs.drop (off + k + c.length)).toArray := by
  induction c with
  | nil => intro cs off k h; simp
  | cons v r ih =>
    intro cs off k h
    simp only [List.zipIdx_cons, List.foldl_cons, List.setIfInBounds_toArray]
    have hl : off + k < cs.length := by simp at h; omega
    rw [ih (cs.set (off + k) v) off (k + 1) (by simp at h ⊢; omega)]
    congr 1
    rw [List.set_eq_take_append_cons_drop, if_pos hl]
    have e1 : off + (k + 1) = off + k + 1 := by omega
    rw [e1, List.take_append, List.drop_append]
    have hm : min (off + k) cs.length = off + k := by omega
    simp only [List.length_take, hm]
    have e2 : off + k + 1 - (off + k) = 1 := by omega
    have e3 : off + k + 1 + r.length - (off + k) = r.length + 1 := by omega
    rw [e2, e3]
    simp only [List.take_succ_cons, List.take_zero, List.drop_succ_cons, List.length_cons, List.drop_drop]
    rw [List.take_of_length_le (by simp; omega), List.drop_eq_nil_of_le (by simp; omega)]
    simp only [List.nil_append, List.append_assoc, List.cons_append]
    congr 4
    omega
theorem fill_eq (place : Nat → Option (Nat × Nat)) : ∀ (ps : List (Nat × Value)) (qs : List (Nat × Nat × Value)) (cs r : List Value),
    qs = ps.map (fun p => (((place p.1).getD (0, 0)).1, ((place p.1).getD (0, 0)).2, p.2)) → (∀ p ∈ ps, (place p.1).isSome = true) →
    fillL cs qs = some r → Instr.fill place cs.toArray ps = some r.toArray
  | [], _, cs, r, hq, _, h => by subst hq; simp [fillL] at h; subst h; rfl
  | (i, v) :: rest, qs, cs, r, hq, hp, h => by
    subst hq
    have h0 := hp (i, v) (by simp)
    cases hi : place i with
    | none => simp [hi] at h0
    | some z =>
      obtain ⟨off, size⟩ := z
      simp only [List.map_cons, fillL, hi, Option.getD_some] at h
      split at h
      · rename_i hc
        obtain ⟨h1, h2⟩ := hc
        unfold Instr.fill
        simp only [hi]
        rw [if_neg (by simp only [List.size_toArray, Bool.or_eq_true, decide_eq_true_eq, not_or]; simp at h1; exact ⟨by simpa using h1, by simp [h1]; omega⟩)]
        have hz : (v.cells.zipIdx.foldl (fun (cs : Array Value) (p : Value × Nat) => cs.setIfInBounds (off + p.2) p.1) cs.toArray) = (cutIn cs off v.cells.toList).toArray := by
          have := foldl_cells v.cells.toList cs off 0 (by simp at h1 ⊢; omega)
          simp only [Nat.add_zero] at this
          rw [cutIn, ← this]
          rw [← Array.foldl_toList]
          simp
        have := fill_eq place rest _ _ r rfl (fun p hp' => hp p (by simp [hp'])) h
        rw [← this]
        congr 1
      · cases h
end Go.G
