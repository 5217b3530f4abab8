/-
  Owned slices: shorter ones, elements of more cells written, the rest cleared.
-/
import Derived.Test.YtkpgmaiklfjjgaaDoorGn
set_option linter.unusedSimpArgs false
set_option linter.unusedVariables false
namespace Go.G
open Go
variable {t : Ty} {D : Nat → Prop} {B : Nat} {w : World}
theorem RdL.take {xs : List t.D} : ∀ {cs : List Value} (k : Nat), RdL t D w cs xs → RdL t D w (cs.take (k * t.n)) (xs.take k) := by
  induction xs with
  | nil => intro cs k h; rw [show cs = [] from h]; simp [RdL]
  | cons x xs ih =>
    intro cs k h
    cases k with
    | zero => simp [RdL]
    | succ k =>
      obtain ⟨a, b, rfl, h1, h2⟩ := h
      refine ⟨a, b.take (k * t.n), ?_, h1, ih k h2⟩
      have := h1.len
      rw [List.take_append, List.take_of_length_le (by rw [Nat.succ_mul]; omega), Nat.succ_mul, show k * t.n + t.n - a.length = k * t.n by omega]
/-- The first elements of what is owned. -/
theorem Own.take {a : Option Addr} {n c k : Nat} {xs : List t.D} (h : Own t D B w (.slice a n c) xs) (hk : k ≤ xs.length) : Own t D B w (.slice a k c) (xs.take k) := by
  rcases h with ⟨rfl, a', e⟩ | ⟨g, c', cs, T, fz, old, rest, e, h1, h2, h3, h3', h4, h5, h6⟩
  · simp at hk e
    subst hk
    obtain ⟨rfl, _, rfl⟩ := e
    exact .inl ⟨rfl, _, rfl⟩
  · simp only [Value.slice.injEq] at e
    obtain ⟨rfl, -, rfl⟩ := e
    refine .inr ⟨g, c, cs, T, fz, old.take (k * t.n), old.drop (k * t.n) ++ rest, by rw [List.length_take, Nat.min_eq_left hk], h1, h2, h3, h3', ?_, h5, h6.take k⟩
    rw [← List.append_assoc, List.take_append_drop]; exact h4
theorem RdL.setN {us : List Value} {y : t.D} (hy : Rd t D w us y) : ∀ {xs : List t.D} {cs : List Value} (i : Nat), i < xs.length → RdL t D w cs xs → RdL t D w (cs.take (i * t.n) ++ us ++ cs.drop (i * t.n + us.length)) (xs.set i y)
  | [], _, i, hi, _ => by simp at hi
  | x :: xs, _, 0, _, h => by
    obtain ⟨a, b, rfl, h1, h2⟩ := h
    have e1 := h1.len; have e2 := hy.len
    refine ⟨us, b, ?_, hy, h2⟩
    simp only [Nat.zero_mul, List.take_zero, List.nil_append, Nat.zero_add]
    rw [List.drop_append, List.drop_of_length_le (by omega), show us.length - a.length = 0 by omega]; simp
  | x :: xs, _, i + 1, hi, h => by
    obtain ⟨a, b, rfl, h1, h2⟩ := h
    have e1 := h1.len; have e2 := hy.len
    refine ⟨a, _, ?_, h1, RdL.setN hy i (by simpa using hi) h2⟩
    rw [Nat.succ_mul, List.take_append, List.take_of_length_le (by omega), List.drop_append, List.drop_of_length_le (by omega), show i * t.n + t.n - a.length = i * t.n by omega, show i * t.n + t.n + us.length - a.length = i * t.n + us.length by omega]
    simp
/-- s[i] = x, of more cells. -/
theorem Own.setN {g n c i m o : Nat} {xs : List t.D} {us : List Value} {y : t.D} {K : KV} (h : Own t D B w (.slice (some ⟨g, 0, none⟩) n c) xs) (hi : i < xs.length) (hm : m = t.n) (ho : o = i * t.n) (hy : Rd t D w us y)
    (k : ∀ w', Own t D B w' (.slice (some ⟨g, 0, none⟩) n c) (xs.set i y) → Fr (· = g) w w' → K undef w') : pStN m (.pointer (some ⟨g, o, none⟩)) (.agg ⟨us⟩) w K := by
  subst hm; subst ho
  rcases h with ⟨rfl, a, e⟩ | ⟨g', c, cs, T, fz, old, rest, e, h1, h2, h3, h3', h4, h5, h6⟩
  · simp at hi
  · simp at e
    obtain ⟨rfl, rfl, rfl⟩ := e
    have hul := hy.len
    have hol := h6.len
    have hcl : cs.size = old.length + rest.length := by
      have := congrArg List.length h4
      simpa using this
    have hin : i * t.n + t.n ≤ old.length := by
      rw [hol, ← Nat.succ_mul]; exact Nat.mul_le_mul_right _ hi
    have hF := Fr.setCells ⟨g, i * t.n, none⟩ us 0 w
    refine ⟨_, us, rfl, rfl, hul, fun j v hj => ?_, k _ ?_ hF⟩
    · have hjl := (List.getElem?_eq_some_iff.1 hj).1
      have hlt : i * t.n + j < cs.size := by omega
      rw [add_mk]
      refine ⟨⟨_, by rw [cell_mk h3]; exact Array.getElem?_eq_getElem hlt⟩, ?_, hy.allOne v (List.mem_of_getElem? hj)⟩
      simp only [World.frozen?, h3]
      rw [Bool.and_eq_false_iff]
      by_cases hf : fz.1 ≤ i * t.n + j
      · exact .inr (by simpa using fun hh => h3' _ hlt hf hh)
      · exact .inl (by simpa using hf)
    · obtain ⟨cs', g1, g2⟩ := setCells_heap (g := g) (o := i * t.n) us 0 w cs (old.take (i * t.n)) (old.drop (i * t.n) ++ rest) h3 (by rw [← List.append_assoc, List.take_append_drop]; exact h4) (by simp; omega) (by simp; omega)
      have hnew : cs'.toList = (old.take (i * t.n) ++ us ++ old.drop (i * t.n + us.length)) ++ rest := by
        rw [g2, List.drop_append, List.drop_drop]
        rw [show us.length - (old.drop (i * t.n)).length = 0 by simp; omega]
        simp
      have hsz : cs'.size = cs.size := by
        have := congrArg List.length hnew
        simp at this
        omega
      refine .inr ⟨g, c, cs', T, fz, _, rest, by simp, h1, h2, g1, by rw [hsz]; exact h3', hnew, by rw [hsz]; exact h5, ?_⟩
      exact (RdL.setN hy i hi h6).imp (fun _ h => h) (fun b hb hlt => hF.keep b hlt fun e => h2 (by rw [← show b = g from e]; exact hb))
theorem slice_cut {a : Option Addr} {o m l : Nat} : (if m = l then a else a.map (·.add (l * o))) = a ∨ (if m = l then a else a.map (·.add (l * o))) = a.map (·.add (l * o)) := by
  by_cases h : m = l
  · exact .inl (if_pos h)
  · exact .inr (if_neg h)
variable {P : Program} {T e : TypeId}
theorem clear_run {ty : TypeId} {g o n c : Nat} {w : World} (hT : P.underlying T = some (.slice e)) (hz : hasZero P e = true) (hc : canSet w ⟨g, o, none⟩ (rowOf (zeroL P e) (n + 1))) :
    (Builtin.clear_ #[T] ty #[.slice (some ⟨g, o, none⟩) (n + 1) c]).run P w = .ok (.tuple #[]) (setCells w ⟨g, o, none⟩ 0 (rowOf (zeroL P e) (n + 1))) := by
  obtain ⟨z, hz1, hz2, i, hi⟩ := run_zero hz
  have hzc : z.cells = (zeroL P e).toArray := by rw [← hz2]
  simp only [Builtin.clear_, List.getElem?_toArray, List.getElem?_cons_zero, Sem.run_bind, Go.G.run_underlying hT, Result.andThen_ok, hz1, hzc, zeroCells_row, canSet_run hc, Sem.run_pure]
/-- clear(s[k:]) -/
theorem Own.clear {ty : TypeId} {g n c k : Nat} {zero : List Value} {xs : List t.D} {K : KV} (h : Own t D B w (.slice (some ⟨g, 0, none⟩) n c) xs) (hk : k ≤ xs.length) (hT : P.underlying T = some (.slice e)) (hz : hasZero P e = true) (hzz : zeroL P e = zero) (hzn : zero.length = t.n) (hzo : ∀ v ∈ zero, one v = true)
    (kk : ∀ w', Own t D B w' (.slice (some ⟨g, 0, none⟩) k c) (xs.take k) → Fr (· = g) w w' → K (.tuple #[]) w') :
    pRun P (Builtin.clear_ #[T] ty #[.slice (if c = k then some ⟨g, 0, none⟩ else (some (⟨g, 0, none⟩ : Addr)).map (·.add (k * t.n))) (n - k) (c - k)]) w K := by
  have hn : n = xs.length := by
    obtain ⟨a, c', e, _⟩ := h.form
    simpa using (congrArg (fun v => match v with | .slice _ n _ => n | _ => 0) e)
  subst hn
  by_cases c0 : xs.length - k = 0
  · rw [c0]
    refine ⟨.tuple #[], w, ?_, kk w (h.take hk) (Fr.refl _ _)⟩
    have : ∀ a : Option Addr, (Builtin.clear_ #[T] ty #[.slice a 0 (c - k)]).run P w = .ok (.tuple #[]) w := fun a => by
      cases a <;> simp [Builtin.clear_, Go.G.run_underlying hT]
    exact this _
  · obtain ⟨n, hn⟩ : ∃ n, xs.length - k = n + 1 := ⟨xs.length - k - 1, by omega⟩
    have hT' := h.take hk
    obtain ⟨_, _, hf, hcap⟩ := h.form
    simp only [Value.slice.injEq] at hf
    obtain ⟨-, -, rfl⟩ := hf
    rw [if_neg (by omega), hn]
    rcases hT' with ⟨h0, a, e⟩ | ⟨g', c', cs, T', fz, old, rest, e, h1, h2, h3, h3', h4, h5, h6⟩
    · simp at e
      obtain ⟨_, _, rfl⟩ := e
      omega
    simp only [Value.slice.injEq, Option.some.injEq, Addr.mk.injEq, and_true] at e
    obtain ⟨rfl, hkl, rfl⟩ := e
    have hol := h6.len
    rw [← hkl] at hol
    have hcl : cs.size = old.length + rest.length := by
      have := congrArg List.length h4
      simpa using this
    have hrow : (rowOf zero (n + 1)).length = (n + 1) * t.n := by
      have : ∀ m, (rowOf zero m).length = m * t.n := fun m => by
        induction m with
        | zero => simp [rowOf]
        | succ m ih => simp only [rowOf, List.replicate_succ, List.flatten_cons, List.length_append, hzn] at ih ⊢; rw [ih, Nat.succ_mul]; omega
      exact this _
    have hfit : k * t.n + (n + 1) * t.n ≤ cs.size := by
      rw [h5, ← Nat.add_mul]; exact Nat.mul_le_mul_right _ (by omega)
    have hall : ∀ v ∈ rowOf zero (n + 1), one v = true := fun v hv => by
      unfold rowOf at hv
      rw [List.mem_flatten] at hv
      obtain ⟨l, hl, hv⟩ := hv
      rw [List.eq_of_mem_replicate hl] at hv
      exact hzo v hv
    have hadd : ((⟨g, 0, none⟩ : Addr).add (k * t.n)) = ⟨g, k * t.n, none⟩ := by rw [add_mk, Nat.zero_add]
    have hcs : canSet w ⟨g, k * t.n, none⟩ (rowOf (zeroL P e) (n + 1)) := by
      rw [hzz]
      intro j v hj
      have hjl := (List.getElem?_eq_some_iff.1 hj).1
      have hlt : k * t.n + j < cs.size := by omega
      rw [add_mk]
      refine ⟨⟨_, by rw [cell_mk h3]; exact Array.getElem?_eq_getElem hlt⟩, ?_, hall v (List.mem_of_getElem? hj)⟩
      simp only [World.frozen?, h3]
      rw [Bool.and_eq_false_iff]
      by_cases hf : fz.1 ≤ k * t.n + j
      · exact .inr (by simpa using fun hh => h3' _ hlt hf hh)
      · exact .inl (by simpa using hf)
    refine ⟨.tuple #[], setCells w ⟨g, k * t.n, none⟩ 0 (rowOf (zeroL P e) (n + 1)), ?_, kk _ ?_ (Fr.setCells ⟨g, k * t.n, none⟩ (rowOf (zeroL P e) (n + 1)) 0 w)⟩
    · simp only [Option.map_some, hadd]
      exact clear_run hT hz hcs
    · rw [hzz]
      have hF := Fr.setCells ⟨g, k * t.n, none⟩ (rowOf zero (n + 1)) 0 w
      obtain ⟨cs', g1, g2⟩ := setCells_heap (g := g) (o := k * t.n) (rowOf zero (n + 1)) 0 w cs old rest h3 h4 (by omega) (by omega)
      have hsz : cs'.size = cs.size := by
        have := congrArg List.length g2
        simp at this
        omega
      refine .inr ⟨g, c, cs', T', fz, old, rowOf zero (n + 1) ++ rest.drop (rowOf zero (n + 1)).length, by rw [← hkl], h1, h2, g1, by rw [hsz]; exact h3', by rw [g2, List.append_assoc], by rw [hsz]; exact h5, ?_⟩
      exact h6.imp (fun _ h => h) (fun b hb hlt => hF.keep b hlt fun e => h2 (by rw [← show b = g from e]; exact hb))
end Go.G
