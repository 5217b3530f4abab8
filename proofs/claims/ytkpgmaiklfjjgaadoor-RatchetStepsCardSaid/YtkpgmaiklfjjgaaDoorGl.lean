/-
  Slices whose elements are one cell each: what is read, what is written.
-/
import Derived.Test.YtkpgmaiklfjjgaaDoorGk
set_option linter.unusedSimpArgs false
set_option linter.unusedVariables false
namespace Go.G
open Go
theorem anew_ {w : World} {D : (World → Prop) → World → Prop} (h : D (Ext w) w) : anew w D := ⟨Ext w, Fr.refl _ _, h⟩
theorem eAnew {w : World} {P : World → Prop} : (anew w fun _ w => P w) = P w := by
  apply propext; constructor
  · rintro ⟨_, _, h⟩; exact h
  · exact fun h => ⟨fun _ => True, trivial, h⟩
theorem RdL.get1 {t : Ty} {D : Nat → Prop} {w : World} {xs : List t.D} {cs : List Value} (h : RdL t D w cs xs) (ht : t.n = 1) {i : Nat} (hi : i < xs.length) : ∃ u, cs[i]? = some u ∧ Rd t D w [u] xs[i] := by
  obtain ⟨a, h1, h2, h3⟩ := h.get i hi
  match a, h1.trans ht with
  | [u], _ => exact ⟨u, by have := h3 0 u rfl; rwa [ht, Nat.mul_one, Nat.add_zero] at this, h2⟩
theorem RdL.set1 {t : Ty} {D : Nat → Prop} {w : World} (ht : t.n = 1) {u : Value} {y : t.D} (hy : Rd t D w [u] y) : ∀ {xs : List t.D} {cs : List Value} (i : Nat), RdL t D w cs xs → RdL t D w (cs.set i u) (xs.set i y)
  | [], _, i, h => by rw [show _ = _ from h]; rfl
  | x :: xs, _, 0, h => by
    obtain ⟨a, b, rfl, h1, h2⟩ := h
    have := h1.len
    match a, this.trans ht with
    | [v], _ => exact ⟨[u], b, rfl, hy, h2⟩
  | x :: xs, _, i + 1, h => by
    obtain ⟨a, b, rfl, h1, h2⟩ := h
    have := h1.len
    match a, this.trans ht with
    | [v], _ => exact ⟨[v], b.set i u, rfl, h1, RdL.set1 ht hy i h2⟩
theorem Own.some_of {t : Ty} {D : Nat → Prop} {B : Nat} {w : World} {v : Value} {xs : List t.D} (h : Own t D B w v xs) (hne : 0 < xs.length) : ∃ g c, v = .slice (some ⟨g, 0, none⟩) xs.length c ∧ B ≤ g ∧ g < w.heap.size := by
  rcases h with ⟨rfl, a, rfl⟩ | ⟨g, c, cs, T, fz, old, rest, rfl, h1, h2, h3, h⟩
  · simp at hne
  · exact ⟨g, c, rfl, h1, heap_lt h3⟩
theorem Own.cell1 {t : Ty} {D : Nat → Prop} {B g n c : Nat} {w : World} {xs : List t.D} (h : Own t D B w (.slice (some ⟨g, 0, none⟩) n c) xs) (ht : t.n = 1) {i : Nat} (hi : i < xs.length) :
    ∃ u, w.cell? ⟨g, i, none⟩ = some u ∧ Rd t D w [u] xs[i] := by
  rcases h with ⟨rfl, a, e⟩ | ⟨g', c, cs, T, fz, old, rest, e, h1, h2, h3, h3', h4, h5, h6⟩
  · simp at hi
  · simp at e
    obtain ⟨rfl, -, -⟩ := e
    obtain ⟨u, hu, hr⟩ := h6.get1 ht hi
    refine ⟨u, ?_, hr⟩
    rw [cell_mk h3, ← Array.getElem?_toList, h4, List.getElem?_append_left (List.getElem?_eq_some_iff.1 hu).1]
    exact hu
theorem Own.set1 {t : Ty} {D : Nat → Prop} {B g n c : Nat} {w : World} {xs : List t.D} (h : Own t D B w (.slice (some ⟨g, 0, none⟩) n c) xs) (ht : t.n = 1) {i : Nat} (hi : i < xs.length) {u : Value} {y : t.D} (hy : Rd t D w [u] y) {K : KV}
    (k : ∀ w', Own t D B w' (.slice (some ⟨g, 0, none⟩) n c) (xs.set i y) → Fr (· = g) w w' → K undef w') : pSt (.pointer (some ⟨g, i, none⟩)) u w K := by
  have hc := h.cell1 ht hi
  obtain ⟨old, hold, -⟩ := hc
  rcases h with ⟨rfl, a, e⟩ | ⟨g', c, cs, T, fz, old', rest, e, h1, h2, h3, h3', h4, h5, h6⟩
  · simp at hi
  · simp at e
    obtain ⟨rfl, rfl, rfl⟩ := e
    have hil : i < old'.length := by rw [h6.len, ht]; omega
    have hcs : i < cs.size := by
      have e1 := congrArg List.length h4
      simp at e1
      omega
    refine ⟨_, old, rfl, hold, ?_, ?_, k _ (.inr ⟨g, c, cs.setIfInBounds i u, T, fz, old'.set i u, rest, by simp, h1, h2, ?_, by simpa using h3', ?_, by simpa using h5, ?_⟩) (Fr.setCell w ⟨g, i, none⟩ u)⟩
    · simp only [World.frozen?, h3]
      rw [Bool.and_eq_false_iff]
      by_cases hf : fz.1 ≤ i
      · exact .inr (by simpa using fun hh => h3' i hcs hf hh)
      · exact .inl (by simpa using hf)
    · exact hy.allOne u (by simp)
    · rw [heap_setCell, if_pos rfl, h3]; simp
    · rw [Array.toList_setIfInBounds, h4, List.set_append_left _ _ hil]
    · refine (RdL.set1 ht hy i h6).imp (fun _ h => h) (fun b hb hlt => (Fr.setCell w ⟨g, i, none⟩ u).keep b hlt fun e => h2 ?_)
      rw [← show b = g from e]; exact hb
theorem Rd.idx {t : Ty} {D : Nat → Prop} {w : World} {v : Value} {xs : List t.D} (h : Rd (.slice t) D w [v] xs) (ht : t.n = 1) {i : Nat} (hi : i < xs.length) :
    ∃ a c u, v = .slice (some a) xs.length c ∧ a.spot = none ∧ D a.block ∧ w.cell? (a.add i) = some u ∧ Rd t D w [u] xs[i] := by
  obtain ⟨a, c, cs, rfl, h1, h2⟩ := Rd.rows h
  obtain ⟨u, hu, hr⟩ := h1.get1 ht hi
  obtain ⟨ad, rfl, e2, e3, e4⟩ := h2 i u hu
  exact ⟨ad, c, u, rfl, e2, e3, e4, hr⟩
theorem Rd.idxN {t : Ty} {D : Nat → Prop} {w : World} {v : Value} {xs : List t.D} (h : Rd (.slice t) D w [v] xs) {i : Nat} (hi : i < xs.length) :
    ∃ a c us, v = .slice (some a) xs.length c ∧ a.spot = none ∧ D a.block ∧ us.length = t.n ∧ (∀ j u, us[j]? = some u → w.cell? (a.add (i * t.n + j)) = some u) ∧ Rd t D w us xs[i] := by
  obtain ⟨a, c, cs, rfl, h1, h2⟩ := Rd.rows h
  obtain ⟨us, e1, e2, e3⟩ := h1.get i hi
  have hp := t.n_pos
  obtain ⟨ad, rfl, f2, f3, f4⟩ := h2 _ (us[0]'(by omega)) (e3 0 _ (List.getElem?_eq_getElem _))
  refine ⟨ad, c, us, rfl, f2, f3, e1, fun j u hj => ?_, e2⟩
  obtain ⟨ad', g1, _, _, g4⟩ := h2 _ u (e3 j u hj)
  cases g1
  exact g4
/-- What lies in its cells alone. -/
def Ty.flat : Ty → Bool
  | .slice _ => false
  | .pair a b => a.flat && b.flat
  | _ => true
theorem Rd.flat : ∀ {t : Ty} {D D' : Nat → Prop} {w w' : World} {vs : List Value} {x : t.D}, t.flat = true → Rd t D w vs x → Rd t D' w' vs x
  | .int _, _, _, _, _, _, _, _, h => h
  | .byte, _, _, _, _, _, _, _, h => h
  | .bool, _, _, _, _, _, _, _, h => h
  | .str, _, _, _, _, _, _, _, h => h
  | .slice _, _, _, _, _, _, _, hf, _ => by cases hf
  | .pair a b, _, _, _, _, _, _, hf, h => by
    obtain ⟨va, vb, h1, h2, h3, h4, h5⟩ := h
    simp only [Ty.flat, Bool.and_eq_true] at hf
    exact ⟨va, vb, h1, h2, h3, h4.flat hf.1, h5.flat hf.2⟩
theorem RdL.flat {t : Ty} {D D' : Nat → Prop} {w w' : World} (ht : t.flat = true) : ∀ {xs : List t.D} {cs : List Value}, RdL t D w cs xs → RdL t D' w' cs xs
  | [], _, h => h
  | x :: xs, _, h => by
    obtain ⟨a, b, h1, h2, h3⟩ := h
    exact ⟨a, b, h1, h2.flat ht, RdL.flat ht h3⟩
theorem Own.wide2 {t : Ty} {D D' : Nat → Prop} {B : Nat} {w : World} {v : Value} {xs : List t.D} (h : Own t D B w v xs) (hD : ∀ b, D b → D' b) (hv : ∀ b, Blk v b → B ≤ b → ¬ D b → ¬ D' b) : Own t D' B w v xs := by
  rcases h with ⟨rfl, a, rfl⟩ | ⟨g, c, cs, T', fz, old, rest, rfl, h1, h2, h3, h3', h4, h5, h6⟩
  · exact .inl ⟨rfl, a, rfl⟩
  · exact .inr ⟨g, c, cs, T', fz, old, rest, rfl, h1, hv _ ⟨_, _, _, rfl, rfl⟩ h1 h2, h3, h3', h4, h5, h6.imp hD (fun _ _ _ => rfl)⟩
theorem Own.rd2 {t : Ty} {D D' : Nat → Prop} {B : Nat} {w : World} {v : Value} {xs : List t.D} (h : Own t D B w v xs) (hD : ∀ b, D b → D' b) (hB : ∀ b, Blk v b → B ≤ b → b < w.heap.size → D' b) (hl : xs.length < 9223372036854775808) : Rd (.slice t) D' w [v] xs := by
  have hf := h.form
  rcases h with ⟨rfl, a, rfl⟩ | ⟨g, c, cs, T, fz, old, rest, rfl, h1, h2, h3, h3', h4, h5, h6⟩
  · exact ⟨a, 0, rfl, Nat.le_refl _, hl, fun h => absurd rfl h⟩
  · obtain ⟨_, c', e, hc⟩ := hf
    simp at e
    refine Rd.of_rows h6 hD (by omega) hl fun i u hi => ⟨_, rfl, rfl, hB g ⟨_, _, _, rfl, rfl⟩ h1 (heap_lt h3), ?_⟩
    rw [add_mk, Nat.zero_add, cell_mk h3, ← Array.getElem?_toList, h4, List.getElem?_append_left (List.getElem?_eq_some_iff.1 hi).1]
    exact hi
theorem fill2 {z0 z1 a b : Value} (ha : one a = true) (hb : one b = true) : fillL [z0, z1] [(0, 1, a), (1, 1, b)] = some [a, b] := by
  simp [fillL, one_cells ha, one_cells hb, cutIn]
theorem fillAgg {z cs : List Value} {n : Nat} (hn : cs.length = n) (hz : z.length = n) : fillL (rowOf z 1) [(0, n, .agg ⟨cs⟩)] = some cs := by
  subst hn
  simp [fillL, Value.cells, cutIn, rowOf, hz]
theorem drawS {w : World} {D : (World → Prop) → World → Prop} (T : Nat → Prop) (h : ∀ w', Ext w w' → D (Fr T w') w') : drawn w D := ⟨Fr T w.drew, Fr.refl _ _, h _ (Ext.drew w)⟩
theorem anewS {w : World} {D : (World → Prop) → World → Prop} (T : Nat → Prop) (h : D (Fr T w) w) : anew w D := ⟨Fr T w, Fr.refl _ _, h⟩
theorem eLdT {T : Nat → Prop} {w : World} {a : Addr} {x : Value} {K : KP} (hT : ¬ T a.block) (h : w.cell? a = some x) : pLd (Fr T w) (.pointer (some a)) K = K x := by
  apply propext; constructor
  · rintro ⟨a', x', h1, h', k⟩; cases h1; have := h' w (Fr.refl _ _); rw [h] at this; cases this; exact k
  · exact fun k => ⟨a, x, rfl, fun w' e => e.cell h hT, k⟩
theorem Cs.tN {T : Nat → Prop} {w : World} {g n : Nat} {l : List Value} (h : Cs w g l) (hT : ¬ T g) (hn : l.length = n) {K : KP} : pLdN (Fr T w) n (.pointer (some ⟨g, 0, none⟩)) K = K (.agg ⟨l⟩) := by
  subst hn
  have hk := h
  obtain ⟨T', h⟩ := h
  apply propext; constructor
  · rintro ⟨a', xs, h1, h2, h3, k⟩
    exact (eLdNW h (by simp)).mp ⟨a', xs, h1, h2, fun w' e => h3 w' (by rw [e]; exact Fr.refl _ _), k⟩
  · intro k
    refine ⟨_, l, rfl, rfl, fun w' e i hi => ?_, k⟩
    rw [add_mk, Nat.zero_add]
    exact (hk.fr e hT).c i
theorem Cs.t3 {T : Nat → Prop} {w : World} {g : Nat} {a b c : Value} (h : Cs w g [a, b, c]) (hT : ¬ T g) {K : KP} : pLdN (Fr T w) 3 (.pointer (some ⟨g, 0, none⟩)) K = K (.agg #[a, b, c]) := h.tN hT rfl
theorem Cs.t2 {T : Nat → Prop} {w : World} {g : Nat} {a b : Value} (h : Cs w g [a, b]) (hT : ¬ T g) {K : KP} : pLdN (Fr T w) 2 (.pointer (some ⟨g, 0, none⟩)) K = K (.agg #[a, b]) := h.tN hT rfl
theorem Cs.f {T : Nat → Prop} {w : World} {g o : Nat} {l : List Value} {v : Value} (h : Cs w g l) (hT : ¬ T g) (hv : l[o]? = some v) {K : KP} : pLd (Fr T w) (.pointer (some ⟨g, o, none⟩)) K = K v := eLdT hT (by rw [h.c]; exact hv)
end Go.G
