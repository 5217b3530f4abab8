/-
  Small helps: boxes of three whole numbers, regions whose order is open.
  Slices whose elements are one cell each: what is read, what is written.
  Parts of slices, new slices of zeros, texts of bytes.
  Words of 32 bits: what the operations make of them; cells of a block, read and written at a place.
  Owned slices: shorter ones, elements of more cells written, the rest cleared.
-/
import Derived.Test.YtkpgmaiklfjjgaaDoorMoaj
import Derived.Laws.Strings
section
set_option linter.unusedSimpArgs false
set_option linter.unusedVariables false
namespace Go.G
open Go
theorem draw_ {w : World} {D : (World → Prop) → World → Prop} (h : ∀ w', Ext w w' → D (Ext w') w') : drawn w D := ⟨Ext w.drew, Fr.refl _ _, h _ (Ext.drew w)⟩
theorem boxA {T : TypeId} {cs : Array Value} {w : World} {K : KV} (h : ∀ g w', w.heap.size = g → Ext w w' → w'.heap[g]? = some (.cells cs T) → K (.pointer (some ⟨g, 0, none⟩)) w') : pBox T (.agg cs) w K :=
  h _ _ rfl (Ext.alloc w _) (alloc_new w _)
/-- Cells of a block. -/
def Cs (w : World) (g : Nat) (l : List Value) : Prop := ∃ T, w.heap[g]? = some (.cells ⟨l⟩ T)
theorem Cs.ext {w w' : World} {g : Nat} {l : List Value} (h : Cs w g l) (e : Ext w w') : Cs w' g l := by
  obtain ⟨T, h⟩ := h; exact ⟨T, e.heap h (fun h => h)⟩
theorem Cs.fr {T : Nat → Prop} {w w' : World} {g : Nat} {l : List Value} (h : Cs w g l) (e : Fr T w w') (hT : ¬ T g) : Cs w' g l := by
  obtain ⟨T', h⟩ := h; exact ⟨T', e.heap h hT⟩
theorem Cs.lt {w : World} {g : Nat} {l : List Value} (h : Cs w g l) : g < w.heap.size := by
  obtain ⟨T, h⟩ := h; exact heap_lt h
theorem Cs.c {w : World} {g : Nat} {l : List Value} (h : Cs w g l) (o : Nat) : w.cell? ⟨g, o, none⟩ = l[o]? := by
  obtain ⟨T, h⟩ := h; rw [cell_mk h]; simp
theorem Cs.c0 {w : World} {g : Nat} {a : Value} {l : List Value} (h : Cs w g (a :: l)) {K : KP} : pLd (· = w) (.pointer (some ⟨g, 0, none⟩)) K = K a := by
  rw [eLdW, h.c]; simp
theorem Cs.c1 {w : World} {g : Nat} {a b : Value} {l : List Value} (h : Cs w g (a :: b :: l)) {K : KP} : pLd (· = w) (.pointer (some ⟨g, 1, none⟩)) K = K b := by
  rw [eLdW, h.c]; simp
theorem Cs.c2 {w : World} {g : Nat} {a b c : Value} {l : List Value} (h : Cs w g (a :: b :: c :: l)) {K : KP} : pLd (· = w) (.pointer (some ⟨g, 2, none⟩)) K = K c := by
  rw [eLdW, h.c]; simp
theorem Cs.e0 {w : World} {g : Nat} {a : Value} {l : List Value} (h : Cs w g (a :: l)) {K : KP} : pLd (Ext w) (.pointer (some ⟨g, 0, none⟩)) K = K a := eLdE (by rw [h.c]; rfl)
theorem Cs.e1 {w : World} {g : Nat} {a b : Value} {l : List Value} (h : Cs w g (a :: b :: l)) {K : KP} : pLd (Ext w) (.pointer (some ⟨g, 1, none⟩)) K = K b := eLdE (by rw [h.c]; rfl)
theorem Cs.e2 {w : World} {g : Nat} {a b c : Value} {l : List Value} (h : Cs w g (a :: b :: c :: l)) {K : KP} : pLd (Ext w) (.pointer (some ⟨g, 2, none⟩)) K = K c := eLdE (by rw [h.c]; rfl)
theorem Cs.ld {w : World} {g n : Nat} {l : List Value} (h : Cs w g l) (hn : l.length = n) {K : KP} : pLdN (· = w) n (.pointer (some ⟨g, 0, none⟩)) K = K (.agg ⟨l⟩) := by
  obtain ⟨T, h⟩ := h; exact eLdNW h (by simpa using hn)
theorem Cs.ldE {w : World} {g n : Nat} {l : List Value} (h : Cs w g l) (hn : l.length = n) {K : KP} : pLdN (Ext w) n (.pointer (some ⟨g, 0, none⟩)) K = K (.agg ⟨l⟩) := by
  obtain ⟨T, h⟩ := h
  apply propext; constructor
  · rintro ⟨a', xs, h1, h2, h3, k⟩
    exact (eLdNW h (by simpa using hn)).mp ⟨a', xs, h1, h2, fun w' e => h3 w' (by rw [e]; exact Fr.refl _ _), k⟩
  · exact fun k => eLdNE h (by simpa using hn) k
theorem Cs.ld2 {w : World} {g : Nat} {a b : Value} (h : Cs w g [a, b]) {K : KP} : pLdN (· = w) 2 (.pointer (some ⟨g, 0, none⟩)) K = K (.agg #[a, b]) := h.ld rfl
theorem Cs.ld3 {w : World} {g : Nat} {a b c : Value} (h : Cs w g [a, b, c]) {K : KP} : pLdN (· = w) 3 (.pointer (some ⟨g, 0, none⟩)) K = K (.agg #[a, b, c]) := h.ld rfl
theorem Cs.ld4 {w : World} {g : Nat} {a b c d : Value} (h : Cs w g [a, b, c, d]) {K : KP} : pLdN (· = w) 4 (.pointer (some ⟨g, 0, none⟩)) K = K (.agg #[a, b, c, d]) := h.ld rfl
theorem Cs.le2 {w : World} {g : Nat} {a b : Value} (h : Cs w g [a, b]) {K : KP} : pLdN (Ext w) 2 (.pointer (some ⟨g, 0, none⟩)) K = K (.agg #[a, b]) := h.ldE rfl
theorem Cs.le3 {w : World} {g : Nat} {a b c : Value} (h : Cs w g [a, b, c]) {K : KP} : pLdN (Ext w) 3 (.pointer (some ⟨g, 0, none⟩)) K = K (.agg #[a, b, c]) := h.ldE rfl
theorem Cs.le4 {w : World} {g : Nat} {a b c d : Value} (h : Cs w g [a, b, c, d]) {K : KP} : pLdN (Ext w) 4 (.pointer (some ⟨g, 0, none⟩)) K = K (.agg #[a, b, c, d]) := h.ldE rfl
theorem boxC {T : TypeId} {cs : List Value} {w : World} {K : KV} (h : ∀ g w', w.heap.size = g → Ext w w' → Cs w' g cs → K (.pointer (some ⟨g, 0, none⟩)) w') : pBox T (.agg ⟨cs⟩) w K :=
  boxA fun g w' h1 h2 h3 => h g w' h1 h2 ⟨_, h3⟩
theorem boxV {T : TypeId} {v : Value} {w : World} {K : KV} (hv : one v = true) (h : ∀ g w', w.heap.size = g → Ext w w' → Cs w' g [v] → K (.pointer (some ⟨g, 0, none⟩)) w') : pBox T v w K :=
  box_ fun g w' h1 h2 h3 => h g w' h1 h2 ⟨_, by rw [h3, one_cells hv]⟩
/-- One value, put into a fresh row. -/
theorem bslice1 {E : Nat} {z v : Value} {w : World} {K : KV} (hv : one v = true) (h : ∀ g w', w.heap.size = g → Ext w w' → Cs w' g [v] → K (.slice (some ⟨g, 0, none⟩) 1 1) w') : pBSlice E 1 (rowOf [z] 1) [(0, 1, v)] w K := by
  refine ⟨[v], ?_, h _ _ rfl (Ext.alloc w _) ⟨_, alloc_new w _⟩⟩
  simp [rowOf, fillL, one_cells hv, cutIn]
/-- append(s, x) -/
theorem Own.push1 {t : Ty} {D : Nat → Prop} {B E bytes : Nat} {z : Value} {w : World} {K : KV} {v y : Value} {xs : List t.D} {x : t.D} {r : Nat}
    (h : Own t D B w v xs) (hr : Cs w r [y]) (hy : Rd t D w [y] x) (hB : B ≤ w.heap.size) (hD : ¬ D w.heap.size) (ht : t.n = 1) (hb : (2 * (xs.length + 1) + 192) * bytes ≤ 2 ^ 48)
    (k : ∀ v' w', Own t D B w' v' (xs ++ [x]) → Fr (fun b => Blk v b ∧ B ≤ b) w w' → (∀ b, Blk v' b → Blk v b ∨ (w.heap.size ≤ b ∧ b < w'.heap.size)) → K v' w') : pApp E 1 bytes [z] v (.slice (some ⟨r, 0, none⟩) 1 1) w K := by
  obtain ⟨T, hr⟩ := hr
  exact h.push hB hD ht.symm (by rw [ht]; rfl) hr hy hb k
theorem Cs.bslice {E len : Nat} {zero : List Value} {parts : List (Nat × Nat × Value)} {cs : List Value} {w : World} {K : KV} (hc : fillL zero parts = some cs) (h : ∀ g w', w.heap.size = g → Ext w w' → Cs w' g cs → K (.slice (some ⟨g, 0, none⟩) len len) w') : pBSlice E len zero parts w K :=
  ⟨cs, hc, h _ _ rfl (Ext.alloc w _) ⟨_, alloc_new w _⟩⟩
theorem Cs.set {w : World} {g i : Nat} {l : List Value} {v : Value} {K : KV} (h : Cs w g l) (hi : i < l.length) (hv : one v = true) (k : ∀ w', Cs w' g (l.set i v) → Fr (· = g) w w' → K undef w') : pSt (.pointer (some ⟨g, i, none⟩)) v w K := by
  have hc := h.c i
  rw [List.getElem?_eq_getElem hi] at hc
  obtain ⟨T, h⟩ := h
  refine ⟨_, _, rfl, hc, by simp [World.frozen?, h], hv, k _ ⟨T, ?_⟩ (Fr.setCell w ⟨g, i, none⟩ v)⟩
  rw [heap_setCell, if_pos rfl, h]; simp
theorem Cs.setN {w : World} {g n : Nat} {l l' : List Value} {K : KV} (h : Cs w g l) (hl : l'.length = l.length) (hn : l'.length = n) (hv : ∀ v ∈ l', one v = true) (k : ∀ w', Cs w' g l' → Fr (· = g) w w' → K undef w') : pStN n (.pointer (some ⟨g, 0, none⟩)) (.agg ⟨l'⟩) w K := by
  have hc := h.c
  obtain ⟨T, h⟩ := h
  refine ⟨_, l', rfl, rfl, hn, fun j v hj => ?_, k _ ?_ (Fr.setCells ⟨g, 0, none⟩ l' 0 w)⟩
  · have hjl := (List.getElem?_eq_some_iff.1 hj).1
    rw [add_mk, Nat.zero_add]
    exact ⟨⟨_, by rw [hc]; exact List.getElem?_eq_getElem (by omega)⟩, by simp [World.frozen?, h], hv v (List.mem_of_getElem? hj)⟩
  · obtain ⟨cs', g1, g2⟩ := setCells_heap (g := g) (o := 0) l' 0 w ⟨l⟩ [] l h rfl rfl (by omega)
    refine ⟨T, ?_⟩
    rw [g1]
    have : cs' = ⟨l'⟩ := by
      apply Array.ext'
      rw [g2, hl, List.drop_length]; simp
    rw [this]
/-- The whole number of a value. -/
def iv : Value → Int
  | .int _ n => n
  | _ => 0
end Go.G
end
section
set_option linter.unusedSimpArgs false
set_option linter.unusedVariables false
namespace Go.G
open Go
theorem anew_ {w : World} {D : (World → Prop) → World → Prop} (h : D (Ext w) w) : anew w D := ⟨Ext w, Fr.refl _ _, h⟩
theorem eAnew {w : World} {P : World → Prop} : (anew w fun _ w => P w) = P w := by
  apply propext; constructor
  · rintro ⟨_, _, h⟩; exact h
  · exact fun h => ⟨fun _ => True, trivial, h⟩
theorem RdL.get1 {t : Ty} {D : Nat → Prop} {w : World} {xs : List t.D} {cs : List Value} (h : RdL t D w cs xs) (ht : t.n = 1) {i : Nat} (hi : i < xs.length) : ∃ u, cs[i]? = some u ∧ Rd t D w [u] xs[i] := by
  obtain ⟨a, h1, h2, h3⟩ := h.get i hi
  match a, h1.trans ht with
  | [u], _ => exact ⟨u, by have := h3 0 u rfl; rwa [ht, Nat.mul_one, Nat.add_zero] at this, h2⟩
theorem RdL.set1 {t : Ty} {D : Nat → Prop} {w : World} (ht : t.n = 1) {u : Value} {y : t.D} (hy : Rd t D w [u] y) : ∀ {xs : List t.D} {cs : List Value} (i : Nat), RdL t D w cs xs → RdL t D w (cs.set i u) (xs.set i y)
  | [], _, i, h => by rw [show _ = _ from h]; rfl
  | x :: xs, _, 0, h => by
    obtain ⟨a, b, rfl, h1, h2⟩ := h
    have := h1.len
    match a, this.trans ht with
    | [v], _ => exact ⟨[u], b, rfl, hy, h2⟩
  | x :: xs, _, i + 1, h => by
    obtain ⟨a, b, rfl, h1, h2⟩ := h
    have := h1.len
    match a, this.trans ht with
    | [v], _ => exact ⟨[v], b.set i u, rfl, h1, RdL.set1 ht hy i h2⟩
theorem Own.some_of {t : Ty} {D : Nat → Prop} {B : Nat} {w : World} {v : Value} {xs : List t.D} (h : Own t D B w v xs) (hne : 0 < xs.length) : ∃ g c, v = .slice (some ⟨g, 0, none⟩) xs.length c ∧ B ≤ g ∧ g < w.heap.size := by
  rcases h with ⟨rfl, a, rfl⟩ | ⟨g, c, cs, T, fz, old, rest, rfl, h1, h2, h3, h⟩
  · simp at hne
  · exact ⟨g, c, rfl, h1, heap_lt h3⟩
theorem Own.cell1 {t : Ty} {D : Nat → Prop} {B g n c : Nat} {w : World} {xs : List t.D} (h : Own t D B w (.slice (some ⟨g, 0, none⟩) n c) xs) (ht : t.n = 1) {i : Nat} (hi : i < xs.length) :
    ∃ u, w.cell? ⟨g, i, none⟩ = some u ∧ Rd t D w [u] xs[i] := by
  rcases h with ⟨rfl, a, e⟩ | ⟨g', c, cs, T, fz, old, rest, e, h1, h2, h3, h3', h4, h5, h6⟩
  · simp at hi
  · simp at e
    obtain ⟨rfl, -, -⟩ := e
    obtain ⟨u, hu, hr⟩ := h6.get1 ht hi
    refine ⟨u, ?_, hr⟩
    rw [cell_mk h3, ← Array.getElem?_toList, h4, List.getElem?_append_left (List.getElem?_eq_some_iff.1 hu).1]
    exact hu
theorem Own.set1 {t : Ty} {D : Nat → Prop} {B g n c : Nat} {w : World} {xs : List t.D} (h : Own t D B w (.slice (some ⟨g, 0, none⟩) n c) xs) (ht : t.n = 1) {i : Nat} (hi : i < xs.length) {u : Value} {y : t.D} (hy : Rd t D w [u] y) {K : KV}
    (k : ∀ w', Own t D B w' (.slice (some ⟨g, 0, none⟩) n c) (xs.set i y) → Fr (· = g) w w' → K undef w') : pSt (.pointer (some ⟨g, i, none⟩)) u w K := by
  have hc := h.cell1 ht hi
  obtain ⟨old, hold, -⟩ := hc
  rcases h with ⟨rfl, a, e⟩ | ⟨g', c, cs, T, fz, old', rest, e, h1, h2, h3, h3', h4, h5, h6⟩
  · simp at hi
  · simp at e
    obtain ⟨rfl, rfl, rfl⟩ := e
    have hil : i < old'.length := by rw [h6.len, ht]; omega
    have hcs : i < cs.size := by
      have e1 := congrArg List.length h4
      simp at e1
      omega
    refine ⟨_, old, rfl, hold, ?_, ?_, k _ (.inr ⟨g, c, cs.setIfInBounds i u, T, fz, old'.set i u, rest, by simp, h1, h2, ?_, by simpa using h3', ?_, by simpa using h5, ?_⟩) (Fr.setCell w ⟨g, i, none⟩ u)⟩
    · simp only [World.frozen?, h3]
      rw [Bool.and_eq_false_iff]
      by_cases hf : fz.1 ≤ i
      · exact .inr (by simpa using fun hh => h3' i hcs hf hh)
      · exact .inl (by simpa using hf)
    · exact hy.allOne u (by simp)
    · rw [heap_setCell, if_pos rfl, h3]; simp
    · rw [Array.toList_setIfInBounds, h4, List.set_append_left _ _ hil]
    · refine (RdL.set1 ht hy i h6).imp (fun _ h => h) (fun b hb hlt => (Fr.setCell w ⟨g, i, none⟩ u).keep b hlt fun e => h2 ?_)
      rw [← show b = g from e]; exact hb
theorem Rd.idx {t : Ty} {D : Nat → Prop} {w : World} {v : Value} {xs : List t.D} (h : Rd (.slice t) D w [v] xs) (ht : t.n = 1) {i : Nat} (hi : i < xs.length) :
    ∃ a c u, v = .slice (some a) xs.length c ∧ a.spot = none ∧ D a.block ∧ w.cell? (a.add i) = some u ∧ Rd t D w [u] xs[i] := by
  obtain ⟨a, c, cs, rfl, h1, h2⟩ := Rd.rows h
  obtain ⟨u, hu, hr⟩ := h1.get1 ht hi
  obtain ⟨ad, rfl, e2, e3, e4⟩ := h2 i u hu
  exact ⟨ad, c, u, rfl, e2, e3, e4, hr⟩
theorem Rd.idxN {t : Ty} {D : Nat → Prop} {w : World} {v : Value} {xs : List t.D} (h : Rd (.slice t) D w [v] xs) {i : Nat} (hi : i < xs.length) :
    ∃ a c us, v = .slice (some a) xs.length c ∧ a.spot = none ∧ D a.block ∧ us.length = t.n ∧ (∀ j u, us[j]? = some u → w.cell? (a.add (i * t.n + j)) = some u) ∧ Rd t D w us xs[i] := by
  obtain ⟨a, c, cs, rfl, h1, h2⟩ := Rd.rows h
  obtain ⟨us, e1, e2, e3⟩ := h1.get i hi
  have hp := t.n_pos
  obtain ⟨ad, rfl, f2, f3, f4⟩ := h2 _ (us[0]'(by omega)) (e3 0 _ (List.getElem?_eq_getElem _))
  refine ⟨ad, c, us, rfl, f2, f3, e1, fun j u hj => ?_, e2⟩
  obtain ⟨ad', g1, _, _, g4⟩ := h2 _ u (e3 j u hj)
  cases g1
  exact g4
/-- What lies in its cells alone. -/
def Ty.flat : Ty → Bool
  | .slice _ => false
  | .pair a b => a.flat && b.flat
  | _ => true
theorem Rd.flat : ∀ {t : Ty} {D D' : Nat → Prop} {w w' : World} {vs : List Value} {x : t.D}, t.flat = true → Rd t D w vs x → Rd t D' w' vs x
  | .int _, _, _, _, _, _, _, _, h => h
  | .byte, _, _, _, _, _, _, _, h => h
  | .bool, _, _, _, _, _, _, _, h => h
  | .str, _, _, _, _, _, _, _, h => h
  | .slice _, _, _, _, _, _, _, hf, _ => by cases hf
  | .pair a b, _, _, _, _, _, _, hf, h => by
    obtain ⟨va, vb, h1, h2, h3, h4, h5⟩ := h
    simp only [Ty.flat, Bool.and_eq_true] at hf
    exact ⟨va, vb, h1, h2, h3, h4.flat hf.1, h5.flat hf.2⟩
theorem RdL.flat {t : Ty} {D D' : Nat → Prop} {w w' : World} (ht : t.flat = true) : ∀ {xs : List t.D} {cs : List Value}, RdL t D w cs xs → RdL t D' w' cs xs
  | [], _, h => h
  | x :: xs, _, h => by
    obtain ⟨a, b, h1, h2, h3⟩ := h
    exact ⟨a, b, h1, h2.flat ht, RdL.flat ht h3⟩
theorem Own.wide2 {t : Ty} {D D' : Nat → Prop} {B : Nat} {w : World} {v : Value} {xs : List t.D} (h : Own t D B w v xs) (hD : ∀ b, D b → D' b) (hv : ∀ b, Blk v b → B ≤ b → ¬ D b → ¬ D' b) : Own t D' B w v xs := by
  rcases h with ⟨rfl, a, rfl⟩ | ⟨g, c, cs, T', fz, old, rest, rfl, h1, h2, h3, h3', h4, h5, h6⟩
  · exact .inl ⟨rfl, a, rfl⟩
  · exact .inr ⟨g, c, cs, T', fz, old, rest, rfl, h1, hv _ ⟨_, _, _, rfl, rfl⟩ h1 h2, h3, h3', h4, h5, h6.imp hD (fun _ _ _ => rfl)⟩
theorem Own.rd2 {t : Ty} {D D' : Nat → Prop} {B : Nat} {w : World} {v : Value} {xs : List t.D} (h : Own t D B w v xs) (hD : ∀ b, D b → D' b) (hB : ∀ b, Blk v b → B ≤ b → b < w.heap.size → D' b) (hl : xs.length < 9223372036854775808) : Rd (.slice t) D' w [v] xs := by
  have hf := h.form
  rcases h with ⟨rfl, a, rfl⟩ | ⟨g, c, cs, T, fz, old, rest, rfl, h1, h2, h3, h3', h4, h5, h6⟩
  · exact ⟨a, 0, rfl, Nat.le_refl _, hl, fun h => absurd rfl h⟩
  · obtain ⟨_, c', e, hc⟩ := hf
    simp at e
    refine Rd.of_rows h6 hD (by omega) hl fun i u hi => ⟨_, rfl, rfl, hB g ⟨_, _, _, rfl, rfl⟩ h1 (heap_lt h3), ?_⟩
    rw [add_mk, Nat.zero_add, cell_mk h3, ← Array.getElem?_toList, h4, List.getElem?_append_left (List.getElem?_eq_some_iff.1 hi).1]
    exact hi
theorem fill2 {z0 z1 a b : Value} (ha : one a = true) (hb : one b = true) : fillL [z0, z1] [(0, 1, a), (1, 1, b)] = some [a, b] := by
  simp [fillL, one_cells ha, one_cells hb, cutIn]
theorem fillAgg {z cs : List Value} {n : Nat} (hn : cs.length = n) (hz : z.length = n) : fillL (rowOf z 1) [(0, n, .agg ⟨cs⟩)] = some cs := by
  subst hn
  simp [fillL, Value.cells, cutIn, rowOf, hz]
theorem drawS {w : World} {D : (World → Prop) → World → Prop} (T : Nat → Prop) (h : ∀ w', Ext w w' → D (Fr T w') w') : drawn w D := ⟨Fr T w.drew, Fr.refl _ _, h _ (Ext.drew w)⟩
theorem anewS {w : World} {D : (World → Prop) → World → Prop} (T : Nat → Prop) (h : D (Fr T w) w) : anew w D := ⟨Fr T w, Fr.refl _ _, h⟩
theorem eLdT {T : Nat → Prop} {w : World} {a : Addr} {x : Value} {K : KP} (hT : ¬ T a.block) (h : w.cell? a = some x) : pLd (Fr T w) (.pointer (some a)) K = K x := by
  apply propext; constructor
  · rintro ⟨a', x', h1, h', k⟩; cases h1; have := h' w (Fr.refl _ _); rw [h] at this; cases this; exact k
  · exact fun k => ⟨a, x, rfl, fun w' e => e.cell h hT, k⟩
theorem Cs.tN {T : Nat → Prop} {w : World} {g n : Nat} {l : List Value} (h : Cs w g l) (hT : ¬ T g) (hn : l.length = n) {K : KP} : pLdN (Fr T w) n (.pointer (some ⟨g, 0, none⟩)) K = K (.agg ⟨l⟩) := by
  subst hn
  have hk := h
  obtain ⟨T', h⟩ := h
  apply propext; constructor
  · rintro ⟨a', xs, h1, h2, h3, k⟩
    exact (eLdNW h (by simp)).mp ⟨a', xs, h1, h2, fun w' e => h3 w' (by rw [e]; exact Fr.refl _ _), k⟩
  · intro k
    refine ⟨_, l, rfl, rfl, fun w' e i hi => ?_, k⟩
    rw [add_mk, Nat.zero_add]
    exact (hk.fr e hT).c i
theorem Cs.t3 {T : Nat → Prop} {w : World} {g : Nat} {a b c : Value} (h : Cs w g [a, b, c]) (hT : ¬ T g) {K : KP} : pLdN (Fr T w) 3 (.pointer (some ⟨g, 0, none⟩)) K = K (.agg #[a, b, c]) := h.tN hT rfl
theorem Cs.t2 {T : Nat → Prop} {w : World} {g : Nat} {a b : Value} (h : Cs w g [a, b]) (hT : ¬ T g) {K : KP} : pLdN (Fr T w) 2 (.pointer (some ⟨g, 0, none⟩)) K = K (.agg #[a, b]) := h.tN hT rfl
theorem Cs.f {T : Nat → Prop} {w : World} {g o : Nat} {l : List Value} {v : Value} (h : Cs w g l) (hT : ¬ T g) (hv : l[o]? = some v) {K : KP} : pLd (Fr T w) (.pointer (some ⟨g, o, none⟩)) K = K v := eLdT hT (by rw [h.c]; exact hv)
end Go.G
end
section
set_option linter.unusedSimpArgs false
set_option linter.unusedVariables false
namespace Go.G
open Go
/-- A part of a slice. -/
theorem Rd.cut {t : Ty} {D : Nat → Prop} {w : World} {a : Option Addr} {n c : Nat} {xs : List t.D} (h : Rd (.slice t) D w [.slice a n c] xs) {l e m : Nat} (hl : l ≤ e) (he : e ≤ n) (hm : e ≤ m) (hmc : m ≤ c) :
    Rd (.slice t) D w [.slice (if m = l then a else a.map (·.add (l * t.n))) (e - l) (m - l)] ((xs.take e).drop l) := by
  obtain ⟨a', c', h1, h2, h3, h4⟩ := h
  simp only [List.cons.injEq, Value.slice.injEq, and_true] at h1
  obtain ⟨rfl, rfl, rfl⟩ := h1
  have hlen : ((xs.take e).drop l).length = e - l := by simp; omega
  refine ⟨_, m - l, by rw [hlen], by omega, by omega, fun hne => ?_⟩
  have hpos : 0 < ((xs.take e).drop l).length := List.length_pos_iff.2 hne
  obtain ⟨ad, rfl, g2, g3, g4⟩ := h4 (by intro e'; subst e'; simp at hpos)
  refine ⟨ad.add (l * t.n), by rw [if_neg (by omega)]; rfl, add_spot _ _ g2, by rw [add_block]; exact g3, fun i hi => ?_⟩
  obtain ⟨cs, k1, k2, k3⟩ := g4 (l + i) (by omega)
  refine ⟨cs, k1, fun j v hj => ?_, ?_⟩
  · rw [add_add _ _ _ g2, show l * t.n + (i * t.n + j) = (l + i) * t.n + j by rw [Nat.add_mul]; omega]
    exact k2 j v hj
  · have : ((xs.take e).drop l)[i] = xs[l + i]'(by omega) := by simp
    rw [this]; exact k3
theorem RdL.rep {t : Ty} {D : Nat → Prop} {w : World} {zero : List Value} {z : t.D} (h : Rd t D w zero z) : ∀ n, RdL t D w (rowOf zero n) (List.replicate n z)
  | 0 => rfl
  | n + 1 => ⟨zero, rowOf zero n, by simp [rowOf, List.replicate_succ], h, RdL.rep h n⟩
/-- make([]T, n) -/
theorem make_ {t : Ty} {D : Nat → Prop} {B E bytes n : Nat} {zero : List Value} {z : t.D} {w : World} {K : KV} (hn : n < 4611686018427387904) (hb : (bytes : Int) * n ≤ 2 ^ 48) (hz : ∀ w, Rd t D w zero z) (hB : B ≤ w.heap.size) (hD : ¬ D w.heap.size)
    (k : ∀ g w', w.heap.size = g → Ext w w' → w'.heap.size = g + 1 → Own t D B w' (.slice (some ⟨g, 0, none⟩) n n) (List.replicate n z) → K (.slice (some ⟨g, 0, none⟩) n n) w') : pMake E bytes zero (.int .i64 n) (.int .i64 n) w K := by
  refine ⟨.i64, .i64, n, n, rfl, rfl, by omega, Int.le_refl _, by omega, hb, ?_⟩
  have hl : ∀ m, (rowOf zero m).length = m * t.n := fun m => by
    have := (RdL.rep (hz w) m).len; simpa using this
  refine k _ _ rfl (Ext.alloc w _) (size_alloc w _) (.inr ⟨w.heap.size, n, _, E, (0, 0), rowOf zero n, [], by simp, hB, hD, alloc_new w _, fun o _ _ h => by simp at h, by simp, by simp [hl], RdL.rep (hz _) n⟩)
theorem strOf {S : World → Prop} {D : Nat → Prop} {w : World} {x : Value} {bs : List UInt8} {K : KP} (hS : ∀ w', S w' → Rd (.slice .byte) D w' [x] bs) (hw : S w) (k : K (.string ⟨bs.toArray⟩)) : pStrOf S x K := by
  obtain ⟨a, c, e, _, _, _⟩ := hS w hw
  simp only [List.cons.injEq, and_true] at e
  refine ⟨a, _, c, e, bs, rfl, fun i b hi => ?_, k⟩
  have hlt := (List.getElem?_eq_some_iff.1 hi).1
  have hne : bs ≠ [] := by intro e'; subst e'; simp at hlt
  have key : ∀ w', S w' → ∃ ad, a = some ad ∧ w'.cell? (ad.add i) = some (.int .u8 b.toNat) := fun w' hw' => by
    obtain ⟨ad, c', u, e', _, _, h5, h6⟩ := (hS w' hw').idx rfl hlt
    rw [e] at e'
    simp only [Value.slice.injEq] at e'
    have hu : [u] = [Value.int .u8 (bs[i].toNat : Int)] := h6
    simp only [List.cons.injEq, and_true] at hu
    have hbi : bs[i] = b := by rw [List.getElem?_eq_getElem hlt] at hi; simpa using hi
    exact ⟨ad, e'.1, by rw [h5, hu, hbi]⟩
  obtain ⟨ad, h1, _⟩ := key w hw
  refine ⟨ad, h1, fun w' hw' => ?_⟩
  obtain ⟨ad', h1', h2'⟩ := key w' hw'
  rw [h1] at h1'; cases h1'
  exact h2'
theorem bytes_toList (l : List UInt8) : (⟨l.toArray⟩ : ByteArray).toList = l := by
  rw [ByteArray.toList_eq]
end Go.G
end
section
set_option linter.unusedSimpArgs false
set_option linter.unusedVariables false
namespace Go.G
open Go
abbrev W32 := BitVec 32
def u (x : W32) : Value := .int .u32 (x.toNat : Int)
variable {K : KP} {x y : W32}
theorem u_lt (x : W32) : (x.toNat : Int) < 4294967296 := by have := x.isLt; omega
theorem wrap32 {n : Int} : IntKind.u32.wrap n = ((BitVec.ofInt 32 n).toNat : Int) := by
  have h := BitVec.toNat_ofInt (n := 32) n
  simp only [IntKind.wrap, IntKind.signed, IntKind.bits]
  have h2 : (n % 2 ^ 32) = n % 4294967296 := rfl
  have h3 : 0 ≤ n % 4294967296 := Int.emod_nonneg _ (by omega)
  rw [h]
  simp only [show ((2 ^ 32 : Nat) : Int) = 4294967296 from rfl]
  first
    | (rw [Int.toNat_of_nonneg h3]; simp; done)
    | (simp; omega)
theorem ofInt_toNat (x : W32) : BitVec.ofInt 32 (x.toNat : Int) = x := by
  apply BitVec.eq_of_toNat_eq
  rw [BitVec.toNat_ofInt]
  have := x.isLt
  simp only [show ((2 ^ 32 : Nat) : Int) = 4294967296 from rfl]
  omega
theorem wrapU (x : W32) : IntKind.u32.wrap (x.toNat : Int) = (x.toNat : Int) := by rw [wrap32, ofInt_toNat]
theorem eUadd : pBinI .add .u32 (u x) (u y) K = K (u (x + y)) := by
  have e : binI .add .u32 (x.toNat : Int) (y.toNat : Int) = u (x + y) := by
    show Value.int .u32 (IntKind.u32.wrap ((x.toNat : Int) + (y.toNat : Int))) = u (x + y)
    rw [wrap32]
    have : BitVec.ofInt 32 ((x.toNat : Int) + (y.toNat : Int)) = x + y := by rw [BitVec.ofInt_add, ofInt_toNat, ofInt_toNat]
    rw [this]; rfl
  unfold u at e ⊢; rw [eBinI, e]
theorem eUxor : pBinI .xor .u32 (u x) (u y) K = K (u (x ^^^ y)) := by
  have e : binI .xor .u32 (x.toNat : Int) (y.toNat : Int) = u (x ^^^ y) := by
    show Value.int .u32 (IntKind.u32.wrap (((BitVec.ofInt 32 (x.toNat : Int) ^^^ BitVec.ofInt 32 (y.toNat : Int)).toNat : Nat) : Int)) = u (x ^^^ y)
    rw [ofInt_toNat, ofInt_toNat, wrapU]; rfl
  unfold u at e ⊢; rw [eBinI, e]
theorem eUand : pBinI .and .u32 (u x) (u y) K = K (u (x &&& y)) := by
  have e : binI .and .u32 (x.toNat : Int) (y.toNat : Int) = u (x &&& y) := by
    show Value.int .u32 (IntKind.u32.wrap (((BitVec.ofInt 32 (x.toNat : Int) &&& BitVec.ofInt 32 (y.toNat : Int)).toNat : Nat) : Int)) = u (x &&& y)
    rw [ofInt_toNat, ofInt_toNat, wrapU]; rfl
  unfold u at e ⊢; rw [eBinI, e]
theorem eUor : pBinI .or .u32 (u x) (u y) K = K (u (x ||| y)) := by
  have e : binI .or .u32 (x.toNat : Int) (y.toNat : Int) = u (x ||| y) := by
    show Value.int .u32 (IntKind.u32.wrap (((BitVec.ofInt 32 (x.toNat : Int) ||| BitVec.ofInt 32 (y.toNat : Int)).toNat : Nat) : Int)) = u (x ||| y)
    rw [ofInt_toNat, ofInt_toNat, wrapU]; rfl
  unfold u at e ⊢; rw [eBinI, e]
theorem inv_u (x : W32) : Value.int .u32 (IntKind.u32.wrap (((BitVec.ofInt 32 (4294967295 : Int) ^^^ BitVec.ofInt 32 (x.toNat : Int)).toNat : Nat) : Int)) = u (~~~ x) := by
  have e : BitVec.ofInt 32 (4294967295 : Int) = BitVec.allOnes 32 := by decide
  rw [e, ofInt_toNat, BitVec.allOnes_xor, wrapU]; rfl
theorem eUinv : pInv .u32 (u x) K = K (u (~~~ x)) := by
  have e := inv_u x
  apply propext; constructor
  · rintro ⟨a, h1, h⟩
    have : a = (x.toNat : Int) := by
      unfold u at h1
      simp only [Value.int.injEq, true_and] at h1
      exact h1.symm
    subst this
    rw [← e]; exact h
  · intro h
    rw [← e] at h
    exact ⟨_, rfl, h⟩
theorem eUshr {k : IntKind} {n : Nat} (hn : n < 32) : pShift .shr .u32 (u x) (.int k n) K = K (u (x >>> n)) := by
  unfold u; rw [eShift]
  have : shiftI .shr .u32 (x.toNat : Int) (n : Int) = .int .u32 ((x >>> n).toNat : Int) := by
    show Value.int .u32 ((x.toNat : Int).fdiv (2 ^ (min (n : Int).toNat 32))) = _
    rw [Int.toNat_natCast, Nat.min_eq_left (Nat.le_of_lt hn)]
    congr 1
    rw [BitVec.toNat_ushiftRight, Nat.shiftRight_eq_div_pow, Int.fdiv_eq_ediv_of_nonneg _ (by exact Int.le_of_lt (Int.pow_pos (by omega)))]
    rw [Int.natCast_ediv, Int.natCast_pow]; rfl
  rw [this]
  apply propext; exact ⟨fun h => h.2, fun h => ⟨by omega, h⟩⟩
theorem eUshl {k : IntKind} {n : Nat} (hn : n < 32) : pShift .shl .u32 (u x) (.int k n) K = K (u (x <<< n)) := by
  unfold u; rw [eShift]
  have : shiftI .shl .u32 (x.toNat : Int) (n : Int) = .int .u32 ((x <<< n).toNat : Int) := by
    show Value.int .u32 (IntKind.u32.wrap ((x.toNat : Int) * 2 ^ (min (n : Int).toNat 32))) = _
    rw [Int.toNat_natCast, Nat.min_eq_left (Nat.le_of_lt hn), wrap32]
    have e2 : (x.toNat : Int) * 2 ^ n = ((x.toNat * 2 ^ n : Nat) : Int) := by rw [Int.natCast_mul, Int.natCast_pow]; rfl
    rw [e2]
    have e3 : BitVec.ofInt 32 ((x.toNat * 2 ^ n : Nat) : Int) = x <<< n := by
     apply BitVec.eq_of_toNat_eq
     rw [BitVec.toNat_ofInt, BitVec.toNat_shiftLeft, Nat.shiftLeft_eq]
     simp only [show ((2 ^ 32 : Nat) : Int) = 4294967296 from rfl, show (2 ^ 32 : Nat) = 4294967296 from rfl]
     omega
    rw [e3]
  rw [this]
  apply propext; exact ⟨fun h => h.2, fun h => ⟨by omega, h⟩⟩
theorem eUconv {n : Int} : pConv .u32 (.int .u64 n) K = K (u (BitVec.ofInt 32 n)) := by
  rw [eConv, wrap32]; rfl
theorem wrapU64 {n : Int} (h0 : 0 ≤ n) (h1 : n < 18446744073709551616) : IntKind.u64.wrap n = n := by
  simp only [IntKind.wrap, IntKind.signed, IntKind.bits]
  first | omega | (simp; omega)
theorem wrapU8 {n : Int} : IntKind.u8.wrap n = n % 256 := by
  simp only [IntKind.wrap, IntKind.signed, IntKind.bits]
  first | omega | (simp; done) | (simp; omega)
theorem eU64 : pConv .u64 (u x) K = K (.int .u64 (x.toNat : Int)) := by
  unfold u; rw [eConv]
  have := x.isLt
  rw [wrapU64 (by omega) (by omega)]
theorem one_u (x : W32) : one (u x) = true := rfl
def us (l : List W32) : List Value := l.map u
theorem us_len (l : List W32) : (us l).length = l.length := by simp [us]
theorem us_get {l : List W32} {i : Nat} (h : i < l.length) : (us l)[i]? = some (u l[i]) := by simp [us, h]
theorem us_one (l : List W32) : ∀ v ∈ us l, one v = true := fun v hv => by
  obtain ⟨x, _, rfl⟩ := List.mem_map.1 hv; rfl
theorem us_set (l : List W32) (i : Nat) (x : W32) : (us l).set i (u x) = us (l.set i x) := by simp [us, List.map_set]
theorem us_rep (n : Nat) : List.replicate n (Value.int .u32 0) = us (List.replicate n 0) := by
  unfold us; rw [List.map_replicate]; rfl
/-- An element's address in an array. -/
theorem eIAr {size len b o : Nat} {k : IntKind} {j : Int} {K : KP} : pIAr len size (.pointer (some ⟨b, o, none⟩)) (.int k j) K = (0 ≤ j ∧ j < (len : Int) ∧ K (.pointer (some ⟨b, o + j.toNat * size, none⟩))) := by
  apply propext; constructor
  · rintro ⟨a', k', j', h1, h2, h⟩
    cases h1; cases h2
    rw [add_mk] at h; exact h
  · intro h
    refine ⟨_, k, j, rfl, rfl, h.1, h.2.1, ?_⟩
    rw [add_mk]; exact h.2.2
variable {w : World} {g : Nat} {l : List W32}
theorem Cs.uE {i : Nat} (h : Cs w g (us l)) (hi : i < l.length) {K : KP} : pLd (Ext w) (.pointer (some ⟨g, i, none⟩)) K = K (u l[i]) := eLdE (by rw [h.c]; exact us_get hi)
theorem Cs.uW {i : Nat} (h : Cs w g (us l)) (hi : i < l.length) {K : KP} : pLd (· = w) (.pointer (some ⟨g, i, none⟩)) K = K (u l[i]) := by
  rw [eLdW, h.c, us_get hi]; simp
theorem Cs.uT {T : Nat → Prop} {i : Nat} (h : Cs w g (us l)) (hT : ¬ T g) (hi : i < l.length) {K : KP} : pLd (Fr T w) (.pointer (some ⟨g, i, none⟩)) K = K (u l[i]) := eLdT hT (by rw [h.c]; exact us_get hi)
theorem Cs.uSet {i : Nat} {x : W32} {K : KV} (h : Cs w g (us l)) (hi : i < l.length) (k : ∀ w', Cs w' g (us (l.set i x)) → Fr (· = g) w w' → K undef w') : pSt (.pointer (some ⟨g, i, none⟩)) (u x) w K := by
  refine h.set (by rw [us_len]; exact hi) rfl fun w' h1 h2 => k w' ?_ h2
  rw [us_set] at h1; exact h1
theorem Cs.uSetN {n : Nat} {l' : List W32} {K : KV} (h : Cs w g (us l)) (hl : l'.length = l.length) (hn : l.length = n) (k : ∀ w', Cs w' g (us l') → Fr (· = g) w w' → K undef w') : pStN n (.pointer (some ⟨g, 0, none⟩)) (.agg ⟨us l'⟩) w K :=
  h.setN (by simp [us_len, hl]) (by simp [us_len, hl, hn]) (us_one _) k
end Go.G
end
section
set_option linter.unusedSimpArgs false
set_option linter.unusedVariables false
namespace Go.G
open Go
variable {t : Ty} {D : Nat → Prop} {B : Nat} {w : World}
theorem RdL.take {xs : List t.D} : ∀ {cs : List Value} (k : Nat), RdL t D w cs xs → RdL t D w (cs.take (k * t.n)) (xs.take k) := by
  induction xs with
  | nil => intro cs k h; rw [show cs = [] from h]; simp [RdL]
  | cons x xs ih =>
    intro cs k h
    cases k with
    | zero => simp [RdL]
    | succ k =>
      obtain ⟨a, b, rfl, h1, h2⟩ := h
      refine ⟨a, b.take (k * t.n), ?_, h1, ih k h2⟩
      have := h1.len
      rw [List.take_append, List.take_of_length_le (by rw [Nat.succ_mul]; omega), Nat.succ_mul, show k * t.n + t.n - a.length = k * t.n by omega]
/-- The first elements of what is owned. -/
theorem Own.take {a : Option Addr} {n c k : Nat} {xs : List t.D} (h : Own t D B w (.slice a n c) xs) (hk : k ≤ xs.length) : Own t D B w (.slice a k c) (xs.take k) := by
  rcases h with ⟨rfl, a', e⟩ | ⟨g, c', cs, T, fz, old, rest, e, h1, h2, h3, h3', h4, h5, h6⟩
  · simp at hk e
    subst hk
    obtain ⟨rfl, _, rfl⟩ := e
    exact .inl ⟨rfl, _, rfl⟩
  · simp only [Value.slice.injEq] at e
    obtain ⟨rfl, -, rfl⟩ := e
    refine .inr ⟨g, c, cs, T, fz, old.take (k * t.n), old.drop (k * t.n) ++ rest, by rw [List.length_take, Nat.min_eq_left hk], h1, h2, h3, h3', ?_, h5, h6.take k⟩
    rw [← List.append_assoc, List.take_append_drop]; exact h4
theorem RdL.setN {us : List Value} {y : t.D} (hy : Rd t D w us y) : ∀ {xs : List t.D} {cs : List Value} (i : Nat), i < xs.length → RdL t D w cs xs → RdL t D w (cs.take (i * t.n) ++ us ++ cs.drop (i * t.n + us.length)) (xs.set i y)
  | [], _, i, hi, _ => by simp at hi
  | x :: xs, _, 0, _, h => by
    obtain ⟨a, b, rfl, h1, h2⟩ := h
    have e1 := h1.len; have e2 := hy.len
    refine ⟨us, b, ?_, hy, h2⟩
    simp only [Nat.zero_mul, List.take_zero, List.nil_append, Nat.zero_add]
    rw [List.drop_append, List.drop_of_length_le (by omega), show us.length - a.length = 0 by omega]; simp
  | x :: xs, _, i + 1, hi, h => by
    obtain ⟨a, b, rfl, h1, h2⟩ := h
    have e1 := h1.len; have e2 := hy.len
    refine ⟨a, _, ?_, h1, RdL.setN hy i (by simpa using hi) h2⟩
    rw [Nat.succ_mul, List.take_append, List.take_of_length_le (by omega), List.drop_append, List.drop_of_length_le (by omega), show i * t.n + t.n - a.length = i * t.n by omega, show i * t.n + t.n + us.length - a.length = i * t.n + us.length by omega]
    simp
/-- s[i] = x, of more cells. -/
theorem Own.setN {g n c i m o : Nat} {xs : List t.D} {us : List Value} {y : t.D} {K : KV} (h : Own t D B w (.slice (some ⟨g, 0, none⟩) n c) xs) (hi : i < xs.length) (hm : m = t.n) (ho : o = i * t.n) (hy : Rd t D w us y)
    (k : ∀ w', Own t D B w' (.slice (some ⟨g, 0, none⟩) n c) (xs.set i y) → Fr (· = g) w w' → K undef w') : pStN m (.pointer (some ⟨g, o, none⟩)) (.agg ⟨us⟩) w K := by
  subst hm; subst ho
  rcases h with ⟨rfl, a, e⟩ | ⟨g', c, cs, T, fz, old, rest, e, h1, h2, h3, h3', h4, h5, h6⟩
  · simp at hi
  · simp at e
    obtain ⟨rfl, rfl, rfl⟩ := e
    have hul := hy.len
    have hol := h6.len
    have hcl : cs.size = old.length + rest.length := by
      have := congrArg List.length h4
      simpa using this
    have hin : i * t.n + t.n ≤ old.length := by
      rw [hol, ← Nat.succ_mul]; exact Nat.mul_le_mul_right _ hi
    have hF := Fr.setCells ⟨g, i * t.n, none⟩ us 0 w
    refine ⟨_, us, rfl, rfl, hul, fun j v hj => ?_, k _ ?_ hF⟩
    · have hjl := (List.getElem?_eq_some_iff.1 hj).1
      have hlt : i * t.n + j < cs.size := by omega
      rw [add_mk]
      refine ⟨⟨_, by rw [cell_mk h3]; exact Array.getElem?_eq_getElem hlt⟩, ?_, hy.allOne v (List.mem_of_getElem? hj)⟩
      simp only [World.frozen?, h3]
      rw [Bool.and_eq_false_iff]
      by_cases hf : fz.1 ≤ i * t.n + j
      · exact .inr (by simpa using fun hh => h3' _ hlt hf hh)
      · exact .inl (by simpa using hf)
    · obtain ⟨cs', g1, g2⟩ := setCells_heap (g := g) (o := i * t.n) us 0 w cs (old.take (i * t.n)) (old.drop (i * t.n) ++ rest) h3 (by rw [← List.append_assoc, List.take_append_drop]; exact h4) (by simp; omega) (by simp; omega)
      have hnew : cs'.toList = (old.take (i * t.n) ++ us ++ old.drop (i * t.n + us.length)) ++ rest := by
        rw [g2, List.drop_append, List.drop_drop]
        rw [show us.length - (old.drop (i * t.n)).length = 0 by simp; omega]
        simp
      have hsz : cs'.size = cs.size := by
        have := congrArg List.length hnew
        simp at this
        omega
      refine .inr ⟨g, c, cs', T, fz, _, rest, by simp, h1, h2, g1, by rw [hsz]; exact h3', hnew, by rw [hsz]; exact h5, ?_⟩
      exact (RdL.setN hy i hi h6).imp (fun _ h => h) (fun b hb hlt => hF.keep b hlt fun e => h2 (by rw [← show b = g from e]; exact hb))
theorem slice_cut {a : Option Addr} {o m l : Nat} : (if m = l then a else a.map (·.add (l * o))) = a ∨ (if m = l then a else a.map (·.add (l * o))) = a.map (·.add (l * o)) := by
  by_cases h : m = l
  · exact .inl (if_pos h)
  · exact .inr (if_neg h)
variable {P : Program} {T e : TypeId}
theorem clear_run {ty : TypeId} {g o n c : Nat} {w : World} (hT : P.underlying T = some (.slice e)) (hz : hasZero P e = true) (hc : canSet w ⟨g, o, none⟩ (rowOf (zeroL P e) (n + 1))) :
    (Builtin.clear_ #[T] ty #[.slice (some ⟨g, o, none⟩) (n + 1) c]).run P w = .ok (.tuple #[]) (setCells w ⟨g, o, none⟩ 0 (rowOf (zeroL P e) (n + 1))) := by
  obtain ⟨z, hz1, hz2, i, hi⟩ := run_zero hz
  have hzc : z.cells = (zeroL P e).toArray := by rw [← hz2]
  simp only [Builtin.clear_, List.getElem?_toArray, List.getElem?_cons_zero, Sem.run_bind, Go.G.run_underlying hT, Result.andThen_ok, hz1, hzc, zeroCells_row, canSet_run hc, Sem.run_pure]
/-- clear(s[k:]) -/
theorem Own.clear {ty : TypeId} {g n c k : Nat} {zero : List Value} {xs : List t.D} {K : KV} (h : Own t D B w (.slice (some ⟨g, 0, none⟩) n c) xs) (hk : k ≤ xs.length) (hT : P.underlying T = some (.slice e)) (hz : hasZero P e = true) (hzz : zeroL P e = zero) (hzn : zero.length = t.n) (hzo : ∀ v ∈ zero, one v = true)
    (kk : ∀ w', Own t D B w' (.slice (some ⟨g, 0, none⟩) k c) (xs.take k) → Fr (· = g) w w' → K (.tuple #[]) w') :
    pRun P (Builtin.clear_ #[T] ty #[.slice (if c = k then some ⟨g, 0, none⟩ else (some (⟨g, 0, none⟩ : Addr)).map (·.add (k * t.n))) (n - k) (c - k)]) w K := by
  have hn : n = xs.length := by
    obtain ⟨a, c', e, _⟩ := h.form
    simpa using (congrArg (fun v => match v with | .slice _ n _ => n | _ => 0) e)
  subst hn
  by_cases c0 : xs.length - k = 0
  · rw [c0]
    refine ⟨.tuple #[], w, ?_, kk w (h.take hk) (Fr.refl _ _)⟩
    have : ∀ a : Option Addr, (Builtin.clear_ #[T] ty #[.slice a 0 (c - k)]).run P w = .ok (.tuple #[]) w := fun a => by
      cases a <;> simp [Builtin.clear_, Go.G.run_underlying hT]
    exact this _
  · obtain ⟨n, hn⟩ : ∃ n, xs.length - k = n + 1 := ⟨xs.length - k - 1, by omega⟩
    have hT' := h.take hk
    obtain ⟨_, _, hf, hcap⟩ := h.form
    simp only [Value.slice.injEq] at hf
    obtain ⟨-, -, rfl⟩ := hf
    rw [if_neg (by omega), hn]
    rcases hT' with ⟨h0, a, e⟩ | ⟨g', c', cs, T', fz, old, rest, e, h1, h2, h3, h3', h4, h5, h6⟩
    · simp at e
      obtain ⟨_, _, rfl⟩ := e
      omega
    simp only [Value.slice.injEq, Option.some.injEq, Addr.mk.injEq, and_true] at e
    obtain ⟨rfl, hkl, rfl⟩ := e
    have hol := h6.len
    rw [← hkl] at hol
    have hcl : cs.size = old.length + rest.length := by
      have := congrArg List.length h4
      simpa using this
    have hrow : (rowOf zero (n + 1)).length = (n + 1) * t.n := by
      have : ∀ m, (rowOf zero m).length = m * t.n := fun m => by
        induction m with
        | zero => simp [rowOf]
        | succ m ih => simp only [rowOf, List.replicate_succ, List.flatten_cons, List.length_append, hzn] at ih ⊢; rw [ih, Nat.succ_mul]; omega
      exact this _
    have hfit : k * t.n + (n + 1) * t.n ≤ cs.size := by
      rw [h5, ← Nat.add_mul]; exact Nat.mul_le_mul_right _ (by omega)
    have hall : ∀ v ∈ rowOf zero (n + 1), one v = true := fun v hv => by
      unfold rowOf at hv
      rw [List.mem_flatten] at hv
      obtain ⟨l, hl, hv⟩ := hv
      rw [List.eq_of_mem_replicate hl] at hv
      exact hzo v hv
    have hadd : ((⟨g, 0, none⟩ : Addr).add (k * t.n)) = ⟨g, k * t.n, none⟩ := by rw [add_mk, Nat.zero_add]
    have hcs : canSet w ⟨g, k * t.n, none⟩ (rowOf (zeroL P e) (n + 1)) := by
      rw [hzz]
      intro j v hj
      have hjl := (List.getElem?_eq_some_iff.1 hj).1
      have hlt : k * t.n + j < cs.size := by omega
      rw [add_mk]
      refine ⟨⟨_, by rw [cell_mk h3]; exact Array.getElem?_eq_getElem hlt⟩, ?_, hall v (List.mem_of_getElem? hj)⟩
      simp only [World.frozen?, h3]
      rw [Bool.and_eq_false_iff]
      by_cases hf : fz.1 ≤ k * t.n + j
      · exact .inr (by simpa using fun hh => h3' _ hlt hf hh)
      · exact .inl (by simpa using hf)
    refine ⟨.tuple #[], setCells w ⟨g, k * t.n, none⟩ 0 (rowOf (zeroL P e) (n + 1)), ?_, kk _ ?_ (Fr.setCells ⟨g, k * t.n, none⟩ (rowOf (zeroL P e) (n + 1)) 0 w)⟩
    · simp only [Option.map_some, hadd]
      exact clear_run hT hz hcs
    · rw [hzz]
      have hF := Fr.setCells ⟨g, k * t.n, none⟩ (rowOf zero (n + 1)) 0 w
      obtain ⟨cs', g1, g2⟩ := setCells_heap (g := g) (o := k * t.n) (rowOf zero (n + 1)) 0 w cs old rest h3 h4 (by omega) (by omega)
      have hsz : cs'.size = cs.size := by
        have := congrArg List.length g2
        simp at this
        omega
      refine .inr ⟨g, c, cs', T', fz, old, rowOf zero (n + 1) ++ rest.drop (rowOf zero (n + 1)).length, by rw [← hkl], h1, h2, g1, by rw [hsz]; exact h3', by rw [g2, List.append_assoc], by rw [hsz]; exact h5, ?_⟩
      exact h6.imp (fun _ h => h) (fun b hb hlt => hF.keep b hlt fun e => h2 (by rw [← show b = g from e]; exact hb))
end Go.G
end
