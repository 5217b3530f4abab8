/-
  Small helps: boxes of three whole numbers, regions whose order is open.
-/
import Derived.Test.YtkpgmaiklfjjgaaDoorGj
set_option linter.unusedSimpArgs false
set_option linter.unusedVariables false
namespace Go.G
open Go
theorem draw_ {w : World} {D : (World → Prop) → World → Prop} (h : ∀ w', Ext w w' → D (Ext w') w') : drawn w D := ⟨Ext w.drew, Fr.refl _ _, h _ (Ext.drew w)⟩
theorem boxA {T : TypeId} {cs : Array Value} {w : World} {K : KV} (h : ∀ g w', w.heap.size = g → Ext w w' → w'.heap[g]? = some (.cells cs T) → K (.pointer (some ⟨g, 0, none⟩)) w') : pBox T (.agg cs) w K :=
  h _ _ rfl (Ext.alloc w _) (alloc_new w _)
/-- Cells of a block. -/
def Cs (w : World) (g : Nat) (l : List Value) : Prop := ∃ T, w.heap[g]? = some (.cells ⟨l⟩ T)
theorem Cs.ext {w w' : World} {g : Nat} {l : List Value} (h : Cs w g l) (e : Ext w w') : Cs w' g l := by
  obtain ⟨T, h⟩ := h; exact ⟨T, e.heap h (fun h => h)⟩
theorem Cs.fr {T : Nat → Prop} {w w' : World} {g : Nat} {l : List Value} (h : Cs w g l) (e : Fr T w w') (hT : ¬ T g) : Cs w' g l := by
  obtain ⟨T', h⟩ := h; exact ⟨T', e.heap h hT⟩
theorem Cs.lt {w : World} {g : Nat} {l : List Value} (h : Cs w g l) : g < w.heap.size := by
  obtain ⟨T, h⟩ := h; exact heap_lt h
theorem Cs.c {w : World} {g : Nat} {l : List Value} (h : Cs w g l) (o : Nat) : w.cell? ⟨g, o, none⟩ = l[o]? := by
  obtain ⟨T, h⟩ := h; rw [cell_mk h]; simp
theorem Cs.c0 {w : World} {g : Nat} {a : Value} {l : List Value} (h : Cs w g (a :: l)) {K : KP} : pLd (· = w) (.pointer (some ⟨g, 0, none⟩)) K = K a := by
  rw [eLdW, h.c]; simp
theorem Cs.c1 {w : World} {g : Nat} {a b : Value} {l : List Value} (h : Cs w g (a :: b :: l)) {K : KP} : pLd (· = w) (.pointer (some ⟨g, 1, none⟩)) K = K b := by
  rw [eLdW, h.c]; simp
theorem Cs.c2 {w : World} {g : Nat} {a b c : Value} {l : List Value} (h : Cs w g (a :: b :: c :: l)) {K : KP} : pLd (· = w) (.pointer (some ⟨g, 2, none⟩)) K = K c := by
  rw [eLdW, h.c]; simp
theorem Cs.e0 {w : World} {g : Nat} {a : Value} {l : List Value} (h : Cs w g (a :: l)) {K : KP} : pLd (Ext w) (.pointer (some ⟨g, 0, none⟩)) K = K a := eLdE (by rw [h.c]; rfl)
theorem Cs.e1 {w : World} {g : Nat} {a b : Value} {l : List Value} (h : Cs w g (a :: b :: l)) {K : KP} : pLd (Ext w) (.pointer (some ⟨g, 1, none⟩)) K = K b := eLdE (by rw [h.c]; rfl)
theorem Cs.e2 {w : World} {g : Nat} {a b c : Value} {l : List Value} (h : Cs w g (a :: b :: c :: l)) {K : KP} : pLd (Ext w) (.pointer (some ⟨g, 2, none⟩)) K = K c := eLdE (by rw [h.c]; rfl)
theorem Cs.ld {w : World} {g n : Nat} {l : List Value} (h : Cs w g l) (hn : l.length = n) {K : KP} : pLdN (· = w) n (.pointer (some ⟨g, 0, none⟩)) K = K (.agg ⟨l⟩) := by
  obtain ⟨T, h⟩ := h; exact eLdNW h (by simpa using hn)
theorem Cs.ldE {w : World} {g n : Nat} {l : List Value} (h : Cs w g l) (hn : l.length = n) {K : KP} : pLdN (Ext w) n (.pointer (some ⟨g, 0, none⟩)) K = K (.agg ⟨l⟩) := by
  obtain ⟨T, h⟩ := h
  apply propext; constructor
  · rintro ⟨a', xs, h1, h2, h3, k⟩
    exact (eLdNW h (by simpa using hn)).mp ⟨a', xs, h1, h2, fun w' e => h3 w' (by rw [e]; exact Fr.refl _ _), k⟩
  · exact fun k => eLdNE h (by simpa using hn) k
theorem Cs.ld2 {w : World} {g : Nat} {a b : Value} (h : Cs w g [a, b]) {K : KP} : pLdN (· = w) 2 (.pointer (some ⟨g, 0, none⟩)) K = K (.agg #[a, b]) := h.ld rfl
theorem Cs.ld3 {w : World} {g : Nat} {a b c : Value} (h : Cs w g [a, b, c]) {K : KP} : pLdN (· = w) 3 (.pointer (some ⟨g, 0, none⟩)) K = K (.agg #[a, b, c]) := h.ld rfl
theorem Cs.ld4 {w : World} {g : Nat} {a b c d : Value} (h : Cs w g [a, b, c, d]) {K : KP} : pLdN (· = w) 4 (.pointer (some ⟨g, 0, none⟩)) K = K (.agg #[a, b, c, d]) := h.ld rfl
theorem Cs.le2 {w : World} {g : Nat} {a b : Value} (h : Cs w g [a, b]) {K : KP} : pLdN (Ext w) 2 (.pointer (some ⟨g, 0, none⟩)) K = K (.agg #[a, b]) := h.ldE rfl
theorem Cs.le3 {w : World} {g : Nat} {a b c : Value} (h : Cs w g [a, b, c]) {K : KP} : pLdN (Ext w) 3 (.pointer (some ⟨g, 0, none⟩)) K = K (.agg #[a, b, c]) := h.ldE rfl
theorem Cs.le4 {w : World} {g : Nat} {a b c d : Value} (h : Cs w g [a, b, c, d]) {K : KP} : pLdN (Ext w) 4 (.pointer (some ⟨g, 0, none⟩)) K = K (.agg #[a, b, c, d]) := h.ldE rfl
theorem boxC {T : TypeId} {cs : List Value} {w : World} {K : KV} (h : ∀ g w', w.heap.size = g → Ext w w' → Cs w' g cs → K (.pointer (some ⟨g, 0, none⟩)) w') : pBox T (.agg ⟨cs⟩) w K :=
  boxA fun g w' h1 h2 h3 => h g w' h1 h2 ⟨_, h3⟩
theorem boxV {T : TypeId} {v : Value} {w : World} {K : KV} (hv : one v = true) (h : ∀ g w', w.heap.size = g → Ext w w' → Cs w' g [v] → K (.pointer (some ⟨g, 0, none⟩)) w') : pBox T v w K :=
  box_ fun g w' h1 h2 h3 => h g w' h1 h2 ⟨_, by rw [h3, one_cells hv]⟩
/-- One value, put into a fresh row. -/
theorem bslice1 {E : Nat} {z v : Value} {w : World} {K : KV} (hv : one v = true) (h : ∀ g w', w.heap.size = g → Ext w w' → Cs w' g [v] → K (.slice (some ⟨g, 0, none⟩) 1 1) w') : pBSlice E 1 (rowOf [z] 1) [(0, 1, v)] w K := by
  refine ⟨[v], ?_, h _ _ rfl (Ext.alloc w _) ⟨_, alloc_new w _⟩⟩
  simp [rowOf, fillL, one_cells hv, cutIn]
/-- append(s, x) -/
theorem Own.push1 {t : Ty} {D : Nat → Prop} {B E bytes : Nat} {z : Value} {w : World} {K : KV} {v y : Value} {xs : List t.D} {x : t.D} {r : Nat}
    (h : Own t D B w v xs) (hr : Cs w r [y]) (hy : Rd t D w [y] x) (hB : B ≤ w.heap.size) (hD : ¬ D w.heap.size) (ht : t.n = 1) (hb : (2 * (xs.length + 1) + 192) * bytes ≤ 2 ^ 48)
    (k : ∀ v' w', Own t D B w' v' (xs ++ [x]) → Fr (fun b => Blk v b ∧ B ≤ b) w w' → (∀ b, Blk v' b → Blk v b ∨ (w.heap.size ≤ b ∧ b < w'.heap.size)) → K v' w') : pApp E 1 bytes [z] v (.slice (some ⟨r, 0, none⟩) 1 1) w K := by
  obtain ⟨T, hr⟩ := hr
  exact h.push hB hD ht.symm (by rw [ht]; rfl) hr hy hb k
theorem Cs.bslice {E len : Nat} {zero : List Value} {parts : List (Nat × Nat × Value)} {cs : List Value} {w : World} {K : KV} (hc : fillL zero parts = some cs) (h : ∀ g w', w.heap.size = g → Ext w w' → Cs w' g cs → K (.slice (some ⟨g, 0, none⟩) len len) w') : pBSlice E len zero parts w K :=
  ⟨cs, hc, h _ _ rfl (Ext.alloc w _) ⟨_, alloc_new w _⟩⟩
theorem Cs.set {w : World} {g i : Nat} {l : List Value} {v : Value} {K : KV} (h : Cs w g l) (hi : i < l.length) (hv : one v = true) (k : ∀ w', Cs w' g (l.set i v) → Fr (· = g) w w' → K undef w') : pSt (.pointer (some ⟨g, i, none⟩)) v w K := by
  have hc := h.c i
  rw [List.getElem?_eq_getElem hi] at hc
  obtain ⟨T, h⟩ := h
  refine ⟨_, _, rfl, hc, by simp [World.frozen?, h], hv, k _ ⟨T, ?_⟩ (Fr.setCell w ⟨g, i, none⟩ v)⟩
  rw [heap_setCell, if_pos rfl, h]; simp
theorem Cs.setN {w : World} {g n : Nat} {l l' : List Value} {K : KV} (h : Cs w g l) (hl : l'.length = l.length) (hn : l'.length = n) (hv : ∀ v ∈ l', one v = true) (k : ∀ w', Cs w' g l' → Fr (· = g) w w' → K undef w') : pStN n (.pointer (some ⟨g, 0, none⟩)) (.agg ⟨l'⟩) w K := by
  have hc := h.c
  obtain ⟨T, h⟩ := h
  refine ⟨_, l', rfl, rfl, hn, fun j v hj => ?_, k _ ?_ (Fr.setCells ⟨g, 0, none⟩ l' 0 w)⟩
  · have hjl := (List.getElem?_eq_some_iff.1 hj).1
    rw [add_mk, Nat.zero_add]
    exact ⟨⟨_, by rw [hc]; exact List.getElem?_eq_getElem (by omega)⟩, by simp [World.frozen?, h], hv v (List.mem_of_getElem? hj)⟩
  · obtain ⟨cs', g1, g2⟩ := setCells_heap (g := g) (o := 0) l' 0 w ⟨l⟩ [] l h rfl rfl (by omega)
    refine ⟨T, ?_⟩
    rw [g1]
    have : cs' = ⟨l'⟩ := by
      apply Array.ext'
      rw [g2, hl, List.drop_length]; simp
    rw [this]
/-- The whole number of a value. -/
def iv : Value → Int
  | .int _ n => n
  | _ => 0
end Go.G
