/-
  Slices that a call owns, and what append does to them.
  Small helps: boxes of three whole numbers, regions whose order is open.
  Slices whose elements are one cell each: what is read, what is written.
  Maps: their entries as a list, and what the operations make of it.
  Maps whose keys are structs of plain fields: what the operations make of them.
  Parts of slices, new slices of zeros, texts of bytes.
-/
import Derived.Test.YtkpgmaiklfjjgaaMaag
import Derived.MapKept
import Derived.DeepKeys3
import Derived.Laws.Strings
section
set_option linter.unusedSimpArgs false
set_option linter.unusedVariables false
namespace Go.G
open Go
theorem Ty.n_pos : ∀ t : Ty, 0 < t.n
  | .int _ | .byte | .bool | .str | .raw | .slice _ => Nat.one_pos
  | .pair a b => Nat.lt_of_lt_of_le a.n_pos (Nat.le_add_right _ _)
/-- The block of a slice. -/
def Blk (v : Value) (b : Nat) : Prop := ∃ a n c, v = .slice (some a) n c ∧ a.block = b
/-- A slice that a call owns: none, or one in a block at or behind B, its elements' own data elsewhere, in D. -/
def Own (t : Ty) (D : Nat → Prop) (B : Nat) (w : World) (v : Value) (xs : List t.D) : Prop :=
  (xs = [] ∧ ∃ a, v = .slice a 0 0) ∨
  ∃ g c cs T fz old rest, v = .slice (some ⟨g, 0, none⟩) xs.length c ∧ B ≤ g ∧ ¬ D g ∧ w.heap[g]? = some (.cells cs T fz) ∧ (∀ o, o < cs.size → fz.1 ≤ o → o < fz.2 → False) ∧
    cs.toList = old ++ rest ∧ cs.size = c * t.n ∧ RdL t D w old xs
theorem Own.nil {t : Ty} {D : Nat → Prop} {B : Nat} {w : World} : Own t D B w (.slice none 0 0) [] := .inl ⟨rfl, none, rfl⟩
theorem Own.form {t : Ty} {D : Nat → Prop} {B : Nat} {w : World} {v : Value} {xs : List t.D} (h : Own t D B w v xs) : ∃ a c, v = .slice a xs.length c ∧ xs.length ≤ c := by
  rcases h with ⟨rfl, a, rfl⟩ | ⟨g, c, cs, T, fz, old, rest, rfl, _, _, _, _, h1, h2, h3⟩
  · exact ⟨a, 0, rfl, Nat.le_refl _⟩
  · refine ⟨_, c, rfl, ?_⟩
    have e := congrArg List.length h1
    rw [List.length_append, h3.len, Array.length_toList, h2] at e
    have := t.n_pos
    exact Nat.le_of_mul_le_mul_right (by omega : xs.length * t.n ≤ c * t.n) this
theorem Own.fr {t : Ty} {D T : Nat → Prop} {B : Nat} {w w' : World} {v : Value} {xs : List t.D} (h : Own t D B w v xs) (hf : Fr T w w') (hD : ∀ b, D b → ¬ T b) (hv : ∀ b, Blk v b → B ≤ b → ¬ T b) : Own t D B w' v xs := by
  rcases h with ⟨rfl, a, rfl⟩ | ⟨g, c, cs, T', fz, old, rest, rfl, h1, h2, h3, h3', h4, h5, h6⟩
  · exact .inl ⟨rfl, a, rfl⟩
  · exact .inr ⟨g, c, cs, T', fz, old, rest, rfl, h1, h2, hf.heap h3 (hv _ ⟨_, _, _, rfl, rfl⟩ h1), h3', h4, h5, h6.imp (fun _ h => h) (fun b hb hlt => hf.keep b hlt (hD b hb))⟩
theorem Own.ext {t : Ty} {D : Nat → Prop} {B : Nat} {w w' : World} {v : Value} {xs : List t.D} (h : Own t D B w v xs) (hf : Ext w w') : Own t D B w' v xs := h.fr hf (fun _ _ h => h) (fun _ _ _ h => h)
theorem Own.wide {t : Ty} {D D' : Nat → Prop} {B : Nat} {w : World} {v : Value} {xs : List t.D} (h : Own t D B w v xs) (hD : ∀ b, D b → D' b) (hv : ∀ b, Blk v b → B ≤ b → ¬ D' b) : Own t D' B w v xs := by
  rcases h with ⟨rfl, a, rfl⟩ | ⟨g, c, cs, T', fz, old, rest, rfl, h1, h2, h3, h3', h4, h5, h6⟩
  · exact .inl ⟨rfl, a, rfl⟩
  · exact .inr ⟨g, c, cs, T', fz, old, rest, rfl, h1, hv _ ⟨_, _, _, rfl, rfl⟩ h1, h3, h3', h4, h5, h6.imp hD (fun _ _ _ => rfl)⟩
theorem Own.low {t : Ty} {D : Nat → Prop} {B B' : Nat} {w : World} {v : Value} {xs : List t.D} (h : Own t D B w v xs) (hB : B' ≤ B) : Own t D B' w v xs := by
  rcases h with ⟨rfl, a, rfl⟩ | ⟨g, c, cs, T', fz, old, rest, rfl, h1, h⟩
  · exact .inl ⟨rfl, a, rfl⟩
  · exact .inr ⟨g, c, cs, T', fz, old, rest, rfl, Nat.le_trans hB h1, h⟩
/-- Rows of cells at an address read as a slice. -/
theorem Rd.of_rows {t : Ty} {D D' : Nat → Prop} {w : World} {xs : List t.D} {cs : List Value} {a : Option Addr} {c : Nat} (h : RdL t D w cs xs) (hD : ∀ b, D b → D' b) (hc : xs.length ≤ c) (hl : xs.length < 9223372036854775808)
    (hr : ∀ i u, cs[i]? = some u → ∃ ad : Addr, a = some ad ∧ ad.spot = none ∧ D' ad.block ∧ w.cell? (ad.add i) = some u) : Rd (.slice t) D' w [.slice a xs.length c] xs := by
  refine ⟨a, c, rfl, hc, hl, fun hne => ?_⟩
  have hlen := h.len
  have hpos : 0 < xs.length := List.length_pos_iff.2 hne
  obtain ⟨u0, hu0⟩ : ∃ u, cs[0]? = some u := by
    have : 0 < cs.length := by rw [hlen]; exact Nat.mul_pos hpos t.n_pos
    exact ⟨cs[0], List.getElem?_eq_getElem this⟩
  obtain ⟨ad, rfl, e2, e3, _⟩ := hr 0 u0 hu0
  refine ⟨ad, rfl, e2, e3, fun i hi => ?_⟩
  obtain ⟨r, g1, g2, g3⟩ := h.get i hi
  refine ⟨r, g1, fun j v hj => ?_, g2.wide hD⟩
  obtain ⟨ad', f1, _, _, f4⟩ := hr _ v (g3 j v hj)
  cases f1
  exact f4
theorem Own.rd {t : Ty} {D D' : Nat → Prop} {B : Nat} {w : World} {v : Value} {xs : List t.D} (h : Own t D B w v xs) (hD : ∀ b, D b → D' b) (hB : ∀ b, B ≤ b → D' b) (hl : xs.length < 9223372036854775808) : Rd (.slice t) D' w [v] xs := by
  have hf := h.form
  rcases h with ⟨rfl, a, rfl⟩ | ⟨g, c, cs, T, fz, old, rest, rfl, h1, h2, h3, h3', h4, h5, h6⟩
  · exact ⟨a, 0, rfl, Nat.le_refl _, hl, fun h => absurd rfl h⟩
  · obtain ⟨_, c', e, hc⟩ := hf
    simp at e
    refine Rd.of_rows h6 hD (by omega) hl fun i u hi => ⟨_, rfl, rfl, hB g h1, ?_⟩
    rw [add_mk, Nat.zero_add, cell_mk h3, ← Array.getElem?_toList, h4, List.getElem?_append_left (List.getElem?_eq_some_iff.1 hi).1]
    exact hi
theorem setCells_heap {g o : Nat} {T : TypeId} {fz : Nat × Nat} : ∀ (xs : List Value) (i : Nat) (w : World) (cs : Array Value) (pre post : List Value), w.heap[g]? = some (.cells cs T fz) → cs.toList = pre ++ post → pre.length = o + i → xs.length ≤ post.length →
    ∃ cs', (setCells w ⟨g, o, none⟩ i xs).heap[g]? = some (.cells cs' T fz) ∧ cs'.toList = pre ++ xs ++ post.drop xs.length
  | [], i, w, cs, pre, post, h1, h2, _, _ => ⟨cs, h1, by simpa using h2⟩
  | v :: r, i, w, cs, pre, [], _, _, _, h4 => by simp at h4
  | v :: r, i, w, cs, pre, p :: post, h1, h2, h3, h4 => by
    have hh : (w.setCell ((⟨g, o, none⟩ : Addr).add i) v).heap[g]? = some (.cells (cs.setIfInBounds (o + i) v) T fz) := by
      rw [heap_setCell, add_mk, if_pos rfl, h1]; simp
    have hl : (cs.setIfInBounds (o + i) v).toList = (pre ++ [v]) ++ post := by
      rw [Array.toList_setIfInBounds, h2, ← h3, List.set_append_right _ _ (Nat.le_refl _)]; simp
    have hp : (pre ++ [v]).length = o + (i + 1) := by rw [List.length_append, h3]; rfl
    obtain ⟨cs', g1, g2⟩ := setCells_heap r (i + 1) _ _ (pre ++ [v]) post hh hl hp (by simpa using h4)
    exact ⟨cs', g1, by rw [g2]; simp⟩
theorem growBy_le (n : Nat) : ∀ r c m, c ≤ m → n + (n + 768) / 4 ≤ m → Builtin.growBy n r c ≤ m
  | 0, c, m, h, _ => h
  | r + 1, c, m, h, h' => by
    unfold Builtin.growBy
    split
    · exact h
    · rename_i hc
      exact growBy_le n r _ m (by omega) h'
theorem nextslicecap_le {n c : Nat} (h : c < n) : Builtin.nextslicecap n c ≤ 2 * n + 192 := by
  unfold Builtin.nextslicecap
  split
  · omega
  · split
    · omega
    · exact growBy_le n 4 c _ (by omega) (by omega)
/-- append: what is owned stays owned, and is longer. -/
theorem Own.app {t : Ty} {D : Nat → Prop} {B E size bytes : Nat} {zero : List Value} {w : World} {K : KV} {v x : Value} {xs ys : List t.D} {ds : List Value}
    (h : Own t D B w v xs) (hB : B ≤ w.heap.size) (hD : ¬ D w.heap.size) (hs : size = t.n) (hz : zero.length = t.n)
    (hx : lenV x = ys.length) (hr : reads w size ys.length x ds) (hy : RdL t D w ds ys) (hb : (2 * (xs.length + ys.length) + 192) * bytes ≤ 2 ^ 48)
    (k : ∀ v' w', Own t D B w' v' (xs ++ ys) → Fr (fun b => Blk v b ∧ B ≤ b) w w' → (∀ b, Blk v' b → Blk v b ∨ (w.heap.size ≤ b ∧ b < w'.heap.size)) → K v' w') : pApp E size bytes zero v x w K := by
  subst hs
  have grown : ∀ (n c : Nat) (a : Option Addr) (old : List Value), v = .slice a n c → n = xs.length → RdL t D w old xs → reads w t.n n v old → c < n + lenV x →
      Builtin.nextslicecap (n + lenV x) c * bytes ≤ 2 ^ 48 ∧
      ∃ old, reads w t.n n v old ∧ ∀ cap, n + lenV x ≤ cap → cap < 2 ^ 63 →
        K (.slice (some ⟨w.heap.size, 0, none⟩) (n + lenV x) cap) (w.drew.alloc (.cells (old ++ ds ++ rowOf zero (cap - (n + lenV x))).toArray E)) := by
    intro n c a old hv hn ho hold hlt
    refine ⟨Nat.le_trans (Nat.mul_le_mul_right _ (nextslicecap_le hlt)) (by rw [hx, hn]; exact hb), old, hold, fun cap hcap _ => ?_⟩
    have hE : Ext w (w.drew.alloc (.cells (old ++ ds ++ rowOf zero (cap - (n + lenV x))).toArray E)) := (Ext.drew w).tr (Ext.alloc _ _)
    have hsz : (w.drew.alloc (.cells (old ++ ds ++ rowOf zero (cap - (n + lenV x))).toArray E)).heap.size = w.heap.size + 1 := by rw [size_alloc, heap_drew]
    refine k _ _ (.inr ⟨w.heap.size, cap, _, E, (0, 0), old ++ ds, rowOf zero (cap - (n + lenV x)), ?_, hB, hD, alloc_new w.drew _, ?_, rfl, ?_, ?_⟩) (hE.mono (fun _ _ h => h.elim)) ?_
    · rw [hx, hn, List.length_append]
    · intro o _ _ h; simp at h
    · have hrow : ∀ m, (rowOf zero m).length = m * t.n := fun m => by
        induction m with
        | zero => simp [rowOf]
        | succ m ih => simp only [rowOf, List.replicate_succ, List.flatten_cons, List.length_append, hz] at ih ⊢; rw [ih, Nat.succ_mul]; omega
      simp only [List.size_toArray, List.length_append, ho.len, hy.len, hrow, hx, hn]
      rw [← Nat.add_mul, ← Nat.add_mul]; congr 1; rw [hx, hn] at hcap; omega
    · exact RdL.append (hy.imp (fun _ h => h) (fun b _ hlt => hE.keep b hlt (fun h => h))) (ho.imp (fun _ h => h) (fun b _ hlt => hE.keep b hlt (fun h => h)))
    · rintro b ⟨a', n', c', e, rfl⟩
      simp at e
      rw [← e.1]
      exact .inr ⟨Nat.le_refl _, by rw [hsz]; exact Nat.lt_succ_self _⟩
  rcases h with ⟨rfl, a, rfl⟩ | ⟨g, c, cs, T, fz, old, rest, rfl, h1, h2, h3, h3', h4, h5, h6⟩
  · refine ⟨a, 0, 0, ds, rfl, by rw [hx]; exact hr, fun hle => ?_, fun hlt => grown 0 0 a [] rfl rfl rfl ⟨by simp, fun i v hi => by simp at hi⟩ hlt⟩
    have hy0 : ys = [] := by rw [hx] at hle; exact List.length_eq_zero_iff.1 (by omega)
    subst hy0
    have hd0 : ds = [] := hy
    subst hd0
    have hkk : K (.slice a (0 + lenV x) 0) w := by
      rw [hx]
      exact k _ _ (.inl ⟨rfl, a, rfl⟩) (Fr.refl _ _) (fun b h => .inl h)
    cases a with
    | none => exact hkk
    | some ad => exact ⟨fun j v hj => by simp at hj, hkk⟩
  · have e := congrArg List.length h4
    rw [List.length_append, h6.len, Array.length_toList, h5] at e
    have hrd : ∀ i u, old[i]? = some u → w.cell? ((⟨g, 0, none⟩ : Addr).add i) = some u := fun i u hi => by
      rw [add_mk, Nat.zero_add, cell_mk h3, ← Array.getElem?_toList, h4, List.getElem?_append_left (List.getElem?_eq_some_iff.1 hi).1]; exact hi
    refine ⟨some ⟨g, 0, none⟩, xs.length, c, ds, rfl, by rw [hx]; exact hr, fun hle => ?_, fun hlt => grown _ _ _ old rfl rfl h6 ⟨h6.len, fun i u hi => ⟨_, rfl, hrd i u hi⟩⟩ hlt⟩
    rw [hx] at hle ⊢
    have hmul : (xs.length + ys.length) * t.n ≤ c * t.n := Nat.mul_le_mul_right _ hle
    rw [Nat.add_mul] at hmul
    have hdl := hy.len
    have hol := h6.len
    have hnf : ∀ o, o < cs.size → w.frozen? ⟨g, o, none⟩ = false := fun o ho => by
      simp only [World.frozen?, h3]
      rw [Bool.and_eq_false_iff]
      by_cases hf : fz.1 ≤ o
      · exact .inr (by simpa using fun hh => h3' o ho hf hh)
      · exact .inl (by simpa using hf)
    refine ⟨fun j u hj => ?_, ?_⟩
    · have hjl := (List.getElem?_eq_some_iff.1 hj).1
      have hlt : xs.length * t.n + j < cs.size := by rw [h5]; omega
      rw [add_add _ _ _ rfl, add_mk, Nat.zero_add]
      exact ⟨⟨_, by rw [cell_mk h3]; exact Array.getElem?_eq_getElem hlt⟩, hnf _ hlt, hy.allOne u (List.mem_of_getElem? hj)⟩
    · rw [add_mk, Nat.zero_add]
      obtain ⟨cs', g1, g2⟩ := setCells_heap (g := g) (o := xs.length * t.n) ds 0 w cs old rest h3 h4 (by omega) (by omega)
      have hF := Fr.setCells ⟨g, xs.length * t.n, none⟩ ds 0 w
      refine k _ _ (.inr ⟨g, c, cs', T, fz, old ++ ds, rest.drop ds.length, by rw [List.length_append], h1, h2, g1, ?_, g2, ?_, ?_⟩) (hF.mono fun b _ e => ?_) (fun b h => ?_)
      · have hcs : cs'.size = cs.size := by
          have e1 := congrArg List.length g2
          have e2 := congrArg List.length h4
          simp at e1 e2
          omega
        rw [hcs]; exact h3'
      · have e1 := congrArg List.length g2
        simp at e1
        omega
      · exact RdL.append (hy.imp (fun _ h => h) (fun b hb hlt => hF.keep b hlt (fun e => h2 (by rw [← show b = g from e]; exact hb)))) (h6.imp (fun _ h => h) (fun b hb hlt => hF.keep b hlt (fun e => h2 (by rw [← show b = g from e]; exact hb))))
      · exact ⟨⟨_, _, _, rfl, e.symm⟩, by rw [show b = g from e]; exact h1⟩
      · obtain ⟨a', n', c', e1, e2⟩ := h
        simp at e1
        exact .inl ⟨_, _, _, rfl, by rw [e1.1]; exact e2⟩
/-- append of one element that was put into a fresh row. -/
theorem reads_slice {w : World} {a : Option Addr} {n c size : Nat} {ds : List Value} (hl : ds.length = n * size) (h : ∀ i u, ds[i]? = some u → ∃ ad, a = some ad ∧ w.cell? (ad.add i) = some u) : reads w size n (.slice a n c) ds := ⟨hl, h⟩
theorem Own.push {t : Ty} {D : Nat → Prop} {B E size bytes : Nat} {zero : List Value} {w : World} {K : KV} {v : Value} {xs : List t.D} {y : t.D} {r : Nat} {cs : List Value} {T : TypeId} {fz : Nat × Nat} {c : Nat}
    (h : Own t D B w v xs) (hB : B ≤ w.heap.size) (hD : ¬ D w.heap.size) (hs : size = t.n) (hz : zero.length = t.n)
    (hr : w.heap[r]? = some (.cells cs.toArray T fz)) (hy : Rd t D w cs y) (hb : (2 * (xs.length + 1) + 192) * bytes ≤ 2 ^ 48)
    (k : ∀ v' w', Own t D B w' v' (xs ++ [y]) → Fr (fun b => Blk v b ∧ B ≤ b) w w' → (∀ b, Blk v' b → Blk v b ∨ (w.heap.size ≤ b ∧ b < w'.heap.size)) → K v' w') : pApp E size bytes zero v (.slice (some ⟨r, 0, none⟩) 1 c) w K :=
  h.app hB hD hs hz (ys := [y]) (ds := cs) rfl (reads_slice (by rw [hy.len, hs]; simp) fun i u hi => ⟨_, rfl, by rw [add_mk, cell_mk hr]; simpa using hi⟩) (RdL.single hy) hb k
/-- append of what a slice reads as. -/
theorem Own.cat {t : Ty} {D : Nat → Prop} {B E size bytes : Nat} {zero : List Value} {w : World} {K : KV} {v x : Value} {xs ys : List t.D}
    (h : Own t D B w v xs) (hB : B ≤ w.heap.size) (hD : ¬ D w.heap.size) (hs : size = t.n) (hz : zero.length = t.n)
    {D' : Nat → Prop} (hx : Rd (.slice t) D' w [x] ys) (hx' : ∀ cs, RdL t D' w cs ys → RdL t D w cs ys) (hb : (2 * (xs.length + ys.length) + 192) * bytes ≤ 2 ^ 48)
    (k : ∀ v' w', Own t D B w' v' (xs ++ ys) → Fr (fun b => Blk v b ∧ B ≤ b) w w' → (∀ b, Blk v' b → Blk v b ∨ (w.heap.size ≤ b ∧ b < w'.heap.size)) → K v' w') : pApp E size bytes zero v x w K := by
  obtain ⟨a, c, cs, rfl, h1, h2⟩ := Rd.rows hx
  exact h.app hB hD hs hz (ds := cs) rfl (reads_slice (by rw [h1.len, hs]) fun i u hi => by obtain ⟨ad, e1, _, _, e4⟩ := h2 i u hi; exact ⟨ad, e1, e4⟩) (hx' _ h1) hb k
end Go.G
end
section
set_option linter.unusedSimpArgs false
set_option linter.unusedVariables false
namespace Go.G
open Go
theorem draw_ {w : World} {D : (World → Prop) → World → Prop} (h : ∀ w', Ext w w' → D (Ext w') w') : drawn w D := ⟨Ext w.drew, Fr.refl _ _, h _ (Ext.drew w)⟩
theorem boxA {T : TypeId} {cs : Array Value} {w : World} {K : KV} (h : ∀ g w', w.heap.size = g → Ext w w' → w'.heap[g]? = some (.cells cs T) → K (.pointer (some ⟨g, 0, none⟩)) w') : pBox T (.agg cs) w K :=
  h _ _ rfl (Ext.alloc w _) (alloc_new w _)
/-- Cells of a block. -/
def Cs (w : World) (g : Nat) (l : List Value) : Prop := ∃ T, w.heap[g]? = some (.cells ⟨l⟩ T)
theorem Cs.ext {w w' : World} {g : Nat} {l : List Value} (h : Cs w g l) (e : Ext w w') : Cs w' g l := by
  obtain ⟨T, h⟩ := h; exact ⟨T, e.heap h (fun h => h)⟩
theorem Cs.fr {T : Nat → Prop} {w w' : World} {g : Nat} {l : List Value} (h : Cs w g l) (e : Fr T w w') (hT : ¬ T g) : Cs w' g l := by
  obtain ⟨T', h⟩ := h; exact ⟨T', e.heap h hT⟩
theorem Cs.lt {w : World} {g : Nat} {l : List Value} (h : Cs w g l) : g < w.heap.size := by
  obtain ⟨T, h⟩ := h; exact heap_lt h
theorem Cs.c {w : World} {g : Nat} {l : List Value} (h : Cs w g l) (o : Nat) : w.cell? ⟨g, o, none⟩ = l[o]? := by
  obtain ⟨T, h⟩ := h; rw [cell_mk h]; simp
theorem Cs.c0 {w : World} {g : Nat} {a : Value} {l : List Value} (h : Cs w g (a :: l)) {K : KP} : pLd (· = w) (.pointer (some ⟨g, 0, none⟩)) K = K a := by
  rw [eLdW, h.c]; simp
theorem Cs.c1 {w : World} {g : Nat} {a b : Value} {l : List Value} (h : Cs w g (a :: b :: l)) {K : KP} : pLd (· = w) (.pointer (some ⟨g, 1, none⟩)) K = K b := by
  rw [eLdW, h.c]; simp
theorem Cs.c2 {w : World} {g : Nat} {a b c : Value} {l : List Value} (h : Cs w g (a :: b :: c :: l)) {K : KP} : pLd (· = w) (.pointer (some ⟨g, 2, none⟩)) K = K c := by
  rw [eLdW, h.c]; simp
theorem Cs.e0 {w : World} {g : Nat} {a : Value} {l : List Value} (h : Cs w g (a :: l)) {K : KP} : pLd (Ext w) (.pointer (some ⟨g, 0, none⟩)) K = K a := eLdE (by rw [h.c]; rfl)
theorem Cs.e1 {w : World} {g : Nat} {a b : Value} {l : List Value} (h : Cs w g (a :: b :: l)) {K : KP} : pLd (Ext w) (.pointer (some ⟨g, 1, none⟩)) K = K b := eLdE (by rw [h.c]; rfl)
theorem Cs.e2 {w : World} {g : Nat} {a b c : Value} {l : List Value} (h : Cs w g (a :: b :: c :: l)) {K : KP} : pLd (Ext w) (.pointer (some ⟨g, 2, none⟩)) K = K c := eLdE (by rw [h.c]; rfl)
theorem Cs.ld {w : World} {g n : Nat} {l : List Value} (h : Cs w g l) (hn : l.length = n) {K : KP} : pLdN (· = w) n (.pointer (some ⟨g, 0, none⟩)) K = K (.agg ⟨l⟩) := by
  obtain ⟨T, h⟩ := h; exact eLdNW h (by simpa using hn)
theorem Cs.ldE {w : World} {g n : Nat} {l : List Value} (h : Cs w g l) (hn : l.length = n) {K : KP} : pLdN (Ext w) n (.pointer (some ⟨g, 0, none⟩)) K = K (.agg ⟨l⟩) := by
  obtain ⟨T, h⟩ := h
  apply propext; constructor
  · rintro ⟨a', xs, h1, h2, h3, k⟩
    exact (eLdNW h (by simpa using hn)).mp ⟨a', xs, h1, h2, fun w' e => h3 w' (by rw [e]; exact Fr.refl _ _), k⟩
  · exact fun k => eLdNE h (by simpa using hn) k
theorem Cs.ld2 {w : World} {g : Nat} {a b : Value} (h : Cs w g [a, b]) {K : KP} : pLdN (· = w) 2 (.pointer (some ⟨g, 0, none⟩)) K = K (.agg #[a, b]) := h.ld rfl
theorem Cs.ld3 {w : World} {g : Nat} {a b c : Value} (h : Cs w g [a, b, c]) {K : KP} : pLdN (· = w) 3 (.pointer (some ⟨g, 0, none⟩)) K = K (.agg #[a, b, c]) := h.ld rfl
theorem Cs.ld4 {w : World} {g : Nat} {a b c d : Value} (h : Cs w g [a, b, c, d]) {K : KP} : pLdN (· = w) 4 (.pointer (some ⟨g, 0, none⟩)) K = K (.agg #[a, b, c, d]) := h.ld rfl
theorem Cs.le2 {w : World} {g : Nat} {a b : Value} (h : Cs w g [a, b]) {K : KP} : pLdN (Ext w) 2 (.pointer (some ⟨g, 0, none⟩)) K = K (.agg #[a, b]) := h.ldE rfl
theorem Cs.le3 {w : World} {g : Nat} {a b c : Value} (h : Cs w g [a, b, c]) {K : KP} : pLdN (Ext w) 3 (.pointer (some ⟨g, 0, none⟩)) K = K (.agg #[a, b, c]) := h.ldE rfl
theorem Cs.le4 {w : World} {g : Nat} {a b c d : Value} (h : Cs w g [a, b, c, d]) {K : KP} : pLdN (Ext w) 4 (.pointer (some ⟨g, 0, none⟩)) K = K (.agg #[a, b, c, d]) := h.ldE rfl
theorem boxC {T : TypeId} {cs : List Value} {w : World} {K : KV} (h : ∀ g w', w.heap.size = g → Ext w w' → Cs w' g cs → K (.pointer (some ⟨g, 0, none⟩)) w') : pBox T (.agg ⟨cs⟩) w K :=
  boxA fun g w' h1 h2 h3 => h g w' h1 h2 ⟨_, h3⟩
theorem boxV {T : TypeId} {v : Value} {w : World} {K : KV} (hv : one v = true) (h : ∀ g w', w.heap.size = g → Ext w w' → Cs w' g [v] → K (.pointer (some ⟨g, 0, none⟩)) w') : pBox T v w K :=
  box_ fun g w' h1 h2 h3 => h g w' h1 h2 ⟨_, by rw [h3, one_cells hv]⟩
/-- One value, put into a fresh row. -/
theorem bslice1 {E : Nat} {z v : Value} {w : World} {K : KV} (hv : one v = true) (h : ∀ g w', w.heap.size = g → Ext w w' → Cs w' g [v] → K (.slice (some ⟨g, 0, none⟩) 1 1) w') : pBSlice E 1 (rowOf [z] 1) [(0, 1, v)] w K := by
  refine ⟨[v], ?_, h _ _ rfl (Ext.alloc w _) ⟨_, alloc_new w _⟩⟩
  simp [rowOf, fillL, one_cells hv, cutIn]
/-- append(s, x) -/
theorem Own.push1 {t : Ty} {D : Nat → Prop} {B E bytes : Nat} {z : Value} {w : World} {K : KV} {v y : Value} {xs : List t.D} {x : t.D} {r : Nat}
    (h : Own t D B w v xs) (hr : Cs w r [y]) (hy : Rd t D w [y] x) (hB : B ≤ w.heap.size) (hD : ¬ D w.heap.size) (ht : t.n = 1) (hb : (2 * (xs.length + 1) + 192) * bytes ≤ 2 ^ 48)
    (k : ∀ v' w', Own t D B w' v' (xs ++ [x]) → Fr (fun b => Blk v b ∧ B ≤ b) w w' → (∀ b, Blk v' b → Blk v b ∨ (w.heap.size ≤ b ∧ b < w'.heap.size)) → K v' w') : pApp E 1 bytes [z] v (.slice (some ⟨r, 0, none⟩) 1 1) w K := by
  obtain ⟨T, hr⟩ := hr
  exact h.push hB hD ht.symm (by rw [ht]; rfl) hr hy hb k
theorem Cs.bslice {E len : Nat} {zero : List Value} {parts : List (Nat × Nat × Value)} {cs : List Value} {w : World} {K : KV} (hc : fillL zero parts = some cs) (h : ∀ g w', w.heap.size = g → Ext w w' → Cs w' g cs → K (.slice (some ⟨g, 0, none⟩) len len) w') : pBSlice E len zero parts w K :=
  ⟨cs, hc, h _ _ rfl (Ext.alloc w _) ⟨_, alloc_new w _⟩⟩
theorem Cs.set {w : World} {g i : Nat} {l : List Value} {v : Value} {K : KV} (h : Cs w g l) (hi : i < l.length) (hv : one v = true) (k : ∀ w', Cs w' g (l.set i v) → Fr (· = g) w w' → K undef w') : pSt (.pointer (some ⟨g, i, none⟩)) v w K := by
  have hc := h.c i
  rw [List.getElem?_eq_getElem hi] at hc
  obtain ⟨T, h⟩ := h
  refine ⟨_, _, rfl, hc, by simp [World.frozen?, h], hv, k _ ⟨T, ?_⟩ (Fr.setCell w ⟨g, i, none⟩ v)⟩
  rw [heap_setCell, if_pos rfl, h]; simp
theorem Cs.setN {w : World} {g n : Nat} {l l' : List Value} {K : KV} (h : Cs w g l) (hl : l'.length = l.length) (hn : l'.length = n) (hv : ∀ v ∈ l', one v = true) (k : ∀ w', Cs w' g l' → Fr (· = g) w w' → K undef w') : pStN n (.pointer (some ⟨g, 0, none⟩)) (.agg ⟨l'⟩) w K := by
  have hc := h.c
  obtain ⟨T, h⟩ := h
  refine ⟨_, l', rfl, rfl, hn, fun j v hj => ?_, k _ ?_ (Fr.setCells ⟨g, 0, none⟩ l' 0 w)⟩
  · have hjl := (List.getElem?_eq_some_iff.1 hj).1
    rw [add_mk, Nat.zero_add]
    exact ⟨⟨_, by rw [hc]; exact List.getElem?_eq_getElem (by omega)⟩, by simp [World.frozen?, h], hv v (List.mem_of_getElem? hj)⟩
  · obtain ⟨cs', g1, g2⟩ := setCells_heap (g := g) (o := 0) l' 0 w ⟨l⟩ [] l h rfl rfl (by omega)
    refine ⟨T, ?_⟩
    rw [g1]
    have : cs' = ⟨l'⟩ := by
      apply Array.ext'
      rw [g2, hl, List.drop_length]; simp
    rw [this]
/-- The whole number of a value. -/
def iv : Value → Int
  | .int _ n => n
  | _ => 0
end Go.G
end
section
set_option linter.unusedSimpArgs false
set_option linter.unusedVariables false
namespace Go.G
open Go
theorem anew_ {w : World} {D : (World → Prop) → World → Prop} (h : D (Ext w) w) : anew w D := ⟨Ext w, Fr.refl _ _, h⟩
theorem eAnew {w : World} {P : World → Prop} : (anew w fun _ w => P w) = P w := by
  apply propext; constructor
  · rintro ⟨_, _, h⟩; exact h
  · exact fun h => ⟨fun _ => True, trivial, h⟩
theorem RdL.get1 {t : Ty} {D : Nat → Prop} {w : World} {xs : List t.D} {cs : List Value} (h : RdL t D w cs xs) (ht : t.n = 1) {i : Nat} (hi : i < xs.length) : ∃ u, cs[i]? = some u ∧ Rd t D w [u] xs[i] := by
  obtain ⟨a, h1, h2, h3⟩ := h.get i hi
  match a, h1.trans ht with
  | [u], _ => exact ⟨u, by have := h3 0 u rfl; rwa [ht, Nat.mul_one, Nat.add_zero] at this, h2⟩
theorem RdL.set1 {t : Ty} {D : Nat → Prop} {w : World} (ht : t.n = 1) {u : Value} {y : t.D} (hy : Rd t D w [u] y) : ∀ {xs : List t.D} {cs : List Value} (i : Nat), RdL t D w cs xs → RdL t D w (cs.set i u) (xs.set i y)
  | [], _, i, h => by rw [show _ = _ from h]; rfl
  | x :: xs, _, 0, h => by
    obtain ⟨a, b, rfl, h1, h2⟩ := h
    have := h1.len
    match a, this.trans ht with
    | [v], _ => exact ⟨[u], b, rfl, hy, h2⟩
  | x :: xs, _, i + 1, h => by
    obtain ⟨a, b, rfl, h1, h2⟩ := h
    have := h1.len
    match a, this.trans ht with
    | [v], _ => exact ⟨[v], b.set i u, rfl, h1, RdL.set1 ht hy i h2⟩
theorem Own.some_of {t : Ty} {D : Nat → Prop} {B : Nat} {w : World} {v : Value} {xs : List t.D} (h : Own t D B w v xs) (hne : 0 < xs.length) : ∃ g c, v = .slice (some ⟨g, 0, none⟩) xs.length c ∧ B ≤ g ∧ g < w.heap.size := by
  rcases h with ⟨rfl, a, rfl⟩ | ⟨g, c, cs, T, fz, old, rest, rfl, h1, h2, h3, h⟩
  · simp at hne
  · exact ⟨g, c, rfl, h1, heap_lt h3⟩
theorem Own.cell1 {t : Ty} {D : Nat → Prop} {B g n c : Nat} {w : World} {xs : List t.D} (h : Own t D B w (.slice (some ⟨g, 0, none⟩) n c) xs) (ht : t.n = 1) {i : Nat} (hi : i < xs.length) :
    ∃ u, w.cell? ⟨g, i, none⟩ = some u ∧ Rd t D w [u] xs[i] := by
  rcases h with ⟨rfl, a, e⟩ | ⟨g', c, cs, T, fz, old, rest, e, h1, h2, h3, h3', h4, h5, h6⟩
  · simp at hi
  · simp at e
    obtain ⟨rfl, -, -⟩ := e
    obtain ⟨u, hu, hr⟩ := h6.get1 ht hi
    refine ⟨u, ?_, hr⟩
    rw [cell_mk h3, ← Array.getElem?_toList, h4, List.getElem?_append_left (List.getElem?_eq_some_iff.1 hu).1]
    exact hu
theorem Own.set1 {t : Ty} {D : Nat → Prop} {B g n c : Nat} {w : World} {xs : List t.D} (h : Own t D B w (.slice (some ⟨g, 0, none⟩) n c) xs) (ht : t.n = 1) {i : Nat} (hi : i < xs.length) {u : Value} {y : t.D} (hy : Rd t D w [u] y) {K : KV}
    (k : ∀ w', Own t D B w' (.slice (some ⟨g, 0, none⟩) n c) (xs.set i y) → Fr (· = g) w w' → K undef w') : pSt (.pointer (some ⟨g, i, none⟩)) u w K := by
  have hc := h.cell1 ht hi
  obtain ⟨old, hold, -⟩ := hc
  rcases h with ⟨rfl, a, e⟩ | ⟨g', c, cs, T, fz, old', rest, e, h1, h2, h3, h3', h4, h5, h6⟩
  · simp at hi
  · simp at e
    obtain ⟨rfl, rfl, rfl⟩ := e
    have hil : i < old'.length := by rw [h6.len, ht]; omega
    have hcs : i < cs.size := by
      have e1 := congrArg List.length h4
      simp at e1
      omega
    refine ⟨_, old, rfl, hold, ?_, ?_, k _ (.inr ⟨g, c, cs.setIfInBounds i u, T, fz, old'.set i u, rest, by simp, h1, h2, ?_, by simpa using h3', ?_, by simpa using h5, ?_⟩) (Fr.setCell w ⟨g, i, none⟩ u)⟩
    · simp only [World.frozen?, h3]
      rw [Bool.and_eq_false_iff]
      by_cases hf : fz.1 ≤ i
      · exact .inr (by simpa using fun hh => h3' i hcs hf hh)
      · exact .inl (by simpa using hf)
    · exact hy.allOne u (by simp)
    · rw [heap_setCell, if_pos rfl, h3]; simp
    · rw [Array.toList_setIfInBounds, h4, List.set_append_left _ _ hil]
    · refine (RdL.set1 ht hy i h6).imp (fun _ h => h) (fun b hb hlt => (Fr.setCell w ⟨g, i, none⟩ u).keep b hlt fun e => h2 ?_)
      rw [← show b = g from e]; exact hb
theorem Rd.idx {t : Ty} {D : Nat → Prop} {w : World} {v : Value} {xs : List t.D} (h : Rd (.slice t) D w [v] xs) (ht : t.n = 1) {i : Nat} (hi : i < xs.length) :
    ∃ a c u, v = .slice (some a) xs.length c ∧ a.spot = none ∧ D a.block ∧ w.cell? (a.add i) = some u ∧ Rd t D w [u] xs[i] := by
  obtain ⟨a, c, cs, rfl, h1, h2⟩ := Rd.rows h
  obtain ⟨u, hu, hr⟩ := h1.get1 ht hi
  obtain ⟨ad, rfl, e2, e3, e4⟩ := h2 i u hu
  exact ⟨ad, c, u, rfl, e2, e3, e4, hr⟩
theorem Rd.idxN {t : Ty} {D : Nat → Prop} {w : World} {v : Value} {xs : List t.D} (h : Rd (.slice t) D w [v] xs) {i : Nat} (hi : i < xs.length) :
    ∃ a c us, v = .slice (some a) xs.length c ∧ a.spot = none ∧ D a.block ∧ us.length = t.n ∧ (∀ j u, us[j]? = some u → w.cell? (a.add (i * t.n + j)) = some u) ∧ Rd t D w us xs[i] := by
  obtain ⟨a, c, cs, rfl, h1, h2⟩ := Rd.rows h
  obtain ⟨us, e1, e2, e3⟩ := h1.get i hi
  have hp := t.n_pos
  obtain ⟨ad, rfl, f2, f3, f4⟩ := h2 _ (us[0]'(by omega)) (e3 0 _ (List.getElem?_eq_getElem _))
  refine ⟨ad, c, us, rfl, f2, f3, e1, fun j u hj => ?_, e2⟩
  obtain ⟨ad', g1, _, _, g4⟩ := h2 _ u (e3 j u hj)
  cases g1
  exact g4
/-- What lies in its cells alone. -/
def Ty.flat : Ty → Bool
  | .slice _ => false
  | .pair a b => a.flat && b.flat
  | _ => true
theorem Rd.flat : ∀ {t : Ty} {D D' : Nat → Prop} {w w' : World} {vs : List Value} {x : t.D}, t.flat = true → Rd t D w vs x → Rd t D' w' vs x
  | .int _, _, _, _, _, _, _, _, h => h
  | .byte, _, _, _, _, _, _, _, h => h
  | .bool, _, _, _, _, _, _, _, h => h
  | .str, _, _, _, _, _, _, _, h => h
  | .raw, _, _, _, _, _, _, _, h => h
  | .slice _, _, _, _, _, _, _, hf, _ => by cases hf
  | .pair a b, _, _, _, _, _, _, hf, h => by
    obtain ⟨va, vb, h1, h2, h3, h4, h5⟩ := h
    simp only [Ty.flat, Bool.and_eq_true] at hf
    exact ⟨va, vb, h1, h2, h3, h4.flat hf.1, h5.flat hf.2⟩
theorem RdL.flat {t : Ty} {D D' : Nat → Prop} {w w' : World} (ht : t.flat = true) : ∀ {xs : List t.D} {cs : List Value}, RdL t D w cs xs → RdL t D' w' cs xs
  | [], _, h => h
  | x :: xs, _, h => by
    obtain ⟨a, b, h1, h2, h3⟩ := h
    exact ⟨a, b, h1, h2.flat ht, RdL.flat ht h3⟩
theorem Own.wide2 {t : Ty} {D D' : Nat → Prop} {B : Nat} {w : World} {v : Value} {xs : List t.D} (h : Own t D B w v xs) (hD : ∀ b, D b → D' b) (hv : ∀ b, Blk v b → B ≤ b → ¬ D b → ¬ D' b) : Own t D' B w v xs := by
  rcases h with ⟨rfl, a, rfl⟩ | ⟨g, c, cs, T', fz, old, rest, rfl, h1, h2, h3, h3', h4, h5, h6⟩
  · exact .inl ⟨rfl, a, rfl⟩
  · exact .inr ⟨g, c, cs, T', fz, old, rest, rfl, h1, hv _ ⟨_, _, _, rfl, rfl⟩ h1 h2, h3, h3', h4, h5, h6.imp hD (fun _ _ _ => rfl)⟩
theorem Own.rd2 {t : Ty} {D D' : Nat → Prop} {B : Nat} {w : World} {v : Value} {xs : List t.D} (h : Own t D B w v xs) (hD : ∀ b, D b → D' b) (hB : ∀ b, Blk v b → B ≤ b → b < w.heap.size → D' b) (hl : xs.length < 9223372036854775808) : Rd (.slice t) D' w [v] xs := by
  have hf := h.form
  rcases h with ⟨rfl, a, rfl⟩ | ⟨g, c, cs, T, fz, old, rest, rfl, h1, h2, h3, h3', h4, h5, h6⟩
  · exact ⟨a, 0, rfl, Nat.le_refl _, hl, fun h => absurd rfl h⟩
  · obtain ⟨_, c', e, hc⟩ := hf
    simp at e
    refine Rd.of_rows h6 hD (by omega) hl fun i u hi => ⟨_, rfl, rfl, hB g ⟨_, _, _, rfl, rfl⟩ h1 (heap_lt h3), ?_⟩
    rw [add_mk, Nat.zero_add, cell_mk h3, ← Array.getElem?_toList, h4, List.getElem?_append_left (List.getElem?_eq_some_iff.1 hi).1]
    exact hi
theorem fill2 {z0 z1 a b : Value} (ha : one a = true) (hb : one b = true) : fillL [z0, z1] [(0, 1, a), (1, 1, b)] = some [a, b] := by
  simp [fillL, one_cells ha, one_cells hb, cutIn]
theorem fillAgg {z cs : List Value} {n : Nat} (hn : cs.length = n) (hz : z.length = n) : fillL (rowOf z 1) [(0, n, .agg ⟨cs⟩)] = some cs := by
  subst hn
  simp [fillL, Value.cells, cutIn, rowOf, hz]
theorem drawS {w : World} {D : (World → Prop) → World → Prop} (T : Nat → Prop) (h : ∀ w', Ext w w' → D (Fr T w') w') : drawn w D := ⟨Fr T w.drew, Fr.refl _ _, h _ (Ext.drew w)⟩
theorem anewS {w : World} {D : (World → Prop) → World → Prop} (T : Nat → Prop) (h : D (Fr T w) w) : anew w D := ⟨Fr T w, Fr.refl _ _, h⟩
theorem eLdT {T : Nat → Prop} {w : World} {a : Addr} {x : Value} {K : KP} (hT : ¬ T a.block) (h : w.cell? a = some x) : pLd (Fr T w) (.pointer (some a)) K = K x := by
  apply propext; constructor
  · rintro ⟨a', x', h1, h', k⟩; cases h1; have := h' w (Fr.refl _ _); rw [h] at this; cases this; exact k
  · exact fun k => ⟨a, x, rfl, fun w' e => e.cell h hT, k⟩
theorem Cs.tN {T : Nat → Prop} {w : World} {g n : Nat} {l : List Value} (h : Cs w g l) (hT : ¬ T g) (hn : l.length = n) {K : KP} : pLdN (Fr T w) n (.pointer (some ⟨g, 0, none⟩)) K = K (.agg ⟨l⟩) := by
  subst hn
  have hk := h
  obtain ⟨T', h⟩ := h
  apply propext; constructor
  · rintro ⟨a', xs, h1, h2, h3, k⟩
    exact (eLdNW h (by simp)).mp ⟨a', xs, h1, h2, fun w' e => h3 w' (by rw [e]; exact Fr.refl _ _), k⟩
  · intro k
    refine ⟨_, l, rfl, rfl, fun w' e i hi => ?_, k⟩
    rw [add_mk, Nat.zero_add]
    exact (hk.fr e hT).c i
theorem Cs.t3 {T : Nat → Prop} {w : World} {g : Nat} {a b c : Value} (h : Cs w g [a, b, c]) (hT : ¬ T g) {K : KP} : pLdN (Fr T w) 3 (.pointer (some ⟨g, 0, none⟩)) K = K (.agg #[a, b, c]) := h.tN hT rfl
theorem Cs.t2 {T : Nat → Prop} {w : World} {g : Nat} {a b : Value} (h : Cs w g [a, b]) (hT : ¬ T g) {K : KP} : pLdN (Fr T w) 2 (.pointer (some ⟨g, 0, none⟩)) K = K (.agg #[a, b]) := h.tN hT rfl
theorem Cs.f {T : Nat → Prop} {w : World} {g o : Nat} {l : List Value} {v : Value} (h : Cs w g l) (hT : ¬ T g) (hv : l[o]? = some v) {K : KP} : pLd (Fr T w) (.pointer (some ⟨g, o, none⟩)) K = K v := eLdT hT (by rw [h.c]; exact hv)
end Go.G
end
section
set_option linter.unusedSimpArgs false
set_option linter.unusedVariables false
set_option linter.unusedSectionVars false
namespace Go.G
open Go Go.MapKept
variable {κ : Type} [DecidableEq κ]
/-- Entries, keys told by enc. -/
def mget : List (κ × Value) → κ → Option Value
  | [], _ => none
  | (a, v) :: l, k => if a = k then some v else mget l k
def mput : List (κ × Value) → κ → Value → List (κ × Value)
  | [], k, v => [(k, v)]
  | (a, u) :: l, k, v => if a = k then (a, v) :: l else (a, u) :: mput l k v
def mdel : List (κ × Value) → κ → List (κ × Value)
  | [], _ => []
  | (a, u) :: l, k => if a = k then l else (a, u) :: mdel l k
/-- How keys are told. -/
structure KeyEnc (d : TypeDesc) (enc : κ → Value) : Prop where
  inj : ∀ a b, enc a = enc b → a = b
  key : ∀ a, IsKey d (enc a)
def encI : Int → Value := .int .i64
theorem keyI : KeyEnc (.int .i64) encI := ⟨fun a b h => by simpa [encI] using h, fun a => rfl⟩
def MapB (enc : κ → Value) (w : World) (b : Nat) (l : List (κ × Value)) : Prop :=
  ∃ es cl, w.heap[b]? = some (.map es cl) ∧ Stamped es cl ∧ es.toList.map (fun e => (e.key, e.val)) = l.map (fun p => (enc p.1, p.2))
variable {d : TypeDesc} {enc : κ → Value} {w : World} {b : Nat} {l : List (κ × Value)}
theorem MapB.lt (h : MapB enc w b l) : b < w.heap.size := by
  obtain ⟨es, cl, h1, _⟩ := h; exact heap_lt h1
theorem MapB.fr {T : Nat → Prop} {w' : World} (h : MapB enc w b l) (hf : Fr T w w') (hb : ¬ T b) : MapB enc w' b l := by
  obtain ⟨es, cl, h1, h2⟩ := h; exact ⟨es, cl, hf.heap h1 hb, h2⟩
theorem MapB.ext {w' : World} (h : MapB enc w b l) (hf : Ext w w') : MapB enc w' b l := h.fr hf (fun h => h)
theorem MapB.nodup (h : MapB enc w b l) : (l.map (·.1)).Nodup := by
  obtain ⟨es, cl, _, ⟨_, _, h3⟩, h4⟩ := h
  have : es.toList.map (·.key) = (l.map (·.1)).map enc := by
    have := congrArg (List.map (·.1)) h4
    simpa [List.map_map, Function.comp_def] using this
  rw [this] at h3
  exact (List.pairwise_map.1 h3).imp (fun h e => h (by rw [e]))
theorem MapB.isKey (he : KeyEnc d enc) {es : Array MapEntry} (h : es.toList.map (fun e => (e.key, e.val)) = l.map (fun p => (enc p.1, p.2))) : ∀ x ∈ es.toList, IsKey d x.key := by
  intro x hx
  have : (x.key, x.val) ∈ l.map (fun p => (enc p.1, p.2)) := by rw [← h]; exact List.mem_map.2 ⟨x, hx, rfl⟩
  obtain ⟨p, _, e⟩ := List.mem_map.1 this
  have : x.key = enc p.1 := (congrArg Prod.fst e).symm
  rw [this]; exact he.key _
theorem mget_find (hi : ∀ a b, enc a = enc b → a = b) {k : κ} : ∀ (es : List MapEntry) (l : List (κ × Value)), es.map (fun e => (e.key, e.val)) = l.map (fun p => (enc p.1, p.2)) →
    (∀ x ∈ es, x.key ≠ enc k) → mget l k = none
  | [], [], _, _ => rfl
  | [], _ :: _, h, _ => by simp at h
  | _ :: _, [], h, _ => by simp at h
  | e :: es, (a, v) :: l, h, hn => by
    simp only [List.map_cons, List.cons.injEq, Prod.mk.injEq] at h
    have : a ≠ k := fun e' => hn e (by simp) (by rw [h.1.1, e'])
    simp only [mget, if_neg this]
    exact mget_find hi es l h.2 (fun x hx => hn x (by simp [hx]))
theorem mget_at (hi : ∀ a b, enc a = enc b → a = b) {k : κ} : ∀ (es : List MapEntry) (l : List (κ × Value)) (j : Nat) (e : MapEntry), es.map (fun e => (e.key, e.val)) = l.map (fun p => (enc p.1, p.2)) →
    (es.map (·.key)).Nodup → es[j]? = some e → e.key = enc k → mget l k = some e.val
  | [], _, j, e, _, _, hj, _ => by simp at hj
  | _ :: _, [], _, _, h, _, _, _ => by simp at h
  | x :: es, (a, v) :: l, 0, e, h, _, hj, hk => by
    simp at hj; subst hj
    simp only [List.map_cons, List.cons.injEq, Prod.mk.injEq] at h
    have : a = k := hi _ _ (by rw [← h.1.1, hk])
    simp only [mget, if_pos this, h.1.2]
  | x :: es, (a, v) :: l, j + 1, e, h, hd, hj, hk => by
    simp only [List.map_cons, List.cons.injEq, Prod.mk.injEq, List.nodup_cons] at h hd
    have hm : e ∈ es := List.mem_of_getElem? (by simpa using hj)
    have : a ≠ k := fun e' => hd.1 (List.mem_map.2 ⟨e, hm, by rw [hk, ← e', ← h.1.1]⟩)
    simp only [mget, if_neg this]
    exact mget_at hi es l j e h.2 hd.2 (by simpa using hj) hk
variable {P : Program} {T kt et : TypeId}
theorem Fr.setObj {w : World} {r : Nat} {o' : Obj} : Fr (· = r) w { w with heap := w.heap.setIfInBounds r o' } :=
  ⟨rfl, rfl, rfl, by simp, fun b _ hn => by simp [Ne.symm hn]⟩
theorem mput_none {k : κ} {v : Value} : ∀ {l : List (κ × Value)}, mget l k = none → mput l k v = l ++ [(k, v)]
  | [], _ => rfl
  | (a, u) :: l, h => by
    simp only [mget] at h
    split at h
    · cases h
    · rename_i hn; simp [mput, if_neg hn, mput_none h]
theorem mput_at (hi : ∀ a b, enc a = enc b → a = b) {k : κ} {v : Value} : ∀ (es : List MapEntry) (l : List (κ × Value)) (j : Nat) (e : MapEntry), es.map (fun e => (e.key, e.val)) = l.map (fun p => (enc p.1, p.2)) →
    (es.map (·.key)).Nodup → es[j]? = some e → e.key = enc k → (es.modify j fun e => { e with key := enc k, val := v }).map (fun e => (e.key, e.val)) = (mput l k v).map (fun p => (enc p.1, p.2))
  | [], _, j, e, _, _, hj, _ => by simp at hj
  | _ :: _, [], _, _, h, _, _, _ => by simp at h
  | x :: es, (a, u) :: l, 0, e, h, _, hj, hk => by
    simp at hj; subst hj
    simp only [List.map_cons, List.cons.injEq, Prod.mk.injEq] at h
    have : a = k := hi _ _ (by rw [← h.1.1, hk])
    subst this
    simp only [mput, if_true, List.modify_zero_cons, List.map_cons, h.2]
  | x :: es, (a, u) :: l, j + 1, e, h, hd, hj, hk => by
    simp only [List.map_cons, List.cons.injEq, Prod.mk.injEq, List.nodup_cons] at h hd
    have hm : e ∈ es := List.mem_of_getElem? (by simpa using hj)
    have : a ≠ k := fun e' => hd.1 (List.mem_map.2 ⟨e, hm, by rw [hk, ← e', ← h.1.1]⟩)
    simp only [mput, if_neg this, List.modify_succ_cons, List.map_cons, h.1.1, h.1.2]
    rw [mput_at hi es l j e h.2 hd.2 (by simpa using hj) hk]
/-- m[k] = v -/
theorem mapUpdate_run (he : KeyEnc d enc) (hT : P.underlying T = some (.map kt et)) (hd : P.underlying kt = some d) (h : MapB enc w b l) (k : κ) (v : Value) :
    ∃ w', (Instr.mapUpdate T (.map (some b)) (enc k) v).run P w = .ok () w' ∧ MapB enc w' b (mput l k v) ∧ Fr (· = b) w w' := by
  obtain ⟨es, cl, hb, hs, hl⟩ := h
  have hks := MapB.isKey he hl
  have hk := he.key k
  rcases findNow_spec hk es.toList 0 hks with ⟨h1, h2⟩ | ⟨j, e, h1, h2, h3⟩
  · refine ⟨{ w with heap := w.heap.setIfInBounds b (.map (es.push { key := enc k, val := v, born := cl }) (cl + 1)) }, ?_, ⟨_, _, (heap_set hb).1, stamped_push hs h2, ?_⟩, Fr.setObj⟩
    · simp [Instr.mapUpdate, Go.G.run_underlying hT, MapKept.run_getObj_map hb, run_checkKey hd hk, run_findKey hd h1, MapKept.run_setObj_map _ hb, Result.andThen]
    · rw [mput_none (mget_find he.inj _ _ hl h2)]
      simp [hl]
  · rw [Nat.zero_add] at h1
    have h2' : es[j]? = some e := by simpa using h2
    refine ⟨{ w with heap := w.heap.setIfInBounds b (.map (es.modify j fun e => { e with key := enc k, val := v }) cl) }, ?_, ⟨_, _, (heap_set hb).1, stamped_modify hs _ _ (fun _ _ => rfl) (fun x _ hx => by rw [h2'] at hx; cases hx; exact h3.symm), ?_⟩, Fr.setObj⟩
    · simp only [Instr.mapUpdate, Sem.run_bind, Go.G.run_underlying hT, Result.andThen_ok, MapKept.run_getObj_map hb, run_checkKey hd hk, run_findKey hd h1, h2', Option.map_some, Option.getD_some, h3, run_keyThatStays hk, MapKept.run_setObj_map _ hb]
    · have := mput_at he.inj (v := v) es.toList l j e hl hs.2.2 h2 h3
      rw [← this, Array.toList_modify]
/-- m[k] -/
theorem lookup_run {z : Value} (he : KeyEnc d enc) (hT : P.underlying T = some (.map kt et)) (hd : P.underlying kt = some d) (hz : ∀ w, (zeroValue et).run P w = .ok z w) (h : MapB enc w b l) (k : κ) :
    (Instr.lookup T (.map (some b)) (enc k) false).run P w = .ok ((mget l k).getD z) w := by
  obtain ⟨es, cl, hb, hs, hl⟩ := h
  have hks := MapB.isKey he hl
  have hk := he.key k
  rcases findNow_spec hk es.toList 0 hks with ⟨h1, h2⟩ | ⟨j, e, h1, h2, h3⟩
  · simp [Instr.lookup, Go.G.run_underlying hT, MapKept.run_getObj_map hb, run_checkKey hd hk, run_findKey hd h1, hz, Result.andThen, mget_find he.inj _ _ hl h2]
  · rw [Nat.zero_add] at h1
    simp [Instr.lookup, Go.G.run_underlying hT, MapKept.run_getObj_map hb, run_checkKey hd hk, run_findKey hd h1, Result.andThen, mget_at he.inj _ _ j e hl hs.2.2 h2 h3]
theorem lookup_ok {z : Value} (he : KeyEnc d enc) (hT : P.underlying T = some (.map kt et)) (hd : P.underlying kt = some d) (hz : ∀ w, (zeroValue et).run P w = .ok z w) (h : MapB enc w b l) (k : κ) :
    (Instr.lookup T (.map (some b)) (enc k) true).run P w = .ok (.tuple #[(mget l k).getD z, .bool (mget l k).isSome]) w := by
  obtain ⟨es, cl, hb, hs, hl⟩ := h
  have hks := MapB.isKey he hl
  have hk := he.key k
  rcases findNow_spec hk es.toList 0 hks with ⟨h1, h2⟩ | ⟨j, e, h1, h2, h3⟩
  · simp [Instr.lookup, Go.G.run_underlying hT, MapKept.run_getObj_map hb, run_checkKey hd hk, run_findKey hd h1, hz, Result.andThen, mget_find he.inj _ _ hl h2]
  · rw [Nat.zero_add] at h1
    simp [Instr.lookup, Go.G.run_underlying hT, MapKept.run_getObj_map hb, run_checkKey hd hk, run_findKey hd h1, Result.andThen, mget_at he.inj _ _ j e hl hs.2.2 h2 h3]
theorem mdel_none {k : κ} : ∀ {l : List (κ × Value)}, mget l k = none → mdel l k = l
  | [], _ => rfl
  | (a, u) :: l, h => by
    simp only [mget] at h
    split at h
    · cases h
    · rename_i hn; simp [mdel, if_neg hn, mdel_none h]
theorem mdel_at (he : KeyEnc d enc) {k : κ} : ∀ (es : List MapEntry) (l : List (κ × Value)) (j : Nat) (e : MapEntry), es.map (fun e => (e.key, e.val)) = l.map (fun p => (enc p.1, p.2)) →
    (es.map (·.key)).Nodup → es[j]? = some e → e.key = enc k → (es.eraseIdx j).map (fun e => (e.key, e.val)) = (mdel l k).map (fun p => (enc p.1, p.2))
  | [], _, j, e, _, _, hj, _ => by simp at hj
  | _ :: _, [], _, _, h, _, _, _ => by simp at h
  | x :: es, (a, u) :: l, 0, e, h, _, hj, hk => by
    simp at hj; subst hj
    simp only [List.map_cons, List.cons.injEq, Prod.mk.injEq] at h
    have : a = k := he.inj _ _ (by rw [← h.1.1, hk])
    simp only [mdel, if_pos this, List.eraseIdx_cons_zero, h.2]
  | x :: es, (a, u) :: l, j + 1, e, h, hd, hj, hk => by
    simp only [List.map_cons, List.cons.injEq, Prod.mk.injEq, List.nodup_cons] at h hd
    have hm : e ∈ es := List.mem_of_getElem? (by simpa using hj)
    have : a ≠ k := fun e' => hd.1 (List.mem_map.2 ⟨e, hm, by rw [hk, ← e', ← h.1.1]⟩)
    simp only [mdel, if_neg this, List.eraseIdx_cons_succ, List.map_cons, h.1.1, h.1.2]
    rw [mdel_at he es l j e h.2 hd.2 (by simpa using hj) hk]
/-- delete(m, k) -/
theorem delete_run {ty t2 : TypeId} (he : KeyEnc d enc) (hT : P.underlying T = some (.map kt et)) (hd : P.underlying kt = some d) (h : MapB enc w b l) (k : κ) :
    ∃ w', (Builtin.delete_ #[T, t2] ty #[.map (some b), enc k]).run P w = .ok (.tuple #[]) w' ∧ MapB enc w' b (mdel l k) ∧ Fr (· = b) w w' := by
  obtain ⟨es, cl, hb, hs, hl⟩ := h
  have hks := MapB.isKey he hl
  have hk := he.key k
  rcases findNow_spec hk es.toList 0 hks with ⟨h1, h2⟩ | ⟨j, e, h1, h2, h3⟩
  · refine ⟨{ w with heap := w.heap.setIfInBounds b (.map es cl) }, ?_, ⟨_, _, (heap_set hb).1, hs, ?_⟩, Fr.setObj⟩
    · simp [Builtin.delete_, Go.G.run_underlying hT, MapKept.run_getObj_map hb, run_checkKey hd hk, run_findKey hd h1, MapKept.run_setObj_map _ hb, Result.andThen]
    · rw [mdel_none (mget_find he.inj _ _ hl h2)]; exact hl
  · rw [Nat.zero_add] at h1
    have hlt : j < es.size := by
      have := (List.getElem?_eq_some_iff.1 h2).1; simpa using this
    refine ⟨{ w with heap := w.heap.setIfInBounds b (.map (es.eraseIdxIfInBounds j) cl) }, ?_, ⟨_, _, (heap_set hb).1, stamped_erase hs _, ?_⟩, Fr.setObj⟩
    · simp [Builtin.delete_, Go.G.run_underlying hT, MapKept.run_getObj_map hb, run_checkKey hd hk, run_findKey hd h1, MapKept.run_setObj_map _ hb, Result.andThen]
    · rw [← mdel_at he es.toList l j e hl hs.2.2 h2 h3]
      simp [Array.eraseIdxIfInBounds, hlt]
theorem map_ {K : KV} (h : ∀ g w', w.heap.size = g → Ext w w' → MapB enc w' g [] → K (.map (some g)) w') : pMap w K :=
  h _ _ rfl (Ext.alloc w _) ⟨_, _, alloc_new w _, stamped_empty 0, rfl⟩
theorem mput_keys {k : κ} {v : Value} : ∀ {l : List (κ × Value)}, (mput l k v).map (·.1) = if k ∈ l.map (·.1) then l.map (·.1) else l.map (·.1) ++ [k]
  | [] => by simp [mput]
  | (a, u) :: l => by
    by_cases h : a = k
    · simp [mput, h]
    · have hk : ¬ k = a := fun e => h e.symm
      simp only [mput, if_neg h, List.map_cons, mput_keys (l := l), List.mem_cons]
      by_cases hm : k ∈ l.map (·.1)
      · rw [if_pos hm, if_pos (.inr hm)]
      · rw [if_neg hm, if_neg (by rintro (e | e); exact hk e; exact hm e)]; rfl
theorem mget_put {k k' : κ} {v : Value} : ∀ {l : List (κ × Value)}, mget (mput l k v) k' = if k = k' then some v else mget l k'
  | [] => by simp [mput, mget]
  | (a, u) :: l => by
    by_cases h : a = k
    · subst h
      by_cases h2 : a = k' <;> simp [mput, mget, h2]
    · simp only [mput, if_neg h, mget, mget_put (l := l)]
      by_cases h2 : a = k'
      · subst h2; rw [if_pos rfl, if_neg (fun e => h e.symm), if_pos rfl]
      · rw [if_neg h2, if_neg h2]
theorem mget_mem {k : κ} {v : Value} : ∀ {l : List (κ × Value)}, mget l k = some v → (k, v) ∈ l
  | [], h => by cases h
  | (a, u) :: l, h => by
    simp only [mget] at h
    split at h
    · rename_i e; cases h; subst e; simp
    · exact List.mem_cons_of_mem _ (mget_mem h)
theorem mget_isSome {k : κ} : ∀ {l : List (κ × Value)}, (mget l k).isSome = true ↔ k ∈ l.map (·.1)
  | [] => by simp [mget]
  | (a, u) :: l => by
    by_cases h : a = k
    · subst h; simp [mget]
    · simp only [mget, if_neg h, mget_isSome (l := l), List.map_cons, List.mem_cons]
      exact ⟨.inr, fun h' => h'.elim (fun e => absurd e.symm h) id⟩
end Go.G
namespace Go.G
open Go Go.MapKept
variable {κ : Type} [DecidableEq κ] {d : TypeDesc} {enc : κ → Value} {w : World} {b : Nat} {l : List (κ × Value)} {P : Program} {T kt et : TypeId}
theorem eMapUpd {k : κ} {v : Value} {K : KV} (h : MapB enc w b l) (he : KeyEnc d enc) (hT : P.underlying T = some (.map kt et)) (hd : P.underlying kt = some d)
    (hk : ∀ w', MapB enc w' b (mput l k v) → Fr (· = b) w w' → K undef w') : pRunU P (Instr.mapUpdate T (.map (some b)) (enc k) v) w K := by
  obtain ⟨w', h1, h2, h3⟩ := mapUpdate_run he hT hd h k v
  exact ⟨w', h1, hk w' h2 h3⟩
theorem eMapDel {k : κ} {ty t2 : TypeId} {K : KV} (h : MapB enc w b l) (he : KeyEnc d enc) (hT : P.underlying T = some (.map kt et)) (hd : P.underlying kt = some d)
    (hk : ∀ w', MapB enc w' b (mdel l k) → Fr (· = b) w w' → K (.tuple #[]) w') : pRun P (Builtin.delete_ #[T, t2] ty #[.map (some b), enc k]) w K := by
  obtain ⟨w', h1, h2, h3⟩ := delete_run (ty := ty) (t2 := t2) he hT hd h k
  exact ⟨_, w', h1, hk w' h2 h3⟩
theorem eLook {k : κ} {z : Value} {K : KP} {S : World → Prop} (h : ∀ w', S w' → MapB enc w' b l) (he : KeyEnc d enc) (hT : P.underlying T = some (.map kt et)) (hd : P.underlying kt = some d) (hz : ∀ w, (zeroValue et).run P w = .ok z w)
    (hk : K ((mget l k).getD z)) : pRunR P S (Instr.lookup T (.map (some b)) (enc k) false) K := ⟨_, fun w' hw => lookup_run he hT hd hz (h w' hw) k, hk⟩
theorem eLookOk {k : κ} {z : Value} {K : KP} {S : World → Prop} (h : ∀ w', S w' → MapB enc w' b l) (he : KeyEnc d enc) (hT : P.underlying T = some (.map kt et)) (hd : P.underlying kt = some d) (hz : ∀ w, (zeroValue et).run P w = .ok z w)
    (hk : K (.tuple #[(mget l k).getD z, .bool (mget l k).isSome])) : pRunR P S (Instr.lookup T (.map (some b)) (enc k) true) K := ⟨_, fun w' hw => lookup_ok he hT hd hz (h w' hw) k, hk⟩
/-- Keys, each once, as they first come. -/
def keysF [DecidableEq κ] (ks : List κ) : List κ := ks.foldl (fun l k => if k ∈ l then l else l ++ [k]) []
theorem keysF_snoc (ks : List κ) (k : κ) : keysF (ks ++ [k]) = if k ∈ keysF ks then keysF ks else keysF ks ++ [k] := by unfold keysF; rw [List.foldl_append]; rfl
theorem mem_keysFrom {k : κ} : ∀ (ks acc : List κ), k ∈ ks.foldl (fun l k => if k ∈ l then l else l ++ [k]) acc ↔ k ∈ acc ∨ k ∈ ks
  | [], acc => by simp
  | a :: ks, acc => by
    simp only [List.foldl_cons, mem_keysFrom ks, List.mem_cons]
    by_cases h : a ∈ acc
    · rw [if_pos h]
      constructor
      · rintro (h1 | h1)
        · exact .inl h1
        · exact .inr (.inr h1)
      · rintro (h1 | rfl | h1)
        · exact .inl h1
        · exact .inl h
        · exact .inr h1
    · rw [if_neg h, List.mem_append, List.mem_singleton, or_assoc]
theorem mem_keysF {ks : List κ} {k : κ} : k ∈ keysF ks ↔ k ∈ ks := by
  unfold keysF; rw [mem_keysFrom]; simp
theorem keysFrom_nodup : ∀ (ks acc : List κ), acc.Nodup → (ks.foldl (fun l k => if k ∈ l then l else l ++ [k]) acc).Nodup
  | [], acc, h => h
  | a :: ks, acc, h => by
    rw [List.foldl_cons]
    refine keysFrom_nodup ks _ ?_
    split
    · exact h
    · rename_i hn
      rw [List.nodup_append]
      exact ⟨h, by simp, fun x hx y hy e => hn (by rw [List.mem_singleton] at hy; subst hy; subst e; exact hx)⟩
theorem keysF_nodup (ks : List κ) : (keysF ks).Nodup := keysFrom_nodup ks [] List.nodup_nil
end Go.G
end
section
set_option linter.unusedSimpArgs false
set_option linter.unusedVariables false
namespace Go.G
open Go Go.MapKept Go.ChangeShapes Go.WideShapes
variable {κ : Type} [DecidableEq κ] {enc : κ → Value} {w : World} {b : Nat} {l : List (κ × Value)} {P : Program} {T kt et : TypeId}
/-- A value that is told as a key. -/
def KeyOk (P : Program) (kt : TypeId) (v : Value) : Prop := ∃ l, keyOf P kt v = some l
omit [DecidableEq κ] in
theorem MapB.keyOk (hl : ∀ p ∈ l, KeyOk P kt (enc p.1)) {es : Array MapEntry} (h : es.toList.map (fun e => (e.key, e.val)) = l.map (fun p => (enc p.1, p.2))) : ∀ x ∈ es.toList, ∃ l, keyOf P kt x.key = some l := by
  intro x hx
  have : (x.key, x.val) ∈ l.map (fun p => (enc p.1, p.2)) := by rw [← h]; exact List.mem_map.2 ⟨x, hx, rfl⟩
  obtain ⟨p, hp, e⟩ := List.mem_map.1 this
  have : x.key = enc p.1 := (congrArg Prod.fst e).symm
  rw [this]; exact hl p hp
theorem lookup_okL {z : Value} (law : WideMaps.KeyLaw P kt) (hi : ∀ a b, enc a = enc b → a = b) (hT : P.underlying T = some (.map kt et)) (hz : ∀ w, (zeroValue et).run P w = .ok z w) (h : MapB enc w b l) (hl : ∀ p ∈ l, KeyOk P kt (enc p.1)) (k : κ) (hk : KeyOk P kt (enc k)) :
    (Instr.lookup T (.map (some b)) (enc k) true).run P w = .ok (.tuple #[(mget l k).getD z, .bool (mget l k).isSome]) w := by
  obtain ⟨es, cl, hb, hs, hle⟩ := h
  obtain ⟨lk, hk⟩ := hk
  rcases law.find w hk es.toList (MapB.keyOk hl hle) with ⟨h1, h2⟩ | ⟨j, e, h1, h2, h3⟩
  · simp [Instr.lookup, Go.G.run_underlying hT, MapKept.run_getObj_map hb, law.check w _ hk, h1, hz, Result.andThen, mget_find hi _ _ hle h2]
  · simp [Instr.lookup, Go.G.run_underlying hT, MapKept.run_getObj_map hb, law.check w _ hk, h1, Result.andThen, mget_at hi _ _ j e hle (by have := hs.2.2; simpa [List.Nodup, List.pairwise_map] using this) h2 h3]
theorem mapUpdate_runL (law : WideMaps.KeyLaw P kt) (hi : ∀ a b, enc a = enc b → a = b) (hT : P.underlying T = some (.map kt et)) (h : MapB enc w b l) (hl : ∀ p ∈ l, KeyOk P kt (enc p.1)) (k : κ) (hk : KeyOk P kt (enc k)) (v : Value) :
    ∃ w', (Instr.mapUpdate T (.map (some b)) (enc k) v).run P w = .ok () w' ∧ MapB enc w' b (mput l k v) ∧ Fr (· = b) w w' := by
  obtain ⟨es, cl, hb, hs, hle⟩ := h
  obtain ⟨lk, hk⟩ := hk
  rcases law.find w hk es.toList (MapB.keyOk hl hle) with ⟨h1, h2⟩ | ⟨j, e, h1, h2, h3⟩
  · refine ⟨{ w with heap := w.heap.setIfInBounds b (.map (es.push { key := enc k, val := v, born := cl }) (cl + 1)) }, ?_, ⟨_, _, (heap_set hb).1, stamped_push hs h2, ?_⟩, Fr.setObj⟩
    · simp [Instr.mapUpdate, Go.G.run_underlying hT, MapKept.run_getObj_map hb, law.check w _ hk, h1, MapKept.run_setObj_map _ hb, Result.andThen]
    · rw [mput_none (mget_find hi _ _ hle h2)]
      simp [hle]
  · have h2' : es[j]? = some e := by simpa using h2
    refine ⟨{ w with heap := w.heap.setIfInBounds b (.map (es.modify j fun e => { e with key := enc k, val := v }) cl) }, ?_, ⟨_, _, (heap_set hb).1, stamped_modify hs _ _ (fun _ _ => rfl) (fun x _ hx => by rw [h2'] at hx; cases hx; exact h3.symm), ?_⟩, Fr.setObj⟩
    · simp only [Instr.mapUpdate, Sem.run_bind, Go.G.run_underlying hT, Result.andThen_ok, MapKept.run_getObj_map hb, law.check w _ hk, h1, h2', Option.map_some, Option.getD_some, h3, law.stays w hk, MapKept.run_setObj_map _ hb]
    · have := mput_at hi (v := v) es.toList l j e hle hs.2.2 h2 h3
      rw [← this, Array.toList_modify]
theorem eMapUpdL {k : κ} {v : Value} {K : KV} (law : WideMaps.KeyLaw P kt) (h : MapB enc w b l) (hi : ∀ a b, enc a = enc b → a = b) (hT : P.underlying T = some (.map kt et)) (hl : ∀ p ∈ l, KeyOk P kt (enc p.1)) (hk : KeyOk P kt (enc k))
    (hK : ∀ w', MapB enc w' b (mput l k v) → Fr (· = b) w w' → K undef w') : pRunU P (Instr.mapUpdate T (.map (some b)) (enc k) v) w K := by
  obtain ⟨w', h1, h2, h3⟩ := mapUpdate_runL law hi hT h hl k hk v
  exact ⟨w', h1, hK w' h2 h3⟩
theorem eLookOkL {k : κ} {z : Value} {K : KP} {S : World → Prop} (law : WideMaps.KeyLaw P kt) (h : ∀ w', S w' → MapB enc w' b l) (hi : ∀ a b, enc a = enc b → a = b) (hT : P.underlying T = some (.map kt et)) (hz : ∀ w, (zeroValue et).run P w = .ok z w)
    (hl : ∀ p ∈ l, KeyOk P kt (enc p.1)) (hk : KeyOk P kt (enc k)) (hK : K (.tuple #[(mget l k).getD z, .bool (mget l k).isSome])) : pRunR P S (Instr.lookup T (.map (some b)) (enc k) true) K := ⟨_, fun w' hw => lookup_okL law hi hT hz (h w' hw) hl k hk, hK⟩
end Go.G
end
section
set_option linter.unusedSimpArgs false
set_option linter.unusedVariables false
namespace Go.G
open Go
/-- A part of a slice. -/
theorem Rd.cut {t : Ty} {D : Nat → Prop} {w : World} {a : Option Addr} {n c : Nat} {xs : List t.D} (h : Rd (.slice t) D w [.slice a n c] xs) {l e m : Nat} (hl : l ≤ e) (he : e ≤ n) (hm : e ≤ m) (hmc : m ≤ c) :
    Rd (.slice t) D w [.slice (if m = l then a else a.map (·.add (l * t.n))) (e - l) (m - l)] ((xs.take e).drop l) := by
  obtain ⟨a', c', h1, h2, h3, h4⟩ := h
  simp only [List.cons.injEq, Value.slice.injEq, and_true] at h1
  obtain ⟨rfl, rfl, rfl⟩ := h1
  have hlen : ((xs.take e).drop l).length = e - l := by simp; omega
  refine ⟨_, m - l, by rw [hlen], by omega, by omega, fun hne => ?_⟩
  have hpos : 0 < ((xs.take e).drop l).length := List.length_pos_iff.2 hne
  obtain ⟨ad, rfl, g2, g3, g4⟩ := h4 (by intro e'; subst e'; simp at hpos)
  refine ⟨ad.add (l * t.n), by rw [if_neg (by omega)]; rfl, add_spot _ _ g2, by rw [add_block]; exact g3, fun i hi => ?_⟩
  obtain ⟨cs, k1, k2, k3⟩ := g4 (l + i) (by omega)
  refine ⟨cs, k1, fun j v hj => ?_, ?_⟩
  · rw [add_add _ _ _ g2, show l * t.n + (i * t.n + j) = (l + i) * t.n + j by rw [Nat.add_mul]; omega]
    exact k2 j v hj
  · have : ((xs.take e).drop l)[i] = xs[l + i]'(by omega) := by simp
    rw [this]; exact k3
theorem RdL.rep {t : Ty} {D : Nat → Prop} {w : World} {zero : List Value} {z : t.D} (h : Rd t D w zero z) : ∀ n, RdL t D w (rowOf zero n) (List.replicate n z)
  | 0 => rfl
  | n + 1 => ⟨zero, rowOf zero n, by simp [rowOf, List.replicate_succ], h, RdL.rep h n⟩
/-- make([]T, n) -/
theorem make_ {t : Ty} {D : Nat → Prop} {B E bytes n : Nat} {zero : List Value} {z : t.D} {w : World} {K : KV} (hn : n < 4611686018427387904) (hb : (bytes : Int) * n ≤ 2 ^ 48) (hz : ∀ w, Rd t D w zero z) (hB : B ≤ w.heap.size) (hD : ¬ D w.heap.size)
    (k : ∀ g w', w.heap.size = g → Ext w w' → w'.heap.size = g + 1 → Own t D B w' (.slice (some ⟨g, 0, none⟩) n n) (List.replicate n z) → K (.slice (some ⟨g, 0, none⟩) n n) w') : pMake E bytes zero (.int .i64 n) (.int .i64 n) w K := by
  refine ⟨.i64, .i64, n, n, rfl, rfl, by omega, Int.le_refl _, by omega, hb, ?_⟩
  have hl : ∀ m, (rowOf zero m).length = m * t.n := fun m => by
    have := (RdL.rep (hz w) m).len; simpa using this
  refine k _ _ rfl (Ext.alloc w _) (size_alloc w _) (.inr ⟨w.heap.size, n, _, E, (0, 0), rowOf zero n, [], by simp, hB, hD, alloc_new w _, fun o _ _ h => by simp at h, by simp, by simp [hl], RdL.rep (hz _) n⟩)
theorem strOf {S : World → Prop} {D : Nat → Prop} {w : World} {x : Value} {bs : List UInt8} {K : KP} (hS : ∀ w', S w' → Rd (.slice .byte) D w' [x] bs) (hw : S w) (k : K (.string ⟨bs.toArray⟩)) : pStrOf S x K := by
  obtain ⟨a, c, e, _, _, _⟩ := hS w hw
  simp only [List.cons.injEq, and_true] at e
  refine ⟨a, _, c, e, bs, rfl, fun i b hi => ?_, k⟩
  have hlt := (List.getElem?_eq_some_iff.1 hi).1
  have hne : bs ≠ [] := by intro e'; subst e'; simp at hlt
  have key : ∀ w', S w' → ∃ ad, a = some ad ∧ w'.cell? (ad.add i) = some (.int .u8 b.toNat) := fun w' hw' => by
    obtain ⟨ad, c', u, e', _, _, h5, h6⟩ := (hS w' hw').idx rfl hlt
    rw [e] at e'
    simp only [Value.slice.injEq] at e'
    have hu : [u] = [Value.int .u8 (bs[i].toNat : Int)] := h6
    simp only [List.cons.injEq, and_true] at hu
    have hbi : bs[i] = b := by rw [List.getElem?_eq_getElem hlt] at hi; simpa using hi
    exact ⟨ad, e'.1, by rw [h5, hu, hbi]⟩
  obtain ⟨ad, h1, _⟩ := key w hw
  refine ⟨ad, h1, fun w' hw' => ?_⟩
  obtain ⟨ad', h1', h2'⟩ := key w' hw'
  rw [h1] at h1'; cases h1'
  exact h2'
theorem bytes_toList (l : List UInt8) : (⟨l.toArray⟩ : ByteArray).toList = l := by
  rw [ByteArray.toList_eq]
end Go.G
end
