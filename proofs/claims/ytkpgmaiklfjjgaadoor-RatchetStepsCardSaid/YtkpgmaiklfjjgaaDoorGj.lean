/-
  Slices that a call owns, and what append does to them.
-/
import Derived.Test.YtkpgmaiklfjjgaaDoorGi
set_option linter.unusedSimpArgs false
set_option linter.unusedVariables false
namespace Go.G
open Go
theorem Ty.n_pos : ∀ t : Ty, 0 < t.n
  | .int _ | .byte | .bool | .str | .slice _ => Nat.one_pos
  | .pair a b => Nat.lt_of_lt_of_le a.n_pos (Nat.le_add_right _ _)
/-- The block of a slice. -/
def Blk (v : Value) (b : Nat) : Prop := ∃ a n c, v = .slice (some a) n c ∧ a.block = b
/-- A slice that a call owns: none, or one in a block at or behind B, its elements' own data elsewhere, in D. -/
def Own (t : Ty) (D : Nat → Prop) (B : Nat) (w : World) (v : Value) (xs : List t.D) : Prop :=
  (xs = [] ∧ ∃ a, v = .slice a 0 0) ∨
  ∃ g c cs T fz old rest, v = .slice (some ⟨g, 0, none⟩) xs.length c ∧ B ≤ g ∧ ¬ D g ∧ w.heap[g]? = some (.cells cs T fz) ∧ (∀ o, o < cs.size → fz.1 ≤ o → o < fz.2 → False) ∧
    cs.toList = old ++ rest ∧ cs.size = c * t.n ∧ RdL t D w old xs
theorem Own.nil {t : Ty} {D : Nat → Prop} {B : Nat} {w : World} : Own t D B w (.slice none 0 0) [] := .inl ⟨rfl, none, rfl⟩
theorem Own.form {t : Ty} {D : Nat → Prop} {B : Nat} {w : World} {v : Value} {xs : List t.D} (h : Own t D B w v xs) : ∃ a c, v = .slice a xs.length c ∧ xs.length ≤ c := by
  rcases h with ⟨rfl, a, rfl⟩ | ⟨g, c, cs, T, fz, old, rest, rfl, _, _, _, _, h1, h2, h3⟩
  · exact ⟨a, 0, rfl, Nat.le_refl _⟩
  · refine ⟨_, c, rfl, ?_⟩
    have e := congrArg List.length h1
    rw [List.length_append, h3.len, Array.length_toList, h2] at e
    have := t.n_pos
    exact Nat.le_of_mul_le_mul_right (by omega : xs.length * t.n ≤ c * t.n) this
theorem Own.fr {t : Ty} {D T : Nat → Prop} {B : Nat} {w w' : World} {v : Value} {xs : List t.D} (h : Own t D B w v xs) (hf : Fr T w w') (hD : ∀ b, D b → ¬ T b) (hv : ∀ b, Blk v b → B ≤ b → ¬ T b) : Own t D B w' v xs := by
  rcases h with ⟨rfl, a, rfl⟩ | ⟨g, c, cs, T', fz, old, rest, rfl, h1, h2, h3, h3', h4, h5, h6⟩
  · exact .inl ⟨rfl, a, rfl⟩
  · exact .inr ⟨g, c, cs, T', fz, old, rest, rfl, h1, h2, hf.heap h3 (hv _ ⟨_, _, _, rfl, rfl⟩ h1), h3', h4, h5, h6.imp (fun _ h => h) (fun b hb hlt => hf.keep b hlt (hD b hb))⟩
theorem Own.ext {t : Ty} {D : Nat → Prop} {B : Nat} {w w' : World} {v : Value} {xs : List t.D} (h : Own t D B w v xs) (hf : Ext w w') : Own t D B w' v xs := h.fr hf (fun _ _ h => h) (fun _ _ _ h => h)
theorem Own.wide {t : Ty} {D D' : Nat → Prop} {B : Nat} {w : World} {v : Value} {xs : List t.D} (h : Own t D B w v xs) (hD : ∀ b, D b → D' b) (hv : ∀ b, Blk v b → B ≤ b → ¬ D' b) : Own t D' B w v xs := by
  rcases h with ⟨rfl, a, rfl⟩ | ⟨g, c, cs, T', fz, old, rest, rfl, h1, h2, h3, h3', h4, h5, h6⟩
  · exact .inl ⟨rfl, a, rfl⟩
  · exact .inr ⟨g, c, cs, T', fz, old, rest, rfl, h1, hv _ ⟨_, _, _, rfl, rfl⟩ h1, h3, h3', h4, h5, h6.imp hD (fun _ _ _ => rfl)⟩
theorem Own.low {t : Ty} {D : Nat → Prop} {B B' : Nat} {w : World} {v : Value} {xs : List t.D} (h : Own t D B w v xs) (hB : B' ≤ B) : Own t D B' w v xs := by
  rcases h with ⟨rfl, a, rfl⟩ | ⟨g, c, cs, T', fz, old, rest, rfl, h1, h⟩
  · exact .inl ⟨rfl, a, rfl⟩
  · exact .inr ⟨g, c, cs, T', fz, old, rest, rfl, Nat.le_trans hB h1, h⟩
/-- Rows of cells at an address read as a slice. -/
theorem Rd.of_rows {t : Ty} {D D' : Nat → Prop} {w : World} {xs : List t.D} {cs : List Value} {a : Option Addr} {c : Nat} (h : RdL t D w cs xs) (hD : ∀ b, D b → D' b) (hc : xs.length ≤ c) (hl : xs.length < 9223372036854775808)
    (hr : ∀ i u, cs[i]? = some u → ∃ ad : Addr, a = some ad ∧ ad.spot = none ∧ D' ad.block ∧ w.cell? (ad.add i) = some u) : Rd (.slice t) D' w [.slice a xs.length c] xs := by
  refine ⟨a, c, rfl, hc, hl, fun hne => ?_⟩
  have hlen := h.len
  have hpos : 0 < xs.length := List.length_pos_iff.2 hne
  obtain ⟨u0, hu0⟩ : ∃ u, cs[0]? = some u := by
    have : 0 < cs.length := by rw [hlen]; exact Nat.mul_pos hpos t.n_pos
    exact ⟨cs[0], List.getElem?_eq_getElem this⟩
  obtain ⟨ad, rfl, e2, e3, _⟩ := hr 0 u0 hu0
  refine ⟨ad, rfl, e2, e3, fun i hi => ?_⟩
  obtain ⟨r, g1, g2, g3⟩ := h.get i hi
  refine ⟨r, g1, fun j v hj => ?_, g2.wide hD⟩
  obtain ⟨ad', f1, _, _, f4⟩ := hr _ v (g3 j v hj)
  cases f1
  exact f4
theorem Own.rd {t : Ty} {D D' : Nat → Prop} {B : Nat} {w : World} {v : Value} {xs : List t.D} (h : Own t D B w v xs) (hD : ∀ b, D b → D' b) (hB : ∀ b, B ≤ b → D' b) (hl : xs.length < 9223372036854775808) : Rd (.slice t) D' w [v] xs := by
  have hf := h.form
  rcases h with ⟨rfl, a, rfl⟩ | ⟨g, c, cs, T, fz, old, rest, rfl, h1, h2, h3, h3', h4, h5, h6⟩
  · exact ⟨a, 0, rfl, Nat.le_refl _, hl, fun h => absurd rfl h⟩
  · obtain ⟨_, c', e, hc⟩ := hf
    simp at e
    refine Rd.of_rows h6 hD (by omega) hl fun i u hi => ⟨_, rfl, rfl, hB g h1, ?_⟩
    rw [add_mk, Nat.zero_add, cell_mk h3, ← Array.getElem?_toList, h4, List.getElem?_append_left (List.getElem?_eq_some_iff.1 hi).1]
    exact hi
theorem setCells_heap {g o : Nat} {T : TypeId} {fz : Nat × Nat} : ∀ (xs : List Value) (i : Nat) (w : World) (cs : Array Value) (pre post : List Value), w.heap[g]? = some (.cells cs T fz) → cs.toList = pre ++ post → pre.length = o + i → xs.length ≤ post.length →
    ∃ cs', (setCells w ⟨g, o, none⟩ i xs).heap[g]? = some (.cells cs' T fz) ∧ cs'.toList = pre ++ xs ++ post.drop xs.length
  | [], i, w, cs, pre, post, h1, h2, _, _ => ⟨cs, h1, by simpa using h2⟩
  | v :: r, i, w, cs, pre, [], _, _, _, h4 => by simp at h4
  | v :: r, i, w, cs, pre, p :: post, h1, h2, h3, h4 => by
    have hh : (w.setCell ((⟨g, o, none⟩ : Addr).add i) v).heap[g]? = some (.cells (cs.setIfInBounds (o + i) v) T fz) := by
      rw [heap_setCell, add_mk, if_pos rfl, h1]; simp
    have hl : (cs.setIfInBounds (o + i) v).toList = (pre ++ [v]) ++ post := by
      rw [Array.toList_setIfInBounds, h2, ← h3, List.set_append_right _ _ (Nat.le_refl _)]; simp
    have hp : (pre ++ [v]).length = o + (i + 1) := by rw [List.length_append, h3]; rfl
    obtain ⟨cs', g1, g2⟩ := setCells_heap r (i + 1) _ _ (pre ++ [v]) post hh hl hp (by simpa using h4)
    exact ⟨cs', g1, by rw [g2]; simp⟩
theorem growBy_le (n : Nat) : ∀ r c m, c ≤ m → n + (n + 768) / 4 ≤ m → Builtin.growBy n r c ≤ m
  | 0, c, m, h, _ => h
  | r + 1, c, m, h, h' => by
    unfold Builtin.growBy
    split
    · exact h
    · rename_i hc
      exact growBy_le n r _ m (by omega) h'
theorem nextslicecap_le {n c : Nat} (h : c < n) : Builtin.nextslicecap n c ≤ 2 * n + 192 := by
  unfold Builtin.nextslicecap
  split
  · omega
  · split
    · omega
    · exact growBy_le n 4 c _ (by omega) (by omega)
/-- append: what is owned stays owned, and is longer. -/
theorem Own.app {t : Ty} {D : Nat → Prop} {B E size bytes : Nat} {zero : List Value} {w : World} {K : KV} {v x : Value} {xs ys : List t.D} {ds : List Value}
    (h : Own t D B w v xs) (hB : B ≤ w.heap.size) (hD : ¬ D w.heap.size) (hs : size = t.n) (hz : zero.length = t.n)
    (hx : lenV x = ys.length) (hr : reads w size ys.length x ds) (hy : RdL t D w ds ys) (hb : (2 * (xs.length + ys.length) + 192) * bytes ≤ 2 ^ 48)
    (k : ∀ v' w', Own t D B w' v' (xs ++ ys) → Fr (fun b => Blk v b ∧ B ≤ b) w w' → (∀ b, Blk v' b → Blk v b ∨ (w.heap.size ≤ b ∧ b < w'.heap.size)) → K v' w') : pApp E size bytes zero v x w K := by
  subst hs
  have grown : ∀ (n c : Nat) (a : Option Addr) (old : List Value), v = .slice a n c → n = xs.length → RdL t D w old xs → reads w t.n n v old → c < n + lenV x →
      Builtin.nextslicecap (n + lenV x) c * bytes ≤ 2 ^ 48 ∧
      ∃ old, reads w t.n n v old ∧ ∀ cap, n + lenV x ≤ cap → cap < 2 ^ 63 →
        K (.slice (some ⟨w.heap.size, 0, none⟩) (n + lenV x) cap) (w.drew.alloc (.cells (old ++ ds ++ rowOf zero (cap - (n + lenV x))).toArray E)) := by
    intro n c a old hv hn ho hold hlt
    refine ⟨Nat.le_trans (Nat.mul_le_mul_right _ (nextslicecap_le hlt)) (by rw [hx, hn]; exact hb), old, hold, fun cap hcap _ => ?_⟩
    have hE : Ext w (w.drew.alloc (.cells (old ++ ds ++ rowOf zero (cap - (n + lenV x))).toArray E)) := (Ext.drew w).tr (Ext.alloc _ _)
    have hsz : (w.drew.alloc (.cells (old ++ ds ++ rowOf zero (cap - (n + lenV x))).toArray E)).heap.size = w.heap.size + 1 := by rw [size_alloc, heap_drew]
    refine k _ _ (.inr ⟨w.heap.size, cap, _, E, (0, 0), old ++ ds, rowOf zero (cap - (n + lenV x)), ?_, hB, hD, alloc_new w.drew _, ?_, rfl, ?_, ?_⟩) (hE.mono (fun _ _ h => h.elim)) ?_
    · rw [hx, hn, List.length_append]
    · intro o _ _ h; simp at h
    · have hrow : ∀ m, (rowOf zero m).length = m * t.n := fun m => by
        induction m with
        | zero => simp [rowOf]
        | succ m ih => simp only [rowOf, List.replicate_succ, List.flatten_cons, List.length_append, hz] at ih ⊢; rw [ih, Nat.succ_mul]; omega
      simp only [List.size_toArray, List.length_append, ho.len, hy.len, hrow, hx, hn]
      rw [← Nat.add_mul, ← Nat.add_mul]; congr 1; rw [hx, hn] at hcap; omega
    · exact RdL.append (hy.imp (fun _ h => h) (fun b _ hlt => hE.keep b hlt (fun h => h))) (ho.imp (fun _ h => h) (fun b _ hlt => hE.keep b hlt (fun h => h)))
    · rintro b ⟨a', n', c', e, rfl⟩
      simp at e
      rw [← e.1]
      exact .inr ⟨Nat.le_refl _, by rw [hsz]; exact Nat.lt_succ_self _⟩
  rcases h with ⟨rfl, a, rfl⟩ | ⟨g, c, cs, T, fz, old, rest, rfl, h1, h2, h3, h3', h4, h5, h6⟩
  · refine ⟨a, 0, 0, ds, rfl, by rw [hx]; exact hr, fun hle => ?_, fun hlt => grown 0 0 a [] rfl rfl rfl ⟨by simp, fun i v hi => by simp at hi⟩ hlt⟩
    have hy0 : ys = [] := by rw [hx] at hle; exact List.length_eq_zero_iff.1 (by omega)
    subst hy0
    have hd0 : ds = [] := hy
    subst hd0
    have hkk : K (.slice a (0 + lenV x) 0) w := by
      rw [hx]
      exact k _ _ (.inl ⟨rfl, a, rfl⟩) (Fr.refl _ _) (fun b h => .inl h)
    cases a with
    | none => exact hkk
    | some ad => exact ⟨fun j v hj => by simp at hj, hkk⟩
  · have e := congrArg List.length h4
    rw [List.length_append, h6.len, Array.length_toList, h5] at e
    have hrd : ∀ i u, old[i]? = some u → w.cell? ((⟨g, 0, none⟩ : Addr).add i) = some u := fun i u hi => by
      rw [add_mk, Nat.zero_add, cell_mk h3, ← Array.getElem?_toList, h4, List.getElem?_append_left (List.getElem?_eq_some_iff.1 hi).1]; exact hi
    refine ⟨some ⟨g, 0, none⟩, xs.length, c, ds, rfl, by rw [hx]; exact hr, fun hle => ?_, fun hlt => grown _ _ _ old rfl rfl h6 ⟨h6.len, fun i u hi => ⟨_, rfl, hrd i u hi⟩⟩ hlt⟩
    rw [hx] at hle ⊢
    have hmul : (xs.length + ys.length) * t.n ≤ c * t.n := Nat.mul_le_mul_right _ hle
    rw [Nat.add_mul] at hmul
    have hdl := hy.len
    have hol := h6.len
    have hnf : ∀ o, o < cs.size → w.frozen? ⟨g, o, none⟩ = false := fun o ho => by
      simp only [World.frozen?, h3]
      rw [Bool.and_eq_false_iff]
      by_cases hf : fz.1 ≤ o
      · exact .inr (by simpa using fun hh => h3' o ho hf hh)
      · exact .inl (by simpa using hf)
    refine ⟨fun j u hj => ?_, ?_⟩
    · have hjl := (List.getElem?_eq_some_iff.1 hj).1
      have hlt : xs.length * t.n + j < cs.size := by rw [h5]; omega
      rw [add_add _ _ _ rfl, add_mk, Nat.zero_add]
      exact ⟨⟨_, by rw [cell_mk h3]; exact Array.getElem?_eq_getElem hlt⟩, hnf _ hlt, hy.allOne u (List.mem_of_getElem? hj)⟩
    · rw [add_mk, Nat.zero_add]
      obtain ⟨cs', g1, g2⟩ := setCells_heap (g := g) (o := xs.length * t.n) ds 0 w cs old rest h3 h4 (by omega) (by omega)
      have hF := Fr.setCells ⟨g, xs.length * t.n, none⟩ ds 0 w
      refine k _ _ (.inr ⟨g, c, cs', T, fz, old ++ ds, rest.drop ds.length, by rw [List.length_append], h1, h2, g1, ?_, g2, ?_, ?_⟩) (hF.mono fun b _ e => ?_) (fun b h => ?_)
      · have hcs : cs'.size = cs.size := by
          have e1 := congrArg List.length g2
          have e2 := congrArg List.length h4
          simp at e1 e2
          omega
        rw [hcs]; exact h3'
      · have e1 := congrArg List.length g2
        simp at e1
        omega
      · exact RdL.append (hy.imp (fun _ h => h) (fun b hb hlt => hF.keep b hlt (fun e => h2 (by rw [← show b = g from e]; exact hb)))) (h6.imp (fun _ h => h) (fun b hb hlt => hF.keep b hlt (fun e => h2 (by rw [← show b = g from e]; exact hb))))
      · exact ⟨⟨_, _, _, rfl, e.symm⟩, by rw [show b = g from e]; exact h1⟩
      · obtain ⟨a', n', c', e1, e2⟩ := h
        simp at e1
        exact .inl ⟨_, _, _, rfl, by rw [e1.1]; exact e2⟩
/-- append of one element that was put into a fresh row. -/
theorem reads_slice {w : World} {a : Option Addr} {n c size : Nat} {ds : List Value} (hl : ds.length = n * size) (h : ∀ i u, ds[i]? = some u → ∃ ad, a = some ad ∧ w.cell? (ad.add i) = some u) : reads w size n (.slice a n c) ds := ⟨hl, h⟩
theorem Own.push {t : Ty} {D : Nat → Prop} {B E size bytes : Nat} {zero : List Value} {w : World} {K : KV} {v : Value} {xs : List t.D} {y : t.D} {r : Nat} {cs : List Value} {T : TypeId} {fz : Nat × Nat} {c : Nat}
    (h : Own t D B w v xs) (hB : B ≤ w.heap.size) (hD : ¬ D w.heap.size) (hs : size = t.n) (hz : zero.length = t.n)
    (hr : w.heap[r]? = some (.cells cs.toArray T fz)) (hy : Rd t D w cs y) (hb : (2 * (xs.length + 1) + 192) * bytes ≤ 2 ^ 48)
    (k : ∀ v' w', Own t D B w' v' (xs ++ [y]) → Fr (fun b => Blk v b ∧ B ≤ b) w w' → (∀ b, Blk v' b → Blk v b ∨ (w.heap.size ≤ b ∧ b < w'.heap.size)) → K v' w') : pApp E size bytes zero v (.slice (some ⟨r, 0, none⟩) 1 c) w K :=
  h.app hB hD hs hz (ys := [y]) (ds := cs) rfl (reads_slice (by rw [hy.len, hs]; simp) fun i u hi => ⟨_, rfl, by rw [add_mk, cell_mk hr]; simpa using hi⟩) (RdL.single hy) hb k
/-- append of what a slice reads as. -/
theorem Own.cat {t : Ty} {D : Nat → Prop} {B E size bytes : Nat} {zero : List Value} {w : World} {K : KV} {v x : Value} {xs ys : List t.D}
    (h : Own t D B w v xs) (hB : B ≤ w.heap.size) (hD : ¬ D w.heap.size) (hs : size = t.n) (hz : zero.length = t.n)
    {D' : Nat → Prop} (hx : Rd (.slice t) D' w [x] ys) (hx' : ∀ cs, RdL t D' w cs ys → RdL t D w cs ys) (hb : (2 * (xs.length + ys.length) + 192) * bytes ≤ 2 ^ 48)
    (k : ∀ v' w', Own t D B w' v' (xs ++ ys) → Fr (fun b => Blk v b ∧ B ≤ b) w w' → (∀ b, Blk v' b → Blk v b ∨ (w.heap.size ≤ b ∧ b < w'.heap.size)) → K v' w') : pApp E size bytes zero v x w K := by
  obtain ⟨a, c, cs, rfl, h1, h2⟩ := Rd.rows hx
  exact h.app hB hD hs hz (ds := cs) rfl (reads_slice (by rw [h1.len, hs]) fun i u hi => by obtain ⟨ad, e1, _, _, e4⟩ := h2 i u hi; exact ⟨ad, e1, e4⟩) (hx' _ h1) hb k
end Go.G
