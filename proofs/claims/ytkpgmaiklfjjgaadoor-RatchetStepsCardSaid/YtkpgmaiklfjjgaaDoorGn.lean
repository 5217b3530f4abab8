/-
  Parts of slices, new slices of zeros, texts of bytes.
-/
import Derived.Test.YtkpgmaiklfjjgaaDoorGl
import Derived.Laws.Strings
set_option linter.unusedSimpArgs false
set_option linter.unusedVariables false
namespace Go.G
open Go
/-- A part of a slice. -/
theorem Rd.cut {t : Ty} {D : Nat → Prop} {w : World} {a : Option Addr} {n c : Nat} {xs : List t.D} (h : Rd (.slice t) D w [.slice a n c] xs) {l e m : Nat} (hl : l ≤ e) (he : e ≤ n) (hm : e ≤ m) (hmc : m ≤ c) :
    Rd (.slice t) D w [.slice (if m = l then a else a.map (·.add (l * t.n))) (e - l) (m - l)] ((xs.take e).drop l) := by
  obtain ⟨a', c', h1, h2, h3, h4⟩ := h
  simp only [List.cons.injEq, Value.slice.injEq, and_true] at h1
  obtain ⟨rfl, rfl, rfl⟩ := h1
  have hlen : ((xs.take e).drop l).length = e - l := by simp; omega
  refine ⟨_, m - l, by rw [hlen], by omega, by omega, fun hne => ?_⟩
  have hpos : 0 < ((xs.take e).drop l).length := List.length_pos_iff.2 hne
  obtain ⟨ad, rfl, g2, g3, g4⟩ := h4 (by intro e'; subst e'; simp at hpos)
  refine ⟨ad.add (l * t.n), by rw [if_neg (by omega)]; rfl, add_spot _ _ g2, by rw [add_block]; exact g3, fun i hi => ?_⟩
  obtain ⟨cs, k1, k2, k3⟩ := g4 (l + i) (by omega)
  refine ⟨cs, k1, fun j v hj => ?_, ?_⟩
  · rw [add_add _ _ _ g2, show l * t.n + (i * t.n + j) = (l + i) * t.n + j by rw [Nat.add_mul]; omega]
    exact k2 j v hj
  · have : ((xs.take e).drop l)[i] = xs[l + i]'(by omega) := by simp
    rw [this]; exact k3
theorem RdL.rep {t : Ty} {D : Nat → Prop} {w : World} {zero : List Value} {z : t.D} (h : Rd t D w zero z) : ∀ n, RdL t D w (rowOf zero n) (List.replicate n z)
  | 0 => rfl
  | n + 1 => ⟨zero, rowOf zero n, by simp [rowOf, List.replicate_succ], h, RdL.rep h n⟩
/-- make([]T, n) -/
theorem make_ {t : Ty} {D : Nat → Prop} {B E bytes n : Nat} {zero : List Value} {z : t.D} {w : World} {K : KV} (hn : n < 4611686018427387904) (hb : (bytes : Int) * n ≤ 2 ^ 48) (hz : ∀ w, Rd t D w zero z) (hB : B ≤ w.heap.size) (hD : ¬ D w.heap.size)
    (k : ∀ g w', w.heap.size = g → Ext w w' → w'.heap.size = g + 1 → Own t D B w' (.slice (some ⟨g, 0, none⟩) n n) (List.replicate n z) → K (.slice (some ⟨g, 0, none⟩) n n) w') : pMake E bytes zero (.int .i64 n) (.int .i64 n) w K := by
  refine ⟨.i64, .i64, n, n, rfl, rfl, by omega, Int.le_refl _, by omega, hb, ?_⟩
  have hl : ∀ m, (rowOf zero m).length = m * t.n := fun m => by
    have := (RdL.rep (hz w) m).len; simpa using this
  refine k _ _ rfl (Ext.alloc w _) (size_alloc w _) (.inr ⟨w.heap.size, n, _, E, (0, 0), rowOf zero n, [], by simp, hB, hD, alloc_new w _, fun o _ _ h => by simp at h, by simp, by simp [hl], RdL.rep (hz _) n⟩)
theorem strOf {S : World → Prop} {D : Nat → Prop} {w : World} {x : Value} {bs : List UInt8} {K : KP} (hS : ∀ w', S w' → Rd (.slice .byte) D w' [x] bs) (hw : S w) (k : K (.string ⟨bs.toArray⟩)) : pStrOf S x K := by
  obtain ⟨a, c, e, _, _, _⟩ := hS w hw
  simp only [List.cons.injEq, and_true] at e
  refine ⟨a, _, c, e, bs, rfl, fun i b hi => ?_, k⟩
  have hlt := (List.getElem?_eq_some_iff.1 hi).1
  have hne : bs ≠ [] := by intro e'; subst e'; simp at hlt
  have key : ∀ w', S w' → ∃ ad, a = some ad ∧ w'.cell? (ad.add i) = some (.int .u8 b.toNat) := fun w' hw' => by
    obtain ⟨ad, c', u, e', _, _, h5, h6⟩ := (hS w' hw').idx rfl hlt
    rw [e] at e'
    simp only [Value.slice.injEq] at e'
    have hu : [u] = [Value.int .u8 (bs[i].toNat : Int)] := h6
    simp only [List.cons.injEq, and_true] at hu
    have hbi : bs[i] = b := by rw [List.getElem?_eq_getElem hlt] at hi; simpa using hi
    exact ⟨ad, e'.1, by rw [h5, hu, hbi]⟩
  obtain ⟨ad, h1, _⟩ := key w hw
  refine ⟨ad, h1, fun w' hw' => ?_⟩
  obtain ⟨ad', h1', h2'⟩ := key w' hw'
  rw [h1] at h1'; cases h1'
  exact h2'
theorem bytes_toList (l : List UInt8) : (⟨l.toArray⟩ : ByteArray).toList = l := by
  rw [ByteArray.toList_eq]
end Go.G
