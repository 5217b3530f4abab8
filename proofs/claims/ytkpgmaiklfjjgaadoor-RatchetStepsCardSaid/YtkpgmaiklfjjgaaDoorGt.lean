/-
  Bytes in a block's cells; what is copied into a block.
-/
import Derived.Test.YtkpgmaiklfjjgaaDoorGs
set_option linter.unusedSimpArgs false
set_option linter.unusedVariables false
namespace Go.G
open Go
variable {w : World} {g : Nat} {l : List Value} {D : Nat → Prop}
def bv (l : List UInt8) : List Value := l.map fun b => .int .u8 (b.toNat : Int)
theorem bv_len (l : List UInt8) : (bv l).length = l.length := by simp [bv]
theorem bv_get {l : List UInt8} {i : Nat} (h : i < l.length) : (bv l)[i]? = some (.int .u8 (l[i].toNat : Int)) := by simp [bv, h]
theorem bv_one (l : List UInt8) : ∀ v ∈ bv l, one v = true := fun v hv => by
  obtain ⟨x, _, rfl⟩ := List.mem_map.1 hv; rfl
theorem bv_rows (D : Nat → Prop) (w : World) : ∀ l : List UInt8, RdL .byte D w (bv l) l
  | [] => rfl
  | x :: r => ⟨[.int .u8 (x.toNat : Int)], bv r, rfl, rfl, bv_rows D w r⟩
theorem rows_bv {D : Nat → Prop} {w : World} : ∀ {l : List UInt8} {cs : List Value}, RdL .byte D w cs l → cs = bv l
  | [], _, h => h
  | x :: r, _, ⟨a, b, h1, h2, h3⟩ => by
    have e1 : a = [.int .u8 (x.toNat : Int)] := h2
    rw [h1, e1, rows_bv h3]; rfl
theorem bv_zero (n : Nat) : rowOf [Value.int .u8 0] n = bv (List.replicate n 0) := by
  induction n with
  | zero => rfl
  | succ n ih =>
    have : rowOf [Value.int .u8 0] (n + 1) = Value.int .u8 0 :: rowOf [Value.int .u8 0] n := by simp [rowOf, List.replicate_succ]
    rw [this, ih]; rfl
/-- What is read of bytes. -/
theorem reads_bv {v : Value} {ys : List UInt8} {k : Nat} (h : Rd (.slice .byte) D w [v] ys) (hk : k ≤ ys.length) : reads w 1 k v (bv (ys.take k)) := by
  obtain ⟨a, c, e, hc, hl⟩ := h.form
  subst e
  refine ⟨by rw [bv_len, List.length_take, Nat.min_eq_left hk, Nat.mul_one], fun i u hi => ?_⟩
  have hlt : i < k := by
    have := (List.getElem?_eq_some_iff.1 hi).1
    rw [bv_len, List.length_take] at this; omega
  obtain ⟨ad, c', u', e', _, _, h5, h6⟩ := h.idx rfl (i := i) (by omega)
  simp only [Value.slice.injEq] at e'
  have hu : [u'] = [Value.int .u8 (ys[i].toNat : Int)] := h6
  simp only [List.cons.injEq, and_true] at hu
  rw [bv_get (by rw [List.length_take]; omega)] at hi
  refine ⟨ad, e'.1, ?_⟩
  rw [h5, hu, ← hi]; simp
/-- What is read of a block's cells. -/
theorem Cs.reads {n c k o : Nat} (h : Cs w g l) (hk : o + k ≤ l.length) : reads w 1 k (.slice (some ⟨g, o, none⟩) n c) ((l.drop o).take k) := by
  refine ⟨by rw [List.length_take, List.length_drop]; omega, fun i u hi => ⟨_, rfl, ?_⟩⟩
  rw [add_mk, h.c, ← hi]
  have hlt : i < k := by
    have := (List.getElem?_eq_some_iff.1 hi).1
    rw [List.length_take] at this; omega
  rw [List.getElem?_take, if_pos hlt, List.getElem?_drop]
/-- copy(b[o:], x) -/
theorem Cs.copy {o n c k : Nat} {xs : List Value} {x : Value} {K : KV} (h : Cs w g l) (hk : min (lenV x) n = k) (hr : Go.G.reads w 1 k x xs) (hx : xs.length = k) (hl : o + k ≤ l.length) (ho : ∀ v ∈ xs, one v = true)
    (K_ : ∀ w', Cs w' g (l.take o ++ xs ++ l.drop (o + k)) → Fr (· = g) w w' → K (.int .i64 k) w') : pCopy 1 (.slice (some ⟨g, o, none⟩) n c) x w K := by
  have hc := h.c
  obtain ⟨T, h⟩ := h
  subst hk
  refine ⟨_, n, c, xs, rfl, hr, fun j v hj => ?_, K_ _ ?_ (Fr.setCells ⟨g, o, none⟩ xs 0 w)⟩
  · have hjl := (List.getElem?_eq_some_iff.1 hj).1
    rw [add_mk]
    exact ⟨⟨_, by rw [hc]; exact List.getElem?_eq_getElem (by omega)⟩, by simp [World.frozen?, h], ho v (List.mem_of_getElem? hj)⟩
  · obtain ⟨cs', g1, g2⟩ := setCells_heap (g := g) (o := o) xs 0 w ⟨l⟩ (l.take o) (l.drop o) h (by simp) (by rw [List.length_take]; omega) (by rw [List.length_drop]; omega)
    refine ⟨T, ?_⟩
    rw [g1]
    have : cs' = ⟨l.take o ++ xs ++ l.drop (o + min (lenV x) n)⟩ := by
      apply Array.ext'
      rw [g2, List.drop_drop, hx]
    rw [this]
/-- A block of bytes that the call owns. -/
theorem Cs.own {B n c : Nat} {xs : List UInt8} {rest : List Value} (h : Cs w g (bv xs ++ rest)) (hB : B ≤ g) (hD : ¬ D g) (hn : xs.length = n) (hc : n + rest.length = c) : Own .byte D B w (.slice (some ⟨g, 0, none⟩) n c) xs := by
  obtain ⟨T, h⟩ := h
  subst hn
  refine .inr ⟨g, c, _, T, (0, 0), bv xs, rest, rfl, hB, hD, h, fun o _ _ h => by simp at h, rfl, ?_, bv_rows D w xs⟩
  show (bv xs ++ rest).length = c * 1
  rw [List.length_append, bv_len]; omega
/-- make([]byte, n), as a block. -/
theorem makeB {E n : Nat} {K : KV} (hn : n ≤ 1000000) (k : ∀ g w', w.heap.size = g → Ext w w' → Cs w' g (bv (List.replicate n 0)) → K (.slice (some ⟨g, 0, none⟩) n n) w') : pMake E 1 [.int .u8 0] (.int .i64 n) (.int .i64 n) w K := by
  refine ⟨.i64, .i64, n, n, rfl, rfl, by omega, Int.le_refl _, by omega, by omega, ?_⟩
  refine k _ _ rfl (Ext.alloc w _) ⟨E, ?_⟩
  rw [alloc_new, Int.toNat_natCast, bv_zero]
theorem u8_of (m : Nat) : (m : Int) % 256 = ((UInt8.ofNat m).toNat : Int) := by
  rw [UInt8.toNat_ofNat']; omega
theorem set_mid {l1 l2 : List UInt8} {x y : UInt8} {i : Nat} (h : l1.length = i) : (l1 ++ x :: l2).set i y = l1 ++ y :: l2 := by
  subst h; simp
end Go.G
