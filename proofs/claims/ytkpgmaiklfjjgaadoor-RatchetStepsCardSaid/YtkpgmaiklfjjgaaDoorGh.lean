/-
  What values read as, and what a call leaves as it was.
-/
import Derived.Test.YtkpgmaiklfjjgaaDoorGg
set_option linter.unusedSimpArgs false
set_option linter.unusedVariables false
namespace Go.G
open Go

/-! ### 1. Worlds -/
/-- But for the blocks of T, what was there is as it was. -/
structure Fr (T : Nat → Prop) (w w' : World) : Prop where
  os : w'.os = w.os
  tape : w'.tape = w.tape
  output : w'.output = w.output
  size : w.heap.size ≤ w'.heap.size
  keep : ∀ b, b < w.heap.size → ¬ T b → w'.heap[b]? = w.heap[b]?
/-- All that was there is as it was. -/
abbrev Ext (w w' : World) : Prop := Fr (fun _ => False) w w'
theorem Fr.refl (T : Nat → Prop) (w : World) : Fr T w w := ⟨rfl, rfl, rfl, Nat.le_refl _, fun _ _ _ => rfl⟩
theorem Fr.trans {T T' : Nat → Prop} {a b c : World} (h : Fr T a b) (k : Fr T' b c) (hT : ∀ x, x < a.heap.size → T' x → T x) : Fr T a c :=
  ⟨k.os.trans h.os, k.tape.trans h.tape, k.output.trans h.output, Nat.le_trans h.size k.size, fun x hx hn => (k.keep x (Nat.lt_of_lt_of_le hx h.size) (fun ht => hn (hT x hx ht))).trans (h.keep x hx hn)⟩
theorem Fr.mono {T T' : Nat → Prop} {w w' : World} (h : Fr T w w') (hT : ∀ x, x < w.heap.size → T x → T' x) : Fr T' w w' :=
  ⟨h.os, h.tape, h.output, h.size, fun x hx hn => h.keep x hx (fun ht => hn (hT x hx ht))⟩
theorem Ext.tr {a b c : World} (h : Ext a b) (k : Ext b c) : Ext a c := Fr.trans h k (fun _ _ h => h)
/-- A step that only turns what was made since a. -/
theorem Ext.tn {a b c : World} {T : Nat → Prop} (h : Ext a b) (k : Fr T b c) (hT : ∀ x, T x → a.heap.size ≤ x) : Ext a c :=
  Fr.trans h k (fun x hx ht => by have := hT x ht; omega)
theorem Ext.drew (w : World) : Ext w w.drew := ⟨rfl, rfl, rfl, Nat.le_refl _, fun _ _ _ => rfl⟩
theorem heap_alloc (w : World) (o : Obj) : (w.alloc o).heap = w.heap.push o := rfl
theorem heap_drew (w : World) : w.drew.heap = w.heap := rfl
theorem Ext.alloc (w : World) (o : Obj) : Ext w (w.alloc o) :=
  ⟨rfl, rfl, rfl, by simp [heap_alloc], fun b hb _ => by rw [heap_alloc, Array.getElem?_push, if_neg (by omega)]⟩
theorem alloc_new (w : World) (o : Obj) : (w.alloc o).heap[w.heap.size]? = some o := by rw [heap_alloc]; simp
theorem size_alloc (w : World) (o : Obj) : (w.alloc o).heap.size = w.heap.size + 1 := by simp [heap_alloc]
theorem Fr.setCell (w : World) (a : Addr) (v : Value) : Fr (· = a.block) w (w.setCell a v) :=
  ⟨rfl, rfl, rfl, by simp [World.setCell], fun b _ hn => by rw [heap_setCell, if_neg (fun e => hn e.symm)]⟩
theorem Fr.setCells (a : Addr) : ∀ (xs : List Value) (i : Nat) (w : World), Fr (· = a.block) w (setCells w a i xs)
  | [], _, w => Fr.refl _ w
  | v :: r, i, w => by
    have h1 := Fr.setCell w (a.add i) v
    have hb : (a.add i).block = a.block := by unfold Addr.add; split <;> rfl
    rw [hb] at h1
    exact h1.trans (Fr.setCells a r (i + 1) _) (fun _ _ h => h)
theorem cell_lt {w : World} {a : Addr} {v : Value} (h : w.cell? a = some v) : a.block < w.heap.size := by
  unfold World.cell? at h
  split at h
  · rename_i h1; exact (Array.getElem?_eq_some_iff.1 h1).1
  · cases h
theorem cell_congr {w w' : World} {a : Addr} (h : w'.heap[a.block]? = w.heap[a.block]?) : w'.cell? a = w.cell? a := by unfold World.cell?; rw [h]
theorem Fr.cell {T : Nat → Prop} {w w' : World} (h : Fr T w w') {a : Addr} {v : Value} (hc : w.cell? a = some v) (hT : ¬ T a.block) : w'.cell? a = some v := by
  rw [cell_congr (h.keep _ (cell_lt hc) hT)]; exact hc
theorem Ext.cell {w w' : World} (h : Ext w w') {a : Addr} {v : Value} (hc : w.cell? a = some v) : w'.cell? a = some v := Fr.cell h hc (fun h => h)
theorem heap_lt {w : World} {b : Nat} {o : Obj} (h : w.heap[b]? = some o) : b < w.heap.size := (Array.getElem?_eq_some_iff.1 h).1
theorem Fr.heap {T : Nat → Prop} {w w' : World} (h : Fr T w w') {b : Nat} {o : Obj} (hc : w.heap[b]? = some o) (hT : ¬ T b) : w'.heap[b]? = some o := by
  rw [h.keep _ (heap_lt hc) hT]; exact hc
theorem add_add (a : Addr) (i j : Nat) (h : a.spot = none) : (a.add i).add j = a.add (i + j) := by
  obtain ⟨b, o, s⟩ := a
  simp only at h
  subst h
  unfold Addr.add
  by_cases h1 : i = 0
  · simp [h1]
  · by_cases h2 : j = 0
    · simp [h1, h2]
    · simp [h1, h2, show ¬ i + j = 0 by omega]; omega
theorem add_block (a : Addr) (i : Nat) : (a.add i).block = a.block := by unfold Addr.add; split <;> rfl
theorem add_spot (a : Addr) (i : Nat) (h : a.spot = none) : (a.add i).spot = none := by unfold Addr.add; split <;> simp [h]
theorem add_mk (b o i : Nat) : (⟨b, o, none⟩ : Addr).add i = ⟨b, o + i, none⟩ := by
  unfold Addr.add; split <;> simp_all
theorem cell_mk {w : World} {b o : Nat} {cs : Array Value} {T : TypeId} {fz : Nat × Nat} (h : w.heap[b]? = some (.cells cs T fz)) : w.cell? ⟨b, o, none⟩ = cs[o]? := by
  simp [World.cell?, h]

/-! ### 2. What values read as -/
inductive Ty where
  | int (k : IntKind) | byte | bool | str | slice (t : Ty) | pair (a b : Ty)
def Ty.n : Ty → Nat
  | .pair a b => a.n + b.n
  | _ => 1
@[reducible] def Ty.D : Ty → Type
  | .int _ => Int
  | .byte => UInt8
  | .bool => Bool
  | .str => List UInt8
  | .slice t => List t.D
  | .pair a b => a.D × b.D
/-- The cells vs read as x, all that is read by the way lying in blocks of D. -/
def Rd : (t : Ty) → (Nat → Prop) → World → List Value → t.D → Prop
  | .int k, _, _, vs, n => vs = [.int k n] ∧ k.min ≤ n ∧ n ≤ k.max
  | .byte, _, _, vs, b => vs = [.int .u8 (b.toNat : Int)]
  | .bool, _, _, vs, b => vs = [.bool b]
  | .str, _, _, vs, l => vs = [.string ⟨l.toArray⟩] ∧ l.length < 9223372036854775808
  | .slice t, D, w, vs, xs => ∃ a c, vs = [.slice a xs.length c] ∧ xs.length ≤ c ∧ xs.length < 9223372036854775808 ∧ (xs ≠ [] → ∃ ad : Addr, a = some ad ∧ ad.spot = none ∧ D ad.block ∧
      ∀ i (hi : i < xs.length), ∃ cs : List Value, cs.length = t.n ∧ (∀ j v, cs[j]? = some v → w.cell? (ad.add (i * t.n + j)) = some v) ∧ Rd t D w cs xs[i])
  | .pair a b, D, w, vs, x => ∃ va vb, vs = va ++ vb ∧ va.length = a.n ∧ vb.length = b.n ∧ Rd a D w va x.1 ∧ Rd b D w vb x.2
/-- A value that reads as x. -/
def RdV (t : Ty) (D : Nat → Prop) (w : World) (v : Value) (x : t.D) : Prop := Rd t D w v.cells.toList x
/-- At an address a value lies that reads as x. -/
def At (t : Ty) (D : Nat → Prop) (w : World) (ad : Addr) (x : t.D) : Prop :=
  ad.spot = none ∧ ∃ cs : List Value, cs.length = t.n ∧ (∀ j v, cs[j]? = some v → w.cell? (ad.add j) = some v) ∧ Rd t D w cs x
theorem Rd.len : ∀ {t : Ty} {D : Nat → Prop} {w : World} {vs : List Value} {x : t.D}, Rd t D w vs x → vs.length = t.n
  | .int _, _, _, _, _, h => by rw [h.1]; rfl
  | .byte, _, _, _, _, h => by rw [show _ = _ from h]; rfl
  | .bool, _, _, _, _, h => by rw [show _ = _ from h]; rfl
  | .str, _, _, _, _, h => by rw [h.1]; rfl
  | .slice _, _, _, _, _, h => by obtain ⟨a, c, rfl, _⟩ := h; rfl
  | .pair a b, _, _, _, _, h => by obtain ⟨va, vb, rfl, h1, h2, _⟩ := h; simp [Ty.n, h1, h2]
theorem Rd.imp : ∀ {t : Ty} {D D' : Nat → Prop} {w w' : World} {vs : List Value} {x : t.D}, Rd t D w vs x → (∀ b, D b → D' b) →
    (∀ b, D b → b < w.heap.size → w'.heap[b]? = w.heap[b]?) → Rd t D' w' vs x
  | .int _, _, _, _, _, _, _, h, _, _ => h
  | .byte, _, _, _, _, _, _, h, _, _ => h
  | .bool, _, _, _, _, _, _, h, _, _ => h
  | .str, _, _, _, _, _, _, h, _, _ => h
  | .slice t, D, D', w, w', vs, xs, h, hD, hw => by
    obtain ⟨a, c, h1, h2, h3, h4⟩ := h
    refine ⟨a, c, h1, h2, h3, fun hne => ?_⟩
    obtain ⟨ad, g1, g2, g3, g4⟩ := h4 hne
    refine ⟨ad, g1, g2, hD _ g3, fun i hi => ?_⟩
    obtain ⟨cs, k1, k2, k3⟩ := g4 i hi
    refine ⟨cs, k1, fun j v hj => ?_, k3.imp hD hw⟩
    have := k2 j v hj
    rw [cell_congr (hw _ (by rw [add_block]; exact g3) (cell_lt this))]
    exact this
  | .pair a b, _, _, _, _, _, _, h, hD, hw => by
    obtain ⟨va, vb, h1, h2, h3, h4, h5⟩ := h
    exact ⟨va, vb, h1, h2, h3, h4.imp hD hw, h5.imp hD hw⟩
theorem Rd.fr {t : Ty} {D T : Nat → Prop} {w w' : World} {vs : List Value} {x : t.D} (h : Rd t D w vs x) (hf : Fr T w w') (hT : ∀ b, D b → ¬ T b) : Rd t D w' vs x :=
  h.imp (fun _ h => h) (fun b hb hlt => hf.keep b hlt (hT b hb))
theorem Rd.ext {t : Ty} {D : Nat → Prop} {w w' : World} {vs : List Value} {x : t.D} (h : Rd t D w vs x) (hf : Ext w w') : Rd t D w' vs x := h.fr hf (fun _ _ h => h)
theorem Rd.wide {t : Ty} {D D' : Nat → Prop} {w : World} {vs : List Value} {x : t.D} (h : Rd t D w vs x) (hD : ∀ b, D b → D' b) : Rd t D' w vs x := h.imp hD (fun _ _ _ => rfl)
theorem RdV.fr {t : Ty} {D T : Nat → Prop} {w w' : World} {v : Value} {x : t.D} (h : RdV t D w v x) (hf : Fr T w w') (hT : ∀ b, D b → ¬ T b) : RdV t D w' v x := Rd.fr h hf hT
theorem RdV.ext {t : Ty} {D : Nat → Prop} {w w' : World} {v : Value} {x : t.D} (h : RdV t D w v x) (hf : Ext w w') : RdV t D w' v x := Rd.ext h hf
theorem RdV.wide {t : Ty} {D D' : Nat → Prop} {w : World} {v : Value} {x : t.D} (h : RdV t D w v x) (hD : ∀ b, D b → D' b) : RdV t D' w v x := Rd.wide h hD
theorem At.fr {t : Ty} {D T : Nat → Prop} {w w' : World} {ad : Addr} {x : t.D} (h : At t D w ad x) (hf : Fr T w w') (ha : ¬ T ad.block) (hT : ∀ b, D b → ¬ T b) : At t D w' ad x := by
  obtain ⟨h0, cs, h1, h2, h3⟩ := h
  exact ⟨h0, cs, h1, fun j v hj => hf.cell (h2 j v hj) (by rw [add_block]; exact ha), h3.fr hf hT⟩
theorem At.ext {t : Ty} {D : Nat → Prop} {w w' : World} {ad : Addr} {x : t.D} (h : At t D w ad x) (hf : Ext w w') : At t D w' ad x := h.fr hf (fun h => h) (fun _ _ h => h)
theorem At.fst {a b : Ty} {D : Nat → Prop} {w : World} {ad : Addr} {x : a.D × b.D} (h : At (.pair a b) D w ad x) : At a D w ad x.1 := by
  obtain ⟨h0, cs, h1, h2, va, vb, rfl, g1, g2, g3, g4⟩ := h
  exact ⟨h0, va, g1, fun j v hj => h2 j v (by rw [List.getElem?_append_left (List.getElem?_eq_some_iff.1 hj).1]; exact hj), g3⟩
theorem At.snd {a b : Ty} {D : Nat → Prop} {w : World} {ad : Addr} {x : a.D × b.D} (h : At (.pair a b) D w ad x) : At b D w (ad.add a.n) x.2 := by
  obtain ⟨h0, cs, h1, h2, va, vb, rfl, g1, g2, g3, g4⟩ := h
  refine ⟨add_spot _ _ h0, vb, g2, fun j v hj => ?_, g4⟩
  rw [add_add _ _ _ h0]
  exact h2 _ v (by rw [List.getElem?_append_right (by omega)]; rw [g1]; simpa using hj)
/-- A cell at an address. -/
theorem At.cell {t : Ty} {D : Nat → Prop} {w : World} {ad : Addr} {x : t.D} (h : At t D w ad x) (hn : t.n = 1) : ∃ v, w.cell? ad = some v ∧ Rd t D w [v] x := by
  obtain ⟨h0, cs, h1, h2, h3⟩ := h
  match cs, h1.trans hn with
  | [v], _ => exact ⟨v, by have := h2 0 v rfl; rwa [add_zero] at this, h3⟩
/-- What lies at a place of a slice. -/
theorem Rd.at_ {t : Ty} {D : Nat → Prop} {w : World} {v : Value} {xs : List t.D} (h : Rd (.slice t) D w [v] xs) {i : Nat} (hi : i < xs.length) :
    ∃ ad c, v = .slice (some ad) xs.length c ∧ ad.spot = none ∧ D ad.block ∧ At t D w (ad.add (i * t.n)) xs[i] := by
  obtain ⟨a, c, h1, h2, h3, h4⟩ := h
  obtain ⟨ad, rfl, g2, g3, g4⟩ := h4 (by intro e; subst e; simp at hi)
  obtain ⟨cs, k1, k2, k3⟩ := g4 i hi
  refine ⟨ad, c, by simpa using h1, g2, g3, add_spot _ _ g2, cs, k1, fun j u hj => ?_, k3⟩
  rw [add_add _ _ _ g2]
  exact k2 j u hj
theorem Rd.form {t : Ty} {D : Nat → Prop} {w : World} {v : Value} {xs : List t.D} (h : Rd (.slice t) D w [v] xs) : ∃ a c, v = .slice a xs.length c ∧ xs.length ≤ c ∧ xs.length < 9223372036854775808 := by
  obtain ⟨a, c, h1, h2, h3, _⟩ := h
  exact ⟨a, c, by simpa using h1, h2, h3⟩
theorem RdV.of_cell {t : Ty} {D : Nat → Prop} {w : World} {v : Value} {x : t.D} (h : Rd t D w [v] x) (hv : one v = true) : RdV t D w v x := by
  unfold RdV
  rw [one_cells hv]
  exact h
theorem Rd.isOne : ∀ {t : Ty} {D : Nat → Prop} {w : World} {v : Value} {x : t.D}, Rd t D w [v] x → (∀ a b, t ≠ .pair a b) → one v = true
  | .int _, _, _, _, _, h, _ => by have := h.1; simp at this; subst this; rfl
  | .byte, _, _, _, _, h, _ => by have : _ = _ := h; simp at this; subst this; rfl
  | .bool, _, _, _, _, h, _ => by have : _ = _ := h; simp at this; subst this; rfl
  | .str, _, _, _, _, h, _ => by have := h.1; simp at this; subst this; rfl
  | .slice _, _, _, _, _, h, _ => by obtain ⟨a, c, h1, _⟩ := h; simp at h1; subst h1; rfl
  | .pair a b, _, _, _, _, _, h => absurd rfl (h a b)
theorem Rd.allOne : ∀ {t : Ty} {D : Nat → Prop} {w : World} {vs : List Value} {x : t.D}, Rd t D w vs x → ∀ v ∈ vs, one v = true
  | .int _, _, _, _, _, h, v, hv => by rw [h.1] at hv; simp at hv; subst hv; rfl
  | .byte, _, _, _, _, h, v, hv => by rw [show _ = _ from h] at hv; simp at hv; subst hv; rfl
  | .bool, _, _, _, _, h, v, hv => by rw [show _ = _ from h] at hv; simp at hv; subst hv; rfl
  | .str, _, _, _, _, h, v, hv => by rw [h.1] at hv; simp at hv; subst hv; rfl
  | .slice _, _, _, _, _, h, v, hv => by obtain ⟨a, c, h1, _⟩ := h; rw [h1] at hv; simp at hv; subst hv; rfl
  | .pair a b, _, _, _, _, h, v, hv => by
    obtain ⟨va, vb, rfl, _, _, h1, h2⟩ := h
    rcases List.mem_append.1 hv with hv | hv
    · exact h1.allOne v hv
    · exact h2.allOne v hv
end Go.G
