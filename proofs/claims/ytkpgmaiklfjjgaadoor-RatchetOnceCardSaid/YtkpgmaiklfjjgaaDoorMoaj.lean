/-
  What values read as, and what a call leaves as it was.
  One step at a time: what each word asks where its arguments are known, and slices that a call owns.
  Slices that a call owns, and what append does to them.
-/
import Derived.Test.YtkpgmaiklfjjgaaDoorMoai
section
set_option linter.unusedSimpArgs false
set_option linter.unusedVariables false
namespace Go.G
open Go

/-! ### 1. Worlds -/
/-- But for the blocks of T, what was there is as it was. -/
structure Fr (T : Nat → Prop) (w w' : World) : Prop where
  os : w'.os = w.os
  tape : w'.tape = w.tape
  output : w'.output = w.output
  size : w.heap.size ≤ w'.heap.size
  keep : ∀ b, b < w.heap.size → ¬ T b → w'.heap[b]? = w.heap[b]?
/-- All that was there is as it was. -/
abbrev Ext (w w' : World) : Prop := Fr (fun _ => False) w w'
theorem Fr.refl (T : Nat → Prop) (w : World) : Fr T w w := ⟨rfl, rfl, rfl, Nat.le_refl _, fun _ _ _ => rfl⟩
theorem Fr.trans {T T' : Nat → Prop} {a b c : World} (h : Fr T a b) (k : Fr T' b c) (hT : ∀ x, x < a.heap.size → T' x → T x) : Fr T a c :=
  ⟨k.os.trans h.os, k.tape.trans h.tape, k.output.trans h.output, Nat.le_trans h.size k.size, fun x hx hn => (k.keep x (Nat.lt_of_lt_of_le hx h.size) (fun ht => hn (hT x hx ht))).trans (h.keep x hx hn)⟩
theorem Fr.mono {T T' : Nat → Prop} {w w' : World} (h : Fr T w w') (hT : ∀ x, x < w.heap.size → T x → T' x) : Fr T' w w' :=
  ⟨h.os, h.tape, h.output, h.size, fun x hx hn => h.keep x hx (fun ht => hn (hT x hx ht))⟩
theorem Ext.tr {a b c : World} (h : Ext a b) (k : Ext b c) : Ext a c := Fr.trans h k (fun _ _ h => h)
/-- A step that only turns what was made since a. -/
theorem Ext.tn {a b c : World} {T : Nat → Prop} (h : Ext a b) (k : Fr T b c) (hT : ∀ x, T x → a.heap.size ≤ x) : Ext a c :=
  Fr.trans h k (fun x hx ht => by have := hT x ht; omega)
theorem Ext.drew (w : World) : Ext w w.drew := ⟨rfl, rfl, rfl, Nat.le_refl _, fun _ _ _ => rfl⟩
theorem heap_alloc (w : World) (o : Obj) : (w.alloc o).heap = w.heap.push o := rfl
theorem heap_drew (w : World) : w.drew.heap = w.heap := rfl
theorem Ext.alloc (w : World) (o : Obj) : Ext w (w.alloc o) :=
  ⟨rfl, rfl, rfl, by simp [heap_alloc], fun b hb _ => by rw [heap_alloc, Array.getElem?_push, if_neg (by omega)]⟩
theorem alloc_new (w : World) (o : Obj) : (w.alloc o).heap[w.heap.size]? = some o := by rw [heap_alloc]; simp
theorem size_alloc (w : World) (o : Obj) : (w.alloc o).heap.size = w.heap.size + 1 := by simp [heap_alloc]
theorem Fr.setCell (w : World) (a : Addr) (v : Value) : Fr (· = a.block) w (w.setCell a v) :=
  ⟨rfl, rfl, rfl, by simp [World.setCell], fun b _ hn => by rw [heap_setCell, if_neg (fun e => hn e.symm)]⟩
theorem Fr.setCells (a : Addr) : ∀ (xs : List Value) (i : Nat) (w : World), Fr (· = a.block) w (setCells w a i xs)
  | [], _, w => Fr.refl _ w
  | v :: r, i, w => by
    have h1 := Fr.setCell w (a.add i) v
    have hb : (a.add i).block = a.block := by unfold Addr.add; split <;> rfl
    rw [hb] at h1
    exact h1.trans (Fr.setCells a r (i + 1) _) (fun _ _ h => h)
theorem cell_lt {w : World} {a : Addr} {v : Value} (h : w.cell? a = some v) : a.block < w.heap.size := by
  unfold World.cell? at h
  split at h
  · rename_i h1; exact (Array.getElem?_eq_some_iff.1 h1).1
  · cases h
theorem cell_congr {w w' : World} {a : Addr} (h : w'.heap[a.block]? = w.heap[a.block]?) : w'.cell? a = w.cell? a := by unfold World.cell?; rw [h]
theorem Fr.cell {T : Nat → Prop} {w w' : World} (h : Fr T w w') {a : Addr} {v : Value} (hc : w.cell? a = some v) (hT : ¬ T a.block) : w'.cell? a = some v := by
  rw [cell_congr (h.keep _ (cell_lt hc) hT)]; exact hc
theorem Ext.cell {w w' : World} (h : Ext w w') {a : Addr} {v : Value} (hc : w.cell? a = some v) : w'.cell? a = some v := Fr.cell h hc (fun h => h)
theorem heap_lt {w : World} {b : Nat} {o : Obj} (h : w.heap[b]? = some o) : b < w.heap.size := (Array.getElem?_eq_some_iff.1 h).1
theorem Fr.heap {T : Nat → Prop} {w w' : World} (h : Fr T w w') {b : Nat} {o : Obj} (hc : w.heap[b]? = some o) (hT : ¬ T b) : w'.heap[b]? = some o := by
  rw [h.keep _ (heap_lt hc) hT]; exact hc
theorem add_add (a : Addr) (i j : Nat) (h : a.spot = none) : (a.add i).add j = a.add (i + j) := by
  obtain ⟨b, o, s⟩ := a
  simp only at h
  subst h
  unfold Addr.add
  by_cases h1 : i = 0
  · simp [h1]
  · by_cases h2 : j = 0
    · simp [h1, h2]
    · simp [h1, h2, show ¬ i + j = 0 by omega]; omega
theorem add_block (a : Addr) (i : Nat) : (a.add i).block = a.block := by unfold Addr.add; split <;> rfl
theorem add_spot (a : Addr) (i : Nat) (h : a.spot = none) : (a.add i).spot = none := by unfold Addr.add; split <;> simp [h]
theorem add_mk (b o i : Nat) : (⟨b, o, none⟩ : Addr).add i = ⟨b, o + i, none⟩ := by
  unfold Addr.add; split <;> simp_all
theorem cell_mk {w : World} {b o : Nat} {cs : Array Value} {T : TypeId} {fz : Nat × Nat} (h : w.heap[b]? = some (.cells cs T fz)) : w.cell? ⟨b, o, none⟩ = cs[o]? := by
  simp [World.cell?, h]

/-! ### 2. What values read as -/
inductive Ty where
  | int (k : IntKind) | byte | bool | str | slice (t : Ty) | pair (a b : Ty)
def Ty.n : Ty → Nat
  | .pair a b => a.n + b.n
  | _ => 1
@[reducible] def Ty.D : Ty → Type
  | .int _ => Int
  | .byte => UInt8
  | .bool => Bool
  | .str => List UInt8
  | .slice t => List t.D
  | .pair a b => a.D × b.D
/-- The cells vs read as x, all that is read by the way lying in blocks of D. -/
def Rd : (t : Ty) → (Nat → Prop) → World → List Value → t.D → Prop
  | .int k, _, _, vs, n => vs = [.int k n] ∧ k.min ≤ n ∧ n ≤ k.max
  | .byte, _, _, vs, b => vs = [.int .u8 (b.toNat : Int)]
  | .bool, _, _, vs, b => vs = [.bool b]
  | .str, _, _, vs, l => vs = [.string ⟨l.toArray⟩] ∧ l.length < 9223372036854775808
  | .slice t, D, w, vs, xs => ∃ a c, vs = [.slice a xs.length c] ∧ xs.length ≤ c ∧ xs.length < 9223372036854775808 ∧ (xs ≠ [] → ∃ ad : Addr, a = some ad ∧ ad.spot = none ∧ D ad.block ∧
      ∀ i (hi : i < xs.length), ∃ cs : List Value, cs.length = t.n ∧ (∀ j v, cs[j]? = some v → w.cell? (ad.add (i * t.n + j)) = some v) ∧ Rd t D w cs xs[i])
  | .pair a b, D, w, vs, x => ∃ va vb, vs = va ++ vb ∧ va.length = a.n ∧ vb.length = b.n ∧ Rd a D w va x.1 ∧ Rd b D w vb x.2
/-- A value that reads as x. -/
def RdV (t : Ty) (D : Nat → Prop) (w : World) (v : Value) (x : t.D) : Prop := Rd t D w v.cells.toList x
/-- At an address a value lies that reads as x. -/
def At (t : Ty) (D : Nat → Prop) (w : World) (ad : Addr) (x : t.D) : Prop :=
  ad.spot = none ∧ ∃ cs : List Value, cs.length = t.n ∧ (∀ j v, cs[j]? = some v → w.cell? (ad.add j) = some v) ∧ Rd t D w cs x
theorem Rd.len : ∀ {t : Ty} {D : Nat → Prop} {w : World} {vs : List Value} {x : t.D}, Rd t D w vs x → vs.length = t.n
  | .int _, _, _, _, _, h => by rw [h.1]; rfl
  | .byte, _, _, _, _, h => by rw [show _ = _ from h]; rfl
  | .bool, _, _, _, _, h => by rw [show _ = _ from h]; rfl
  | .str, _, _, _, _, h => by rw [h.1]; rfl
  | .slice _, _, _, _, _, h => by obtain ⟨a, c, rfl, _⟩ := h; rfl
  | .pair a b, _, _, _, _, h => by obtain ⟨va, vb, rfl, h1, h2, _⟩ := h; simp [Ty.n, h1, h2]
theorem Rd.imp : ∀ {t : Ty} {D D' : Nat → Prop} {w w' : World} {vs : List Value} {x : t.D}, Rd t D w vs x → (∀ b, D b → D' b) →
    (∀ b, D b → b < w.heap.size → w'.heap[b]? = w.heap[b]?) → Rd t D' w' vs x
  | .int _, _, _, _, _, _, _, h, _, _ => h
  | .byte, _, _, _, _, _, _, h, _, _ => h
  | .bool, _, _, _, _, _, _, h, _, _ => h
  | .str, _, _, _, _, _, _, h, _, _ => h
  | .slice t, D, D', w, w', vs, xs, h, hD, hw => by
    obtain ⟨a, c, h1, h2, h3, h4⟩ := h
    refine ⟨a, c, h1, h2, h3, fun hne => ?_⟩
    obtain ⟨ad, g1, g2, g3, g4⟩ := h4 hne
    refine ⟨ad, g1, g2, hD _ g3, fun i hi => ?_⟩
    obtain ⟨cs, k1, k2, k3⟩ := g4 i hi
    refine ⟨cs, k1, fun j v hj => ?_, k3.imp hD hw⟩
    have := k2 j v hj
    rw [cell_congr (hw _ (by rw [add_block]; exact g3) (cell_lt this))]
    exact this
  | .pair a b, _, _, _, _, _, _, h, hD, hw => by
    obtain ⟨va, vb, h1, h2, h3, h4, h5⟩ := h
    exact ⟨va, vb, h1, h2, h3, h4.imp hD hw, h5.imp hD hw⟩
theorem Rd.fr {t : Ty} {D T : Nat → Prop} {w w' : World} {vs : List Value} {x : t.D} (h : Rd t D w vs x) (hf : Fr T w w') (hT : ∀ b, D b → ¬ T b) : Rd t D w' vs x :=
  h.imp (fun _ h => h) (fun b hb hlt => hf.keep b hlt (hT b hb))
theorem Rd.ext {t : Ty} {D : Nat → Prop} {w w' : World} {vs : List Value} {x : t.D} (h : Rd t D w vs x) (hf : Ext w w') : Rd t D w' vs x := h.fr hf (fun _ _ h => h)
theorem Rd.wide {t : Ty} {D D' : Nat → Prop} {w : World} {vs : List Value} {x : t.D} (h : Rd t D w vs x) (hD : ∀ b, D b → D' b) : Rd t D' w vs x := h.imp hD (fun _ _ _ => rfl)
theorem RdV.fr {t : Ty} {D T : Nat → Prop} {w w' : World} {v : Value} {x : t.D} (h : RdV t D w v x) (hf : Fr T w w') (hT : ∀ b, D b → ¬ T b) : RdV t D w' v x := Rd.fr h hf hT
theorem RdV.ext {t : Ty} {D : Nat → Prop} {w w' : World} {v : Value} {x : t.D} (h : RdV t D w v x) (hf : Ext w w') : RdV t D w' v x := Rd.ext h hf
theorem RdV.wide {t : Ty} {D D' : Nat → Prop} {w : World} {v : Value} {x : t.D} (h : RdV t D w v x) (hD : ∀ b, D b → D' b) : RdV t D' w v x := Rd.wide h hD
theorem At.fr {t : Ty} {D T : Nat → Prop} {w w' : World} {ad : Addr} {x : t.D} (h : At t D w ad x) (hf : Fr T w w') (ha : ¬ T ad.block) (hT : ∀ b, D b → ¬ T b) : At t D w' ad x := by
  obtain ⟨h0, cs, h1, h2, h3⟩ := h
  exact ⟨h0, cs, h1, fun j v hj => hf.cell (h2 j v hj) (by rw [add_block]; exact ha), h3.fr hf hT⟩
theorem At.ext {t : Ty} {D : Nat → Prop} {w w' : World} {ad : Addr} {x : t.D} (h : At t D w ad x) (hf : Ext w w') : At t D w' ad x := h.fr hf (fun h => h) (fun _ _ h => h)
theorem At.fst {a b : Ty} {D : Nat → Prop} {w : World} {ad : Addr} {x : a.D × b.D} (h : At (.pair a b) D w ad x) : At a D w ad x.1 := by
  obtain ⟨h0, cs, h1, h2, va, vb, rfl, g1, g2, g3, g4⟩ := h
  exact ⟨h0, va, g1, fun j v hj => h2 j v (by rw [List.getElem?_append_left (List.getElem?_eq_some_iff.1 hj).1]; exact hj), g3⟩
theorem At.snd {a b : Ty} {D : Nat → Prop} {w : World} {ad : Addr} {x : a.D × b.D} (h : At (.pair a b) D w ad x) : At b D w (ad.add a.n) x.2 := by
  obtain ⟨h0, cs, h1, h2, va, vb, rfl, g1, g2, g3, g4⟩ := h
  refine ⟨add_spot _ _ h0, vb, g2, fun j v hj => ?_, g4⟩
  rw [add_add _ _ _ h0]
  exact h2 _ v (by rw [List.getElem?_append_right (by omega)]; rw [g1]; simpa using hj)
/-- A cell at an address. -/
theorem At.cell {t : Ty} {D : Nat → Prop} {w : World} {ad : Addr} {x : t.D} (h : At t D w ad x) (hn : t.n = 1) : ∃ v, w.cell? ad = some v ∧ Rd t D w [v] x := by
  obtain ⟨h0, cs, h1, h2, h3⟩ := h
  match cs, h1.trans hn with
  | [v], _ => exact ⟨v, by have := h2 0 v rfl; rwa [add_zero] at this, h3⟩
/-- What lies at a place of a slice. -/
theorem Rd.at_ {t : Ty} {D : Nat → Prop} {w : World} {v : Value} {xs : List t.D} (h : Rd (.slice t) D w [v] xs) {i : Nat} (hi : i < xs.length) :
    ∃ ad c, v = .slice (some ad) xs.length c ∧ ad.spot = none ∧ D ad.block ∧ At t D w (ad.add (i * t.n)) xs[i] := by
  obtain ⟨a, c, h1, h2, h3, h4⟩ := h
  obtain ⟨ad, rfl, g2, g3, g4⟩ := h4 (by intro e; subst e; simp at hi)
  obtain ⟨cs, k1, k2, k3⟩ := g4 i hi
  refine ⟨ad, c, by simpa using h1, g2, g3, add_spot _ _ g2, cs, k1, fun j u hj => ?_, k3⟩
  rw [add_add _ _ _ g2]
  exact k2 j u hj
theorem Rd.form {t : Ty} {D : Nat → Prop} {w : World} {v : Value} {xs : List t.D} (h : Rd (.slice t) D w [v] xs) : ∃ a c, v = .slice a xs.length c ∧ xs.length ≤ c ∧ xs.length < 9223372036854775808 := by
  obtain ⟨a, c, h1, h2, h3, _⟩ := h
  exact ⟨a, c, by simpa using h1, h2, h3⟩
theorem RdV.of_cell {t : Ty} {D : Nat → Prop} {w : World} {v : Value} {x : t.D} (h : Rd t D w [v] x) (hv : one v = true) : RdV t D w v x := by
  unfold RdV
  rw [one_cells hv]
  exact h
theorem Rd.isOne : ∀ {t : Ty} {D : Nat → Prop} {w : World} {v : Value} {x : t.D}, Rd t D w [v] x → (∀ a b, t ≠ .pair a b) → one v = true
  | .int _, _, _, _, _, h, _ => by have := h.1; simp at this; subst this; rfl
  | .byte, _, _, _, _, h, _ => by have : _ = _ := h; simp at this; subst this; rfl
  | .bool, _, _, _, _, h, _ => by have : _ = _ := h; simp at this; subst this; rfl
  | .str, _, _, _, _, h, _ => by have := h.1; simp at this; subst this; rfl
  | .slice _, _, _, _, _, h, _ => by obtain ⟨a, c, h1, _⟩ := h; simp at h1; subst h1; rfl
  | .pair a b, _, _, _, _, _, h => absurd rfl (h a b)
theorem Rd.allOne : ∀ {t : Ty} {D : Nat → Prop} {w : World} {vs : List Value} {x : t.D}, Rd t D w vs x → ∀ v ∈ vs, one v = true
  | .int _, _, _, _, _, h, v, hv => by rw [h.1] at hv; simp at hv; subst hv; rfl
  | .byte, _, _, _, _, h, v, hv => by rw [show _ = _ from h] at hv; simp at hv; subst hv; rfl
  | .bool, _, _, _, _, h, v, hv => by rw [show _ = _ from h] at hv; simp at hv; subst hv; rfl
  | .str, _, _, _, _, h, v, hv => by rw [h.1] at hv; simp at hv; subst hv; rfl
  | .slice _, _, _, _, _, h, v, hv => by obtain ⟨a, c, h1, _⟩ := h; rw [h1] at hv; simp at hv; subst hv; rfl
  | .pair a b, _, _, _, _, h, v, hv => by
    obtain ⟨va, vb, rfl, _, _, h1, h2⟩ := h
    rcases List.mem_append.1 hv with hv | hv
    · exact h1.allOne v hv
    · exact h2.allOne v hv
end Go.G
end
section
set_option linter.unusedSimpArgs false
set_option linter.unusedVariables false
namespace Go.G
open Go
variable {K : KP} {KW : KV} {w : World}

/-! ### 1. What only computes -/
theorem eBinI {op : BinOp} {k : IntKind} {a b : Int} : pBinI op k (.int k a) (.int k b) K = K (binI op k a b) := by
  apply propext; constructor
  · rintro ⟨a', b', h1, h2, h⟩; cases h1; cases h2; exact h
  · exact fun h => ⟨a, b, rfl, rfl, h⟩
theorem eDiv {op : BinOp} {k : IntKind} {a b : Int} : pDiv op k (.int k a) (.int k b) K = (b ≠ 0 ∧ K (divI op k a b)) := by
  apply propext; constructor
  · rintro ⟨a', b', h1, h2, h⟩; cases h1; cases h2; exact h
  · exact fun h => ⟨a, b, rfl, rfl, h⟩
theorem eShift {op : BinOp} {k j : IntKind} {a b : Int} : pShift op k (.int k a) (.int j b) K = (0 ≤ b ∧ K (shiftI op k a b)) := by
  apply propext; constructor
  · rintro ⟨a', j', b', h1, h2, h⟩; cases h1; cases h2; exact h
  · exact fun h => ⟨a, j, b, rfl, rfl, h⟩
theorem eBinS {op : BinOp} {a b : ByteArray} : pBinS op (.string a) (.string b) K = ((((a.size + b.size : Nat) : Int) ≤ IntKind.i64.max) ∧ K (binS op a b)) := by
  apply propext; constructor
  · rintro ⟨a', b', h1, h2, h⟩; cases h1; cases h2; exact h
  · exact fun h => ⟨a, b, rfl, rfl, h⟩
theorem ePick {t : Bool} {a b : Value} : pPick (.bool t) a b K = K (bif t then a else b) := by
  apply propext; constructor
  · rintro ⟨a', h1, h⟩; cases h1; exact h
  · exact fun h => ⟨t, rfl, h⟩
theorem eNot {t : Bool} : pNot (.bool t) K = K (.bool (!t)) := by
  apply propext; constructor
  · rintro ⟨a', h1, h⟩; cases h1; exact h
  · exact fun h => ⟨t, rfl, h⟩
theorem eNeg {k : IntKind} {a : Int} : pNeg k (.int k a) K = K (.int k (k.wrap (0 - a))) := by
  apply propext; constructor
  · rintro ⟨a', h1, h⟩; cases h1; exact h
  · exact fun h => ⟨a, rfl, h⟩
theorem eConv {k j : IntKind} {a : Int} : pConv k (.int j a) K = K (.int k (k.wrap a)) := by
  apply propext; constructor
  · rintro ⟨j', a', h1, h⟩; cases h1; exact h
  · exact fun h => ⟨j, a, rfl, h⟩
theorem eConvS {s : ByteArray} : pConvS (.string s) K = K (.string s) := by
  apply propext; constructor
  · rintro ⟨a', h1, h⟩; cases h1; exact h
  · exact fun h => ⟨s, rfl, h⟩
theorem eExt {vs : Array Value} {i : Nat} : pExt (.tuple vs) i K = (∃ v, vs[i]? = some v ∧ K v) := by
  apply propext; constructor
  · rintro ⟨vs', v, h1, h⟩; cases h1; exact ⟨v, h⟩
  · exact fun ⟨v, h⟩ => ⟨vs, v, rfl, h⟩
theorem eExt0 {a : Value} {l : List Value} : pExt (.tuple ⟨a :: l⟩) 0 K = K a := by
  rw [eExt]; apply propext; constructor
  · rintro ⟨v, h1, h⟩; simp at h1; exact h1 ▸ h
  · exact fun h => ⟨a, by simp, h⟩
theorem eExt1 {a b : Value} {l : List Value} : pExt (.tuple ⟨a :: b :: l⟩) 1 K = K b := by
  rw [eExt]; apply propext; constructor
  · rintro ⟨v, h1, h⟩; simp at h1; exact h1 ▸ h
  · exact fun h => ⟨b, by simp, h⟩
theorem eExt2 {a b c : Value} {l : List Value} : pExt (.tuple ⟨a :: b :: c :: l⟩) 2 K = K c := by
  rw [eExt]; apply propext; constructor
  · rintro ⟨v, h1, h⟩; simp at h1; exact h1 ▸ h
  · exact fun h => ⟨c, by simp, h⟩
theorem eFA {off : Nat} {a : Addr} : pFA off (.pointer (some a)) K = K (.pointer (some (a.add off))) := by
  apply propext; constructor
  · rintro ⟨a', h1, h⟩; cases h1; exact h
  · exact fun h => ⟨a, rfl, h⟩
theorem eFld {off : Nat} {cs : Array Value} : pFld off (.agg cs) K = (∃ v, cs[off]? = some v ∧ K v) := by
  apply propext; constructor
  · rintro ⟨cs', v, h1, h⟩; cases h1; exact ⟨v, h⟩
  · exact fun ⟨v, h⟩ => ⟨cs, v, rfl, h⟩
theorem eIA {size n c : Nat} {a : Addr} {k : IntKind} {j : Int} : pIA size (.slice (some a) n c) (.int k j) K = (0 ≤ j ∧ j < (n : Int) ∧ K (.pointer (some (a.add (j.toNat * size))))) := by
  apply propext; constructor
  · rintro ⟨a', n', c', k', j', h1, h2, h⟩; cases h1; cases h2; exact h
  · exact fun h => ⟨a, n, c, k, j, rfl, rfl, h⟩
theorem eLenSl {a : Option Addr} {n c : Nat} : pLenSl (.slice a n c) K = K (.int .i64 n) := by
  apply propext; constructor
  · rintro ⟨a', n', c', h1, h⟩; cases h1; exact h
  · exact fun h => ⟨a, n, c, rfl, h⟩
theorem eCapSl {a : Option Addr} {n c : Nat} : pCapSl (.slice a n c) K = K (.int .i64 c) := by
  apply propext; constructor
  · rintro ⟨a', n', c', h1, h⟩; cases h1; exact h
  · exact fun h => ⟨a, n, c, rfl, h⟩
theorem eLenS {s : ByteArray} : pLenS (.string s) K = K (.int .i64 s.size) := by
  apply propext; constructor
  · rintro ⟨a', h1, h⟩; cases h1; exact h
  · exact fun h => ⟨s, rfl, h⟩
theorem eMin {k : IntKind} {a b : Int} : pMin (.int k a) (.int k b) K = K (.int k (if b < a then b else a)) := by
  apply propext; constructor
  · rintro ⟨k', a', b', h1, h2, h⟩; cases h1; cases h2; exact h
  · exact fun h => ⟨k, a, b, rfl, rfl, h⟩
theorem eMax {k : IntKind} {a b : Int} : pMax (.int k a) (.int k b) K = K (.int k (if a < b then b else a)) := by
  apply propext; constructor
  · rintro ⟨k', a', b', h1, h2, h⟩; cases h1; cases h2; exact h
  · exact fun h => ⟨k, a, b, rfl, rfl, h⟩
theorem eSl {size n c l h m : Nat} {a : Option Addr} {lo hi mx : Option Value} (hl : bnd 0 lo = some l) (hh : bnd n hi = some h) (hm : bnd c mx = some m)
    (h1 : l ≤ h) (h2 : h ≤ m) (h3 : m ≤ c) (h4 : mx.isSome = true → hi.isSome = true) (k : K (.slice (if m = l then a else a.map (·.add (l * size))) (h - l) (m - l))) : pSl size (.slice a n c) lo hi mx K :=
  ⟨a, n, c, l, h, m, rfl, hl, hh, hm, h1, h2, h3, h4, k⟩
theorem bnd_int {d : Nat} {k : IntKind} {n : Int} (h : 0 ≤ n) : bnd d (some (.int k n)) = some n.toNat := by simp [bnd, h]
theorem bnd_none {d : Nat} : bnd d none = some d := rfl
/-! ### 2. Guards and forks -/
theorem eCond {b : Bool} {A B : Prop} : scond (.bool b) A B = ((b = true → A) ∧ (b = false → B)) := by
  apply propext; constructor
  · rintro ⟨b', h1, h⟩; cases h1; exact h
  · exact fun h => ⟨b, rfl, h⟩
theorem eCondT {A B : Prop} : scond (.bool true) A B = A := by rw [eCond]; simp
theorem eCondF {A B : Prop} : scond (.bool false) A B = B := by rw [eCond]; simp
theorem gIf_tt {op : KP → Prop} : gIf (.bool true) true op K = op K := by
  apply propext; constructor
  · rintro (⟨b', h1, h, _⟩ | ⟨h, _⟩)
    · cases h1; exact h rfl
    · cases h
  · exact fun h => .inl ⟨true, rfl, fun _ => h, fun h => (by cases h)⟩
theorem gIf_ff {op : KP → Prop} : gIf (.bool false) false op K = op K := by
  apply propext; constructor
  · rintro (⟨b', h1, h, _⟩ | ⟨h, _⟩)
    · cases h1; exact h rfl
    · cases h
  · exact fun h => .inl ⟨false, rfl, fun _ => h, fun h => (by cases h)⟩
theorem gIf_tf {op : KP → Prop} : gIf (.bool true) false op K = K undef := by
  apply propext; constructor
  · rintro (⟨b', h1, _, h⟩ | ⟨h, _⟩)
    · cases h1; exact h rfl
    · cases h
  · exact fun h => .inl ⟨true, rfl, fun h => (by cases h), fun _ => h⟩
theorem gIf_ft {op : KP → Prop} : gIf (.bool false) true op K = K undef := by
  apply propext; constructor
  · rintro (⟨b', h1, _, h⟩ | ⟨h, _⟩)
    · cases h1; exact h rfl
    · cases h
  · exact fun h => .inl ⟨false, rfl, fun h => (by cases h), fun _ => h⟩
theorem gIfW_tt {op : World → KV → Prop} : gIfW (.bool true) true op w KW = op w KW := by
  apply propext; constructor
  · rintro (⟨b', h1, h, _⟩ | ⟨h, _⟩)
    · cases h1; exact h rfl
    · cases h
  · exact fun h => .inl ⟨true, rfl, fun _ => h, fun h => (by cases h)⟩
theorem gIfW_ff {op : World → KV → Prop} : gIfW (.bool false) false op w KW = op w KW := by
  apply propext; constructor
  · rintro (⟨b', h1, h, _⟩ | ⟨h, _⟩)
    · cases h1; exact h rfl
    · cases h
  · exact fun h => .inl ⟨false, rfl, fun _ => h, fun h => (by cases h)⟩
theorem gIfW_tf {op : World → KV → Prop} : gIfW (.bool true) false op w KW = KW undef w := by
  apply propext; constructor
  · rintro (⟨b', h1, _, h⟩ | ⟨h, _⟩)
    · cases h1; exact h rfl
    · cases h
  · exact fun h => .inl ⟨true, rfl, fun h => (by cases h), fun _ => h⟩
theorem gIfW_ft {op : World → KV → Prop} : gIfW (.bool false) true op w KW = KW undef w := by
  apply propext; constructor
  · rintro (⟨b', h1, _, h⟩ | ⟨h, _⟩)
    · cases h1; exact h rfl
    · cases h
  · exact fun h => .inl ⟨false, rfl, fun h => (by cases h), fun _ => h⟩
theorem gIf_u {want : Bool} {op : KP → Prop} : gIf undef want op K = K undef := by
  apply propext; constructor
  · rintro (⟨b', h1, _⟩ | ⟨_, h⟩)
    · cases h1
    · exact h
  · exact fun h => .inr ⟨rfl, h⟩
theorem gIfW_u {want : Bool} {op : World → KV → Prop} : gIfW undef want op w KW = KW undef w := by
  apply propext; constructor
  · rintro (⟨b', h1, _⟩ | ⟨_, h⟩)
    · cases h1
    · exact h
  · exact fun h => .inr ⟨rfl, h⟩
/-! ### 3. What is read -/
theorem eLd {S : World → Prop} {a : Addr} {x : Value} (h : ∀ w, S w → w.cell? a = some x) (k : K x) : pLd S (.pointer (some a)) K := ⟨a, x, rfl, h, k⟩
theorem eLdW {a : Addr} : pLd (· = w) (.pointer (some a)) K = (∃ x, w.cell? a = some x ∧ K x) := by
  apply propext; constructor
  · rintro ⟨a', x, h1, h, k⟩; cases h1; exact ⟨x, h w rfl, k⟩
  · exact fun ⟨x, h, k⟩ => ⟨a, x, rfl, fun w' e => e ▸ h, k⟩
theorem eLdE {a : Addr} {x : Value} (h : w.cell? a = some x) : pLd (Ext w) (.pointer (some a)) K = K x := by
  apply propext; constructor
  · rintro ⟨a', x', h1, h', k⟩; cases h1; have := h' w (Fr.refl _ _); rw [h] at this; cases this; exact k
  · exact fun k => ⟨a, x, rfl, fun w' e => e.cell h, k⟩
theorem eLdNW {b n : Nat} {cs : Array Value} {T : TypeId} {fz : Nat × Nat} (h : w.heap[b]? = some (.cells cs T fz)) (hn : cs.size = n) : pLdN (· = w) n (.pointer (some ⟨b, 0, none⟩)) K = K (.agg cs) := by
  subst hn
  have hc : ∀ i, i < cs.size → w.cell? ((⟨b, 0, none⟩ : Addr).add i) = cs.toList[i]? := fun i hi => by rw [add_mk, cell_mk h]; simp
  apply propext; constructor
  · rintro ⟨a', xs, h1, h2, h3, k⟩
    cases h1
    have : xs.toArray = cs := by
      apply Array.ext'
      apply List.ext_getElem?
      intro i
      by_cases hi : i < cs.size
      · rw [← hc i hi, ← h3 w rfl i hi]
      · rw [List.getElem?_eq_none (by simp; omega), List.getElem?_eq_none (by simp; omega)]
    rw [this] at k
    exact k
  · exact fun k => ⟨_, cs.toList, rfl, by simp, fun w' e i hi => e ▸ hc i hi, by simpa using k⟩
theorem eLdNE {b n : Nat} {cs : Array Value} {T : TypeId} {fz : Nat × Nat} (h : w.heap[b]? = some (.cells cs T fz)) (hn : cs.size = n) (k : K (.agg cs)) : pLdN (Ext w) n (.pointer (some ⟨b, 0, none⟩)) K := by
  subst hn
  exact ⟨_, cs.toList, rfl, by simp, fun w' e i hi => by rw [add_mk, cell_mk (Fr.heap e h (fun h => h))]; simp, by simpa using k⟩
/-! ### 4. What is made -/
theorem box_ {T : TypeId} {v : Value} (h : ∀ g w', w.heap.size = g → Ext w w' → w'.heap[g]? = some (.cells v.cells T) → KW (.pointer (some ⟨g, 0, none⟩)) w') : pBox T v w KW :=
  h _ _ rfl (Ext.alloc w _) (alloc_new w _)
/-! ### 5. Whole numbers -/
theorem wrap64 {n : Int} (h0 : -9223372036854775808 ≤ n) (h1 : n ≤ 9223372036854775807) : IntKind.i64.wrap n = n := by
  have : (18446744073709551616 : Int) = 2 ^ 64 := by decide
  simp only [IntKind.wrap, IntKind.signed, IntKind.bits, Int.bmod, if_true]
  first | omega | (simp; omega)
/-! ### 6. Rows of cells -/
/-- Cells, one element behind the other, read as a list. -/
def RdL (t : Ty) (D : Nat → Prop) (w : World) : List Value → List t.D → Prop
  | cs, [] => cs = []
  | cs, x :: xs => ∃ a b, cs = a ++ b ∧ Rd t D w a x ∧ RdL t D w b xs
theorem RdL.len {t : Ty} {D : Nat → Prop} {w : World} : ∀ {xs : List t.D} {cs : List Value}, RdL t D w cs xs → cs.length = xs.length * t.n
  | [], _, h => by rw [show _ = _ from h]; simp
  | x :: xs, _, h => by
    obtain ⟨a, b, rfl, h1, h2⟩ := h
    simp [h1.len, h2.len, Nat.succ_mul]; omega
theorem RdL.imp {t : Ty} {D D' : Nat → Prop} {w w' : World} (hD : ∀ b, D b → D' b) (hw : ∀ b, D b → b < w.heap.size → w'.heap[b]? = w.heap[b]?) : ∀ {xs : List t.D} {cs : List Value}, RdL t D w cs xs → RdL t D' w' cs xs
  | [], _, h => h
  | x :: xs, _, h => by
    obtain ⟨a, b, rfl, h1, h2⟩ := h
    exact ⟨a, b, rfl, h1.imp hD hw, h2.imp hD hw⟩
theorem RdL.append {t : Ty} {D : Nat → Prop} {w : World} {ys : List t.D} {ds : List Value} (k : RdL t D w ds ys) : ∀ {xs : List t.D} {cs : List Value}, RdL t D w cs xs → RdL t D w (cs ++ ds) (xs ++ ys)
  | [], _, h => by rw [show _ = _ from h]; exact k
  | x :: xs, _, h => by
    obtain ⟨a, b, rfl, h1, h2⟩ := h
    exact ⟨a, b ++ ds, by simp, h1, RdL.append k h2⟩
theorem RdL.single {t : Ty} {D : Nat → Prop} {w : World} {x : t.D} {cs : List Value} (h : Rd t D w cs x) : RdL t D w cs [x] := ⟨cs, [], by simp, h, rfl⟩
theorem RdL.allOne {t : Ty} {D : Nat → Prop} {w : World} : ∀ {xs : List t.D} {cs : List Value}, RdL t D w cs xs → ∀ v ∈ cs, one v = true
  | [], _, h => by rw [show _ = _ from h]; simp
  | x :: xs, _, h => by
    obtain ⟨a, b, rfl, h1, h2⟩ := h
    intro v hv
    rcases List.mem_append.1 hv with hv | hv
    · exact h1.allOne v hv
    · exact h2.allOne v hv
theorem RdL.get {t : Ty} {D : Nat → Prop} {w : World} : ∀ {xs : List t.D} {cs : List Value}, RdL t D w cs xs → ∀ i (hi : i < xs.length),
    ∃ a, a.length = t.n ∧ Rd t D w a xs[i] ∧ ∀ j v, a[j]? = some v → cs[i * t.n + j]? = some v
  | x :: xs, _, h, 0, _ => by
    obtain ⟨a, b, rfl, h1, h2⟩ := h
    exact ⟨a, h1.len, h1, fun j v hj => by rw [Nat.zero_mul, Nat.zero_add, List.getElem?_append_left (List.getElem?_eq_some_iff.1 hj).1]; exact hj⟩
  | x :: xs, _, h, i + 1, hi => by
    obtain ⟨a, b, rfl, h1, h2⟩ := h
    obtain ⟨c, g1, g2, g3⟩ := h2.get i (by simpa using hi)
    refine ⟨c, g1, by simpa using g2, fun j v hj => ?_⟩
    have := h1.len
    rw [List.getElem?_append_right (by rw [Nat.succ_mul]; omega), show (i + 1) * t.n + j - a.length = i * t.n + j by rw [Nat.succ_mul]; omega]
    exact g3 j v hj
/-- What a slice reads as, cell by cell. -/
theorem Rd.rows {t : Ty} {D : Nat → Prop} {w : World} {v : Value} : ∀ {xs : List t.D}, Rd (.slice t) D w [v] xs → ∃ a c cs, v = .slice a xs.length c ∧ RdL t D w cs xs ∧ (∀ i u, cs[i]? = some u → ∃ ad, a = some ad ∧ ad.spot = none ∧ D ad.block ∧ w.cell? (ad.add i) = some u) := by
  intro xs h
  obtain ⟨a, c, h1, h2, h3, h4⟩ := h
  refine ⟨a, c, ?_⟩
  suffices ∀ (ys : List t.D) (k : Nat), xs.drop k = ys → ∃ cs, RdL t D w cs ys ∧ (∀ i u, cs[i]? = some u → ∃ ad, a = some ad ∧ ad.spot = none ∧ D ad.block ∧ w.cell? (ad.add (k * t.n + i)) = some u) by
    obtain ⟨cs, g1, g2⟩ := this xs 0 rfl
    exact ⟨cs, by simpa using h1, g1, fun i u hi => by obtain ⟨ad, e1, e2, e3, e4⟩ := g2 i u hi; exact ⟨ad, e1, e2, e3, by simpa using e4⟩⟩
  intro ys
  induction ys with
  | nil => exact fun k _ => ⟨[], rfl, fun i u hi => by simp at hi⟩
  | cons y ys ih =>
    intro k hk
    have hlt : k < xs.length := by
      have := congrArg List.length hk
      simp at this; omega
    have hd : xs.drop k = xs[k] :: xs.drop (k + 1) := List.drop_eq_getElem_cons hlt
    rw [hd] at hk
    injection hk with e1 e2
    obtain ⟨ds, g1, g2⟩ := ih (k + 1) e2
    obtain ⟨ad, rfl, i2, i3, i4⟩ := h4 (by intro e; subst e; simp at hlt)
    obtain ⟨cs, k1, k2, k3⟩ := i4 k hlt
    rw [e1] at k3
    refine ⟨cs ++ ds, ⟨cs, ds, rfl, k3, g1⟩, fun i u hi => ?_⟩
    by_cases hl : i < cs.length
    · rw [List.getElem?_append_left hl] at hi
      exact ⟨ad, rfl, i2, i3, k2 i u hi⟩
    · rw [List.getElem?_append_right (by omega)] at hi
      obtain ⟨ad', f1, f2, f3, f4⟩ := g2 _ u hi
      refine ⟨ad', f1, f2, f3, ?_⟩
      rw [show k * t.n + i = (k + 1) * t.n + (i - cs.length) by rw [Nat.succ_mul]; omega]
      exact f4
end Go.G
end
section
set_option linter.unusedSimpArgs false
set_option linter.unusedVariables false
namespace Go.G
open Go
theorem Ty.n_pos : ∀ t : Ty, 0 < t.n
  | .int _ | .byte | .bool | .str | .slice _ => Nat.one_pos
  | .pair a b => Nat.lt_of_lt_of_le a.n_pos (Nat.le_add_right _ _)
/-- The block of a slice. -/
def Blk (v : Value) (b : Nat) : Prop := ∃ a n c, v = .slice (some a) n c ∧ a.block = b
/-- A slice that a call owns: none, or one in a block at or behind B, its elements' own data elsewhere, in D. -/
def Own (t : Ty) (D : Nat → Prop) (B : Nat) (w : World) (v : Value) (xs : List t.D) : Prop :=
  (xs = [] ∧ ∃ a, v = .slice a 0 0) ∨
  ∃ g c cs T fz old rest, v = .slice (some ⟨g, 0, none⟩) xs.length c ∧ B ≤ g ∧ ¬ D g ∧ w.heap[g]? = some (.cells cs T fz) ∧ (∀ o, o < cs.size → fz.1 ≤ o → o < fz.2 → False) ∧
    cs.toList = old ++ rest ∧ cs.size = c * t.n ∧ RdL t D w old xs
theorem Own.nil {t : Ty} {D : Nat → Prop} {B : Nat} {w : World} : Own t D B w (.slice none 0 0) [] := .inl ⟨rfl, none, rfl⟩
theorem Own.form {t : Ty} {D : Nat → Prop} {B : Nat} {w : World} {v : Value} {xs : List t.D} (h : Own t D B w v xs) : ∃ a c, v = .slice a xs.length c ∧ xs.length ≤ c := by
  rcases h with ⟨rfl, a, rfl⟩ | ⟨g, c, cs, T, fz, old, rest, rfl, _, _, _, _, h1, h2, h3⟩
  · exact ⟨a, 0, rfl, Nat.le_refl _⟩
  · refine ⟨_, c, rfl, ?_⟩
    have e := congrArg List.length h1
    rw [List.length_append, h3.len, Array.length_toList, h2] at e
    have := t.n_pos
    exact Nat.le_of_mul_le_mul_right (by omega : xs.length * t.n ≤ c * t.n) this
theorem Own.fr {t : Ty} {D T : Nat → Prop} {B : Nat} {w w' : World} {v : Value} {xs : List t.D} (h : Own t D B w v xs) (hf : Fr T w w') (hD : ∀ b, D b → ¬ T b) (hv : ∀ b, Blk v b → B ≤ b → ¬ T b) : Own t D B w' v xs := by
  rcases h with ⟨rfl, a, rfl⟩ | ⟨g, c, cs, T', fz, old, rest, rfl, h1, h2, h3, h3', h4, h5, h6⟩
  · exact .inl ⟨rfl, a, rfl⟩
  · exact .inr ⟨g, c, cs, T', fz, old, rest, rfl, h1, h2, hf.heap h3 (hv _ ⟨_, _, _, rfl, rfl⟩ h1), h3', h4, h5, h6.imp (fun _ h => h) (fun b hb hlt => hf.keep b hlt (hD b hb))⟩
theorem Own.ext {t : Ty} {D : Nat → Prop} {B : Nat} {w w' : World} {v : Value} {xs : List t.D} (h : Own t D B w v xs) (hf : Ext w w') : Own t D B w' v xs := h.fr hf (fun _ _ h => h) (fun _ _ _ h => h)
theorem Own.wide {t : Ty} {D D' : Nat → Prop} {B : Nat} {w : World} {v : Value} {xs : List t.D} (h : Own t D B w v xs) (hD : ∀ b, D b → D' b) (hv : ∀ b, Blk v b → B ≤ b → ¬ D' b) : Own t D' B w v xs := by
  rcases h with ⟨rfl, a, rfl⟩ | ⟨g, c, cs, T', fz, old, rest, rfl, h1, h2, h3, h3', h4, h5, h6⟩
  · exact .inl ⟨rfl, a, rfl⟩
  · exact .inr ⟨g, c, cs, T', fz, old, rest, rfl, h1, hv _ ⟨_, _, _, rfl, rfl⟩ h1, h3, h3', h4, h5, h6.imp hD (fun _ _ _ => rfl)⟩
theorem Own.low {t : Ty} {D : Nat → Prop} {B B' : Nat} {w : World} {v : Value} {xs : List t.D} (h : Own t D B w v xs) (hB : B' ≤ B) : Own t D B' w v xs := by
  rcases h with ⟨rfl, a, rfl⟩ | ⟨g, c, cs, T', fz, old, rest, rfl, h1, h⟩
  · exact .inl ⟨rfl, a, rfl⟩
  · exact .inr ⟨g, c, cs, T', fz, old, rest, rfl, Nat.le_trans hB h1, h⟩
/-- Rows of cells at an address read as a slice. -/
theorem Rd.of_rows {t : Ty} {D D' : Nat → Prop} {w : World} {xs : List t.D} {cs : List Value} {a : Option Addr} {c : Nat} (h : RdL t D w cs xs) (hD : ∀ b, D b → D' b) (hc : xs.length ≤ c) (hl : xs.length < 9223372036854775808)
    (hr : ∀ i u, cs[i]? = some u → ∃ ad : Addr, a = some ad ∧ ad.spot = none ∧ D' ad.block ∧ w.cell? (ad.add i) = some u) : Rd (.slice t) D' w [.slice a xs.length c] xs := by
  refine ⟨a, c, rfl, hc, hl, fun hne => ?_⟩
  have hlen := h.len
  have hpos : 0 < xs.length := List.length_pos_iff.2 hne
  obtain ⟨u0, hu0⟩ : ∃ u, cs[0]? = some u := by
    have : 0 < cs.length := by rw [hlen]; exact Nat.mul_pos hpos t.n_pos
    exact ⟨cs[0], List.getElem?_eq_getElem this⟩
  obtain ⟨ad, rfl, e2, e3, _⟩ := hr 0 u0 hu0
  refine ⟨ad, rfl, e2, e3, fun i hi => ?_⟩
  obtain ⟨r, g1, g2, g3⟩ := h.get i hi
  refine ⟨r, g1, fun j v hj => ?_, g2.wide hD⟩
  obtain ⟨ad', f1, _, _, f4⟩ := hr _ v (g3 j v hj)
  cases f1
  exact f4
theorem Own.rd {t : Ty} {D D' : Nat → Prop} {B : Nat} {w : World} {v : Value} {xs : List t.D} (h : Own t D B w v xs) (hD : ∀ b, D b → D' b) (hB : ∀ b, B ≤ b → D' b) (hl : xs.length < 9223372036854775808) : Rd (.slice t) D' w [v] xs := by
  have hf := h.form
  rcases h with ⟨rfl, a, rfl⟩ | ⟨g, c, cs, T, fz, old, rest, rfl, h1, h2, h3, h3', h4, h5, h6⟩
  · exact ⟨a, 0, rfl, Nat.le_refl _, hl, fun h => absurd rfl h⟩
  · obtain ⟨_, c', e, hc⟩ := hf
    simp at e
    refine Rd.of_rows h6 hD (by omega) hl fun i u hi => ⟨_, rfl, rfl, hB g h1, ?_⟩
    rw [add_mk, Nat.zero_add, cell_mk h3, ← Array.getElem?_toList, h4, List.getElem?_append_left (List.getElem?_eq_some_iff.1 hi).1]
    exact hi
theorem setCells_heap {g o : Nat} {T : TypeId} {fz : Nat × Nat} : ∀ (xs : List Value) (i : Nat) (w : World) (cs : Array Value) (pre post : List Value), w.heap[g]? = some (.cells cs T fz) → cs.toList = pre ++ post → pre.length = o + i → xs.length ≤ post.length →
    ∃ cs', (setCells w ⟨g, o, none⟩ i xs).heap[g]? = some (.cells cs' T fz) ∧ cs'.toList = pre ++ xs ++ post.drop xs.length
  | [], i, w, cs, pre, post, h1, h2, _, _ => ⟨cs, h1, by simpa using h2⟩
  | v :: r, i, w, cs, pre, [], _, _, _, h4 => by simp at h4
  | v :: r, i, w, cs, pre, p :: post, h1, h2, h3, h4 => by
    have hh : (w.setCell ((⟨g, o, none⟩ : Addr).add i) v).heap[g]? = some (.cells (cs.setIfInBounds (o + i) v) T fz) := by
      rw [heap_setCell, add_mk, if_pos rfl, h1]; simp
    have hl : (cs.setIfInBounds (o + i) v).toList = (pre ++ [v]) ++ post := by
      rw [Array.toList_setIfInBounds, h2, ← h3, List.set_append_right _ _ (Nat.le_refl _)]; simp
    have hp : (pre ++ [v]).length = o + (i + 1) := by rw [List.length_append, h3]; rfl
    obtain ⟨cs', g1, g2⟩ := setCells_heap r (i + 1) _ _ (pre ++ [v]) post hh hl hp (by simpa using h4)
    exact ⟨cs', g1, by rw [g2]; simp⟩
theorem growBy_le (n : Nat) : ∀ r c m, c ≤ m → n + (n + 768) / 4 ≤ m → Builtin.growBy n r c ≤ m
  | 0, c, m, h, _ => h
  | r + 1, c, m, h, h' => by
    unfold Builtin.growBy
    split
    · exact h
    · rename_i hc
      exact growBy_le n r _ m (by omega) h'
theorem nextslicecap_le {n c : Nat} (h : c < n) : Builtin.nextslicecap n c ≤ 2 * n + 192 := by
  unfold Builtin.nextslicecap
  split
  · omega
  · split
    · omega
    · exact growBy_le n 4 c _ (by omega) (by omega)
/-- append: what is owned stays owned, and is longer. -/
theorem Own.app {t : Ty} {D : Nat → Prop} {B E size bytes : Nat} {zero : List Value} {w : World} {K : KV} {v x : Value} {xs ys : List t.D} {ds : List Value}
    (h : Own t D B w v xs) (hB : B ≤ w.heap.size) (hD : ¬ D w.heap.size) (hs : size = t.n) (hz : zero.length = t.n)
    (hx : lenV x = ys.length) (hr : reads w size ys.length x ds) (hy : RdL t D w ds ys) (hb : (2 * (xs.length + ys.length) + 192) * bytes ≤ 2 ^ 48)
    (k : ∀ v' w', Own t D B w' v' (xs ++ ys) → Fr (fun b => Blk v b ∧ B ≤ b) w w' → (∀ b, Blk v' b → Blk v b ∨ (w.heap.size ≤ b ∧ b < w'.heap.size)) → K v' w') : pApp E size bytes zero v x w K := by
  subst hs
  have grown : ∀ (n c : Nat) (a : Option Addr) (old : List Value), v = .slice a n c → n = xs.length → RdL t D w old xs → reads w t.n n v old → c < n + lenV x →
      Builtin.nextslicecap (n + lenV x) c * bytes ≤ 2 ^ 48 ∧
      ∃ old, reads w t.n n v old ∧ ∀ cap, n + lenV x ≤ cap → cap < 2 ^ 63 →
        K (.slice (some ⟨w.heap.size, 0, none⟩) (n + lenV x) cap) (w.drew.alloc (.cells (old ++ ds ++ rowOf zero (cap - (n + lenV x))).toArray E)) := by
    intro n c a old hv hn ho hold hlt
    refine ⟨Nat.le_trans (Nat.mul_le_mul_right _ (nextslicecap_le hlt)) (by rw [hx, hn]; exact hb), old, hold, fun cap hcap _ => ?_⟩
    have hE : Ext w (w.drew.alloc (.cells (old ++ ds ++ rowOf zero (cap - (n + lenV x))).toArray E)) := (Ext.drew w).tr (Ext.alloc _ _)
    have hsz : (w.drew.alloc (.cells (old ++ ds ++ rowOf zero (cap - (n + lenV x))).toArray E)).heap.size = w.heap.size + 1 := by rw [size_alloc, heap_drew]
    refine k _ _ (.inr ⟨w.heap.size, cap, _, E, (0, 0), old ++ ds, rowOf zero (cap - (n + lenV x)), ?_, hB, hD, alloc_new w.drew _, ?_, rfl, ?_, ?_⟩) (hE.mono (fun _ _ h => h.elim)) ?_
    · rw [hx, hn, List.length_append]
    · intro o _ _ h; simp at h
    · have hrow : ∀ m, (rowOf zero m).length = m * t.n := fun m => by
        induction m with
        | zero => simp [rowOf]
        | succ m ih => simp only [rowOf, List.replicate_succ, List.flatten_cons, List.length_append, hz] at ih ⊢; rw [ih, Nat.succ_mul]; omega
      simp only [List.size_toArray, List.length_append, ho.len, hy.len, hrow, hx, hn]
      rw [← Nat.add_mul, ← Nat.add_mul]; congr 1; rw [hx, hn] at hcap; omega
    · exact RdL.append (hy.imp (fun _ h => h) (fun b _ hlt => hE.keep b hlt (fun h => h))) (ho.imp (fun _ h => h) (fun b _ hlt => hE.keep b hlt (fun h => h)))
    · rintro b ⟨a', n', c', e, rfl⟩
      simp at e
      rw [← e.1]
      exact .inr ⟨Nat.le_refl _, by rw [hsz]; exact Nat.lt_succ_self _⟩
  rcases h with ⟨rfl, a, rfl⟩ | ⟨g, c, cs, T, fz, old, rest, rfl, h1, h2, h3, h3', h4, h5, h6⟩
  · refine ⟨a, 0, 0, ds, rfl, by rw [hx]; exact hr, fun hle => ?_, fun hlt => grown 0 0 a [] rfl rfl rfl ⟨by simp, fun i v hi => by simp at hi⟩ hlt⟩
    have hy0 : ys = [] := by rw [hx] at hle; exact List.length_eq_zero_iff.1 (by omega)
    subst hy0
    have hd0 : ds = [] := hy
    subst hd0
    have hkk : K (.slice a (0 + lenV x) 0) w := by
      rw [hx]
      exact k _ _ (.inl ⟨rfl, a, rfl⟩) (Fr.refl _ _) (fun b h => .inl h)
    cases a with
    | none => exact hkk
    | some ad => exact ⟨fun j v hj => by simp at hj, hkk⟩
  · have e := congrArg List.length h4
    rw [List.length_append, h6.len, Array.length_toList, h5] at e
    have hrd : ∀ i u, old[i]? = some u → w.cell? ((⟨g, 0, none⟩ : Addr).add i) = some u := fun i u hi => by
      rw [add_mk, Nat.zero_add, cell_mk h3, ← Array.getElem?_toList, h4, List.getElem?_append_left (List.getElem?_eq_some_iff.1 hi).1]; exact hi
    refine ⟨some ⟨g, 0, none⟩, xs.length, c, ds, rfl, by rw [hx]; exact hr, fun hle => ?_, fun hlt => grown _ _ _ old rfl rfl h6 ⟨h6.len, fun i u hi => ⟨_, rfl, hrd i u hi⟩⟩ hlt⟩
    rw [hx] at hle ⊢
    have hmul : (xs.length + ys.length) * t.n ≤ c * t.n := Nat.mul_le_mul_right _ hle
    rw [Nat.add_mul] at hmul
    have hdl := hy.len
    have hol := h6.len
    have hnf : ∀ o, o < cs.size → w.frozen? ⟨g, o, none⟩ = false := fun o ho => by
      simp only [World.frozen?, h3]
      rw [Bool.and_eq_false_iff]
      by_cases hf : fz.1 ≤ o
      · exact .inr (by simpa using fun hh => h3' o ho hf hh)
      · exact .inl (by simpa using hf)
    refine ⟨fun j u hj => ?_, ?_⟩
    · have hjl := (List.getElem?_eq_some_iff.1 hj).1
      have hlt : xs.length * t.n + j < cs.size := by rw [h5]; omega
      rw [add_add _ _ _ rfl, add_mk, Nat.zero_add]
      exact ⟨⟨_, by rw [cell_mk h3]; exact Array.getElem?_eq_getElem hlt⟩, hnf _ hlt, hy.allOne u (List.mem_of_getElem? hj)⟩
    · rw [add_mk, Nat.zero_add]
      obtain ⟨cs', g1, g2⟩ := setCells_heap (g := g) (o := xs.length * t.n) ds 0 w cs old rest h3 h4 (by omega) (by omega)
      have hF := Fr.setCells ⟨g, xs.length * t.n, none⟩ ds 0 w
      refine k _ _ (.inr ⟨g, c, cs', T, fz, old ++ ds, rest.drop ds.length, by rw [List.length_append], h1, h2, g1, ?_, g2, ?_, ?_⟩) (hF.mono fun b _ e => ?_) (fun b h => ?_)
      · have hcs : cs'.size = cs.size := by
          have e1 := congrArg List.length g2
          have e2 := congrArg List.length h4
          simp at e1 e2
          omega
        rw [hcs]; exact h3'
      · have e1 := congrArg List.length g2
        simp at e1
        omega
      · exact RdL.append (hy.imp (fun _ h => h) (fun b hb hlt => hF.keep b hlt (fun e => h2 (by rw [← show b = g from e]; exact hb)))) (h6.imp (fun _ h => h) (fun b hb hlt => hF.keep b hlt (fun e => h2 (by rw [← show b = g from e]; exact hb))))
      · exact ⟨⟨_, _, _, rfl, e.symm⟩, by rw [show b = g from e]; exact h1⟩
      · obtain ⟨a', n', c', e1, e2⟩ := h
        simp at e1
        exact .inl ⟨_, _, _, rfl, by rw [e1.1]; exact e2⟩
/-- append of one element that was put into a fresh row. -/
theorem reads_slice {w : World} {a : Option Addr} {n c size : Nat} {ds : List Value} (hl : ds.length = n * size) (h : ∀ i u, ds[i]? = some u → ∃ ad, a = some ad ∧ w.cell? (ad.add i) = some u) : reads w size n (.slice a n c) ds := ⟨hl, h⟩
theorem Own.push {t : Ty} {D : Nat → Prop} {B E size bytes : Nat} {zero : List Value} {w : World} {K : KV} {v : Value} {xs : List t.D} {y : t.D} {r : Nat} {cs : List Value} {T : TypeId} {fz : Nat × Nat} {c : Nat}
    (h : Own t D B w v xs) (hB : B ≤ w.heap.size) (hD : ¬ D w.heap.size) (hs : size = t.n) (hz : zero.length = t.n)
    (hr : w.heap[r]? = some (.cells cs.toArray T fz)) (hy : Rd t D w cs y) (hb : (2 * (xs.length + 1) + 192) * bytes ≤ 2 ^ 48)
    (k : ∀ v' w', Own t D B w' v' (xs ++ [y]) → Fr (fun b => Blk v b ∧ B ≤ b) w w' → (∀ b, Blk v' b → Blk v b ∨ (w.heap.size ≤ b ∧ b < w'.heap.size)) → K v' w') : pApp E size bytes zero v (.slice (some ⟨r, 0, none⟩) 1 c) w K :=
  h.app hB hD hs hz (ys := [y]) (ds := cs) rfl (reads_slice (by rw [hy.len, hs]; simp) fun i u hi => ⟨_, rfl, by rw [add_mk, cell_mk hr]; simpa using hi⟩) (RdL.single hy) hb k
/-- append of what a slice reads as. -/
theorem Own.cat {t : Ty} {D : Nat → Prop} {B E size bytes : Nat} {zero : List Value} {w : World} {K : KV} {v x : Value} {xs ys : List t.D}
    (h : Own t D B w v xs) (hB : B ≤ w.heap.size) (hD : ¬ D w.heap.size) (hs : size = t.n) (hz : zero.length = t.n)
    {D' : Nat → Prop} (hx : Rd (.slice t) D' w [x] ys) (hx' : ∀ cs, RdL t D' w cs ys → RdL t D w cs ys) (hb : (2 * (xs.length + ys.length) + 192) * bytes ≤ 2 ^ 48)
    (k : ∀ v' w', Own t D B w' v' (xs ++ ys) → Fr (fun b => Blk v b ∧ B ≤ b) w w' → (∀ b, Blk v' b → Blk v b ∨ (w.heap.size ≤ b ∧ b < w'.heap.size)) → K v' w') : pApp E size bytes zero v x w K := by
  obtain ⟨a, c, cs, rfl, h1, h2⟩ := Rd.rows hx
  exact h.app hB hD hs hz (ds := cs) rfl (reads_slice (by rw [h1.len, hs]) fun i u hi => by obtain ⟨ad, e1, _, _, e4⟩ := h2 i u hi; exact ⟨ad, e1, e4⟩) (hx' _ h1) hb k
end Go.G
end
