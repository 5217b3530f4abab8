/-
  One step at a time: what each word asks where its arguments are known, and slices that a call owns.
  Slices that a call owns, and what append does to them.
  Small helps: boxes of three whole numbers, regions whose order is open.
  Slices whose elements are one cell each: what is read, what is written.
  Parts of slices, new slices of zeros, texts of bytes.
-/
import Derived.Test.YtkpgmaiklfjjgaaGreatDoorMoag
import Derived.Laws.Strings
section
set_option linter.unusedSimpArgs false
set_option linter.unusedVariables false
namespace Go.G
open Go
variable {K : KP} {KW : KV} {w : World}

/-! ### 1. What only computes -/
theorem eBinI {op : BinOp} {k : IntKind} {a b : Int} : pBinI op k (.int k a) (.int k b) K = K (binI op k a b) := by
  apply propext; constructor
  · rintro ⟨a', b', h1, h2, h⟩; cases h1; cases h2; exact h
  · exact fun h => ⟨a, b, rfl, rfl, h⟩
theorem eDiv {op : BinOp} {k : IntKind} {a b : Int} : pDiv op k (.int k a) (.int k b) K = (b ≠ 0 ∧ K (divI op k a b)) := by
  apply propext; constructor
  · rintro ⟨a', b', h1, h2, h⟩; cases h1; cases h2; exact h
  · exact fun h => ⟨a, b, rfl, rfl, h⟩
theorem eShift {op : BinOp} {k j : IntKind} {a b : Int} : pShift op k (.int k a) (.int j b) K = (0 ≤ b ∧ K (shiftI op k a b)) := by
  apply propext; constructor
  · rintro ⟨a', j', b', h1, h2, h⟩; cases h1; cases h2; exact h
  · exact fun h => ⟨a, j, b, rfl, rfl, h⟩
theorem eBinS {op : BinOp} {a b : ByteArray} : pBinS op (.string a) (.string b) K = ((((a.size + b.size : Nat) : Int) ≤ IntKind.i64.max) ∧ K (binS op a b)) := by
  apply propext; constructor
  · rintro ⟨a', b', h1, h2, h⟩; cases h1; cases h2; exact h
  · exact fun h => ⟨a, b, rfl, rfl, h⟩
theorem ePick {t : Bool} {a b : Value} : pPick (.bool t) a b K = K (bif t then a else b) := by
  apply propext; constructor
  · rintro ⟨a', h1, h⟩; cases h1; exact h
  · exact fun h => ⟨t, rfl, h⟩
theorem eNot {t : Bool} : pNot (.bool t) K = K (.bool (!t)) := by
  apply propext; constructor
  · rintro ⟨a', h1, h⟩; cases h1; exact h
  · exact fun h => ⟨t, rfl, h⟩
theorem eNeg {k : IntKind} {a : Int} : pNeg k (.int k a) K = K (.int k (k.wrap (0 - a))) := by
  apply propext; constructor
  · rintro ⟨a', h1, h⟩; cases h1; exact h
  · exact fun h => ⟨a, rfl, h⟩
theorem eConv {k j : IntKind} {a : Int} : pConv k (.int j a) K = K (.int k (k.wrap a)) := by
  apply propext; constructor
  · rintro ⟨j', a', h1, h⟩; cases h1; exact h
  · exact fun h => ⟨j, a, rfl, h⟩
theorem eConvS {s : ByteArray} : pConvS (.string s) K = K (.string s) := by
  apply propext; constructor
  · rintro ⟨a', h1, h⟩; cases h1; exact h
  · exact fun h => ⟨s, rfl, h⟩
theorem eExt {vs : Array Value} {i : Nat} : pExt (.tuple vs) i K = (∃ v, vs[i]? = some v ∧ K v) := by
  apply propext; constructor
  · rintro ⟨vs', v, h1, h⟩; cases h1; exact ⟨v, h⟩
  · exact fun ⟨v, h⟩ => ⟨vs, v, rfl, h⟩
theorem eExt0 {a : Value} {l : List Value} : pExt (.tuple ⟨a :: l⟩) 0 K = K a := by
  rw [eExt]; apply propext; constructor
  · rintro ⟨v, h1, h⟩; simp at h1; exact h1 ▸ h
  · exact fun h => ⟨a, by simp, h⟩
theorem eExt1 {a b : Value} {l : List Value} : pExt (.tuple ⟨a :: b :: l⟩) 1 K = K b := by
  rw [eExt]; apply propext; constructor
  · rintro ⟨v, h1, h⟩; simp at h1; exact h1 ▸ h
  · exact fun h => ⟨b, by simp, h⟩
theorem eExt2 {a b c : Value} {l : List Value} : pExt (.tuple ⟨a :: b :: c :: l⟩) 2 K = K c := by
  rw [eExt]; apply propext; constructor
  · rintro ⟨v, h1, h⟩; simp at h1; exact h1 ▸ h
  · exact fun h => ⟨c, by simp, h⟩
theorem eFA {off : Nat} {a : Addr} : pFA off (.pointer (some a)) K = K (.pointer (some (a.add off))) := by
  apply propext; constructor
  · rintro ⟨a', h1, h⟩; cases h1; exact h
  · exact fun h => ⟨a, rfl, h⟩
theorem eFld {off : Nat} {cs : Array Value} : pFld off (.agg cs) K = (∃ v, cs[off]? = some v ∧ K v) := by
  apply propext; constructor
  · rintro ⟨cs', v, h1, h⟩; cases h1; exact ⟨v, h⟩
  · exact fun ⟨v, h⟩ => ⟨cs, v, rfl, h⟩
theorem eIA {size n c : Nat} {a : Addr} {k : IntKind} {j : Int} : pIA size (.slice (some a) n c) (.int k j) K = (0 ≤ j ∧ j < (n : Int) ∧ K (.pointer (some (a.add (j.toNat * size))))) := by
  apply propext; constructor
  · rintro ⟨a', n', c', k', j', h1, h2, h⟩; cases h1; cases h2; exact h
  · exact fun h => ⟨a, n, c, k, j, rfl, rfl, h⟩
theorem eLenSl {a : Option Addr} {n c : Nat} : pLenSl (.slice a n c) K = K (.int .i64 n) := by
  apply propext; constructor
  · rintro ⟨a', n', c', h1, h⟩; cases h1; exact h
  · exact fun h => ⟨a, n, c, rfl, h⟩
theorem eCapSl {a : Option Addr} {n c : Nat} : pCapSl (.slice a n c) K = K (.int .i64 c) := by
  apply propext; constructor
  · rintro ⟨a', n', c', h1, h⟩; cases h1; exact h
  · exact fun h => ⟨a, n, c, rfl, h⟩
theorem eLenS {s : ByteArray} : pLenS (.string s) K = K (.int .i64 s.size) := by
  apply propext; constructor
  · rintro ⟨a', h1, h⟩; cases h1; exact h
  · exact fun h => ⟨s, rfl, h⟩
theorem eMin {k : IntKind} {a b : Int} : pMin (.int k a) (.int k b) K = K (.int k (if b < a then b else a)) := by
  apply propext; constructor
  · rintro ⟨k', a', b', h1, h2, h⟩; cases h1; cases h2; exact h
  · exact fun h => ⟨k, a, b, rfl, rfl, h⟩
theorem eMax {k : IntKind} {a b : Int} : pMax (.int k a) (.int k b) K = K (.int k (if a < b then b else a)) := by
  apply propext; constructor
  · rintro ⟨k', a', b', h1, h2, h⟩; cases h1; cases h2; exact h
  · exact fun h => ⟨k, a, b, rfl, rfl, h⟩
theorem eSl {size n c l h m : Nat} {a : Option Addr} {lo hi mx : Option Value} (hl : bnd 0 lo = some l) (hh : bnd n hi = some h) (hm : bnd c mx = some m)
    (h1 : l ≤ h) (h2 : h ≤ m) (h3 : m ≤ c) (h4 : mx.isSome = true → hi.isSome = true) (k : K (.slice (if m = l then a else a.map (·.add (l * size))) (h - l) (m - l))) : pSl size (.slice a n c) lo hi mx K :=
  ⟨a, n, c, l, h, m, rfl, hl, hh, hm, h1, h2, h3, h4, k⟩
theorem bnd_int {d : Nat} {k : IntKind} {n : Int} (h : 0 ≤ n) : bnd d (some (.int k n)) = some n.toNat := by simp [bnd, h]
theorem bnd_none {d : Nat} : bnd d none = some d := rfl
/-! ### 2. Guards and forks -/
theorem eCond {b : Bool} {A B : Prop} : scond (.bool b) A B = ((b = true → A) ∧ (b = false → B)) := by
  apply propext; constructor
  · rintro ⟨b', h1, h⟩; cases h1; exact h
  · exact fun h => ⟨b, rfl, h⟩
theorem eCondT {A B : Prop} : scond (.bool true) A B = A := by rw [eCond]; simp
theorem eCondF {A B : Prop} : scond (.bool false) A B = B := by rw [eCond]; simp
theorem gIf_tt {op : KP → Prop} : gIf (.bool true) true op K = op K := by
  apply propext; constructor
  · rintro (⟨b', h1, h, _⟩ | ⟨h, _⟩)
    · cases h1; exact h rfl
    · cases h
  · exact fun h => .inl ⟨true, rfl, fun _ => h, fun h => (by cases h)⟩
theorem gIf_ff {op : KP → Prop} : gIf (.bool false) false op K = op K := by
  apply propext; constructor
  · rintro (⟨b', h1, h, _⟩ | ⟨h, _⟩)
    · cases h1; exact h rfl
    · cases h
  · exact fun h => .inl ⟨false, rfl, fun _ => h, fun h => (by cases h)⟩
theorem gIf_tf {op : KP → Prop} : gIf (.bool true) false op K = K undef := by
  apply propext; constructor
  · rintro (⟨b', h1, _, h⟩ | ⟨h, _⟩)
    · cases h1; exact h rfl
    · cases h
  · exact fun h => .inl ⟨true, rfl, fun h => (by cases h), fun _ => h⟩
theorem gIf_ft {op : KP → Prop} : gIf (.bool false) true op K = K undef := by
  apply propext; constructor
  · rintro (⟨b', h1, _, h⟩ | ⟨h, _⟩)
    · cases h1; exact h rfl
    · cases h
  · exact fun h => .inl ⟨false, rfl, fun h => (by cases h), fun _ => h⟩
theorem gIfW_tt {op : World → KV → Prop} : gIfW (.bool true) true op w KW = op w KW := by
  apply propext; constructor
  · rintro (⟨b', h1, h, _⟩ | ⟨h, _⟩)
    · cases h1; exact h rfl
    · cases h
  · exact fun h => .inl ⟨true, rfl, fun _ => h, fun h => (by cases h)⟩
theorem gIfW_ff {op : World → KV → Prop} : gIfW (.bool false) false op w KW = op w KW := by
  apply propext; constructor
  · rintro (⟨b', h1, h, _⟩ | ⟨h, _⟩)
    · cases h1; exact h rfl
    · cases h
  · exact fun h => .inl ⟨false, rfl, fun _ => h, fun h => (by cases h)⟩
theorem gIfW_tf {op : World → KV → Prop} : gIfW (.bool true) false op w KW = KW undef w := by
  apply propext; constructor
  · rintro (⟨b', h1, _, h⟩ | ⟨h, _⟩)
    · cases h1; exact h rfl
    · cases h
  · exact fun h => .inl ⟨true, rfl, fun h => (by cases h), fun _ => h⟩
theorem gIfW_ft {op : World → KV → Prop} : gIfW (.bool false) true op w KW = KW undef w := by
  apply propext; constructor
  · rintro (⟨b', h1, _, h⟩ | ⟨h, _⟩)
    · cases h1; exact h rfl
    · cases h
  · exact fun h => .inl ⟨false, rfl, fun h => (by cases h), fun _ => h⟩
theorem gIf_u {want : Bool} {op : KP → Prop} : gIf undef want op K = K undef := by
  apply propext; constructor
  · rintro (⟨b', h1, _⟩ | ⟨_, h⟩)
    · cases h1
    · exact h
  · exact fun h => .inr ⟨rfl, h⟩
theorem gIfW_u {want : Bool} {op : World → KV → Prop} : gIfW undef want op w KW = KW undef w := by
  apply propext; constructor
  · rintro (⟨b', h1, _⟩ | ⟨_, h⟩)
    · cases h1
    · exact h
  · exact fun h => .inr ⟨rfl, h⟩
/-! ### 3. What is read -/
theorem eLd {S : World → Prop} {a : Addr} {x : Value} (h : ∀ w, S w → w.cell? a = some x) (k : K x) : pLd S (.pointer (some a)) K := ⟨a, x, rfl, h, k⟩
theorem eLdW {a : Addr} : pLd (· = w) (.pointer (some a)) K = (∃ x, w.cell? a = some x ∧ K x) := by
  apply propext; constructor
  · rintro ⟨a', x, h1, h, k⟩; cases h1; exact ⟨x, h w rfl, k⟩
  · exact fun ⟨x, h, k⟩ => ⟨a, x, rfl, fun w' e => e ▸ h, k⟩
theorem eLdE {a : Addr} {x : Value} (h : w.cell? a = some x) : pLd (Ext w) (.pointer (some a)) K = K x := by
  apply propext; constructor
  · rintro ⟨a', x', h1, h', k⟩; cases h1; have := h' w (Fr.refl _ _); rw [h] at this; cases this; exact k
  · exact fun k => ⟨a, x, rfl, fun w' e => e.cell h, k⟩
theorem eLdNW {b n : Nat} {cs : Array Value} {T : TypeId} {fz : Nat × Nat} (h : w.heap[b]? = some (.cells cs T fz)) (hn : cs.size = n) : pLdN (· = w) n (.pointer (some ⟨b, 0, none⟩)) K = K (.agg cs) := by
  subst hn
  have hc : ∀ i, i < cs.size → w.cell? ((⟨b, 0, none⟩ : Addr).add i) = cs.toList[i]? := fun i hi => by rw [add_mk, cell_mk h]; simp
  apply propext; constructor
  · rintro ⟨a', xs, h1, h2, h3, k⟩
    cases h1
    have : xs.toArray = cs := by
      apply Array.ext'
      apply List.ext_getElem?
      intro i
      by_cases hi : i < cs.size
      · rw [← hc i hi, ← h3 w rfl i hi]
      · rw [List.getElem?_eq_none (by simp; omega), List.getElem?_eq_none (by simp; omega)]
    rw [this] at k
    exact k
  · exact fun k => ⟨_, cs.toList, rfl, by simp, fun w' e i hi => e ▸ hc i hi, by simpa using k⟩
theorem eLdNE {b n : Nat} {cs : Array Value} {T : TypeId} {fz : Nat × Nat} (h : w.heap[b]? = some (.cells cs T fz)) (hn : cs.size = n) (k : K (.agg cs)) : pLdN (Ext w) n (.pointer (some ⟨b, 0, none⟩)) K := by
  subst hn
  exact ⟨_, cs.toList, rfl, by simp, fun w' e i hi => by rw [add_mk, cell_mk (Fr.heap e h (fun h => h))]; simp, by simpa using k⟩
/-! ### 4. What is made -/
theorem box_ {T : TypeId} {v : Value} (h : ∀ g w', w.heap.size = g → Ext w w' → w'.heap[g]? = some (.cells v.cells T) → KW (.pointer (some ⟨g, 0, none⟩)) w') : pBox T v w KW :=
  h _ _ rfl (Ext.alloc w _) (alloc_new w _)
/-! ### 5. Whole numbers -/
theorem wrap64 {n : Int} (h0 : -9223372036854775808 ≤ n) (h1 : n ≤ 9223372036854775807) : IntKind.i64.wrap n = n := by
  have : (18446744073709551616 : Int) = 2 ^ 64 := by decide
  simp only [IntKind.wrap, IntKind.signed, IntKind.bits, Int.bmod, if_true]
  first | omega | (simp; omega)
/-! ### 6. Rows of cells -/
/-- Cells, one element behind the other, read as a list. -/
def RdL (t : Ty) (D : Nat → Prop) (w : World) : List Value → List t.D → Prop
  | cs, [] => cs = []
  | cs, x :: xs => ∃ a b, cs = a ++ b ∧ Rd t D w a x ∧ RdL t D w b xs
theorem RdL.len {t : Ty} {D : Nat → Prop} {w : World} : ∀ {xs : List t.D} {cs : List Value}, RdL t D w cs xs → cs.length = xs.length * t.n
  | [], _, h => by rw [show _ = _ from h]; simp
  | x :: xs, _, h => by
    obtain ⟨a, b, rfl, h1, h2⟩ := h
    simp [h1.len, h2.len, Nat.succ_mul]; omega
theorem RdL.imp {t : Ty} {D D' : Nat → Prop} {w w' : World} (hD : ∀ b, D b → D' b) (hw : ∀ b, D b → b < w.heap.size → w'.heap[b]? = w.heap[b]?) : ∀ {xs : List t.D} {cs : List Value}, RdL t D w cs xs → RdL t D' w' cs xs
  | [], _, h => h
  | x :: xs, _, h => by
    obtain ⟨a, b, rfl, h1, h2⟩ := h
    exact ⟨a, b, rfl, h1.imp hD hw, h2.imp hD hw⟩
theorem RdL.append {t : Ty} {D : Nat → Prop} {w : World} {ys : List t.D} {ds : List Value} (k : RdL t D w ds ys) : ∀ {xs : List t.D} {cs : List Value}, RdL t D w cs xs → RdL t D w (cs ++ ds) (xs ++ ys)
  | [], _, h => by rw [show _ = _ from h]; exact k
  | x :: xs, _, h => by
    obtain ⟨a, b, rfl, h1, h2⟩ := h
    exact ⟨a, b ++ ds, by simp, h1, RdL.append k h2⟩
theorem RdL.single {t : Ty} {D : Nat → Prop} {w : World} {x : t.D} {cs : List Value} (h : Rd t D w cs x) : RdL t D w cs [x] := ⟨cs, [], by simp, h, rfl⟩
theorem RdL.allOne {t : Ty} {D : Nat → Prop} {w : World} : ∀ {xs : List t.D} {cs : List Value}, RdL t D w cs xs → ∀ v ∈ cs, one v = true
  | [], _, h => by rw [show _ = _ from h]; simp
  | x :: xs, _, h => by
    obtain ⟨a, b, rfl, h1, h2⟩ := h
    intro v hv
    rcases List.mem_append.1 hv with hv | hv
    · exact h1.allOne v hv
    · exact h2.allOne v hv
theorem RdL.get {t : Ty} {D : Nat → Prop} {w : World} : ∀ {xs : List t.D} {cs : List Value}, RdL t D w cs xs → ∀ i (hi : i < xs.length),
    ∃ a, a.length = t.n ∧ Rd t D w a xs[i] ∧ ∀ j v, a[j]? = some v → cs[i * t.n + j]? = some v
  | x :: xs, _, h, 0, _ => by
    obtain ⟨a, b, rfl, h1, h2⟩ := h
    exact ⟨a, h1.len, h1, fun j v hj => by rw [Nat.zero_mul, Nat.zero_add, List.getElem?_append_left (List.getElem?_eq_some_iff.1 hj).1]; exact hj⟩
  | x :: xs, _, h, i + 1, hi => by
    obtain ⟨a, b, rfl, h1, h2⟩ := h
    obtain ⟨c, g1, g2, g3⟩ := h2.get i (by simpa using hi)
    refine ⟨c, g1, by simpa using g2, fun j v hj => ?_⟩
    have := h1.len
    rw [List.getElem?_append_right (by rw [Nat.succ_mul]; omega), show (i + 1) * t.n + j - a.length = i * t.n + j by rw [Nat.succ_mul]; omega]
    exact g3 j v hj
/-- What a slice reads as, cell by cell. -/
theorem Rd.rows {t : Ty} {D : Nat → Prop} {w : World} {v : Value} : ∀ {xs : List t.D}, Rd (.slice t) D w [v] xs → ∃ a c cs, v = .slice a xs.length c ∧ RdL t D w cs xs ∧ (∀ i u, cs[i]? = some u → ∃ ad, a = some ad ∧ ad.spot = none ∧ D ad.block ∧ w.cell? (ad.add i) = some u) := by
  intro xs h
  obtain ⟨a, c, h1, h2, h3, h4⟩ := h
  refine ⟨a, c, ?_⟩
  suffices ∀ (ys : List t.D) (k : Nat), xs.drop k = ys → ∃ cs, RdL t D w cs ys ∧ (∀ i u, cs[i]? = some u → ∃ ad, a = some ad ∧ ad.spot = none ∧ D ad.block ∧ w.cell? (ad.add (k * t.n + i)) = some u) by
    obtain ⟨cs, g1, g2⟩ := this xs 0 rfl
    exact ⟨cs, by simpa using h1, g1, fun i u hi => by obtain ⟨ad, e1, e2, e3, e4⟩ := g2 i u hi; exact ⟨ad, e1, e2, e3, by simpa using e4⟩⟩
  intro ys
  induction ys with
  | nil => exact fun k _ => ⟨[], rfl, fun i u hi => by simp at hi⟩
  | cons y ys ih =>
    intro k hk
    have hlt : k < xs.length := by
      have := congrArg List.length hk
      simp at this; omega
    have hd : xs.drop k = xs[k] :: xs.drop (k + 1) := List.drop_eq_getElem_cons hlt
    rw [hd] at hk
    injection hk with e1 e2
    obtain ⟨ds, g1, g2⟩ := ih (k + 1) e2
    obtain ⟨ad, rfl, i2, i3, i4⟩ := h4 (by intro e; subst e; simp at hlt)
    obtain ⟨cs, k1, k2, k3⟩ := i4 k hlt
    rw [e1] at k3
    refine ⟨cs ++ ds, ⟨cs, ds, rfl, k3, g1⟩, fun i u hi => ?_⟩
    by_cases hl : i < cs.length
    · rw [List.getElem?_append_left hl] at hi
      exact ⟨ad, rfl, i2, i3, k2 i u hi⟩
    · rw [List.getElem?_append_right (by omega)] at hi
      obtain ⟨ad', f1, f2, f3, f4⟩ := g2 _ u hi
      refine ⟨ad', f1, f2, f3, ?_⟩
      rw [show k * t.n + i = (k + 1) * t.n + (i - cs.length) by rw [Nat.succ_mul]; omega]
      exact f4
end Go.G
end
section
set_option linter.unusedSimpArgs false
set_option linter.unusedVariables false
namespace Go.G
open Go
theorem Ty.n_pos : ∀ t : Ty, 0 < t.n
  | .int _ | .byte | .bool | .str | .slice _ => Nat.one_pos
  | .pair a b => Nat.lt_of_lt_of_le a.n_pos (Nat.le_add_right _ _)
/-- The block of a slice. -/
def Blk (v : Value) (b : Nat) : Prop := ∃ a n c, v = .slice (some a) n c ∧ a.block = b
/-- A slice that a call owns: none, or one in a block at or behind B, its elements' own data elsewhere, in D. -/
def Own (t : Ty) (D : Nat → Prop) (B : Nat) (w : World) (v : Value) (xs : List t.D) : Prop :=
  (xs = [] ∧ ∃ a, v = .slice a 0 0) ∨
  ∃ g c cs T fz old rest, v = .slice (some ⟨g, 0, none⟩) xs.length c ∧ B ≤ g ∧ ¬ D g ∧ w.heap[g]? = some (.cells cs T fz) ∧ (∀ o, o < cs.size → fz.1 ≤ o → o < fz.2 → False) ∧
    cs.toList = old ++ rest ∧ cs.size = c * t.n ∧ RdL t D w old xs
theorem Own.nil {t : Ty} {D : Nat → Prop} {B : Nat} {w : World} : Own t D B w (.slice none 0 0) [] := .inl ⟨rfl, none, rfl⟩
theorem Own.form {t : Ty} {D : Nat → Prop} {B : Nat} {w : World} {v : Value} {xs : List t.D} (h : Own t D B w v xs) : ∃ a c, v = .slice a xs.length c ∧ xs.length ≤ c := by
  rcases h with ⟨rfl, a, rfl⟩ | ⟨g, c, cs, T, fz, old, rest, rfl, _, _, _, _, h1, h2, h3⟩
  · exact ⟨a, 0, rfl, Nat.le_refl _⟩
  · refine ⟨_, c, rfl, ?_⟩
    have e := congrArg List.length h1
    rw [List.length_append, h3.len, Array.length_toList, h2] at e
    have := t.n_pos
    exact Nat.le_of_mul_le_mul_right (by omega : xs.length * t.n ≤ c * t.n) this
theorem Own.fr {t : Ty} {D T : Nat → Prop} {B : Nat} {w w' : World} {v : Value} {xs : List t.D} (h : Own t D B w v xs) (hf : Fr T w w') (hD : ∀ b, D b → ¬ T b) (hv : ∀ b, Blk v b → B ≤ b → ¬ T b) : Own t D B w' v xs := by
  rcases h with ⟨rfl, a, rfl⟩ | ⟨g, c, cs, T', fz, old, rest, rfl, h1, h2, h3, h3', h4, h5, h6⟩
  · exact .inl ⟨rfl, a, rfl⟩
  · exact .inr ⟨g, c, cs, T', fz, old, rest, rfl, h1, h2, hf.heap h3 (hv _ ⟨_, _, _, rfl, rfl⟩ h1), h3', h4, h5, h6.imp (fun _ h => h) (fun b hb hlt => hf.keep b hlt (hD b hb))⟩
theorem Own.ext {t : Ty} {D : Nat → Prop} {B : Nat} {w w' : World} {v : Value} {xs : List t.D} (h : Own t D B w v xs) (hf : Ext w w') : Own t D B w' v xs := h.fr hf (fun _ _ h => h) (fun _ _ _ h => h)
theorem Own.wide {t : Ty} {D D' : Nat → Prop} {B : Nat} {w : World} {v : Value} {xs : List t.D} (h : Own t D B w v xs) (hD : ∀ b, D b → D' b) (hv : ∀ b, Blk v b → B ≤ b → ¬ D' b) : Own t D' B w v xs := by
  rcases h with ⟨rfl, a, rfl⟩ | ⟨g, c, cs, T', fz, old, rest, rfl, h1, h2, h3, h3', h4, h5, h6⟩
  · exact .inl ⟨rfl, a, rfl⟩
  · exact .inr ⟨g, c, cs, T', fz, old, rest, rfl, h1, hv _ ⟨_, _, _, rfl, rfl⟩ h1, h3, h3', h4, h5, h6.imp hD (fun _ _ _ => rfl)⟩
theorem Own.low {t : Ty} {D : Nat → Prop} {B B' : Nat} {w : World} {v : Value} {xs : List t.D} (h : Own t D B w v xs) (hB : B' ≤ B) : Own t D B' w v xs := by
  rcases h with ⟨rfl, a, rfl⟩ | ⟨g, c, cs, T', fz, old, rest, rfl, h1, h⟩
  · exact .inl ⟨rfl, a, rfl⟩
  · exact .inr ⟨g, c, cs, T', fz, old, rest, rfl, Nat.le_trans hB h1, h⟩
/-- Rows of cells at an address read as a slice. -/
theorem Rd.of_rows {t : Ty} {D D' : Nat → Prop} {w : World} {xs : List t.D} {cs : List Value} {a : Option Addr} {c : Nat} (h : RdL t D w cs xs) (hD : ∀ b, D b → D' b) (hc : xs.length ≤ c) (hl : xs.length < 9223372036854775808)
    (hr : ∀ i u, cs[i]? = some u → ∃ ad : Addr, a = some ad ∧ ad.spot = none ∧ D' ad.block ∧ w.cell? (ad.add i) = some u) : Rd (.slice t) D' w [.slice a xs.length c] xs := by
  refine ⟨a, c, rfl, hc, hl, fun hne => ?_⟩
  have hlen := h.len
  have hpos : 0 < xs.length := List.length_pos_iff.2 hne
  obtain ⟨u0, hu0⟩ : ∃ u, cs[0]? = some u := by
    have : 0 < cs.length := by rw [hlen]; exact Nat.mul_pos hpos t.n_pos
    exact ⟨cs[0], List.getElem?_eq_getElem this⟩
  obtain ⟨ad, rfl, e2, e3, _⟩ := hr 0 u0 hu0
  refine ⟨ad, rfl, e2, e3, fun i hi => ?_⟩
  obtain ⟨r, g1, g2, g3⟩ := h.get i hi
  refine ⟨r, g1, fun j v hj => ?_, g2.wide hD⟩
  obtain ⟨ad', f1, _, _, f4⟩ := hr _ v (g3 j v hj)
  cases f1
  exact f4
theorem Own.rd {t : Ty} {D D' : Nat → Prop} {B : Nat} {w : World} {v : Value} {xs : List t.D} (h : Own t D B w v xs) (hD : ∀ b, D b → D' b) (hB : ∀ b, B ≤ b → D' b) (hl : xs.length < 9223372036854775808) : Rd (.slice t) D' w [v] xs := by
  have hf := h.form
  rcases h with ⟨rfl, a, rfl⟩ | ⟨g, c, cs, T, fz, old, rest, rfl, h1, h2, h3, h3', h4, h5, h6⟩
  · exact ⟨a, 0, rfl, Nat.le_refl _, hl, fun h => absurd rfl h⟩
  · obtain ⟨_, c', e, hc⟩ := hf
    simp at e
    refine Rd.of_rows h6 hD (by omega) hl fun i u hi => ⟨_, rfl, rfl, hB g h1, ?_⟩
    rw [add_mk, Nat.zero_add, cell_mk h3, ← Array.getElem?_toList, h4, List.getElem?_append_left (List.getElem?_eq_some_iff.1 hi).1]
    exact hi
theorem setCells_heap {g o : Nat} {T : TypeId} {fz : Nat × Nat} : ∀ (xs : List Value) (i : Nat) (w : World) (cs : Array Value) (pre post : List Value), w.heap[g]? = some (.cells cs T fz) → cs.toList = pre ++ post → pre.length = o + i → xs.length ≤ post.length →
    ∃ cs', (setCells w ⟨g, o, none⟩ i xs).heap[g]? = some (.cells cs' T fz) ∧ cs'.toList = pre ++ xs ++ post.drop xs.length
  | [], i, w, cs, pre, post, h1, h2, _, _ => ⟨cs, h1, by simpa using h2⟩
  | v :: r, i, w, cs, pre, [], _, _, _, h4 => by simp at h4
  | v :: r, i, w, cs, pre, p :: post, h1, h2, h3, h4 => by
    have hh : (w.setCell ((⟨g, o, none⟩ : Addr).add i) v).heap[g]? = some (.cells (cs.setIfInBounds (o + i) v) T fz) := by
      rw [heap_setCell, add_mk, if_pos rfl, h1]; simp
    have hl : (cs.setIfInBounds (o + i) v).toList = (pre ++ [v]) ++ post := by
      rw [Array.toList_setIfInBounds, h2, ← h3, List.set_append_right _ _ (Nat.le_refl _)]; simp
    have hp : (pre ++ [v]).length = o + (i + 1) := by rw [List.length_append, h3]; rfl
    obtain ⟨cs', g1, g2⟩ := setCells_heap r (i + 1) _ _ (pre ++ [v]) post hh hl hp (by simpa using h4)
    exact ⟨cs', g1, by rw [g2]; simp⟩
theorem growBy_le (n : Nat) : ∀ r c m, c ≤ m → n + (n + 768) / 4 ≤ m → Builtin.growBy n r c ≤ m
  | 0, c, m, h, _ => h
  | r + 1, c, m, h, h' => by
    unfold Builtin.growBy
    split
    · exact h
    · rename_i hc
      exact growBy_le n r _ m (by omega) h'
theorem nextslicecap_le {n c : Nat} (h : c < n) : Builtin.nextslicecap n c ≤ 2 * n + 192 := by
  unfold Builtin.nextslicecap
  split
  · omega
  · split
    · omega
    · exact growBy_le n 4 c _ (by omega) (by omega)
/-- append: what is owned stays owned, and is longer. -/
theorem Own.app {t : Ty} {D : Nat → Prop} {B E size bytes : Nat} {zero : List Value} {w : World} {K : KV} {v x : Value} {xs ys : List t.D} {ds : List Value}
    (h : Own t D B w v xs) (hB : B ≤ w.heap.size) (hD : ¬ D w.heap.size) (hs : size = t.n) (hz : zero.length = t.n)
    (hx : lenV x = ys.length) (hr : reads w size ys.length x ds) (hy : RdL t D w ds ys) (hb : (2 * (xs.length + ys.length) + 192) * bytes ≤ 2 ^ 48)
    (k : ∀ v' w', Own t D B w' v' (xs ++ ys) → Fr (fun b => Blk v b ∧ B ≤ b) w w' → (∀ b, Blk v' b → Blk v b ∨ (w.heap.size ≤ b ∧ b < w'.heap.size)) → K v' w') : pApp E size bytes zero v x w K := by
  subst hs
  have grown : ∀ (n c : Nat) (a : Option Addr) (old : List Value), v = .slice a n c → n = xs.length → RdL t D w old xs → reads w t.n n v old → c < n + lenV x →
      Builtin.nextslicecap (n + lenV x) c * bytes ≤ 2 ^ 48 ∧
      ∃ old, reads w t.n n v old ∧ ∀ cap, n + lenV x ≤ cap → cap < 2 ^ 63 →
        K (.slice (some ⟨w.heap.size, 0, none⟩) (n + lenV x) cap) (w.drew.alloc (.cells (old ++ ds ++ rowOf zero (cap - (n + lenV x))).toArray E)) := by
    intro n c a old hv hn ho hold hlt
    refine ⟨Nat.le_trans (Nat.mul_le_mul_right _ (nextslicecap_le hlt)) (by rw [hx, hn]; exact hb), old, hold, fun cap hcap _ => ?_⟩
    have hE : Ext w (w.drew.alloc (.cells (old ++ ds ++ rowOf zero (cap - (n + lenV x))).toArray E)) := (Ext.drew w).tr (Ext.alloc _ _)
    have hsz : (w.drew.alloc (.cells (old ++ ds ++ rowOf zero (cap - (n + lenV x))).toArray E)).heap.size = w.heap.size + 1 := by rw [size_alloc, heap_drew]
    refine k _ _ (.inr ⟨w.heap.size, cap, _, E, (0, 0), old ++ ds, rowOf zero (cap - (n + lenV x)), ?_, hB, hD, alloc_new w.drew _, ?_, rfl, ?_, ?_⟩) (hE.mono (fun _ _ h => h.elim)) ?_
    · rw [hx, hn, List.length_append]
    · intro o _ _ h; simp at h
    · have hrow : ∀ m, (rowOf zero m).length = m * t.n := fun m => by
        induction m with
        | zero => simp [rowOf]
        | succ m ih => simp only [rowOf, List.replicate_succ, List.flatten_cons, List.length_append, hz] at ih ⊢; rw [ih, Nat.succ_mul]; omega
      simp only [List.size_toArray, List.length_append, ho.len, hy.len, hrow, hx, hn]
      rw [← Nat.add_mul, ← Nat.add_mul]; congr 1; rw [hx, hn] at hcap; omega
    · exact RdL.append (hy.imp (fun _ h => h) (fun b _ hlt => hE.keep b hlt (fun h => h))) (ho.imp (fun _ h => h) (fun b _ hlt => hE.keep b hlt (fun h => h)))
    · rintro b ⟨a', n', c', e, rfl⟩
      simp at e
      rw [← e.1]
      exact .inr ⟨Nat.le_refl _, by rw [hsz]; exact Nat.lt_succ_self _⟩
  rcases h with ⟨rfl, a, rfl⟩ | ⟨g, c, cs, T, fz, old, rest, rfl, h1, h2, h3, h3', h4, h5, h6⟩
  · refine ⟨a, 0, 0, ds, rfl, by rw [hx]; exact hr, fun hle => ?_, fun hlt => grown 0 0 a [] rfl rfl rfl ⟨by simp, fun i v hi => by simp at hi⟩ hlt⟩
    have hy0 : ys = [] := by rw [hx] at hle; exact List.length_eq_zero_iff.1 (by omega)
    subst hy0
    have hd0 : ds = [] := hy
    subst hd0
    have hkk : K (.slice a (0 + lenV x) 0) w := by
      rw [hx]
      exact k _ _ (.inl ⟨rfl, a, rfl⟩) (Fr.refl _ _) (fun b h => .inl h)
    cases a with
    | none => exact hkk
    | some ad => exact ⟨fun j v hj => by simp at hj, hkk⟩
  · have e := congrArg List.length h4
    rw [List.length_append, h6.len, Array.length_toList, h5] at e
    have hrd : ∀ i u, old[i]? = some u → w.cell? ((⟨g, 0, none⟩ : Addr).add i) = some u := fun i u hi => by
      rw [add_mk, Nat.zero_add, cell_mk h3, ← Array.getElem?_toList, h4, List.getElem?_append_left (List.getElem?_eq_some_iff.1 hi).1]; exact hi
    refine ⟨some ⟨g, 0, none⟩, xs.length, c, ds, rfl, by rw [hx]; exact hr, fun hle => ?_, fun hlt => grown _ _ _ old rfl rfl h6 ⟨h6.len, fun i u hi => ⟨_, rfl, hrd i u hi⟩⟩ hlt⟩
    rw [hx] at hle ⊢
    have hmul : (xs.length + ys.length) * t.n ≤ c * t.n := Nat.mul_le_mul_right _ hle
    rw [Nat.add_mul] at hmul
    have hdl := hy.len
    have hol := h6.len
    have hnf : ∀ o, o < cs.size → w.frozen? ⟨g, o, none⟩ = false := fun o ho => by
      simp only [World.frozen?, h3]
      rw [Bool.and_eq_false_iff]
      by_cases hf : fz.1 ≤ o
      · exact .inr (by simpa using fun hh => h3' o ho hf hh)
      · exact .inl (by simpa using hf)
    refine ⟨fun j u hj => ?_, ?_⟩
    · have hjl := (List.getElem?_eq_some_iff.1 hj).1
      have hlt : xs.length * t.n + j < cs.size := by rw [h5]; omega
      rw [add_add _ _ _ rfl, add_mk, Nat.zero_add]
      exact ⟨⟨_, by rw [cell_mk h3]; exact Array.getElem?_eq_getElem hlt⟩, hnf _ hlt, hy.allOne u (List.mem_of_getElem? hj)⟩
    · rw [add_mk, Nat.zero_add]
      obtain ⟨cs', g1, g2⟩ := setCells_heap (g := g) (o := xs.length * t.n) ds 0 w cs old rest h3 h4 (by omega) (by omega)
      have hF := Fr.setCells ⟨g, xs.length * t.n, none⟩ ds 0 w
      refine k _ _ (.inr ⟨g, c, cs', T, fz, old ++ ds, rest.drop ds.length, by rw [List.length_append], h1, h2, g1, ?_, g2, ?_, ?_⟩) (hF.mono fun b _ e => ?_) (fun b h => ?_)
      · have hcs : cs'.size = cs.size := by
          have e1 := congrArg List.length g2
          have e2 := congrArg List.length h4
          simp at e1 e2
          omega
        rw [hcs]; exact h3'
      · have e1 := congrArg List.length g2
        simp at e1
        omega
      · exact RdL.append (hy.imp (fun _ h => h) (fun b hb hlt => hF.keep b hlt (fun e => h2 (by rw [← show b = g from e]; exact hb)))) (h6.imp (fun _ h => h) (fun b hb hlt => hF.keep b hlt (fun e => h2 (by rw [← show b = g from e]; exact hb))))
      · exact ⟨⟨_, _, _, rfl, e.symm⟩, by rw [show b = g from e]; exact h1⟩
      · obtain ⟨a', n', c', e1, e2⟩ := h
        simp at e1
        exact .inl ⟨_, _, _, rfl, by rw [e1.1]; exact e2⟩
/-- append of one element that was put into a fresh row. -/
theorem reads_slice {w : World} {a : Option Addr} {n c size : Nat} {ds : List Value} (hl : ds.length = n * size) (h : ∀ i u, ds[i]? = some u → ∃ ad, a = some ad ∧ w.cell? (ad.add i) = some u) : reads w size n (.slice a n c) ds := ⟨hl, h⟩
theorem Own.push {t : Ty} {D : Nat → Prop} {B E size bytes : Nat} {zero : List Value} {w : World} {K : KV} {v : Value} {xs : List t.D} {y : t.D} {r : Nat} {cs : List Value} {T : TypeId} {fz : Nat × Nat} {c : Nat}
    (h : Own t D B w v xs) (hB : B ≤ w.heap.size) (hD : ¬ D w.heap.size) (hs : size = t.n) (hz : zero.length = t.n)
    (hr : w.heap[r]? = some (.cells cs.toArray T fz)) (hy : Rd t D w cs y) (hb : (2 * (xs.length + 1) + 192) * bytes ≤ 2 ^ 48)
    (k : ∀ v' w', Own t D B w' v' (xs ++ [y]) → Fr (fun b => Blk v b ∧ B ≤ b) w w' → (∀ b, Blk v' b → Blk v b ∨ (w.heap.size ≤ b ∧ b < w'.heap.size)) → K v' w') : pApp E size bytes zero v (.slice (some ⟨r, 0, none⟩) 1 c) w K :=
  h.app hB hD hs hz (ys := [y]) (ds := cs) rfl (reads_slice (by rw [hy.len, hs]; simp) fun i u hi => ⟨_, rfl, by rw [add_mk, cell_mk hr]; simpa using hi⟩) (RdL.single hy) hb k
/-- append of what a slice reads as. -/
theorem Own.cat {t : Ty} {D : Nat → Prop} {B E size bytes : Nat} {zero : List Value} {w : World} {K : KV} {v x : Value} {xs ys : List t.D}
    (h : Own t D B w v xs) (hB : B ≤ w.heap.size) (hD : ¬ D w.heap.size) (hs : size = t.n) (hz : zero.length = t.n)
    {D' : Nat → Prop} (hx : Rd (.slice t) D' w [x] ys) (hx' : ∀ cs, RdL t D' w cs ys → RdL t D w cs ys) (hb : (2 * (xs.length + ys.length) + 192) * bytes ≤ 2 ^ 48)
    (k : ∀ v' w', Own t D B w' v' (xs ++ ys) → Fr (fun b => Blk v b ∧ B ≤ b) w w' → (∀ b, Blk v' b → Blk v b ∨ (w.heap.size ≤ b ∧ b < w'.heap.size)) → K v' w') : pApp E size bytes zero v x w K := by
  obtain ⟨a, c, cs, rfl, h1, h2⟩ := Rd.rows hx
  exact h.app hB hD hs hz (ds := cs) rfl (reads_slice (by rw [h1.len, hs]) fun i u hi => by obtain ⟨ad, e1, _, _, e4⟩ := h2 i u hi; exact ⟨ad, e1, e4⟩) (hx' _ h1) hb k
end Go.G
end
section
set_option linter.unusedSimpArgs false
set_option linter.unusedVariables false
namespace Go.G
open Go
theorem draw_ {w : World} {D : (World → Prop) → World → Prop} (h : ∀ w', Ext w w' → D (Ext w') w') : drawn w D := ⟨Ext w.drew, Fr.refl _ _, h _ (Ext.drew w)⟩
theorem boxA {T : TypeId} {cs : Array Value} {w : World} {K : KV} (h : ∀ g w', w.heap.size = g → Ext w w' → w'.heap[g]? = some (.cells cs T) → K (.pointer (some ⟨g, 0, none⟩)) w') : pBox T (.agg cs) w K :=
  h _ _ rfl (Ext.alloc w _) (alloc_new w _)
/-- Cells of a block. -/
def Cs (w : World) (g : Nat) (l : List Value) : Prop := ∃ T, w.heap[g]? = some (.cells ⟨l⟩ T)
theorem Cs.ext {w w' : World} {g : Nat} {l : List Value} (h : Cs w g l) (e : Ext w w') : Cs w' g l := by
  obtain ⟨T, h⟩ := h; exact ⟨T, e.heap h (fun h => h)⟩
theorem Cs.fr {T : Nat → Prop} {w w' : World} {g : Nat} {l : List Value} (h : Cs w g l) (e : Fr T w w') (hT : ¬ T g) : Cs w' g l := by
  obtain ⟨T', h⟩ := h; exact ⟨T', e.heap h hT⟩
theorem Cs.lt {w : World} {g : Nat} {l : List Value} (h : Cs w g l) : g < w.heap.size := by
  obtain ⟨T, h⟩ := h; exact heap_lt h
theorem Cs.c {w : World} {g : Nat} {l : List Value} (h : Cs w g l) (o : Nat) : w.cell? ⟨g, o, none⟩ = l[o]? := by
  obtain ⟨T, h⟩ := h; rw [cell_mk h]; simp
theorem Cs.c0 {w : World} {g : Nat} {a : Value} {l : List Value} (h : Cs w g (a :: l)) {K : KP} : pLd (· = w) (.pointer (some ⟨g, 0, none⟩)) K = K a := by
  rw [eLdW, h.c]; simp
theorem Cs.c1 {w : World} {g : Nat} {a b : Value} {l : List Value} (h : Cs w g (a :: b :: l)) {K : KP} : pLd (· = w) (.pointer (some ⟨g, 1, none⟩)) K = K b := by
  rw [eLdW, h.c]; simp
theorem Cs.c2 {w : World} {g : Nat} {a b c : Value} {l : List Value} (h : Cs w g (a :: b :: c :: l)) {K : KP} : pLd (· = w) (.pointer (some ⟨g, 2, none⟩)) K = K c := by
  rw [eLdW, h.c]; simp
theorem Cs.e0 {w : World} {g : Nat} {a : Value} {l : List Value} (h : Cs w g (a :: l)) {K : KP} : pLd (Ext w) (.pointer (some ⟨g, 0, none⟩)) K = K a := eLdE (by rw [h.c]; rfl)
theorem Cs.e1 {w : World} {g : Nat} {a b : Value} {l : List Value} (h : Cs w g (a :: b :: l)) {K : KP} : pLd (Ext w) (.pointer (some ⟨g, 1, none⟩)) K = K b := eLdE (by rw [h.c]; rfl)
theorem Cs.e2 {w : World} {g : Nat} {a b c : Value} {l : List Value} (h : Cs w g (a :: b :: c :: l)) {K : KP} : pLd (Ext w) (.pointer (some ⟨g, 2, none⟩)) K = K c := eLdE (by rw [h.c]; rfl)
theorem Cs.ld {w : World} {g n : Nat} {l : List Value} (h : Cs w g l) (hn : l.length = n) {K : KP} : pLdN (· = w) n (.pointer (some ⟨g, 0, none⟩)) K = K (.agg ⟨l⟩) := by
  obtain ⟨T, h⟩ := h; exact eLdNW h (by simpa using hn)
theorem Cs.ldE {w : World} {g n : Nat} {l : List Value} (h : Cs w g l) (hn : l.length = n) {K : KP} : pLdN (Ext w) n (.pointer (some ⟨g, 0, none⟩)) K = K (.agg ⟨l⟩) := by
  obtain ⟨T, h⟩ := h
  apply propext; constructor
  · rintro ⟨a', xs, h1, h2, h3, k⟩
    exact (eLdNW h (by simpa using hn)).mp ⟨a', xs, h1, h2, fun w' e => h3 w' (by rw [e]; exact Fr.refl _ _), k⟩
  · exact fun k => eLdNE h (by simpa using hn) k
theorem Cs.ld2 {w : World} {g : Nat} {a b : Value} (h : Cs w g [a, b]) {K : KP} : pLdN (· = w) 2 (.pointer (some ⟨g, 0, none⟩)) K = K (.agg #[a, b]) := h.ld rfl
theorem Cs.ld3 {w : World} {g : Nat} {a b c : Value} (h : Cs w g [a, b, c]) {K : KP} : pLdN (· = w) 3 (.pointer (some ⟨g, 0, none⟩)) K = K (.agg #[a, b, c]) := h.ld rfl
theorem Cs.ld4 {w : World} {g : Nat} {a b c d : Value} (h : Cs w g [a, b, c, d]) {K : KP} : pLdN (· = w) 4 (.pointer (some ⟨g, 0, none⟩)) K = K (.agg #[a, b, c, d]) := h.ld rfl
theorem Cs.le2 {w : World} {g : Nat} {a b : Value} (h : Cs w g [a, b]) {K : KP} : pLdN (Ext w) 2 (.pointer (some ⟨g, 0, none⟩)) K = K (.agg #[a, b]) := h.ldE rfl
theorem Cs.le3 {w : World} {g : Nat} {a b c : Value} (h : Cs w g [a, b, c]) {K : KP} : pLdN (Ext w) 3 (.pointer (some ⟨g, 0, none⟩)) K = K (.agg #[a, b, c]) := h.ldE rfl
theorem Cs.le4 {w : World} {g : Nat} {a b c d : Value} (h : Cs w g [a, b, c, d]) {K : KP} : pLdN (Ext w) 4 (.pointer (some ⟨g, 0, none⟩)) K = K (.agg #[a, b, c, d]) := h.ldE rfl
theorem boxC {T : TypeId} {cs : List Value} {w : World} {K : KV} (h : ∀ g w', w.heap.size = g → Ext w w' → Cs w' g cs → K (.pointer (some ⟨g, 0, none⟩)) w') : pBox T (.agg ⟨cs⟩) w K :=
  boxA fun g w' h1 h2 h3 => h g w' h1 h2 ⟨_, h3⟩
theorem boxV {T : TypeId} {v : Value} {w : World} {K : KV} (hv : one v = true) (h : ∀ g w', w.heap.size = g → Ext w w' → Cs w' g [v] → K (.pointer (some ⟨g, 0, none⟩)) w') : pBox T v w K :=
  box_ fun g w' h1 h2 h3 => h g w' h1 h2 ⟨_, by rw [h3, one_cells hv]⟩
/-- One value, put into a fresh row. -/
theorem bslice1 {E : Nat} {z v : Value} {w : World} {K : KV} (hv : one v = true) (h : ∀ g w', w.heap.size = g → Ext w w' → Cs w' g [v] → K (.slice (some ⟨g, 0, none⟩) 1 1) w') : pBSlice E 1 (rowOf [z] 1) [(0, 1, v)] w K := by
  refine ⟨[v], ?_, h _ _ rfl (Ext.alloc w _) ⟨_, alloc_new w _⟩⟩
  simp [rowOf, fillL, one_cells hv, cutIn]
/-- append(s, x) -/
theorem Own.push1 {t : Ty} {D : Nat → Prop} {B E bytes : Nat} {z : Value} {w : World} {K : KV} {v y : Value} {xs : List t.D} {x : t.D} {r : Nat}
    (h : Own t D B w v xs) (hr : Cs w r [y]) (hy : Rd t D w [y] x) (hB : B ≤ w.heap.size) (hD : ¬ D w.heap.size) (ht : t.n = 1) (hb : (2 * (xs.length + 1) + 192) * bytes ≤ 2 ^ 48)
    (k : ∀ v' w', Own t D B w' v' (xs ++ [x]) → Fr (fun b => Blk v b ∧ B ≤ b) w w' → (∀ b, Blk v' b → Blk v b ∨ (w.heap.size ≤ b ∧ b < w'.heap.size)) → K v' w') : pApp E 1 bytes [z] v (.slice (some ⟨r, 0, none⟩) 1 1) w K := by
  obtain ⟨T, hr⟩ := hr
  exact h.push hB hD ht.symm (by rw [ht]; rfl) hr hy hb k
theorem Cs.bslice {E len : Nat} {zero : List Value} {parts : List (Nat × Nat × Value)} {cs : List Value} {w : World} {K : KV} (hc : fillL zero parts = some cs) (h : ∀ g w', w.heap.size = g → Ext w w' → Cs w' g cs → K (.slice (some ⟨g, 0, none⟩) len len) w') : pBSlice E len zero parts w K :=
  ⟨cs, hc, h _ _ rfl (Ext.alloc w _) ⟨_, alloc_new w _⟩⟩
theorem Cs.set {w : World} {g i : Nat} {l : List Value} {v : Value} {K : KV} (h : Cs w g l) (hi : i < l.length) (hv : one v = true) (k : ∀ w', Cs w' g (l.set i v) → Fr (· = g) w w' → K undef w') : pSt (.pointer (some ⟨g, i, none⟩)) v w K := by
  have hc := h.c i
  rw [List.getElem?_eq_getElem hi] at hc
  obtain ⟨T, h⟩ := h
  refine ⟨_, _, rfl, hc, by simp [World.frozen?, h], hv, k _ ⟨T, ?_⟩ (Fr.setCell w ⟨g, i, none⟩ v)⟩
  rw [heap_setCell, if_pos rfl, h]; simp
theorem Cs.setN {w : World} {g n : Nat} {l l' : List Value} {K : KV} (h : Cs w g l) (hl : l'.length = l.length) (hn : l'.length = n) (hv : ∀ v ∈ l', one v = true) (k : ∀ w', Cs w' g l' → Fr (· = g) w w' → K undef w') : pStN n (.pointer (some ⟨g, 0, none⟩)) (.agg ⟨l'⟩) w K := by
  have hc := h.c
  obtain ⟨T, h⟩ := h
  refine ⟨_, l', rfl, rfl, hn, fun j v hj => ?_, k _ ?_ (Fr.setCells ⟨g, 0, none⟩ l' 0 w)⟩
  · have hjl := (List.getElem?_eq_some_iff.1 hj).1
    rw [add_mk, Nat.zero_add]
    exact ⟨⟨_, by rw [hc]; exact List.getElem?_eq_getElem (by omega)⟩, by simp [World.frozen?, h], hv v (List.mem_of_getElem? hj)⟩
  · obtain ⟨cs', g1, g2⟩ := setCells_heap (g := g) (o := 0) l' 0 w ⟨l⟩ [] l h rfl rfl (by omega)
    refine ⟨T, ?_⟩
    rw [g1]
    have : cs' = ⟨l'⟩ := by
      apply Array.ext'
      rw [g2, hl, List.drop_length]; simp
    rw [this]
/-- The whole number of a value. -/
def iv : Value → Int
  | .int _ n => n
  | _ => 0
end Go.G
end
section
set_option linter.unusedSimpArgs false
set_option linter.unusedVariables false
namespace Go.G
open Go
theorem anew_ {w : World} {D : (World → Prop) → World → Prop} (h : D (Ext w) w) : anew w D := ⟨Ext w, Fr.refl _ _, h⟩
theorem eAnew {w : World} {P : World → Prop} : (anew w fun _ w => P w) = P w := by
  apply propext; constructor
  · rintro ⟨_, _, h⟩; exact h
  · exact fun h => ⟨fun _ => True, trivial, h⟩
theorem RdL.get1 {t : Ty} {D : Nat → Prop} {w : World} {xs : List t.D} {cs : List Value} (h : RdL t D w cs xs) (ht : t.n = 1) {i : Nat} (hi : i < xs.length) : ∃ u, cs[i]? = some u ∧ Rd t D w [u] xs[i] := by
  obtain ⟨a, h1, h2, h3⟩ := h.get i hi
  match a, h1.trans ht with
  | [u], _ => exact ⟨u, by have := h3 0 u rfl; rwa [ht, Nat.mul_one, Nat.add_zero] at this, h2⟩
theorem RdL.set1 {t : Ty} {D : Nat → Prop} {w : World} (ht : t.n = 1) {u : Value} {y : t.D} (hy : Rd t D w [u] y) : ∀ {xs : List t.D} {cs : List Value} (i : Nat), RdL t D w cs xs → RdL t D w (cs.set i u) (xs.set i y)
  | [], _, i, h => by rw [show _ = _ from h]; rfl
  | x :: xs, _, 0, h => by
    obtain ⟨a, b, rfl, h1, h2⟩ := h
    have := h1.len
    match a, this.trans ht with
    | [v], _ => exact ⟨[u], b, rfl, hy, h2⟩
  | x :: xs, _, i + 1, h => by
    obtain ⟨a, b, rfl, h1, h2⟩ := h
    have := h1.len
    match a, this.trans ht with
    | [v], _ => exact ⟨[v], b.set i u, rfl, h1, RdL.set1 ht hy i h2⟩
theorem Own.some_of {t : Ty} {D : Nat → Prop} {B : Nat} {w : World} {v : Value} {xs : List t.D} (h : Own t D B w v xs) (hne : 0 < xs.length) : ∃ g c, v = .slice (some ⟨g, 0, none⟩) xs.length c ∧ B ≤ g ∧ g < w.heap.size := by
  rcases h with ⟨rfl, a, rfl⟩ | ⟨g, c, cs, T, fz, old, rest, rfl, h1, h2, h3, h⟩
  · simp at hne
  · exact ⟨g, c, rfl, h1, heap_lt h3⟩
theorem Own.cell1 {t : Ty} {D : Nat → Prop} {B g n c : Nat} {w : World} {xs : List t.D} (h : Own t D B w (.slice (some ⟨g, 0, none⟩) n c) xs) (ht : t.n = 1) {i : Nat} (hi : i < xs.length) :
    ∃ u, w.cell? ⟨g, i, none⟩ = some u ∧ Rd t D w [u] xs[i] := by
  rcases h with ⟨rfl, a, e⟩ | ⟨g', c, cs, T, fz, old, rest, e, h1, h2, h3, h3', h4, h5, h6⟩
  · simp at hi
  · simp at e
    obtain ⟨rfl, -, -⟩ := e
    obtain ⟨u, hu, hr⟩ := h6.get1 ht hi
    refine ⟨u, ?_, hr⟩
    rw [cell_mk h3, ← Array.getElem?_toList, h4, List.getElem?_append_left (List.getElem?_eq_some_iff.1 hu).1]
    exact hu
theorem Own.set1 {t : Ty} {D : Nat → Prop} {B g n c : Nat} {w : World} {xs : List t.D} (h : Own t D B w (.slice (some ⟨g, 0, none⟩) n c) xs) (ht : t.n = 1) {i : Nat} (hi : i < xs.length) {u : Value} {y : t.D} (hy : Rd t D w [u] y) {K : KV}
    (k : ∀ w', Own t D B w' (.slice (some ⟨g, 0, none⟩) n c) (xs.set i y) → Fr (· = g) w w' → K undef w') : pSt (.pointer (some ⟨g, i, none⟩)) u w K := by
  have hc := h.cell1 ht hi
  obtain ⟨old, hold, -⟩ := hc
  rcases h with ⟨rfl, a, e⟩ | ⟨g', c, cs, T, fz, old', rest, e, h1, h2, h3, h3', h4, h5, h6⟩
  · simp at hi
  · simp at e
    obtain ⟨rfl, rfl, rfl⟩ := e
    have hil : i < old'.length := by rw [h6.len, ht]; omega
    have hcs : i < cs.size := by
      have e1 := congrArg List.length h4
      simp at e1
      omega
    refine ⟨_, old, rfl, hold, ?_, ?_, k _ (.inr ⟨g, c, cs.setIfInBounds i u, T, fz, old'.set i u, rest, by simp, h1, h2, ?_, by simpa using h3', ?_, by simpa using h5, ?_⟩) (Fr.setCell w ⟨g, i, none⟩ u)⟩
    · simp only [World.frozen?, h3]
      rw [Bool.and_eq_false_iff]
      by_cases hf : fz.1 ≤ i
      · exact .inr (by simpa using fun hh => h3' i hcs hf hh)
      · exact .inl (by simpa using hf)
    · exact hy.allOne u (by simp)
    · rw [heap_setCell, if_pos rfl, h3]; simp
    · rw [Array.toList_setIfInBounds, h4, List.set_append_left _ _ hil]
    · refine (RdL.set1 ht hy i h6).imp (fun _ h => h) (fun b hb hlt => (Fr.setCell w ⟨g, i, none⟩ u).keep b hlt fun e => h2 ?_)
      rw [← show b = g from e]; exact hb
theorem Rd.idx {t : Ty} {D : Nat → Prop} {w : World} {v : Value} {xs : List t.D} (h : Rd (.slice t) D w [v] xs) (ht : t.n = 1) {i : Nat} (hi : i < xs.length) :
    ∃ a c u, v = .slice (some a) xs.length c ∧ a.spot = none ∧ D a.block ∧ w.cell? (a.add i) = some u ∧ Rd t D w [u] xs[i] := by
  obtain ⟨a, c, cs, rfl, h1, h2⟩ := Rd.rows h
  obtain ⟨u, hu, hr⟩ := h1.get1 ht hi
  obtain ⟨ad, rfl, e2, e3, e4⟩ := h2 i u hu
  exact ⟨ad, c, u, rfl, e2, e3, e4, hr⟩
theorem Rd.idxN {t : Ty} {D : Nat → Prop} {w : World} {v : Value} {xs : List t.D} (h : Rd (.slice t) D w [v] xs) {i : Nat} (hi : i < xs.length) :
    ∃ a c us, v = .slice (some a) xs.length c ∧ a.spot = none ∧ D a.block ∧ us.length = t.n ∧ (∀ j u, us[j]? = some u → w.cell? (a.add (i * t.n + j)) = some u) ∧ Rd t D w us xs[i] := by
  obtain ⟨a, c, cs, rfl, h1, h2⟩ := Rd.rows h
  obtain ⟨us, e1, e2, e3⟩ := h1.get i hi
  have hp := t.n_pos
  obtain ⟨ad, rfl, f2, f3, f4⟩ := h2 _ (us[0]'(by omega)) (e3 0 _ (List.getElem?_eq_getElem _))
  refine ⟨ad, c, us, rfl, f2, f3, e1, fun j u hj => ?_, e2⟩
  obtain ⟨ad', g1, _, _, g4⟩ := h2 _ u (e3 j u hj)
  cases g1
  exact g4
/-- What lies in its cells alone. -/
def Ty.flat : Ty → Bool
  | .slice _ => false
  | .pair a b => a.flat && b.flat
  | _ => true
theorem Rd.flat : ∀ {t : Ty} {D D' : Nat → Prop} {w w' : World} {vs : List Value} {x : t.D}, t.flat = true → Rd t D w vs x → Rd t D' w' vs x
  | .int _, _, _, _, _, _, _, _, h => h
  | .byte, _, _, _, _, _, _, _, h => h
  | .bool, _, _, _, _, _, _, _, h => h
  | .str, _, _, _, _, _, _, _, h => h
  | .slice _, _, _, _, _, _, _, hf, _ => by cases hf
  | .pair a b, _, _, _, _, _, _, hf, h => by
    obtain ⟨va, vb, h1, h2, h3, h4, h5⟩ := h
    simp only [Ty.flat, Bool.and_eq_true] at hf
    exact ⟨va, vb, h1, h2, h3, h4.flat hf.1, h5.flat hf.2⟩
theorem RdL.flat {t : Ty} {D D' : Nat → Prop} {w w' : World} (ht : t.flat = true) : ∀ {xs : List t.D} {cs : List Value}, RdL t D w cs xs → RdL t D' w' cs xs
  | [], _, h => h
  | x :: xs, _, h => by
    obtain ⟨a, b, h1, h2, h3⟩ := h
    exact ⟨a, b, h1, h2.flat ht, RdL.flat ht h3⟩
theorem Own.wide2 {t : Ty} {D D' : Nat → Prop} {B : Nat} {w : World} {v : Value} {xs : List t.D} (h : Own t D B w v xs) (hD : ∀ b, D b → D' b) (hv : ∀ b, Blk v b → B ≤ b → ¬ D b → ¬ D' b) : Own t D' B w v xs := by
  rcases h with ⟨rfl, a, rfl⟩ | ⟨g, c, cs, T', fz, old, rest, rfl, h1, h2, h3, h3', h4, h5, h6⟩
  · exact .inl ⟨rfl, a, rfl⟩
  · exact .inr ⟨g, c, cs, T', fz, old, rest, rfl, h1, hv _ ⟨_, _, _, rfl, rfl⟩ h1 h2, h3, h3', h4, h5, h6.imp hD (fun _ _ _ => rfl)⟩
theorem Own.rd2 {t : Ty} {D D' : Nat → Prop} {B : Nat} {w : World} {v : Value} {xs : List t.D} (h : Own t D B w v xs) (hD : ∀ b, D b → D' b) (hB : ∀ b, Blk v b → B ≤ b → b < w.heap.size → D' b) (hl : xs.length < 9223372036854775808) : Rd (.slice t) D' w [v] xs := by
  have hf := h.form
  rcases h with ⟨rfl, a, rfl⟩ | ⟨g, c, cs, T, fz, old, rest, rfl, h1, h2, h3, h3', h4, h5, h6⟩
  · exact ⟨a, 0, rfl, Nat.le_refl _, hl, fun h => absurd rfl h⟩
  · obtain ⟨_, c', e, hc⟩ := hf
    simp at e
    refine Rd.of_rows h6 hD (by omega) hl fun i u hi => ⟨_, rfl, rfl, hB g ⟨_, _, _, rfl, rfl⟩ h1 (heap_lt h3), ?_⟩
    rw [add_mk, Nat.zero_add, cell_mk h3, ← Array.getElem?_toList, h4, List.getElem?_append_left (List.getElem?_eq_some_iff.1 hi).1]
    exact hi
theorem fill2 {z0 z1 a b : Value} (ha : one a = true) (hb : one b = true) : fillL [z0, z1] [(0, 1, a), (1, 1, b)] = some [a, b] := by
  simp [fillL, one_cells ha, one_cells hb, cutIn]
theorem fillAgg {z cs : List Value} {n : Nat} (hn : cs.length = n) (hz : z.length = n) : fillL (rowOf z 1) [(0, n, .agg ⟨cs⟩)] = some cs := by
  subst hn
  simp [fillL, Value.cells, cutIn, rowOf, hz]
theorem drawS {w : World} {D : (World → Prop) → World → Prop} (T : Nat → Prop) (h : ∀ w', Ext w w' → D (Fr T w') w') : drawn w D := ⟨Fr T w.drew, Fr.refl _ _, h _ (Ext.drew w)⟩
theorem anewS {w : World} {D : (World → Prop) → World → Prop} (T : Nat → Prop) (h : D (Fr T w) w) : anew w D := ⟨Fr T w, Fr.refl _ _, h⟩
theorem eLdT {T : Nat → Prop} {w : World} {a : Addr} {x : Value} {K : KP} (hT : ¬ T a.block) (h : w.cell? a = some x) : pLd (Fr T w) (.pointer (some a)) K = K x := by
  apply propext; constructor
  · rintro ⟨a', x', h1, h', k⟩; cases h1; have := h' w (Fr.refl _ _); rw [h] at this; cases this; exact k
  · exact fun k => ⟨a, x, rfl, fun w' e => e.cell h hT, k⟩
theorem Cs.tN {T : Nat → Prop} {w : World} {g n : Nat} {l : List Value} (h : Cs w g l) (hT : ¬ T g) (hn : l.length = n) {K : KP} : pLdN (Fr T w) n (.pointer (some ⟨g, 0, none⟩)) K = K (.agg ⟨l⟩) := by
  subst hn
  have hk := h
  obtain ⟨T', h⟩ := h
  apply propext; constructor
  · rintro ⟨a', xs, h1, h2, h3, k⟩
    exact (eLdNW h (by simp)).mp ⟨a', xs, h1, h2, fun w' e => h3 w' (by rw [e]; exact Fr.refl _ _), k⟩
  · intro k
    refine ⟨_, l, rfl, rfl, fun w' e i hi => ?_, k⟩
    rw [add_mk, Nat.zero_add]
    exact (hk.fr e hT).c i
theorem Cs.t3 {T : Nat → Prop} {w : World} {g : Nat} {a b c : Value} (h : Cs w g [a, b, c]) (hT : ¬ T g) {K : KP} : pLdN (Fr T w) 3 (.pointer (some ⟨g, 0, none⟩)) K = K (.agg #[a, b, c]) := h.tN hT rfl
theorem Cs.t2 {T : Nat → Prop} {w : World} {g : Nat} {a b : Value} (h : Cs w g [a, b]) (hT : ¬ T g) {K : KP} : pLdN (Fr T w) 2 (.pointer (some ⟨g, 0, none⟩)) K = K (.agg #[a, b]) := h.tN hT rfl
theorem Cs.f {T : Nat → Prop} {w : World} {g o : Nat} {l : List Value} {v : Value} (h : Cs w g l) (hT : ¬ T g) (hv : l[o]? = some v) {K : KP} : pLd (Fr T w) (.pointer (some ⟨g, o, none⟩)) K = K v := eLdT hT (by rw [h.c]; exact hv)
end Go.G
end
section
set_option linter.unusedSimpArgs false
set_option linter.unusedVariables false
namespace Go.G
open Go
/-- A part of a slice. -/
theorem Rd.cut {t : Ty} {D : Nat → Prop} {w : World} {a : Option Addr} {n c : Nat} {xs : List t.D} (h : Rd (.slice t) D w [.slice a n c] xs) {l e m : Nat} (hl : l ≤ e) (he : e ≤ n) (hm : e ≤ m) (hmc : m ≤ c) :
    Rd (.slice t) D w [.slice (if m = l then a else a.map (·.add (l * t.n))) (e - l) (m - l)] ((xs.take e).drop l) := by
  obtain ⟨a', c', h1, h2, h3, h4⟩ := h
  simp only [List.cons.injEq, Value.slice.injEq, and_true] at h1
  obtain ⟨rfl, rfl, rfl⟩ := h1
  have hlen : ((xs.take e).drop l).length = e - l := by simp; omega
  refine ⟨_, m - l, by rw [hlen], by omega, by omega, fun hne => ?_⟩
  have hpos : 0 < ((xs.take e).drop l).length := List.length_pos_iff.2 hne
  obtain ⟨ad, rfl, g2, g3, g4⟩ := h4 (by intro e'; subst e'; simp at hpos)
  refine ⟨ad.add (l * t.n), by rw [if_neg (by omega)]; rfl, add_spot _ _ g2, by rw [add_block]; exact g3, fun i hi => ?_⟩
  obtain ⟨cs, k1, k2, k3⟩ := g4 (l + i) (by omega)
  refine ⟨cs, k1, fun j v hj => ?_, ?_⟩
  · rw [add_add _ _ _ g2, show l * t.n + (i * t.n + j) = (l + i) * t.n + j by rw [Nat.add_mul]; omega]
    exact k2 j v hj
  · have : ((xs.take e).drop l)[i] = xs[l + i]'(by omega) := by simp
    rw [this]; exact k3
theorem RdL.rep {t : Ty} {D : Nat → Prop} {w : World} {zero : List Value} {z : t.D} (h : Rd t D w zero z) : ∀ n, RdL t D w (rowOf zero n) (List.replicate n z)
  | 0 => rfl
  | n + 1 => ⟨zero, rowOf zero n, by simp [rowOf, List.replicate_succ], h, RdL.rep h n⟩
/-- make([]T, n) -/
theorem make_ {t : Ty} {D : Nat → Prop} {B E bytes n : Nat} {zero : List Value} {z : t.D} {w : World} {K : KV} (hn : n < 4611686018427387904) (hb : (bytes : Int) * n ≤ 2 ^ 48) (hz : ∀ w, Rd t D w zero z) (hB : B ≤ w.heap.size) (hD : ¬ D w.heap.size)
    (k : ∀ g w', w.heap.size = g → Ext w w' → w'.heap.size = g + 1 → Own t D B w' (.slice (some ⟨g, 0, none⟩) n n) (List.replicate n z) → K (.slice (some ⟨g, 0, none⟩) n n) w') : pMake E bytes zero (.int .i64 n) (.int .i64 n) w K := by
  refine ⟨.i64, .i64, n, n, rfl, rfl, by omega, Int.le_refl _, by omega, hb, ?_⟩
  have hl : ∀ m, (rowOf zero m).length = m * t.n := fun m => by
    have := (RdL.rep (hz w) m).len; simpa using this
  refine k _ _ rfl (Ext.alloc w _) (size_alloc w _) (.inr ⟨w.heap.size, n, _, E, (0, 0), rowOf zero n, [], by simp, hB, hD, alloc_new w _, fun o _ _ h => by simp at h, by simp, by simp [hl], RdL.rep (hz _) n⟩)
theorem strOf {S : World → Prop} {D : Nat → Prop} {w : World} {x : Value} {bs : List UInt8} {K : KP} (hS : ∀ w', S w' → Rd (.slice .byte) D w' [x] bs) (hw : S w) (k : K (.string ⟨bs.toArray⟩)) : pStrOf S x K := by
  obtain ⟨a, c, e, _, _, _⟩ := hS w hw
  simp only [List.cons.injEq, and_true] at e
  refine ⟨a, _, c, e, bs, rfl, fun i b hi => ?_, k⟩
  have hlt := (List.getElem?_eq_some_iff.1 hi).1
  have hne : bs ≠ [] := by intro e'; subst e'; simp at hlt
  have key : ∀ w', S w' → ∃ ad, a = some ad ∧ w'.cell? (ad.add i) = some (.int .u8 b.toNat) := fun w' hw' => by
    obtain ⟨ad, c', u, e', _, _, h5, h6⟩ := (hS w' hw').idx rfl hlt
    rw [e] at e'
    simp only [Value.slice.injEq] at e'
    have hu : [u] = [Value.int .u8 (bs[i].toNat : Int)] := h6
    simp only [List.cons.injEq, and_true] at hu
    have hbi : bs[i] = b := by rw [List.getElem?_eq_getElem hlt] at hi; simpa using hi
    exact ⟨ad, e'.1, by rw [h5, hu, hbi]⟩
  obtain ⟨ad, h1, _⟩ := key w hw
  refine ⟨ad, h1, fun w' hw' => ?_⟩
  obtain ⟨ad', h1', h2'⟩ := key w' hw'
  rw [h1] at h1'; cases h1'
  exact h2'
theorem bytes_toList (l : List UInt8) : (⟨l.toArray⟩ : ByteArray).toList = l := by
  rw [ByteArray.toList_eq]
end Go.G
end
