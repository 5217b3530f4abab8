/-
  One step at a time: what each word asks where its arguments are known, and slices that a call owns.
-/
import Derived.Test.YtkpgmaiklfjjgaaDoorGh
set_option linter.unusedSimpArgs false
set_option linter.unusedVariables false
namespace Go.G
open Go
variable {K : KP} {KW : KV} {w : World}

/-! ### 1. What only computes -/
theorem eBinI {op : BinOp} {k : IntKind} {a b : Int} : pBinI op k (.int k a) (.int k b) K = K (binI op k a b) := by
  apply propext; constructor
  · rintro ⟨a', b', h1, h2, h⟩; cases h1; cases h2; exact h
  · exact fun h => ⟨a, b, rfl, rfl, h⟩
theorem eDiv {op : BinOp} {k : IntKind} {a b : Int} : pDiv op k (.int k a) (.int k b) K = (b ≠ 0 ∧ K (divI op k a b)) := by
  apply propext; constructor
  · rintro ⟨a', b', h1, h2, h⟩; cases h1; cases h2; exact h
  · exact fun h => ⟨a, b, rfl, rfl, h⟩
theorem eShift {op : BinOp} {k j : IntKind} {a b : Int} : pShift op k (.int k a) (.int j b) K = (0 ≤ b ∧ K (shiftI op k a b)) := by
  apply propext; constructor
  · rintro ⟨a', j', b', h1, h2, h⟩; cases h1; cases h2; exact h
  · exact fun h => ⟨a, j, b, rfl, rfl, h⟩
theorem eBinS {op : BinOp} {a b : ByteArray} : pBinS op (.string a) (.string b) K = ((((a.size + b.size : Nat) : Int) ≤ IntKind.i64.max) ∧ K (binS op a b)) := by
  apply propext; constructor
  · rintro ⟨a', b', h1, h2, h⟩; cases h1; cases h2; exact h
  · exact fun h => ⟨a, b, rfl, rfl, h⟩
theorem ePick {t : Bool} {a b : Value} : pPick (.bool t) a b K = K (bif t then a else b) := by
  apply propext; constructor
  · rintro ⟨a', h1, h⟩; cases h1; exact h
  · exact fun h => ⟨t, rfl, h⟩
theorem eNot {t : Bool} : pNot (.bool t) K = K (.bool (!t)) := by
  apply propext; constructor
  · rintro ⟨a', h1, h⟩; cases h1; exact h
  · exact fun h => ⟨t, rfl, h⟩
theorem eNeg {k : IntKind} {a : Int} : pNeg k (.int k a) K = K (.int k (k.wrap (0 - a))) := by
  apply propext; constructor
  · rintro ⟨a', h1, h⟩; cases h1; exact h
  · exact fun h => ⟨a, rfl, h⟩
theorem eConv {k j : IntKind} {a : Int} : pConv k (.int j a) K = K (.int k (k.wrap a)) := by
  apply propext; constructor
  · rintro ⟨j', a', h1, h⟩; cases h1; exact h
  · exact fun h => ⟨j, a, rfl, h⟩
theorem eConvS {s : ByteArray} : pConvS (.string s) K = K (.string s) := by
  apply propext; constructor
  · rintro ⟨a', h1, h⟩; cases h1; exact h
  · exact fun h => ⟨s, rfl, h⟩
theorem eExt {vs : Array Value} {i : Nat} : pExt (.tuple vs) i K = (∃ v, vs[i]? = some v ∧ K v) := by
  apply propext; constructor
  · rintro ⟨vs', v, h1, h⟩; cases h1; exact ⟨v, h⟩
  · exact fun ⟨v, h⟩ => ⟨vs, v, rfl, h⟩
theorem eExt0 {a : Value} {l : List Value} : pExt (.tuple ⟨a :: l⟩) 0 K = K a := by
  rw [eExt]; apply propext; constructor
  · rintro ⟨v, h1, h⟩; simp at h1; exact h1 ▸ h
  · exact fun h => ⟨a, by simp, h⟩
theorem eExt1 {a b : Value} {l : List Value} : pExt (.tuple ⟨a :: b :: l⟩) 1 K = K b := by
  rw [eExt]; apply propext; constructor
  · rintro ⟨v, h1, h⟩; simp at h1; exact h1 ▸ h
  · exact fun h => ⟨b, by simp, h⟩
theorem eExt2 {a b c : Value} {l : List Value} : pExt (.tuple ⟨a :: b :: c :: l⟩) 2 K = K c := by
  rw [eExt]; apply propext; constructor
  · rintro ⟨v, h1, h⟩; simp at h1; exact h1 ▸ h
  · exact fun h => ⟨c, by simp, h⟩
theorem eFA {off : Nat} {a : Addr} : pFA off (.pointer (some a)) K = K (.pointer (some (a.add off))) := by
  apply propext; constructor
  · rintro ⟨a', h1, h⟩; cases h1; exact h
  · exact fun h => ⟨a, rfl, h⟩
theorem eFld {off : Nat} {cs : Array Value} : pFld off (.agg cs) K = (∃ v, cs[off]? = some v ∧ K v) := by
  apply propext; constructor
  · rintro ⟨cs', v, h1, h⟩; cases h1; exact ⟨v, h⟩
  · exact fun ⟨v, h⟩ => ⟨cs, v, rfl, h⟩
theorem eIA {size n c : Nat} {a : Addr} {k : IntKind} {j : Int} : pIA size (.slice (some a) n c) (.int k j) K = (0 ≤ j ∧ j < (n : Int) ∧ K (.pointer (some (a.add (j.toNat * size))))) := by
  apply propext; constructor
  · rintro ⟨a', n', c', k', j', h1, h2, h⟩; cases h1; cases h2; exact h
  · exact fun h => ⟨a, n, c, k, j, rfl, rfl, h⟩
theorem eLenSl {a : Option Addr} {n c : Nat} : pLenSl (.slice a n c) K = K (.int .i64 n) := by
  apply propext; constructor
  · rintro ⟨a', n', c', h1, h⟩; cases h1; exact h
  · exact fun h => ⟨a, n, c, rfl, h⟩
theorem eCapSl {a : Option Addr} {n c : Nat} : pCapSl (.slice a n c) K = K (.int .i64 c) := by
  apply propext; constructor
  · rintro ⟨a', n', c', h1, h⟩; cases h1; exact h
  · exact fun h => ⟨a, n, c, rfl, h⟩
theorem eLenS {s : ByteArray} : pLenS (.string s) K = K (.int .i64 s.size) := by
  apply propext; constructor
  · rintro ⟨a', h1, h⟩; cases h1; exact h
  · exact fun h => ⟨s, rfl, h⟩
theorem eMin {k : IntKind} {a b : Int} : pMin (.int k a) (.int k b) K = K (.int k (if b < a then b else a)) := by
  apply propext; constructor
  · rintro ⟨k', a', b', h1, h2, h⟩; cases h1; cases h2; exact h
  · exact fun h => ⟨k, a, b, rfl, rfl, h⟩
theorem eMax {k : IntKind} {a b : Int} : pMax (.int k a) (.int k b) K = K (.int k (if a < b then b else a)) := by
  apply propext; constructor
  · rintro ⟨k', a', b', h1, h2, h⟩; cases h1; cases h2; exact h
  · exact fun h => ⟨k, a, b, rfl, rfl, h⟩
theorem eSl {size n c l h m : Nat} {a : Option Addr} {lo hi mx : Option Value} (hl : bnd 0 lo = some l) (hh : bnd n hi = some h) (hm : bnd c mx = some m)
    (h1 : l ≤ h) (h2 : h ≤ m) (h3 : m ≤ c) (h4 : mx.isSome = true → hi.isSome = true) (k : K (.slice (if m = l then a else a.map (·.add (l * size))) (h - l) (m - l))) : pSl size (.slice a n c) lo hi mx K :=
  ⟨a, n, c, l, h, m, rfl, hl, hh, hm, h1, h2, h3, h4, k⟩
theorem bnd_int {d : Nat} {k : IntKind} {n : Int} (h : 0 ≤ n) : bnd d (some (.int k n)) = some n.toNat := by simp [bnd, h]
theorem bnd_none {d : Nat} : bnd d none = some d := rfl
/-! ### 2. Guards and forks -/
theorem eCond {b : Bool} {A B : Prop} : scond (.bool b) A B = ((b = true → A) ∧ (b = false → B)) := by
  apply propext; constructor
  · rintro ⟨b', h1, h⟩; cases h1; exact h
  · exact fun h => ⟨b, rfl, h⟩
theorem eCondT {A B : Prop} : scond (.bool true) A B = A := by rw [eCond]; simp
theorem eCondF {A B : Prop} : scond (.bool false) A B = B := by rw [eCond]; simp
theorem gIf_tt {op : KP → Prop} : gIf (.bool true) true op K = op K := by
  apply propext; constructor
  · rintro (⟨b', h1, h, _⟩ | ⟨h, _⟩)
    · cases h1; exact h rfl
    · cases h
  · exact fun h => .inl ⟨true, rfl, fun _ => h, fun h => (by cases h)⟩
theorem gIf_ff {op : KP → Prop} : gIf (.bool false) false op K = op K := by
  apply propext; constructor
  · rintro (⟨b', h1, h, _⟩ | ⟨h, _⟩)
    · cases h1; exact h rfl
    · cases h
  · exact fun h => .inl ⟨false, rfl, fun _ => h, fun h => (by cases h)⟩
theorem gIf_tf {op : KP → Prop} : gIf (.bool true) false op K = K undef := by
  apply propext; constructor
  · rintro (⟨b', h1, _, h⟩ | ⟨h, _⟩)
    · cases h1; exact h rfl
    · cases h
  · exact fun h => .inl ⟨true, rfl, fun h => (by cases h), fun _ => h⟩
theorem gIf_ft {op : KP → Prop} : gIf (.bool false) true op K = K undef := by
  apply propext; constructor
  · rintro (⟨b', h1, _, h⟩ | ⟨h, _⟩)
    · cases h1; exact h rfl
    · cases h
  · exact fun h => .inl ⟨false, rfl, fun h => (by cases h), fun _ => h⟩
theorem gIfW_tt {op : World → KV → Prop} : gIfW (.bool true) true op w KW = op w KW := by
  apply propext; constructor
  · rintro (⟨b', h1, h, _⟩ | ⟨h, _⟩)
    · cases h1; exact h rfl
    · cases h
  · exact fun h => .inl ⟨true, rfl, fun _ => h, fun h => (by cases h)⟩
theorem gIfW_ff {op : World → KV → Prop} : gIfW (.bool false) false op w KW = op w KW := by
  apply propext; constructor
  · rintro (⟨b', h1, h, _⟩ | ⟨h, _⟩)
    · cases h1; exact h rfl
    · cases h
  · exact fun h => .inl ⟨false, rfl, fun _ => h, fun h => (by cases h)⟩
theorem gIfW_tf {op : World → KV → Prop} : gIfW (.bool true) false op w KW = KW undef w := by
  apply propext; constructor
  · rintro (⟨b', h1, _, h⟩ | ⟨h, _⟩)
    · cases h1; exact h rfl
    · cases h
  · exact fun h => .inl ⟨true, rfl, fun h => (by cases h), fun _ => h⟩
theorem gIfW_ft {op : World → KV → Prop} : gIfW (.bool false) true op w KW = KW undef w := by
  apply propext; constructor
  · rintro (⟨b', h1, _, h⟩ | ⟨h, _⟩)
    · cases h1; exact h rfl
    · cases h
  · exact fun h => .inl ⟨false, rfl, fun h => (by cases h), fun _ => h⟩
theorem gIf_u {want : Bool} {op : KP → Prop} : gIf undef want op K = K undef := by
  apply propext; constructor
  · rintro (⟨b', h1, _⟩ | ⟨_, h⟩)
    · cases h1
    · exact h
  · exact fun h => .inr ⟨rfl, h⟩
theorem gIfW_u {want : Bool} {op : World → KV → Prop} : gIfW undef want op w KW = KW undef w := by
  apply propext; constructor
  · rintro (⟨b', h1, _⟩ | ⟨_, h⟩)
    · cases h1
    · exact h
  · exact fun h => .inr ⟨rfl, h⟩
/-! ### 3. What is read -/
theorem eLd {S : World → Prop} {a : Addr} {x : Value} (h : ∀ w, S w → w.cell? a = some x) (k : K x) : pLd S (.pointer (some a)) K := ⟨a, x, rfl, h, k⟩
theorem eLdW {a : Addr} : pLd (· = w) (.pointer (some a)) K = (∃ x, w.cell? a = some x ∧ K x) := by
  apply propext; constructor
  · rintro ⟨a', x, h1, h, k⟩; cases h1; exact ⟨x, h w rfl, k⟩
  · exact fun ⟨x, h, k⟩ => ⟨a, x, rfl, fun w' e => e ▸ h, k⟩
theorem eLdE {a : Addr} {x : Value} (h : w.cell? a = some x) : pLd (Ext w) (.pointer (some a)) K = K x := by
  apply propext; constructor
  · rintro ⟨a', x', h1, h', k⟩; cases h1; have := h' w (Fr.refl _ _); rw [h] at this; cases this; exact k
  · exact fun k => ⟨a, x, rfl, fun w' e => e.cell h, k⟩
theorem eLdNW {b n : Nat} {cs : Array Value} {T : TypeId} {fz : Nat × Nat} (h : w.heap[b]? = some (.cells cs T fz)) (hn : cs.size = n) : pLdN (· = w) n (.pointer (some ⟨b, 0, none⟩)) K = K (.agg cs) := by
  subst hn
  have hc : ∀ i, i < cs.size → w.cell? ((⟨b, 0, none⟩ : Addr).add i) = cs.toList[i]? := fun i hi => by rw [add_mk, cell_mk h]; simp
  apply propext; constructor
  · rintro ⟨a', xs, h1, h2, h3, k⟩
    cases h1
    have : xs.toArray = cs := by
      apply Array.ext'
      apply List.ext_getElem?
      intro i
      by_cases hi : i < cs.size
      · rw [← hc i hi, ← h3 w rfl i hi]
      · rw [List.getElem?_eq_none (by simp; omega), List.getElem?_eq_none (by simp; omega)]
    rw [this] at k
    exact k
  · exact fun k => ⟨_, cs.toList, rfl, by simp, fun w' e i hi => e ▸ hc i hi, by simpa using k⟩
theorem eLdNE {b n : Nat} {cs : Array Value} {T : TypeId} {fz : Nat × Nat} (h : w.heap[b]? = some (.cells cs T fz)) (hn : cs.size = n) (k : K (.agg cs)) : pLdN (Ext w) n (.pointer (some ⟨b, 0, none⟩)) K := by
  subst hn
  exact ⟨_, cs.toList, rfl, by simp, fun w' e i hi => by rw [add_mk, cell_mk (Fr.heap e h (fun h => h))]; simp, by simpa using k⟩
/-! ### 4. What is made -/
theorem box_ {T : TypeId} {v : Value} (h : ∀ g w', w.heap.size = g → Ext w w' → w'.heap[g]? = some (.cells v.cells T) → KW (.pointer (some ⟨g, 0, none⟩)) w') : pBox T v w KW :=
  h _ _ rfl (Ext.alloc w _) (alloc_new w _)
/-! ### 5. Whole numbers -/
theorem wrap64 {n : Int} (h0 : -9223372036854775808 ≤ n) (h1 : n ≤ 9223372036854775807) : IntKind.i64.wrap n = n := by
  have : (18446744073709551616 : Int) = 2 ^ 64 := by decide
  simp only [IntKind.wrap, IntKind.signed, IntKind.bits, Int.bmod, if_true]
  first | omega | (simp; omega)
/-! ### 6. Rows of cells -/
/-- Cells, one element behind the other, read as a list. -/
def RdL (t : Ty) (D : Nat → Prop) (w : World) : List Value → List t.D → Prop
  | cs, [] => cs = []
  | cs, x :: xs => ∃ a b, cs = a ++ b ∧ Rd t D w a x ∧ RdL t D w b xs
theorem RdL.len {t : Ty} {D : Nat → Prop} {w : World} : ∀ {xs : List t.D} {cs : List Value}, RdL t D w cs xs → cs.length = xs.length * t.n
  | [], _, h => by rw [show _ = _ from h]; simp
  | x :: xs, _, h => by
    obtain ⟨a, b, rfl, h1, h2⟩ := h
    simp [h1.len, h2.len, Nat.succ_mul]; omega
theorem RdL.imp {t : Ty} {D D' : Nat → Prop} {w w' : World} (hD : ∀ b, D b → D' b) (hw : ∀ b, D b → b < w.heap.size → w'.heap[b]? = w.heap[b]?) : ∀ {xs : List t.D} {cs : List Value}, RdL t D w cs xs → RdL t D' w' cs xs
  | [], _, h => h
  | x :: xs, _, h => by
    obtain ⟨a, b, rfl, h1, h2⟩ := h
    exact ⟨a, b, rfl, h1.imp hD hw, h2.imp hD hw⟩
theorem RdL.append {t : Ty} {D : Nat → Prop} {w : World} {ys : List t.D} {ds : List Value} (k : RdL t D w ds ys) : ∀ {xs : List t.D} {cs : List Value}, RdL t D w cs xs → RdL t D w (cs ++ ds) (xs ++ ys)
  | [], _, h => by rw [show _ = _ from h]; exact k
  | x :: xs, _, h => by
    obtain ⟨a, b, rfl, h1, h2⟩ := h
    exact ⟨a, b ++ ds, by simp, h1, RdL.append k h2⟩
theorem RdL.single {t : Ty} {D : Nat → Prop} {w : World} {x : t.D} {cs : List Value} (h : Rd t D w cs x) : RdL t D w cs [x] := ⟨cs, [], by simp, h, rfl⟩
theorem RdL.allOne {t : Ty} {D : Nat → Prop} {w : World} : ∀ {xs : List t.D} {cs : List Value}, RdL t D w cs xs → ∀ v ∈ cs, one v = true
  | [], _, h => by rw [show _ = _ from h]; simp
  | x :: xs, _, h => by
    obtain ⟨a, b, rfl, h1, h2⟩ := h
    intro v hv
    rcases List.mem_append.1 hv with hv | hv
    · exact h1.allOne v hv
    · exact h2.allOne v hv
theorem RdL.get {t : Ty} {D : Nat → Prop} {w : World} : ∀ {xs : List t.D} {cs : List Value}, RdL t D w cs xs → ∀ i (hi : i < xs.length),
    ∃ a, a.length = t.n ∧ Rd t D w a xs[i] ∧ ∀ j v, a[j]? = some v → cs[i * t.n + j]? = some v
  | x :: xs, _, h, 0, _ => by
    obtain ⟨a, b, rfl, h1, h2⟩ := h
    exact ⟨a, h1.len, h1, fun j v hj => by rw [Nat.zero_mul, Nat.zero_add, List.getElem?_append_left (List.getElem?_eq_some_iff.1 hj).1]; exact hj⟩
  | x :: xs, _, h, i + 1, hi => by
    obtain ⟨a, b, rfl, h1, h2⟩ := h
    obtain ⟨c, g1, g2, g3⟩ := h2.get i (by simpa using hi)
    refine ⟨c, g1, by simpa using g2, fun j v hj => ?_⟩
    have := h1.len
    rw [List.getElem?_append_right (by rw [Nat.succ_mul]; omega), show (i + 1) * t.n + j - a.length = i * t.n + j by rw [Nat.succ_mul]; omega]
    exact g3 j v hj
/-- What a slice reads as, cell by cell. -/
theorem Rd.rows {t : Ty} {D : Nat → Prop} {w : World} {v : Value} : ∀ {xs : List t.D}, Rd (.slice t) D w [v] xs → ∃ a c cs, v = .slice a xs.length c ∧ RdL t D w cs xs ∧ (∀ i u, cs[i]? = some u → ∃ ad, a = some ad ∧ ad.spot = none ∧ D ad.block ∧ w.cell? (ad.add i) = some u) := by
  intro xs h
  obtain ⟨a, c, h1, h2, h3, h4⟩ := h
  refine ⟨a, c, ?_⟩
  suffices ∀ (ys : List t.D) (k : Nat), xs.drop k = ys → ∃ cs, RdL t D w cs ys ∧ (∀ i u, cs[i]? = some u → ∃ ad, a = some ad ∧ ad.spot = none ∧ D ad.block ∧ w.cell? (ad.add (k * t.n + i)) = some u) by
    obtain ⟨cs, g1, g2⟩ := this xs 0 rfl
    exact ⟨cs, by simpa using h1, g1, fun i u hi => by obtain ⟨ad, e1, e2, e3, e4⟩ := g2 i u hi; exact ⟨ad, e1, e2, e3, by simpa using e4⟩⟩
  intro ys
  induction ys with
  | nil => exact fun k _ => ⟨[], rfl, fun i u hi => by simp at hi⟩
  | cons y ys ih =>
    intro k hk
    have hlt : k < xs.length := by
      have := congrArg List.length hk
      simp at this; omega
    have hd : xs.drop k = xs[k] :: xs.drop (k + 1) := List.drop_eq_getElem_cons hlt
    rw [hd] at hk
    injection hk with e1 e2
    obtain ⟨ds, g1, g2⟩ := ih (k + 1) e2
    obtain ⟨ad, rfl, i2, i3, i4⟩ := h4 (by intro e; subst e; simp at hlt)
    obtain ⟨cs, k1, k2, k3⟩ := i4 k hlt
    rw [e1] at k3
    refine ⟨cs ++ ds, ⟨cs, ds, rfl, k3, g1⟩, fun i u hi => ?_⟩
    by_cases hl : i < cs.length
    · rw [List.getElem?_append_left hl] at hi
      exact ⟨ad, rfl, i2, i3, k2 i u hi⟩
    · rw [List.getElem?_append_right (by omega)] at hi
      obtain ⟨ad', f1, f2, f3, f4⟩ := g2 _ u hi
      refine ⟨ad', f1, f2, f3, ?_⟩
      rw [show k * t.n + i = (k + 1) * t.n + (i - cs.length) by rw [Nat.succ_mul]; omega]
      exact f4
end Go.G
