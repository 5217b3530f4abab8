/-
  Owned slices: shorter ones, elements of more cells written, the rest cleared.
  Words of 32 bits: what the operations make of them; cells of a block, read and written at a place.
  Bytes in a block's cells; what is copied into a block.
  Terms: what lies in the table; keys; what an assertion of a type tells.
  The table of terms: what it holds; which ids there are; kinds and parts.
-/
import Derived.Test.YtkpgmaiklfjjgaaMaah
section
set_option linter.unusedSimpArgs false
set_option linter.unusedVariables false
namespace Go.G
open Go
variable {t : Ty} {D : Nat → Prop} {B : Nat} {w : World}
theorem RdL.take {xs : List t.D} : ∀ {cs : List Value} (k : Nat), RdL t D w cs xs → RdL t D w (cs.take (k * t.n)) (xs.take k) := by
  induction xs with
  | nil => intro cs k h; rw [show cs = [] from h]; simp [RdL]
  | cons x xs ih =>
    intro cs k h
    cases k with
    | zero => simp [RdL]
    | succ k =>
      obtain ⟨a, b, rfl, h1, h2⟩ := h
      refine ⟨a, b.take (k * t.n), ?_, h1, ih k h2⟩
      have := h1.len
      rw [List.take_append, List.take_of_length_le (by rw [Nat.succ_mul]; omega), Nat.succ_mul, show k * t.n + t.n - a.length = k * t.n by omega]
/-- The first elements of what is owned. -/
theorem Own.take {a : Option Addr} {n c k : Nat} {xs : List t.D} (h : Own t D B w (.slice a n c) xs) (hk : k ≤ xs.length) : Own t D B w (.slice a k c) (xs.take k) := by
  rcases h with ⟨rfl, a', e⟩ | ⟨g, c', cs, T, fz, old, rest, e, h1, h2, h3, h3', h4, h5, h6⟩
  · simp at hk e
    subst hk
    obtain ⟨rfl, _, rfl⟩ := e
    exact .inl ⟨rfl, _, rfl⟩
  · simp only [Value.slice.injEq] at e
    obtain ⟨rfl, -, rfl⟩ := e
    refine .inr ⟨g, c, cs, T, fz, old.take (k * t.n), old.drop (k * t.n) ++ rest, by rw [List.length_take, Nat.min_eq_left hk], h1, h2, h3, h3', ?_, h5, h6.take k⟩
    rw [← List.append_assoc, List.take_append_drop]; exact h4
theorem RdL.setN {us : List Value} {y : t.D} (hy : Rd t D w us y) : ∀ {xs : List t.D} {cs : List Value} (i : Nat), i < xs.length → RdL t D w cs xs → RdL t D w (cs.take (i * t.n) ++ us ++ cs.drop (i * t.n + us.length)) (xs.set i y)
  | [], _, i, hi, _ => by simp at hi
  | x :: xs, _, 0, _, h => by
    obtain ⟨a, b, rfl, h1, h2⟩ := h
    have e1 := h1.len; have e2 := hy.len
    refine ⟨us, b, ?_, hy, h2⟩
    simp only [Nat.zero_mul, List.take_zero, List.nil_append, Nat.zero_add]
    rw [List.drop_append, List.drop_of_length_le (by omega), show us.length - a.length = 0 by omega]; simp
  | x :: xs, _, i + 1, hi, h => by
    obtain ⟨a, b, rfl, h1, h2⟩ := h
    have e1 := h1.len; have e2 := hy.len
    refine ⟨a, _, ?_, h1, RdL.setN hy i (by simpa using hi) h2⟩
    rw [Nat.succ_mul, List.take_append, List.take_of_length_le (by omega), List.drop_append, List.drop_of_length_le (by omega), show i * t.n + t.n - a.length = i * t.n by omega, show i * t.n + t.n + us.length - a.length = i * t.n + us.length by omega]
    simp
/-- s[i] = x, of more cells. -/
theorem Own.setN {g n c i m o : Nat} {xs : List t.D} {us : List Value} {y : t.D} {K : KV} (h : Own t D B w (.slice (some ⟨g, 0, none⟩) n c) xs) (hi : i < xs.length) (hm : m = t.n) (ho : o = i * t.n) (hy : Rd t D w us y)
    (k : ∀ w', Own t D B w' (.slice (some ⟨g, 0, none⟩) n c) (xs.set i y) → Fr (· = g) w w' → K undef w') : pStN m (.pointer (some ⟨g, o, none⟩)) (.agg ⟨us⟩) w K := by
  subst hm; subst ho
  rcases h with ⟨rfl, a, e⟩ | ⟨g', c, cs, T, fz, old, rest, e, h1, h2, h3, h3', h4, h5, h6⟩
  · simp at hi
  · simp at e
    obtain ⟨rfl, rfl, rfl⟩ := e
    have hul := hy.len
    have hol := h6.len
    have hcl : cs.size = old.length + rest.length := by
      have := congrArg List.length h4
      simpa using this
    have hin : i * t.n + t.n ≤ old.length := by
      rw [hol, ← Nat.succ_mul]; exact Nat.mul_le_mul_right _ hi
    have hF := Fr.setCells ⟨g, i * t.n, none⟩ us 0 w
    refine ⟨_, us, rfl, rfl, hul, fun j v hj => ?_, k _ ?_ hF⟩
    · have hjl := (List.getElem?_eq_some_iff.1 hj).1
      have hlt : i * t.n + j < cs.size := by omega
      rw [add_mk]
      refine ⟨⟨_, by rw [cell_mk h3]; exact Array.getElem?_eq_getElem hlt⟩, ?_, hy.allOne v (List.mem_of_getElem? hj)⟩
      simp only [World.frozen?, h3]
      rw [Bool.and_eq_false_iff]
      by_cases hf : fz.1 ≤ i * t.n + j
      · exact .inr (by simpa using fun hh => h3' _ hlt hf hh)
      · exact .inl (by simpa using hf)
    · obtain ⟨cs', g1, g2⟩ := setCells_heap (g := g) (o := i * t.n) us 0 w cs (old.take (i * t.n)) (old.drop (i * t.n) ++ rest) h3 (by rw [← List.append_assoc, List.take_append_drop]; exact h4) (by simp; omega) (by simp; omega)
      have hnew : cs'.toList = (old.take (i * t.n) ++ us ++ old.drop (i * t.n + us.length)) ++ rest := by
        rw [g2, List.drop_append, List.drop_drop]
        rw [show us.length - (old.drop (i * t.n)).length = 0 by simp; omega]
        simp
      have hsz : cs'.size = cs.size := by
        have := congrArg List.length hnew
        simp at this
        omega
      refine .inr ⟨g, c, cs', T, fz, _, rest, by simp, h1, h2, g1, by rw [hsz]; exact h3', hnew, by rw [hsz]; exact h5, ?_⟩
      exact (RdL.setN hy i hi h6).imp (fun _ h => h) (fun b hb hlt => hF.keep b hlt fun e => h2 (by rw [← show b = g from e]; exact hb))
theorem slice_cut {a : Option Addr} {o m l : Nat} : (if m = l then a else a.map (·.add (l * o))) = a ∨ (if m = l then a else a.map (·.add (l * o))) = a.map (·.add (l * o)) := by
  by_cases h : m = l
  · exact .inl (if_pos h)
  · exact .inr (if_neg h)
variable {P : Program} {T e : TypeId}
theorem clear_run {ty : TypeId} {g o n c : Nat} {w : World} (hT : P.underlying T = some (.slice e)) (hz : hasZero P e = true) (hc : canSet w ⟨g, o, none⟩ (rowOf (zeroL P e) (n + 1))) :
    (Builtin.clear_ #[T] ty #[.slice (some ⟨g, o, none⟩) (n + 1) c]).run P w = .ok (.tuple #[]) (setCells w ⟨g, o, none⟩ 0 (rowOf (zeroL P e) (n + 1))) := by
  obtain ⟨z, hz1, hz2, i, hi⟩ := run_zero hz
  have hzc : z.cells = (zeroL P e).toArray := by rw [← hz2]
  simp only [Builtin.clear_, List.getElem?_toArray, List.getElem?_cons_zero, Sem.run_bind, Go.G.run_underlying hT, Result.andThen_ok, hz1, hzc, zeroCells_row, canSet_run hc, Sem.run_pure]
/-- clear(s[k:]) -/
theorem Own.clear {ty : TypeId} {g n c k : Nat} {zero : List Value} {xs : List t.D} {K : KV} (h : Own t D B w (.slice (some ⟨g, 0, none⟩) n c) xs) (hk : k ≤ xs.length) (hT : P.underlying T = some (.slice e)) (hz : hasZero P e = true) (hzz : zeroL P e = zero) (hzn : zero.length = t.n) (hzo : ∀ v ∈ zero, one v = true)
    (kk : ∀ w', Own t D B w' (.slice (some ⟨g, 0, none⟩) k c) (xs.take k) → Fr (· = g) w w' → K (.tuple #[]) w') :
    pRun P (Builtin.clear_ #[T] ty #[.slice (if c = k then some ⟨g, 0, none⟩ else (some (⟨g, 0, none⟩ : Addr)).map (·.add (k * t.n))) (n - k) (c - k)]) w K := by
  have hn : n = xs.length := by
    obtain ⟨a, c', e, _⟩ := h.form
    simpa using (congrArg (fun v => match v with | .slice _ n _ => n | _ => 0) e)
  subst hn
  by_cases c0 : xs.length - k = 0
  · rw [c0]
    refine ⟨.tuple #[], w, ?_, kk w (h.take hk) (Fr.refl _ _)⟩
    have : ∀ a : Option Addr, (Builtin.clear_ #[T] ty #[.slice a 0 (c - k)]).run P w = .ok (.tuple #[]) w := fun a => by
      cases a <;> simp [Builtin.clear_, Go.G.run_underlying hT]
    exact this _
  · obtain ⟨n, hn⟩ : ∃ n, xs.length - k = n + 1 := ⟨xs.length - k - 1, by omega⟩
    have hT' := h.take hk
    obtain ⟨_, _, hf, hcap⟩ := h.form
    simp only [Value.slice.injEq] at hf
    obtain ⟨-, -, rfl⟩ := hf
    rw [if_neg (by omega), hn]
    rcases hT' with ⟨h0, a, e⟩ | ⟨g', c', cs, T', fz, old, rest, e, h1, h2, h3, h3', h4, h5, h6⟩
    · simp at e
      obtain ⟨_, _, rfl⟩ := e
      omega
    simp only [Value.slice.injEq, Option.some.injEq, Addr.mk.injEq, and_true] at e
    obtain ⟨rfl, hkl, rfl⟩ := e
    have hol := h6.len
    rw [← hkl] at hol
    have hcl : cs.size = old.length + rest.length := by
      have := congrArg List.length h4
      simpa using this
    have hrow : (rowOf zero (n + 1)).length = (n + 1) * t.n := by
      have : ∀ m, (rowOf zero m).length = m * t.n := fun m => by
        induction m with
        | zero => simp [rowOf]
        | succ m ih => simp only [rowOf, List.replicate_succ, List.flatten_cons, List.length_append, hzn] at ih ⊢; rw [ih, Nat.succ_mul]; omega
      exact this _
    have hfit : k * t.n + (n + 1) * t.n ≤ cs.size := by
      rw [h5, ← Nat.add_mul]; exact Nat.mul_le_mul_right _ (by omega)
    have hall : ∀ v ∈ rowOf zero (n + 1), one v = true := fun v hv => by
      unfold rowOf at hv
      rw [List.mem_flatten] at hv
      obtain ⟨l, hl, hv⟩ := hv
      rw [List.eq_of_mem_replicate hl] at hv
      exact hzo v hv
    have hadd : ((⟨g, 0, none⟩ : Addr).add (k * t.n)) = ⟨g, k * t.n, none⟩ := by rw [add_mk, Nat.zero_add]
    have hcs : canSet w ⟨g, k * t.n, none⟩ (rowOf (zeroL P e) (n + 1)) := by
      rw [hzz]
      intro j v hj
      have hjl := (List.getElem?_eq_some_iff.1 hj).1
      have hlt : k * t.n + j < cs.size := by omega
      rw [add_mk]
      refine ⟨⟨_, by rw [cell_mk h3]; exact Array.getElem?_eq_getElem hlt⟩, ?_, hall v (List.mem_of_getElem? hj)⟩
      simp only [World.frozen?, h3]
      rw [Bool.and_eq_false_iff]
      by_cases hf : fz.1 ≤ k * t.n + j
      · exact .inr (by simpa using fun hh => h3' _ hlt hf hh)
      · exact .inl (by simpa using hf)
    refine ⟨.tuple #[], setCells w ⟨g, k * t.n, none⟩ 0 (rowOf (zeroL P e) (n + 1)), ?_, kk _ ?_ (Fr.setCells ⟨g, k * t.n, none⟩ (rowOf (zeroL P e) (n + 1)) 0 w)⟩
    · simp only [Option.map_some, hadd]
      exact clear_run hT hz hcs
    · rw [hzz]
      have hF := Fr.setCells ⟨g, k * t.n, none⟩ (rowOf zero (n + 1)) 0 w
      obtain ⟨cs', g1, g2⟩ := setCells_heap (g := g) (o := k * t.n) (rowOf zero (n + 1)) 0 w cs old rest h3 h4 (by omega) (by omega)
      have hsz : cs'.size = cs.size := by
        have := congrArg List.length g2
        simp at this
        omega
      refine .inr ⟨g, c, cs', T', fz, old, rowOf zero (n + 1) ++ rest.drop (rowOf zero (n + 1)).length, by rw [← hkl], h1, h2, g1, by rw [hsz]; exact h3', by rw [g2, List.append_assoc], by rw [hsz]; exact h5, ?_⟩
      exact h6.imp (fun _ h => h) (fun b hb hlt => hF.keep b hlt fun e => h2 (by rw [← show b = g from e]; exact hb))
end Go.G
end
section
set_option linter.unusedSimpArgs false
set_option linter.unusedVariables false
namespace Go.G
open Go
abbrev W32 := BitVec 32
def u (x : W32) : Value := .int .u32 (x.toNat : Int)
variable {K : KP} {x y : W32}
theorem u_lt (x : W32) : (x.toNat : Int) < 4294967296 := by have := x.isLt; omega
theorem wrap32 {n : Int} : IntKind.u32.wrap n = ((BitVec.ofInt 32 n).toNat : Int) := by
  have h := BitVec.toNat_ofInt (n := 32) n
  simp only [IntKind.wrap, IntKind.signed, IntKind.bits]
  have h2 : (n % 2 ^ 32) = n % 4294967296 := rfl
  have h3 : 0 ≤ n % 4294967296 := Int.emod_nonneg _ (by omega)
  rw [h]
  simp only [show ((2 ^ 32 : Nat) : Int) = 4294967296 from rfl]
  first
    | (rw [Int.toNat_of_nonneg h3]; simp; done)
    | (simp; omega)
theorem ofInt_toNat (x : W32) : BitVec.ofInt 32 (x.toNat : Int) = x := by
  apply BitVec.eq_of_toNat_eq
  rw [BitVec.toNat_ofInt]
  have := x.isLt
  simp only [show ((2 ^ 32 : Nat) : Int) = 4294967296 from rfl]
  omega
theorem wrapU (x : W32) : IntKind.u32.wrap (x.toNat : Int) = (x.toNat : Int) := by rw [wrap32, ofInt_toNat]
theorem eUadd : pBinI .add .u32 (u x) (u y) K = K (u (x + y)) := by
  have e : binI .add .u32 (x.toNat : Int) (y.toNat : Int) = u (x + y) := by
    show Value.int .u32 (IntKind.u32.wrap ((x.toNat : Int) + (y.toNat : Int))) = u (x + y)
    rw [wrap32]
    have : BitVec.ofInt 32 ((x.toNat : Int) + (y.toNat : Int)) = x + y := by rw [BitVec.ofInt_add, ofInt_toNat, ofInt_toNat]
    rw [this]; rfl
  unfold u at e ⊢; rw [eBinI, e]
theorem eUxor : pBinI .xor .u32 (u x) (u y) K = K (u (x ^^^ y)) := by
  have e : binI .xor .u32 (x.toNat : Int) (y.toNat : Int) = u (x ^^^ y) := by
    show Value.int .u32 (IntKind.u32.wrap (((BitVec.ofInt 32 (x.toNat : Int) ^^^ BitVec.ofInt 32 (y.toNat : Int)).toNat : Nat) : Int)) = u (x ^^^ y)
    rw [ofInt_toNat, ofInt_toNat, wrapU]; rfl
  unfold u at e ⊢; rw [eBinI, e]
theorem eUand : pBinI .and .u32 (u x) (u y) K = K (u (x &&& y)) := by
  have e : binI .and .u32 (x.toNat : Int) (y.toNat : Int) = u (x &&& y) := by
    show Value.int .u32 (IntKind.u32.wrap (((BitVec.ofInt 32 (x.toNat : Int) &&& BitVec.ofInt 32 (y.toNat : Int)).toNat : Nat) : Int)) = u (x &&& y)
    rw [ofInt_toNat, ofInt_toNat, wrapU]; rfl
  unfold u at e ⊢; rw [eBinI, e]
theorem eUor : pBinI .or .u32 (u x) (u y) K = K (u (x ||| y)) := by
  have e : binI .or .u32 (x.toNat : Int) (y.toNat : Int) = u (x ||| y) := by
    show Value.int .u32 (IntKind.u32.wrap (((BitVec.ofInt 32 (x.toNat : Int) ||| BitVec.ofInt 32 (y.toNat : Int)).toNat : Nat) : Int)) = u (x ||| y)
    rw [ofInt_toNat, ofInt_toNat, wrapU]; rfl
  unfold u at e ⊢; rw [eBinI, e]
theorem inv_u (x : W32) : Value.int .u32 (IntKind.u32.wrap (((BitVec.ofInt 32 (4294967295 : Int) ^^^ BitVec.ofInt 32 (x.toNat : Int)).toNat : Nat) : Int)) = u (~~~ x) := by
  have e : BitVec.ofInt 32 (4294967295 : Int) = BitVec.allOnes 32 := by decide
  rw [e, ofInt_toNat, BitVec.allOnes_xor, wrapU]; rfl
theorem eUinv : pInv .u32 (u x) K = K (u (~~~ x)) := by
  have e := inv_u x
  apply propext; constructor
  · rintro ⟨a, h1, h⟩
    have : a = (x.toNat : Int) := by
      unfold u at h1
      simp only [Value.int.injEq, true_and] at h1
      exact h1.symm
    subst this
    rw [← e]; exact h
  · intro h
    rw [← e] at h
    exact ⟨_, rfl, h⟩
theorem eUshr {k : IntKind} {n : Nat} (hn : n < 32) : pShift .shr .u32 (u x) (.int k n) K = K (u (x >>> n)) := by
  unfold u; rw [eShift]
  have : shiftI .shr .u32 (x.toNat : Int) (n : Int) = .int .u32 ((x >>> n).toNat : Int) := by
    show Value.int .u32 ((x.toNat : Int).fdiv (2 ^ (min (n : Int).toNat 32))) = _
    rw [Int.toNat_natCast, Nat.min_eq_left (Nat.le_of_lt hn)]
    congr 1
    rw [BitVec.toNat_ushiftRight, Nat.shiftRight_eq_div_pow, Int.fdiv_eq_ediv_of_nonneg _ (by exact Int.le_of_lt (Int.pow_pos (by omega)))]
    rw [Int.natCast_ediv, Int.natCast_pow]; rfl
  rw [this]
  apply propext; exact ⟨fun h => h.2, fun h => ⟨by omega, h⟩⟩
theorem eUshl {k : IntKind} {n : Nat} (hn : n < 32) : pShift .shl .u32 (u x) (.int k n) K = K (u (x <<< n)) := by
  unfold u; rw [eShift]
  have : shiftI .shl .u32 (x.toNat : Int) (n : Int) = .int .u32 ((x <<< n).toNat : Int) := by
    show Value.int .u32 (IntKind.u32.wrap ((x.toNat : Int) * 2 ^ (min (n : Int).toNat 32))) = _
    rw [Int.toNat_natCast, Nat.min_eq_left (Nat.le_of_lt hn), wrap32]
    have e2 : (x.toNat : Int) * 2 ^ n = ((x.toNat * 2 ^ n : Nat) : Int) := by rw [Int.natCast_mul, Int.natCast_pow]; rfl
    rw [e2]
    have e3 : BitVec.ofInt 32 ((x.toNat * 2 ^ n : Nat) : Int) = x <<< n := by
     apply BitVec.eq_of_toNat_eq
     rw [BitVec.toNat_ofInt, BitVec.toNat_shiftLeft, Nat.shiftLeft_eq]
     simp only [show ((2 ^ 32 : Nat) : Int) = 4294967296 from rfl, show (2 ^ 32 : Nat) = 4294967296 from rfl]
     omega
    rw [e3]
  rw [this]
  apply propext; exact ⟨fun h => h.2, fun h => ⟨by omega, h⟩⟩
theorem eUconv {n : Int} : pConv .u32 (.int .u64 n) K = K (u (BitVec.ofInt 32 n)) := by
  rw [eConv, wrap32]; rfl
theorem wrapU64 {n : Int} (h0 : 0 ≤ n) (h1 : n < 18446744073709551616) : IntKind.u64.wrap n = n := by
  simp only [IntKind.wrap, IntKind.signed, IntKind.bits]
  first | omega | (simp; omega)
theorem wrapU8 {n : Int} : IntKind.u8.wrap n = n % 256 := by
  simp only [IntKind.wrap, IntKind.signed, IntKind.bits]
  first | omega | (simp; done) | (simp; omega)
theorem eU64 : pConv .u64 (u x) K = K (.int .u64 (x.toNat : Int)) := by
  unfold u; rw [eConv]
  have := x.isLt
  rw [wrapU64 (by omega) (by omega)]
theorem one_u (x : W32) : one (u x) = true := rfl
def us (l : List W32) : List Value := l.map u
theorem us_len (l : List W32) : (us l).length = l.length := by simp [us]
theorem us_get {l : List W32} {i : Nat} (h : i < l.length) : (us l)[i]? = some (u l[i]) := by simp [us, h]
theorem us_one (l : List W32) : ∀ v ∈ us l, one v = true := fun v hv => by
  obtain ⟨x, _, rfl⟩ := List.mem_map.1 hv; rfl
theorem us_set (l : List W32) (i : Nat) (x : W32) : (us l).set i (u x) = us (l.set i x) := by simp [us, List.map_set]
theorem us_rep (n : Nat) : List.replicate n (Value.int .u32 0) = us (List.replicate n 0) := by
  unfold us; rw [List.map_replicate]; rfl
/-- An element's address in an array. -/
theorem eIAr {size len b o : Nat} {k : IntKind} {j : Int} {K : KP} : pIAr len size (.pointer (some ⟨b, o, none⟩)) (.int k j) K = (0 ≤ j ∧ j < (len : Int) ∧ K (.pointer (some ⟨b, o + j.toNat * size, none⟩))) := by
  apply propext; constructor
  · rintro ⟨a', k', j', h1, h2, h⟩
    cases h1; cases h2
    rw [add_mk] at h; exact h
  · intro h
    refine ⟨_, k, j, rfl, rfl, h.1, h.2.1, ?_⟩
    rw [add_mk]; exact h.2.2
variable {w : World} {g : Nat} {l : List W32}
theorem Cs.uE {i : Nat} (h : Cs w g (us l)) (hi : i < l.length) {K : KP} : pLd (Ext w) (.pointer (some ⟨g, i, none⟩)) K = K (u l[i]) := eLdE (by rw [h.c]; exact us_get hi)
theorem Cs.uW {i : Nat} (h : Cs w g (us l)) (hi : i < l.length) {K : KP} : pLd (· = w) (.pointer (some ⟨g, i, none⟩)) K = K (u l[i]) := by
  rw [eLdW, h.c, us_get hi]; simp
theorem Cs.uT {T : Nat → Prop} {i : Nat} (h : Cs w g (us l)) (hT : ¬ T g) (hi : i < l.length) {K : KP} : pLd (Fr T w) (.pointer (some ⟨g, i, none⟩)) K = K (u l[i]) := eLdT hT (by rw [h.c]; exact us_get hi)
theorem Cs.uSet {i : Nat} {x : W32} {K : KV} (h : Cs w g (us l)) (hi : i < l.length) (k : ∀ w', Cs w' g (us (l.set i x)) → Fr (· = g) w w' → K undef w') : pSt (.pointer (some ⟨g, i, none⟩)) (u x) w K := by
  refine h.set (by rw [us_len]; exact hi) rfl fun w' h1 h2 => k w' ?_ h2
  rw [us_set] at h1; exact h1
theorem Cs.uSetN {n : Nat} {l' : List W32} {K : KV} (h : Cs w g (us l)) (hl : l'.length = l.length) (hn : l.length = n) (k : ∀ w', Cs w' g (us l') → Fr (· = g) w w' → K undef w') : pStN n (.pointer (some ⟨g, 0, none⟩)) (.agg ⟨us l'⟩) w K :=
  h.setN (by simp [us_len, hl]) (by simp [us_len, hl, hn]) (us_one _) k
end Go.G
end
section
set_option linter.unusedSimpArgs false
set_option linter.unusedVariables false
namespace Go.G
open Go
variable {w : World} {g : Nat} {l : List Value} {D : Nat → Prop}
def bv (l : List UInt8) : List Value := l.map fun b => .int .u8 (b.toNat : Int)
theorem bv_len (l : List UInt8) : (bv l).length = l.length := by simp [bv]
theorem bv_get {l : List UInt8} {i : Nat} (h : i < l.length) : (bv l)[i]? = some (.int .u8 (l[i].toNat : Int)) := by simp [bv, h]
theorem bv_one (l : List UInt8) : ∀ v ∈ bv l, one v = true := fun v hv => by
  obtain ⟨x, _, rfl⟩ := List.mem_map.1 hv; rfl
theorem bv_rows (D : Nat → Prop) (w : World) : ∀ l : List UInt8, RdL .byte D w (bv l) l
  | [] => rfl
  | x :: r => ⟨[.int .u8 (x.toNat : Int)], bv r, rfl, rfl, bv_rows D w r⟩
theorem rows_bv {D : Nat → Prop} {w : World} : ∀ {l : List UInt8} {cs : List Value}, RdL .byte D w cs l → cs = bv l
  | [], _, h => h
  | x :: r, _, ⟨a, b, h1, h2, h3⟩ => by
    have e1 : a = [.int .u8 (x.toNat : Int)] := h2
    rw [h1, e1, rows_bv h3]; rfl
theorem bv_zero (n : Nat) : rowOf [Value.int .u8 0] n = bv (List.replicate n 0) := by
  induction n with
  | zero => rfl
  | succ n ih =>
    have : rowOf [Value.int .u8 0] (n + 1) = Value.int .u8 0 :: rowOf [Value.int .u8 0] n := by simp [rowOf, List.replicate_succ]
    rw [this, ih]; rfl
/-- What is read of bytes. -/
theorem reads_bv {v : Value} {ys : List UInt8} {k : Nat} (h : Rd (.slice .byte) D w [v] ys) (hk : k ≤ ys.length) : reads w 1 k v (bv (ys.take k)) := by
  obtain ⟨a, c, e, hc, hl⟩ := h.form
  subst e
  refine ⟨by rw [bv_len, List.length_take, Nat.min_eq_left hk, Nat.mul_one], fun i u hi => ?_⟩
  have hlt : i < k := by
    have := (List.getElem?_eq_some_iff.1 hi).1
    rw [bv_len, List.length_take] at this; omega
  obtain ⟨ad, c', u', e', _, _, h5, h6⟩ := h.idx rfl (i := i) (by omega)
  simp only [Value.slice.injEq] at e'
  have hu : [u'] = [Value.int .u8 (ys[i].toNat : Int)] := h6
  simp only [List.cons.injEq, and_true] at hu
  rw [bv_get (by rw [List.length_take]; omega)] at hi
  refine ⟨ad, e'.1, ?_⟩
  rw [h5, hu, ← hi]; simp
/-- What is read of a block's cells. -/
theorem Cs.reads {n c k o : Nat} (h : Cs w g l) (hk : o + k ≤ l.length) : reads w 1 k (.slice (some ⟨g, o, none⟩) n c) ((l.drop o).take k) := by
  refine ⟨by rw [List.length_take, List.length_drop]; omega, fun i u hi => ⟨_, rfl, ?_⟩⟩
  rw [add_mk, h.c, ← hi]
  have hlt : i < k := by
    have := (List.getElem?_eq_some_iff.1 hi).1
    rw [List.length_take] at this; omega
  rw [List.getElem?_take, if_pos hlt, List.getElem?_drop]
/-- copy(b[o:], x) -/
theorem Cs.copy {o n c k : Nat} {xs : List Value} {x : Value} {K : KV} (h : Cs w g l) (hk : min (lenV x) n = k) (hr : Go.G.reads w 1 k x xs) (hx : xs.length = k) (hl : o + k ≤ l.length) (ho : ∀ v ∈ xs, one v = true)
    (K_ : ∀ w', Cs w' g (l.take o ++ xs ++ l.drop (o + k)) → Fr (· = g) w w' → K (.int .i64 k) w') : pCopy 1 (.slice (some ⟨g, o, none⟩) n c) x w K := by
  have hc := h.c
  obtain ⟨T, h⟩ := h
  subst hk
  refine ⟨_, n, c, xs, rfl, hr, fun j v hj => ?_, K_ _ ?_ (Fr.setCells ⟨g, o, none⟩ xs 0 w)⟩
  · have hjl := (List.getElem?_eq_some_iff.1 hj).1
    rw [add_mk]
    exact ⟨⟨_, by rw [hc]; exact List.getElem?_eq_getElem (by omega)⟩, by simp [World.frozen?, h], ho v (List.mem_of_getElem? hj)⟩
  · obtain ⟨cs', g1, g2⟩ := setCells_heap (g := g) (o := o) xs 0 w ⟨l⟩ (l.take o) (l.drop o) h (by simp) (by rw [List.length_take]; omega) (by rw [List.length_drop]; omega)
    refine ⟨T, ?_⟩
    rw [g1]
    have : cs' = ⟨l.take o ++ xs ++ l.drop (o + min (lenV x) n)⟩ := by
      apply Array.ext'
      rw [g2, List.drop_drop, hx]
    rw [this]
/-- A block of bytes that the call owns. -/
theorem Cs.own {B n c : Nat} {xs : List UInt8} {rest : List Value} (h : Cs w g (bv xs ++ rest)) (hB : B ≤ g) (hD : ¬ D g) (hn : xs.length = n) (hc : n + rest.length = c) : Own .byte D B w (.slice (some ⟨g, 0, none⟩) n c) xs := by
  obtain ⟨T, h⟩ := h
  subst hn
  refine .inr ⟨g, c, _, T, (0, 0), bv xs, rest, rfl, hB, hD, h, fun o _ _ h => by simp at h, rfl, ?_, bv_rows D w xs⟩
  show (bv xs ++ rest).length = c * 1
  rw [List.length_append, bv_len]; omega
/-- make([]byte, n), as a block. -/
theorem makeB {E n : Nat} {K : KV} (hn : n ≤ 1000000) (k : ∀ g w', w.heap.size = g → Ext w w' → Cs w' g (bv (List.replicate n 0)) → K (.slice (some ⟨g, 0, none⟩) n n) w') : pMake E 1 [.int .u8 0] (.int .i64 n) (.int .i64 n) w K := by
  refine ⟨.i64, .i64, n, n, rfl, rfl, by omega, Int.le_refl _, by omega, by omega, ?_⟩
  refine k _ _ rfl (Ext.alloc w _) ⟨E, ?_⟩
  rw [alloc_new, Int.toNat_natCast, bv_zero]
theorem u8_of (m : Nat) : (m : Int) % 256 = ((UInt8.ofNat m).toNat : Int) := by
  rw [UInt8.toNat_ofNat']; omega
theorem set_mid {l1 l2 : List UInt8} {x y : UInt8} {i : Nat} (h : l1.length = i) : (l1 ++ x :: l2).set i y = l1 ++ y :: l2 := by
  subst h; simp
end Go.G
end
section
set_option linter.unusedSimpArgs false
set_option linter.unusedVariables false
set_option maxRecDepth 100000
namespace Go.Proofs.Ytkpgmaiklfjjgaa
open Go Go.G
variable {X : KX} {w : World} {K : KV} {D D' : Nat → Prop}
abbrev tyAtom : TypeId := 75
abbrev tyText : TypeId := 90
abbrev tyKdf : TypeId := 93
abbrev tyMix : TypeId := 96
abbrev tyEnc : TypeId := 80
abbrev tyKey : TypeId := 78
abbrev tyMapK : TypeId := 69
/-- A term: its kind, two parts, a label, of an atom its number. -/
abbrev Node := Int × Int × Int × List UInt8 × Int
abbrev tNode : Ty := .pair (.int .i64) (.pair (.int .i64) (.pair (.int .i64) (.pair .str (.int .i64))))
abbrev Key := Int × Int × Int × List UInt8
def strV (s : List UInt8) : Value := .string ⟨s.toArray⟩
def encK (k : Key) : Value := .agg #[.int .i64 k.1, .int .i64 k.2.1, .int .i64 k.2.2.1, strV k.2.2.2]
def encN (x : Node) : Value :=
  if x.1 = 1 then .iface tyAtom (.agg #[.int .i64 x.2.2.2.2]) else if x.1 = 2 then .iface tyText (.agg #[strV x.2.2.2.1]) else if x.1 = 3 then .iface tyKdf (.agg #[.int .i64 x.2.1, strV x.2.2.2.1])
  else if x.1 = 4 then .iface tyMix (.agg #[.int .i64 x.2.1, .int .i64 x.2.2.1]) else .iface tyEnc (.agg #[.int .i64 x.2.1, .int .i64 x.2.2.1])
theorem strV_inj {a b : List UInt8} (h : strV a = strV b) : a = b := by
  simp only [strV, Value.string.injEq, ByteArray.mk.injEq] at h
  simpa using congrArg Array.toList h
theorem encK_inj : ∀ a b : Key, encK a = encK b → a = b := by
  rintro ⟨a1, a2, a3, a4⟩ ⟨b1, b2, b3, b4⟩ h
  simp only [encK, Value.agg.injEq, Array.mk.injEq, List.cons.injEq, Value.int.injEq, true_and, and_true] at h
  obtain ⟨rfl, rfl, rfl, h4⟩ := h
  rw [strV_inj h4]
theorem keyLaw : WideMaps.KeyLaw Try.prog tyKey := deep_law (m := 2) (by omega) (by kernel_rfl) (by kernel_rfl) (by kernel_rfl)
/-- Numbers that an int holds. -/
def InI (n : Int) : Prop := -9223372036854775808 ≤ n ∧ n ≤ 9223372036854775807
theorem litI {n : Int} (h : InI n) : (Lit.int .i64 n).wf = true := by
  unfold InI at h
  simp [Lit.wf, IntKind.min, IntKind.max, IntKind.bits, IntKind.signed]
  omega
theorem cells3 : Try.prog.cellsOf 3 = 1 := by kernel_rfl
theorem cells9 : Try.prog.cellsOf 9 = 1 := by kernel_rfl
theorem cellsKey : Try.prog.cellsOf tyKey = 4 := by kernel_rfl
theorem keyType_ok : Try.prog.keyType tyKey = true := by kernel_rfl
theorem keyLitI {n : Int} {d : Nat} (h : InI n) : Try.prog.keyLits (d + 1) 3 [.int .i64 n] = some [.int .i64 n] := by
  unfold Program.keyLits
  rw [Try.underlying3]
  simp [litI h]
theorem keyLitS {s : List UInt8} {d : Nat} (h : s.length ≤ 9223372036854775807) : Try.prog.keyLits (d + 1) 9 [strV s] = some [.string s] := by
  unfold Program.keyLits strV
  rw [Try.underlying9]
  have : (⟨s.toArray⟩ : ByteArray).size ≤ maxLen := by show s.length ≤ maxLen; simpa [maxLen] using h
  simp [this]
theorem keyOk {k : Key} (h1 : InI k.1) (h2 : InI k.2.1) (h3 : InI k.2.2.1) (h4 : k.2.2.2.length ≤ 9223372036854775807) : KeyOk Try.prog tyKey (encK k) := by
  have hf : (encK k).formed Try.prog tyKey = true := by
    unfold encK Value.formed
    simp [Try.underlying78, cellsKey]
  have hl : ∃ ls, Try.prog.keyLits (Try.prog.types.size + 1) tyKey (encK k).cells.toList = some ls := by
    refine ⟨[.int .i64 k.1, .int .i64 k.2.1, .int .i64 k.2.2.1, .string k.2.2.2], ?_⟩
    have hd : ∃ d, Try.prog.types.size = d + 1 := ⟨Try.prog.types.size - 1, by kernel_rfl⟩
    obtain ⟨d, hd⟩ := hd
    rw [hd]
    unfold Program.keyLits
    rw [Try.underlying78]
    simp [encK, Value.cells, cellsKey, cells3, cells9, keyLitI h1, keyLitI h2, keyLitI h3, keyLitS h4]
  obtain ⟨ls, hl⟩ := hl
  refine ⟨.string (keyBytes ls), ?_⟩
  unfold keyOf
  rw [Try.underlying78]
  simp only [keyType_ok, hf, Bool.and_self, if_true]
  rw [hl]; rfl
theorem ta_yes {T xT : TypeId} {fs : Array Field} {v : Value} {K : KV} (hu : Try.prog.underlying T = some (.struct fs)) (h : K (.tuple #[v, .bool true]) w) : pRun Try.prog (Instr.typeAssert (.iface T v) xT T true) w K :=
  ⟨_, w, by simp [Instr.typeAssert, Go.G.run_underlying hu, Result.andThen], h⟩
theorem ta_no {T T' xT : TypeId} {fs : Array Field} {v z : Value} {K : KV} (hu : Try.prog.underlying T = some (.struct fs)) (hz : ∀ w, (zeroValue T).run Try.prog w = .ok z w) (hn : T' ≠ T) (h : K (.tuple #[z, .bool false]) w) : pRun Try.prog (Instr.typeAssert (.iface T' v) xT T true) w K :=
  ⟨_, w, by simp [Instr.typeAssert, Go.G.run_underlying hu, Result.andThen, hn, hz], h⟩
theorem zAtom : ∀ w, (zeroValue tyAtom).run Try.prog w = .ok (.agg #[.int .i64 0]) w := fun _ => by kernel_rfl
theorem zText : ∀ w, (zeroValue tyText).run Try.prog w = .ok (.agg #[.string ⟨#[]⟩]) w := fun _ => by kernel_rfl
theorem zKdf : ∀ w, (zeroValue tyKdf).run Try.prog w = .ok (.agg #[.int .i64 0, .string ⟨#[]⟩]) w := fun _ => by kernel_rfl
theorem zMix : ∀ w, (zeroValue tyMix).run Try.prog w = .ok (.agg #[.int .i64 0, .int .i64 0]) w := fun _ => by kernel_rfl
theorem zEnc : ∀ w, (zeroValue tyEnc).run Try.prog w = .ok (.agg #[.int .i64 0, .int .i64 0]) w := fun _ => by kernel_rfl
theorem zInt : ∀ w, (zeroValue 3).run Try.prog w = .ok (.int .i64 0) w := fun _ => by kernel_rfl
end Go.Proofs.Ytkpgmaiklfjjgaa
end
section
set_option linter.unusedSimpArgs false
set_option linter.unusedVariables false
set_option maxRecDepth 100000
namespace Go.Proofs.Ytkpgmaiklfjjgaa
open Go Go.G
variable {X : KX} {w : World} {K : KV} {D D' : Nat → Prop}
abbrev NoB : Nat → Prop := fun _ => False
def keyN (x : Node) : Key := (x.1, x.2.1, x.2.2.1, x.2.2.2.1)
def NodeOk (i : Nat) (x : Node) : Prop :=
  (x.1 = 1 ∧ x.2.1 = 0 ∧ x.2.2.1 = 0 ∧ x.2.2.2.1 = [] ∧ 0 ≤ x.2.2.2.2 ∧ x.2.2.2.2 ≤ (i : Int)) ∨ (x.1 = 2 ∧ x.2.1 = 0 ∧ x.2.2.1 = 0 ∧ x.2.2.2.2 = 0) ∨ (x.1 = 3 ∧ 1 ≤ x.2.1 ∧ x.2.1 ≤ (i : Int) ∧ x.2.2.1 = 0 ∧ x.2.2.2.2 = 0) ∨
  ((x.1 = 4 ∨ x.1 = 5) ∧ 1 ≤ x.2.1 ∧ x.2.1 ≤ (i : Int) ∧ 1 ≤ x.2.2.1 ∧ x.2.2.1 ≤ (i : Int) ∧ x.2.2.2.1 = [] ∧ x.2.2.2.2 = 0)
/-- A row of terms as they come to be. -/
structure GoodN (ns : List Node) : Prop where
  form : ∀ i (hi : i < ns.length), NodeOk i ns[i] ∧ ns[i].2.2.2.1.length ≤ 1000000
  uniq : ∀ i j (hi : i < ns.length) (hj : j < ns.length), ns[i].1 ≠ 1 → keyN ns[i] = keyN ns[j] → i = j
def atomsN (ns : List Node) : Int := ((ns.countP fun x => x.1 == 1 : Nat) : Int)
/-- What a term is found by. -/
def MapOk (ns : List Node) (ml : List (Key × Value)) : Prop :=
  (∀ i (hi : i < ns.length), ns[i].1 ≠ 1 → mget ml (keyN ns[i]) = some (.int .i64 ((i : Int) + 1))) ∧ (∀ k v, mget ml k = some v → ∃ i, ∃ hi : i < ns.length, ns[i].1 ≠ 1 ∧ keyN ns[i] = k ∧ v = .int .i64 ((i : Int) + 1)) ∧ ∀ p ∈ ml, KeyOk Try.prog tyKey (encK p.1)
/-- The program's table lies at gT, in blocks of F. -/
def Tab (w : World) (gT : Nat) (F : Nat → Prop) (ns : List Node) : Prop :=
  ∃ (vl vs : Value) (gm : Nat) (sz : List Int) (ml : List (Key × Value)), Cs w gT [vl, vs, .map (some gm), .int .i64 (atomsN ns)] ∧ G.Own .raw NoB 0 w vl (ns.map encN) ∧ G.Own (.int .i64) NoB 0 w vs sz ∧ sz.length = ns.length ∧ MapB encK w gm ml ∧ MapOk ns ml ∧ GoodN ns ∧
    F gT ∧ F gm ∧ (∀ b, Blk vl b → F b) ∧ (∀ b, Blk vs b → F b) ∧ (∀ b, F b → b < w.heap.size) ∧ gT ≠ gm ∧ (∀ b, Blk vl b → b ≠ gT ∧ b ≠ gm ∧ ¬ Blk vs b) ∧ (∀ b, Blk vs b → b ≠ gT ∧ b ≠ gm) ∧ ns.length ≤ 10000
theorem Tab.fr {T F : Nat → Prop} {w' : World} {gT : Nat} {ns : List Node} (h : Tab w gT F ns) (f : Fr T w w') (hT : ∀ b, F b → ¬ T b) : Tab w' gT F ns := by
  obtain ⟨vl, vs, gm, sz, ml, h1, h2, h3, h4, h5, h6, h7, h8, h9, h10, h11, h12, h13⟩ := h
  have z := f.size
  exact ⟨vl, vs, gm, sz, ml, h1.fr f (hT _ h8), h2.fr f (fun _ h => h.elim) (fun b hb _ => hT b (h10 b hb)), h3.fr f (fun _ h => h.elim) (fun b hb _ => hT b (h11 b hb)), h4, h5.fr f (hT _ h9), h6, h7, h8, h9, h10, h11, fun b hb => Nat.lt_of_lt_of_le (h12 b hb) z, h13⟩
theorem Tab.ext {F : Nat → Prop} {w' : World} {gT : Nat} {ns : List Node} (h : Tab w gT F ns) (f : Ext w w') : Tab w' gT F ns := h.fr f (fun _ _ h => h)
theorem Tab.good {F : Nat → Prop} {gT : Nat} {ns : List Node} (h : Tab w gT F ns) : GoodN ns := by obtain ⟨vl, vs, gm, sz, ml, h1, h2, h3, h4, h5, h6, h7, h8⟩ := h; exact h7
theorem Tab.len {F : Nat → Prop} {gT : Nat} {ns : List Node} (h : Tab w gT F ns) : ns.length ≤ 10000 := by obtain ⟨vl, vs, gm, sz, ml, h1, h2, h3, h4, h5, h6, h7, h8, h9, h10, h11, h12, h13, h14, h15, h16⟩ := h; exact h16
theorem Tab.lt {F : Nat → Prop} {gT : Nat} {ns : List Node} (h : Tab w gT F ns) : gT < w.heap.size := by obtain ⟨vl, vs, gm, sz, ml, h1, _⟩ := h; exact h1.lt
theorem Tab.fp {F : Nat → Prop} {gT : Nat} {ns : List Node} (h : Tab w gT F ns) : ∀ b, F b → b < w.heap.size := by obtain ⟨vl, vs, gm, sz, ml, h1, h2, h3, h4, h5, h6, h7, h8, h9, h10, h11, h12, h13⟩ := h; exact h12
theorem ePNil {a : Addr} {K : KP} : pNil (.pointer (some a)) K = K (.pointer (some a)) := rfl
theorem ePEqS {a : Addr} {K : KP} : pEq .ptr false (.pointer (some a)) (.pointer none) K = K (.bool false) := by
  apply propext; exact ⟨fun ⟨b, h, k⟩ => by cases h; exact k, fun h => ⟨false, rfl, h⟩⟩
theorem ePEqN {K : KP} : pEq .ptr false (.pointer none) (.pointer none) K = K (.bool true) := by
  apply propext; exact ⟨fun ⟨b, h, k⟩ => by cases h; exact k, fun h => ⟨true, rfl, h⟩⟩
theorem ePEqT {a : Addr} {K : KP} : pEq .ptr true (.pointer (some a)) (.pointer none) K = K (.bool true) := by
  apply propext; exact ⟨fun ⟨b, h, k⟩ => by cases h; exact k, fun h => ⟨false, rfl, h⟩⟩
theorem ePEqF {K : KP} : pEq .ptr true (.pointer none) (.pointer none) K = K (.bool false) := by
  apply propext; exact ⟨fun ⟨b, h, k⟩ => by cases h; exact k, fun h => ⟨true, rfl, h⟩⟩
/-- A table of no terms. -/
theorem TNew_c (h : ∀ gT F w', Ext w w' → (∀ b, F b → w.heap.size ≤ b) → Tab w' gT F [] → K (.pointer (some ⟨gT, 0, none⟩)) w') : GCalls Try.prog 21 [] K X w := by
  apply term_New.calls; unfold term_New.b
  refine map_ (κ := Key) (enc := encK) fun gm w1 hg h1 m1 => ?_
  refine ⟨[.slice none 0 0, .slice none 0 0, .map (some gm), .int .i64 0], by simp [fillL, one_cells, cutIn, Value.cells], ?_⟩
  refine boxC (cs := [.slice none 0 0, .slice none 0 0, .map (some gm), .int .i64 0]) fun gT w2 hg2 h2 c2 => ?_
  have z1 := h1.size; have z2 := h2.size; have l1 := m1.lt; have l2 := c2.lt
  refine h gT (fun b => b = gT ∨ b = gm) w2 (h1.tr h2) (fun b hb => by omega) ⟨.slice none 0 0, .slice none 0 0, gm, [], [], c2, G.Own.nil, G.Own.nil, rfl, m1.ext h2, ⟨fun i hi => by simp at hi, fun k v hv => by simp [mget] at hv, fun p hp => by cases hp⟩, ⟨fun i hi => by simp at hi, fun i j hi => by simp at hi⟩,
    .inl rfl, .inr rfl, fun b hb => ?_, fun b hb => ?_, fun b hb => by omega, by omega, fun b hb => ?_, fun b hb => ?_, by simp⟩
  all_goals (obtain ⟨_, _, _, e, _⟩ := hb; cases e)
def thereN (ns : List Node) (id : Int) : Bool := decide (1 ≤ id) && decide (id ≤ (ns.length : Int))
theorem thereN_iff {ns : List Node} {id : Int} : thereN ns id = true ↔ 1 ≤ id ∧ id ≤ (ns.length : Int) := by simp [thereN]
theorem there1_c {gT g2 : Nat} {F : Nat → Prop} {ns : List Node} {id : Int} (ht : Tab w gT F ns) (c2 : Cs w g2 [.pointer (some ⟨gT, 0, none⟩)]) (h : K (.bool (!(thereN ns id))) w) : GCalls Try.prog 54 [.int .i64 id, .pointer (some ⟨g2, 0, none⟩)] K X w := by
  obtain ⟨vl, vs, gm, sz, ml, h1, h2, _⟩ := ht
  obtain ⟨al, cl, e, _⟩ := h2.form
  subst e
  apply term_Table_there_c1.calls; unfold term_Table_there_c1.b
  by_cases d1 : id < 1
  · simp only [↓eBinI, ↓eDiv, ↓eShift, ↓eBinS, ↓ePick, ↓eNot, ↓eNeg, ↓eConv, ↓eConvS, ↓eExt0, ↓eExt1, ↓eExt2, ↓eFA, ↓eIA, ↓eLenSl, ↓eCapSl, ↓eLenS, ↓eMin, ↓eMax, ↓eCondT, ↓eCondF, ↓gIf_tt, ↓gIf_ff, ↓gIf_tf, ↓gIf_ft, ↓gIf_u, ↓gIfW_u, ↓gIfW_tt, ↓gIfW_ff, ↓gIfW_tf, ↓gIfW_ft, binI, divI, shiftI, add_mk, Nat.zero_add, cond_true, cond_false, decide_true, decide_false, Bool.not_true, Bool.not_false, Bool.and_true, Bool.true_and, Bool.and_false, Bool.false_and, Int.toNat_natCast, Nat.mul_one, d1]
    rw [thereN, decide_eq_false (by omega)] at h
    exact h
  · by_cases d2 : id > (ns.length : Int)
    · simp only [↓eBinI, ↓eDiv, ↓eShift, ↓eBinS, ↓ePick, ↓eNot, ↓eNeg, ↓eConv, ↓eConvS, ↓eExt0, ↓eExt1, ↓eExt2, ↓eFA, ↓eIA, ↓eLenSl, ↓eCapSl, ↓eLenS, ↓eMin, ↓eMax, ↓eCondT, ↓eCondF, ↓gIf_tt, ↓gIf_ff, ↓gIf_tf, ↓gIf_ft, ↓gIf_u, ↓gIfW_u, ↓gIfW_tt, ↓gIfW_ff, ↓gIfW_tf, ↓gIfW_ft, binI, divI, shiftI, add_mk, Nat.zero_add, cond_true, cond_false, decide_true, decide_false, Bool.not_true, Bool.not_false, Bool.and_true, Bool.true_and, Bool.and_false, Bool.false_and, Int.toNat_natCast, Nat.mul_one, d1, ↓c2.c0, ↓ePNil, ↓h1.c0, List.length_map, d2]
      rw [thereN, decide_eq_false (p := id ≤ _) (by omega), Bool.and_false] at h
      exact h
    · simp only [↓eBinI, ↓eDiv, ↓eShift, ↓eBinS, ↓ePick, ↓eNot, ↓eNeg, ↓eConv, ↓eConvS, ↓eExt0, ↓eExt1, ↓eExt2, ↓eFA, ↓eIA, ↓eLenSl, ↓eCapSl, ↓eLenS, ↓eMin, ↓eMax, ↓eCondT, ↓eCondF, ↓gIf_tt, ↓gIf_ff, ↓gIf_tf, ↓gIf_ft, ↓gIf_u, ↓gIfW_u, ↓gIfW_tt, ↓gIfW_ff, ↓gIfW_tf, ↓gIfW_ft, binI, divI, shiftI, add_mk, Nat.zero_add, cond_true, cond_false, decide_true, decide_false, Bool.not_true, Bool.not_false, Bool.and_true, Bool.true_and, Bool.and_false, Bool.false_and, Int.toNat_natCast, Nat.mul_one, d1, ↓c2.c0, ↓ePNil, ↓h1.c0, List.length_map, d2]
      rw [thereN, decide_eq_true (by omega), decide_eq_true (by omega)] at h
      exact h
theorem IndexThere_c {gT g2 : Nat} {F : Nat → Prop} {ns : List Node} {x : Value} {ids : List Int} (ht : Tab w gT F ns) (c2 : Cs w g2 [.pointer (some ⟨gT, 0, none⟩)]) (hx : Rd (.slice (.int .i64)) D w [x] ids)
    (h : ∀ r : Int, (if ids.all (thereN ns) then r = -1 else 0 ≤ r) → K (.int .i64 r) w) : GCalls Try.prog 59 [x, .func (.func 54) #[] #[.pointer (some ⟨g2, 0, none⟩)]] K X w := by
  obtain ⟨a1, c1, rfl, hc1, hl1⟩ := hx.form
  apply slices_IndexFunc_int_int.calls; unfold slices_IndexFunc_int_int.b
  simp only [↓eBinI, ↓eDiv, ↓eShift, ↓eBinS, ↓ePick, ↓eNot, ↓eNeg, ↓eConv, ↓eConvS, ↓eExt0, ↓eExt1, ↓eExt2, ↓eFA, ↓eIA, ↓eLenSl, ↓eCapSl, ↓eLenS, ↓eMin, ↓eMax, ↓eCondT, ↓eCondF, ↓gIf_tt, ↓gIf_ff, ↓gIf_tf, ↓gIf_ft, ↓gIf_u, ↓gIfW_u, ↓gIfW_tt, ↓gIfW_ff, ↓gIfW_tf, ↓gIfW_ft, binI, divI, shiftI, add_mk, Nat.zero_add, cond_true, cond_false, decide_true, decide_false, Bool.not_true, Bool.not_false, Bool.and_true, Bool.true_and, Bool.and_false, Bool.false_and, Int.toNat_natCast, Nat.mul_one]
  refine slices_IndexFunc_int_int.loop1 (fun x8 w' => ∃ i : Nat, i ≤ ids.length ∧ x8 = .int .i64 (i : Int) ∧ w' = w ∧ ∀ j (hj : j < i) (hl : j < ids.length), thereN ns ids[j] = true) (fun x8 _ => ids.length - (iv x8).toNat) ⟨0, by omega, rfl, rfl, fun j hj => by omega⟩ ?_
  rintro x8 gg w1 ⟨i, hi, rfl, rfl, hn⟩
  unfold slices_IndexFunc_int_int.b1
  by_cases ci : (i : Int) < (ids.length : Int)
  · obtain ⟨b1, k1, u1, e1, s1, hd, q1, r1⟩ := hx.idx rfl (i := i) (by omega)
    simp only [Value.slice.injEq] at e1
    obtain ⟨rfl, -, rfl⟩ := e1
    have v1 := r1.1
    simp only [List.cons.injEq, and_true] at v1
    subst v1
    simp only [↓eBinI, ↓eDiv, ↓eShift, ↓eBinS, ↓ePick, ↓eNot, ↓eNeg, ↓eConv, ↓eConvS, ↓eExt0, ↓eExt1, ↓eExt2, ↓eFA, ↓eIA, ↓eLenSl, ↓eCapSl, ↓eLenS, ↓eMin, ↓eMax, ↓eCondT, ↓eCondF, ↓gIf_tt, ↓gIf_ff, ↓gIf_tf, ↓gIf_ft, ↓gIf_u, ↓gIfW_u, ↓gIfW_tt, ↓gIfW_ff, ↓gIfW_tf, ↓gIfW_ft, binI, divI, shiftI, add_mk, Nat.zero_add, cond_true, cond_false, decide_true, decide_false, Bool.not_true, Bool.not_false, Bool.and_true, Bool.true_and, Bool.and_false, Bool.false_and, Int.toNat_natCast, Nat.mul_one, ci, ↓eLdW, q1, Option.some.injEq, exists_eq_left']
    refine ⟨by omega, by first | trivial | omega, ?_⟩
    refine (?_ : GCalls Try.prog 54 [.int .i64 ids[i], .pointer (some ⟨g2, 0, none⟩)] _ X w1)
    refine there1_c ht c2 ?_
    cases ck : thereN ns ids[i] with
    | true =>
      simp only [↓eBinI, ↓eDiv, ↓eShift, ↓eBinS, ↓ePick, ↓eNot, ↓eNeg, ↓eConv, ↓eConvS, ↓eExt0, ↓eExt1, ↓eExt2, ↓eFA, ↓eIA, ↓eLenSl, ↓eCapSl, ↓eLenS, ↓eMin, ↓eMax, ↓eCondT, ↓eCondF, ↓gIf_tt, ↓gIf_ff, ↓gIf_tf, ↓gIf_ft, ↓gIf_u, ↓gIfW_u, ↓gIfW_tt, ↓gIfW_ff, ↓gIfW_tf, ↓gIfW_ft, binI, divI, shiftI, add_mk, Nat.zero_add, cond_true, cond_false, decide_true, decide_false, Bool.not_true, Bool.not_false, Bool.and_true, Bool.true_and, Bool.and_false, Bool.false_and, Int.toNat_natCast, Nat.mul_one]
      rw [wrap64 (by omega) (by omega)]
      refine slices_IndexFunc_int_int.leaf1 ⟨i + 1, by omega, by simp, rfl, fun j hj hl => ?_⟩ (by simp only [iv]; omega)
      by_cases hji : j = i
      · subst hji; exact ck
      · exact hn j (by omega) hl
    | false =>
      simp only [↓eBinI, ↓eDiv, ↓eShift, ↓eBinS, ↓ePick, ↓eNot, ↓eNeg, ↓eConv, ↓eConvS, ↓eExt0, ↓eExt1, ↓eExt2, ↓eFA, ↓eIA, ↓eLenSl, ↓eCapSl, ↓eLenS, ↓eMin, ↓eMax, ↓eCondT, ↓eCondF, ↓gIf_tt, ↓gIf_ff, ↓gIf_tf, ↓gIf_ft, ↓gIf_u, ↓gIfW_u, ↓gIfW_tt, ↓gIfW_ff, ↓gIfW_tf, ↓gIfW_ft, binI, divI, shiftI, add_mk, Nat.zero_add, cond_true, cond_false, decide_true, decide_false, Bool.not_true, Bool.not_false, Bool.and_true, Bool.true_and, Bool.and_false, Bool.false_and, Int.toNat_natCast, Nat.mul_one]
      refine h _ ?_
      have : ids.all (thereN ns) = false := by rw [List.all_eq_false]; exact ⟨ids[i], List.getElem_mem _, by simp [ck]⟩
      rw [this]; simp
  · simp only [↓eBinI, ↓eDiv, ↓eShift, ↓eBinS, ↓ePick, ↓eNot, ↓eNeg, ↓eConv, ↓eConvS, ↓eExt0, ↓eExt1, ↓eExt2, ↓eFA, ↓eIA, ↓eLenSl, ↓eCapSl, ↓eLenS, ↓eMin, ↓eMax, ↓eCondT, ↓eCondF, ↓gIf_tt, ↓gIf_ff, ↓gIf_tf, ↓gIf_ft, ↓gIf_u, ↓gIfW_u, ↓gIfW_tt, ↓gIfW_ff, ↓gIfW_tf, ↓gIfW_ft, binI, divI, shiftI, add_mk, Nat.zero_add, cond_true, cond_false, decide_true, decide_false, Bool.not_true, Bool.not_false, Bool.and_true, Bool.true_and, Bool.and_false, Bool.false_and, Int.toNat_natCast, Nat.mul_one, ci]
    refine h _ ?_
    have : ids.all (thereN ns) = true := by
      rw [List.all_eq_true]
      intro k hk
      obtain ⟨j, hj, rfl⟩ := List.mem_iff_getElem.1 hk
      exact hn j (by omega) hj
    rw [this]; rfl
theorem There_c {gT : Nat} {F : Nat → Prop} {ns : List Node} {x : Value} {ids : List Int} (ht : Tab w gT F ns) (hx : Rd (.slice (.int .i64)) D w [x] ids) (h : ∀ w', Ext w w' → K (.bool (ids.all (thereN ns))) w') : GCalls Try.prog 44 [.pointer (some ⟨gT, 0, none⟩), x] K X w := by
  apply term_Table_there.calls; unfold term_Table_there.b
  refine boxV rfl fun g2 w1 hg h1 c1 => ?_
  simp only [↓eBinI, ↓eDiv, ↓eShift, ↓eBinS, ↓ePick, ↓eNot, ↓eNeg, ↓eConv, ↓eConvS, ↓eExt0, ↓eExt1, ↓eExt2, ↓eFA, ↓eIA, ↓eLenSl, ↓eCapSl, ↓eLenS, ↓eMin, ↓eMax, ↓eCondT, ↓eCondF, ↓gIf_tt, ↓gIf_ff, ↓gIf_tf, ↓gIf_ft, ↓gIf_u, ↓gIfW_u, ↓gIfW_tt, ↓gIfW_ff, ↓gIfW_tf, ↓gIfW_ft, binI, divI, shiftI, add_mk, Nat.zero_add, cond_true, cond_false, decide_true, decide_false, Bool.not_true, Bool.not_false, Bool.and_true, Bool.true_and, Bool.and_false, Bool.false_and, Int.toNat_natCast, Nat.mul_one, ↓c1.c0, ↓ePEqT]
  refine slices_ContainsFunc_int_int.calls ?_
  unfold slices_ContainsFunc_int_int.b
  refine IndexThere_c (ht.ext h1) c1 (hx.ext h1) fun r hr => ?_
  have h := h w1 h1
  cases ha : ids.all (thereN ns) with
  | true =>
    rw [ha] at hr h
    have e : ¬ (r ≥ 0) := by simp only [if_true] at hr; omega
    simp only [↓eBinI, ↓eDiv, ↓eShift, ↓eBinS, ↓ePick, ↓eNot, ↓eNeg, ↓eConv, ↓eConvS, ↓eExt0, ↓eExt1, ↓eExt2, ↓eFA, ↓eIA, ↓eLenSl, ↓eCapSl, ↓eLenS, ↓eMin, ↓eMax, ↓eCondT, ↓eCondF, ↓gIf_tt, ↓gIf_ff, ↓gIf_tf, ↓gIf_ft, ↓gIf_u, ↓gIfW_u, ↓gIfW_tt, ↓gIfW_ff, ↓gIfW_tf, ↓gIfW_ft, binI, divI, shiftI, add_mk, Nat.zero_add, cond_true, cond_false, decide_true, decide_false, Bool.not_true, Bool.not_false, Bool.and_true, Bool.true_and, Bool.and_false, Bool.false_and, Int.toNat_natCast, Nat.mul_one, e]
    exact h
  | false =>
    rw [ha] at hr h
    have e : r ≥ 0 := by simpa using hr
    simp only [↓eBinI, ↓eDiv, ↓eShift, ↓eBinS, ↓ePick, ↓eNot, ↓eNeg, ↓eConv, ↓eConvS, ↓eExt0, ↓eExt1, ↓eExt2, ↓eFA, ↓eIA, ↓eLenSl, ↓eCapSl, ↓eLenS, ↓eMin, ↓eMax, ↓eCondT, ↓eCondF, ↓gIf_tt, ↓gIf_ff, ↓gIf_tf, ↓gIf_ft, ↓gIf_u, ↓gIfW_u, ↓gIfW_tt, ↓gIfW_ff, ↓gIfW_tf, ↓gIfW_ft, binI, divI, shiftI, add_mk, Nat.zero_add, cond_true, cond_false, decide_true, decide_false, Bool.not_true, Bool.not_false, Bool.and_true, Bool.true_and, Bool.and_false, Bool.false_and, Int.toNat_natCast, Nat.mul_one, e]
    exact h
theorem TLen_c {gT : Nat} {F : Nat → Prop} {ns : List Node} (ht : Tab w gT F ns) (h : K (.int .i64 (ns.length : Nat)) w) : GCalls Try.prog 46 [.pointer (some ⟨gT, 0, none⟩)] K X w := by
  obtain ⟨vl, vs, gm, sz, ml, h1, h2, _⟩ := ht
  obtain ⟨al, cl, e, _⟩ := h2.form
  subst e
  apply term_Table_Len.calls; unfold term_Table_Len.b
  simp only [↓eBinI, ↓eDiv, ↓eShift, ↓eBinS, ↓ePick, ↓eNot, ↓eNeg, ↓eConv, ↓eConvS, ↓eExt0, ↓eExt1, ↓eExt2, ↓eFA, ↓eIA, ↓eLenSl, ↓eCapSl, ↓eLenS, ↓eMin, ↓eMax, ↓eCondT, ↓eCondF, ↓gIf_tt, ↓gIf_ff, ↓gIf_tf, ↓gIf_ft, ↓gIf_u, ↓gIfW_u, ↓gIfW_tt, ↓gIfW_ff, ↓gIfW_tf, ↓gIfW_ft, binI, divI, shiftI, add_mk, Nat.zero_add, cond_true, cond_false, decide_true, decide_false, Bool.not_true, Bool.not_false, Bool.and_true, Bool.true_and, Bool.and_false, Bool.false_and, Int.toNat_natCast, Nat.mul_one, ↓ePEqS, ↓ePNil, ↓h1.c0, List.length_map]
  exact h
end Go.Proofs.Ytkpgmaiklfjjgaa
end
