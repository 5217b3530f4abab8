/-
  Words of 32 bits: what the operations make of them; cells of a block, read and written at a place.
  Owned slices: shorter ones, elements of more cells written, the rest cleared.
  Bytes alike, cloned, joined.
  Bytes in a block's cells; what is copied into a block.
-/
import Derived.Test.YtkpgmaiklfjjgaaGreatDoorMoah
section
set_option linter.unusedSimpArgs false
set_option linter.unusedVariables false
namespace Go.G
open Go
abbrev W32 := BitVec 32
def u (x : W32) : Value := .int .u32 (x.toNat : Int)
variable {K : KP} {x y : W32}
theorem u_lt (x : W32) : (x.toNat : Int) < 4294967296 := by have := x.isLt; omega
theorem wrap32 {n : Int} : IntKind.u32.wrap n = ((BitVec.ofInt 32 n).toNat : Int) := by
  have h := BitVec.toNat_ofInt (n := 32) n
  simp only [IntKind.wrap, IntKind.signed, IntKind.bits]
  have h2 : (n % 2 ^ 32) = n % 4294967296 := rfl
  have h3 : 0 ≤ n % 4294967296 := Int.emod_nonneg _ (by omega)
  rw [h]
  simp only [show ((2 ^ 32 : Nat) : Int) = 4294967296 from rfl]
  first
    | (rw [Int.toNat_of_nonneg h3]; simp; done)
    | (simp; omega)
theorem ofInt_toNat (x : W32) : BitVec.ofInt 32 (x.toNat : Int) = x := by
  apply BitVec.eq_of_toNat_eq
  rw [BitVec.toNat_ofInt]
  have := x.isLt
  simp only [show ((2 ^ 32 : Nat) : Int) = 4294967296 from rfl]
  omega
theorem wrapU (x : W32) : IntKind.u32.wrap (x.toNat : Int) = (x.toNat : Int) := by rw [wrap32, ofInt_toNat]
theorem eUadd : pBinI .add .u32 (u x) (u y) K = K (u (x + y)) := by
  have e : binI .add .u32 (x.toNat : Int) (y.toNat : Int) = u (x + y) := by
    show Value.int .u32 (IntKind.u32.wrap ((x.toNat : Int) + (y.toNat : Int))) = u (x + y)
    rw [wrap32]
    have : BitVec.ofInt 32 ((x.toNat : Int) + (y.toNat : Int)) = x + y := by rw [BitVec.ofInt_add, ofInt_toNat, ofInt_toNat]
    rw [this]; rfl
  unfold u at e ⊢; rw [eBinI, e]
theorem eUxor : pBinI .xor .u32 (u x) (u y) K = K (u (x ^^^ y)) := by
  have e : binI .xor .u32 (x.toNat : Int) (y.toNat : Int) = u (x ^^^ y) := by
    show Value.int .u32 (IntKind.u32.wrap (((BitVec.ofInt 32 (x.toNat : Int) ^^^ BitVec.ofInt 32 (y.toNat : Int)).toNat : Nat) : Int)) = u (x ^^^ y)
    rw [ofInt_toNat, ofInt_toNat, wrapU]; rfl
  unfold u at e ⊢; rw [eBinI, e]
theorem eUand : pBinI .and .u32 (u x) (u y) K = K (u (x &&& y)) := by
  have e : binI .and .u32 (x.toNat : Int) (y.toNat : Int) = u (x &&& y) := by
    show Value.int .u32 (IntKind.u32.wrap (((BitVec.ofInt 32 (x.toNat : Int) &&& BitVec.ofInt 32 (y.toNat : Int)).toNat : Nat) : Int)) = u (x &&& y)
    rw [ofInt_toNat, ofInt_toNat, wrapU]; rfl
  unfold u at e ⊢; rw [eBinI, e]
theorem eUor : pBinI .or .u32 (u x) (u y) K = K (u (x ||| y)) := by
  have e : binI .or .u32 (x.toNat : Int) (y.toNat : Int) = u (x ||| y) := by
    show Value.int .u32 (IntKind.u32.wrap (((BitVec.ofInt 32 (x.toNat : Int) ||| BitVec.ofInt 32 (y.toNat : Int)).toNat : Nat) : Int)) = u (x ||| y)
    rw [ofInt_toNat, ofInt_toNat, wrapU]; rfl
  unfold u at e ⊢; rw [eBinI, e]
theorem inv_u (x : W32) : Value.int .u32 (IntKind.u32.wrap (((BitVec.ofInt 32 (4294967295 : Int) ^^^ BitVec.ofInt 32 (x.toNat : Int)).toNat : Nat) : Int)) = u (~~~ x) := by
  have e : BitVec.ofInt 32 (4294967295 : Int) = BitVec.allOnes 32 := by decide
  rw [e, ofInt_toNat, BitVec.allOnes_xor, wrapU]; rfl
theorem eUinv : pInv .u32 (u x) K = K (u (~~~ x)) := by
  have e := inv_u x
  apply propext; constructor
  · rintro ⟨a, h1, h⟩
    have : a = (x.toNat : Int) := by
      unfold u at h1
      simp only [Value.int.injEq, true_and] at h1
      exact h1.symm
    subst this
    rw [← e]; exact h
  · intro h
    rw [← e] at h
    exact ⟨_, rfl, h⟩
theorem eUshr {k : IntKind} {n : Nat} (hn : n < 32) : pShift .shr .u32 (u x) (.int k n) K = K (u (x >>> n)) := by
  unfold u; rw [eShift]
  have : shiftI .shr .u32 (x.toNat : Int) (n : Int) = .int .u32 ((x >>> n).toNat : Int) := by
    show Value.int .u32 ((x.toNat : Int).fdiv (2 ^ (min (n : Int).toNat 32))) = _
    rw [Int.toNat_natCast, Nat.min_eq_left (Nat.le_of_lt hn)]
    congr 1
    rw [BitVec.toNat_ushiftRight, Nat.shiftRight_eq_div_pow, Int.fdiv_eq_ediv_of_nonneg _ (by exact Int.le_of_lt (Int.pow_pos (by omega)))]
    rw [Int.natCast_ediv, Int.natCast_pow]; rfl
  rw [this]
  apply propext; exact ⟨fun h => h.2, fun h => ⟨by omega, h⟩⟩
theorem eUshl {k : IntKind} {n : Nat} (hn : n < 32) : pShift .shl .u32 (u x) (.int k n) K = K (u (x <<< n)) := by
  unfold u; rw [eShift]
  have : shiftI .shl .u32 (x.toNat : Int) (n : Int) = .int .u32 ((x <<< n).toNat : Int) := by
    show Value.int .u32 (IntKind.u32.wrap ((x.toNat : Int) * 2 ^ (min (n : Int).toNat 32))) = _
    rw [Int.toNat_natCast, Nat.min_eq_left (Nat.le_of_lt hn), wrap32]
    have e2 : (x.toNat : Int) * 2 ^ n = ((x.toNat * 2 ^ n : Nat) : Int) := by rw [Int.natCast_mul, Int.natCast_pow]; rfl
    rw [e2]
    have e3 : BitVec.ofInt 32 ((x.toNat * 2 ^ n : Nat) : Int) = x <<< n := by
     apply BitVec.eq_of_toNat_eq
     rw [BitVec.toNat_ofInt, BitVec.toNat_shiftLeft, Nat.shiftLeft_eq]
     simp only [show ((2 ^ 32 : Nat) : Int) = 4294967296 from rfl, show (2 ^ 32 : Nat) = 4294967296 from rfl]
     omega
    rw [e3]
  rw [this]
  apply propext; exact ⟨fun h => h.2, fun h => ⟨by omega, h⟩⟩
theorem eUconv {n : Int} : pConv .u32 (.int .u64 n) K = K (u (BitVec.ofInt 32 n)) := by
  rw [eConv, wrap32]; rfl
theorem wrapU64 {n : Int} (h0 : 0 ≤ n) (h1 : n < 18446744073709551616) : IntKind.u64.wrap n = n := by
  simp only [IntKind.wrap, IntKind.signed, IntKind.bits]
  first | omega | (simp; omega)
theorem wrapU8 {n : Int} : IntKind.u8.wrap n = n % 256 := by
  simp only [IntKind.wrap, IntKind.signed, IntKind.bits]
  first | omega | (simp; done) | (simp; omega)
theorem eU64 : pConv .u64 (u x) K = K (.int .u64 (x.toNat : Int)) := by
  unfold u; rw [eConv]
  have := x.isLt
  rw [wrapU64 (by omega) (by omega)]
theorem one_u (x : W32) : one (u x) = true := rfl
def us (l : List W32) : List Value := l.map u
theorem us_len (l : List W32) : (us l).length = l.length := by simp [us]
theorem us_get {l : List W32} {i : Nat} (h : i < l.length) : (us l)[i]? = some (u l[i]) := by simp [us, h]
theorem us_one (l : List W32) : ∀ v ∈ us l, one v = true := fun v hv => by
  obtain ⟨x, _, rfl⟩ := List.mem_map.1 hv; rfl
theorem us_set (l : List W32) (i : Nat) (x : W32) : (us l).set i (u x) = us (l.set i x) := by simp [us, List.map_set]
theorem us_rep (n : Nat) : List.replicate n (Value.int .u32 0) = us (List.replicate n 0) := by
  unfold us; rw [List.map_replicate]; rfl
/-- An element's address in an array. -/
theorem eIAr {size len b o : Nat} {k : IntKind} {j : Int} {K : KP} : pIAr len size (.pointer (some ⟨b, o, none⟩)) (.int k j) K = (0 ≤ j ∧ j < (len : Int) ∧ K (.pointer (some ⟨b, o + j.toNat * size, none⟩))) := by
  apply propext; constructor
  · rintro ⟨a', k', j', h1, h2, h⟩
    cases h1; cases h2
    rw [add_mk] at h; exact h
  · intro h
    refine ⟨_, k, j, rfl, rfl, h.1, h.2.1, ?_⟩
    rw [add_mk]; exact h.2.2
variable {w : World} {g : Nat} {l : List W32}
theorem Cs.uE {i : Nat} (h : Cs w g (us l)) (hi : i < l.length) {K : KP} : pLd (Ext w) (.pointer (some ⟨g, i, none⟩)) K = K (u l[i]) := eLdE (by rw [h.c]; exact us_get hi)
theorem Cs.uW {i : Nat} (h : Cs w g (us l)) (hi : i < l.length) {K : KP} : pLd (· = w) (.pointer (some ⟨g, i, none⟩)) K = K (u l[i]) := by
  rw [eLdW, h.c, us_get hi]; simp
theorem Cs.uT {T : Nat → Prop} {i : Nat} (h : Cs w g (us l)) (hT : ¬ T g) (hi : i < l.length) {K : KP} : pLd (Fr T w) (.pointer (some ⟨g, i, none⟩)) K = K (u l[i]) := eLdT hT (by rw [h.c]; exact us_get hi)
theorem Cs.uSet {i : Nat} {x : W32} {K : KV} (h : Cs w g (us l)) (hi : i < l.length) (k : ∀ w', Cs w' g (us (l.set i x)) → Fr (· = g) w w' → K undef w') : pSt (.pointer (some ⟨g, i, none⟩)) (u x) w K := by
  refine h.set (by rw [us_len]; exact hi) rfl fun w' h1 h2 => k w' ?_ h2
  rw [us_set] at h1; exact h1
theorem Cs.uSetN {n : Nat} {l' : List W32} {K : KV} (h : Cs w g (us l)) (hl : l'.length = l.length) (hn : l.length = n) (k : ∀ w', Cs w' g (us l') → Fr (· = g) w w' → K undef w') : pStN n (.pointer (some ⟨g, 0, none⟩)) (.agg ⟨us l'⟩) w K :=
  h.setN (by simp [us_len, hl]) (by simp [us_len, hl, hn]) (us_one _) k
end Go.G
end
section
set_option linter.unusedSimpArgs false
set_option linter.unusedVariables false
namespace Go.G
open Go
variable {t : Ty} {D : Nat → Prop} {B : Nat} {w : World}
theorem RdL.take {xs : List t.D} : ∀ {cs : List Value} (k : Nat), RdL t D w cs xs → RdL t D w (cs.take (k * t.n)) (xs.take k) := by
  induction xs with
  | nil => intro cs k h; rw [show cs = [] from h]; simp [RdL]
  | cons x xs ih =>
    intro cs k h
    cases k with
    | zero => simp [RdL]
    | succ k =>
      obtain ⟨a, b, rfl, h1, h2⟩ := h
      refine ⟨a, b.take (k * t.n), ?_, h1, ih k h2⟩
      have := h1.len
      rw [List.take_append, List.take_of_length_le (by rw [Nat.succ_mul]; omega), Nat.succ_mul, show k * t.n + t.n - a.length = k * t.n by omega]
/-- The first elements of what is owned. -/
theorem Own.take {a : Option Addr} {n c k : Nat} {xs : List t.D} (h : Own t D B w (.slice a n c) xs) (hk : k ≤ xs.length) : Own t D B w (.slice a k c) (xs.take k) := by
  rcases h with ⟨rfl, a', e⟩ | ⟨g, c', cs, T, fz, old, rest, e, h1, h2, h3, h3', h4, h5, h6⟩
  · simp at hk e
    subst hk
    obtain ⟨rfl, _, rfl⟩ := e
    exact .inl ⟨rfl, _, rfl⟩
  · simp only [Value.slice.injEq] at e
    obtain ⟨rfl, -, rfl⟩ := e
    refine .inr ⟨g, c, cs, T, fz, old.take (k * t.n), old.drop (k * t.n) ++ rest, by rw [List.length_take, Nat.min_eq_left hk], h1, h2, h3, h3', ?_, h5, h6.take k⟩
    rw [← List.append_assoc, List.take_append_drop]; exact h4
theorem RdL.setN {us : List Value} {y : t.D} (hy : Rd t D w us y) : ∀ {xs : List t.D} {cs : List Value} (i : Nat), i < xs.length → RdL t D w cs xs → RdL t D w (cs.take (i * t.n) ++ us ++ cs.drop (i * t.n + us.length)) (xs.set i y)
  | [], _, i, hi, _ => by simp at hi
  | x :: xs, _, 0, _, h => by
    obtain ⟨a, b, rfl, h1, h2⟩ := h
    have e1 := h1.len; have e2 := hy.len
    refine ⟨us, b, ?_, hy, h2⟩
    simp only [Nat.zero_mul, List.take_zero, List.nil_append, Nat.zero_add]
    rw [List.drop_append, List.drop_of_length_le (by omega), show us.length - a.length = 0 by omega]; simp
  | x :: xs, _, i + 1, hi, h => by
    obtain ⟨a, b, rfl, h1, h2⟩ := h
    have e1 := h1.len; have e2 := hy.len
    refine ⟨a, _, ?_, h1, RdL.setN hy i (by simpa using hi) h2⟩
    rw [Nat.succ_mul, List.take_append, List.take_of_length_le (by omega), List.drop_append, List.drop_of_length_le (by omega), show i * t.n + t.n - a.length = i * t.n by omega, show i * t.n + t.n + us.length - a.length = i * t.n + us.length by omega]
    simp
/-- s[i] = x, of more cells. -/
theorem Own.setN {g n c i m o : Nat} {xs : List t.D} {us : List Value} {y : t.D} {K : KV} (h : Own t D B w (.slice (some ⟨g, 0, none⟩) n c) xs) (hi : i < xs.length) (hm : m = t.n) (ho : o = i * t.n) (hy : Rd t D w us y)
    (k : ∀ w', Own t D B w' (.slice (some ⟨g, 0, none⟩) n c) (xs.set i y) → Fr (· = g) w w' → K undef w') : pStN m (.pointer (some ⟨g, o, none⟩)) (.agg ⟨us⟩) w K := by
  subst hm; subst ho
  rcases h with ⟨rfl, a, e⟩ | ⟨g', c, cs, T, fz, old, rest, e, h1, h2, h3, h3', h4, h5, h6⟩
  · simp at hi
  · simp at e
    obtain ⟨rfl, rfl, rfl⟩ := e
    have hul := hy.len
    have hol := h6.len
    have hcl : cs.size = old.length + rest.length := by
      have := congrArg List.length h4
      simpa using this
    have hin : i * t.n + t.n ≤ old.length := by
      rw [hol, ← Nat.succ_mul]; exact Nat.mul_le_mul_right _ hi
    have hF := Fr.setCells ⟨g, i * t.n, none⟩ us 0 w
    refine ⟨_, us, rfl, rfl, hul, fun j v hj => ?_, k _ ?_ hF⟩
    · have hjl := (List.getElem?_eq_some_iff.1 hj).1
      have hlt : i * t.n + j < cs.size := by omega
      rw [add_mk]
      refine ⟨⟨_, by rw [cell_mk h3]; exact Array.getElem?_eq_getElem hlt⟩, ?_, hy.allOne v (List.mem_of_getElem? hj)⟩
      simp only [World.frozen?, h3]
      rw [Bool.and_eq_false_iff]
      by_cases hf : fz.1 ≤ i * t.n + j
      · exact .inr (by simpa using fun hh => h3' _ hlt hf hh)
      · exact .inl (by simpa using hf)
    · obtain ⟨cs', g1, g2⟩ := setCells_heap (g := g) (o := i * t.n) us 0 w cs (old.take (i * t.n)) (old.drop (i * t.n) ++ rest) h3 (by rw [← List.append_assoc, List.take_append_drop]; exact h4) (by simp; omega) (by simp; omega)
      have hnew : cs'.toList = (old.take (i * t.n) ++ us ++ old.drop (i * t.n + us.length)) ++ rest := by
        rw [g2, List.drop_append, List.drop_drop]
        rw [show us.length - (old.drop (i * t.n)).length = 0 by simp; omega]
        simp
      have hsz : cs'.size = cs.size := by
        have := congrArg List.length hnew
        simp at this
        omega
      refine .inr ⟨g, c, cs', T, fz, _, rest, by simp, h1, h2, g1, by rw [hsz]; exact h3', hnew, by rw [hsz]; exact h5, ?_⟩
      exact (RdL.setN hy i hi h6).imp (fun _ h => h) (fun b hb hlt => hF.keep b hlt fun e => h2 (by rw [← show b = g from e]; exact hb))
theorem slice_cut {a : Option Addr} {o m l : Nat} : (if m = l then a else a.map (·.add (l * o))) = a ∨ (if m = l then a else a.map (·.add (l * o))) = a.map (·.add (l * o)) := by
  by_cases h : m = l
  · exact .inl (if_pos h)
  · exact .inr (if_neg h)
variable {P : Program} {T e : TypeId}
theorem clear_run {ty : TypeId} {g o n c : Nat} {w : World} (hT : P.underlying T = some (.slice e)) (hz : hasZero P e = true) (hc : canSet w ⟨g, o, none⟩ (rowOf (zeroL P e) (n + 1))) :
    (Builtin.clear_ #[T] ty #[.slice (some ⟨g, o, none⟩) (n + 1) c]).run P w = .ok (.tuple #[]) (setCells w ⟨g, o, none⟩ 0 (rowOf (zeroL P e) (n + 1))) := by
  obtain ⟨z, hz1, hz2, i, hi⟩ := run_zero hz
  have hzc : z.cells = (zeroL P e).toArray := by rw [← hz2]
  simp only [Builtin.clear_, List.getElem?_toArray, List.getElem?_cons_zero, Sem.run_bind, Go.G.run_underlying hT, Result.andThen_ok, hz1, hzc, zeroCells_row, canSet_run hc, Sem.run_pure]
/-- clear(s[k:]) -/
theorem Own.clear {ty : TypeId} {g n c k : Nat} {zero : List Value} {xs : List t.D} {K : KV} (h : Own t D B w (.slice (some ⟨g, 0, none⟩) n c) xs) (hk : k ≤ xs.length) (hT : P.underlying T = some (.slice e)) (hz : hasZero P e = true) (hzz : zeroL P e = zero) (hzn : zero.length = t.n) (hzo : ∀ v ∈ zero, one v = true)
    (kk : ∀ w', Own t D B w' (.slice (some ⟨g, 0, none⟩) k c) (xs.take k) → Fr (· = g) w w' → K (.tuple #[]) w') :
    pRun P (Builtin.clear_ #[T] ty #[.slice (if c = k then some ⟨g, 0, none⟩ else (some (⟨g, 0, none⟩ : Addr)).map (·.add (k * t.n))) (n - k) (c - k)]) w K := by
  have hn : n = xs.length := by
    obtain ⟨a, c', e, _⟩ := h.form
    simpa using (congrArg (fun v => match v with | .slice _ n _ => n | _ => 0) e)
  subst hn
  by_cases c0 : xs.length - k = 0
  · rw [c0]
    refine ⟨.tuple #[], w, ?_, kk w (h.take hk) (Fr.refl _ _)⟩
    have : ∀ a : Option Addr, (Builtin.clear_ #[T] ty #[.slice a 0 (c - k)]).run P w = .ok (.tuple #[]) w := fun a => by
      cases a <;> simp [Builtin.clear_, Go.G.run_underlying hT]
    exact this _
  · obtain ⟨n, hn⟩ : ∃ n, xs.length - k = n + 1 := ⟨xs.length - k - 1, by omega⟩
    have hT' := h.take hk
    obtain ⟨_, _, hf, hcap⟩ := h.form
    simp only [Value.slice.injEq] at hf
    obtain ⟨-, -, rfl⟩ := hf
    rw [if_neg (by omega), hn]
    rcases hT' with ⟨h0, a, e⟩ | ⟨g', c', cs, T', fz, old, rest, e, h1, h2, h3, h3', h4, h5, h6⟩
    · simp at e
      obtain ⟨_, _, rfl⟩ := e
      omega
    simp only [Value.slice.injEq, Option.some.injEq, Addr.mk.injEq, and_true] at e
    obtain ⟨rfl, hkl, rfl⟩ := e
    have hol := h6.len
    rw [← hkl] at hol
    have hcl : cs.size = old.length + rest.length := by
      have := congrArg List.length h4
      simpa using this
    have hrow : (rowOf zero (n + 1)).length = (n + 1) * t.n := by
      have : ∀ m, (rowOf zero m).length = m * t.n := fun m => by
        induction m with
        | zero => simp [rowOf]
        | succ m ih => simp only [rowOf, List.replicate_succ, List.flatten_cons, List.length_append, hzn] at ih ⊢; rw [ih, Nat.succ_mul]; omega
      exact this _
    have hfit : k * t.n + (n + 1) * t.n ≤ cs.size := by
      rw [h5, ← Nat.add_mul]; exact Nat.mul_le_mul_right _ (by omega)
    have hall : ∀ v ∈ rowOf zero (n + 1), one v = true := fun v hv => by
      unfold rowOf at hv
      rw [List.mem_flatten] at hv
      obtain ⟨l, hl, hv⟩ := hv
      rw [List.eq_of_mem_replicate hl] at hv
      exact hzo v hv
    have hadd : ((⟨g, 0, none⟩ : Addr).add (k * t.n)) = ⟨g, k * t.n, none⟩ := by rw [add_mk, Nat.zero_add]
    have hcs : canSet w ⟨g, k * t.n, none⟩ (rowOf (zeroL P e) (n + 1)) := by
      rw [hzz]
      intro j v hj
      have hjl := (List.getElem?_eq_some_iff.1 hj).1
      have hlt : k * t.n + j < cs.size := by omega
      rw [add_mk]
      refine ⟨⟨_, by rw [cell_mk h3]; exact Array.getElem?_eq_getElem hlt⟩, ?_, hall v (List.mem_of_getElem? hj)⟩
      simp only [World.frozen?, h3]
      rw [Bool.and_eq_false_iff]
      by_cases hf : fz.1 ≤ k * t.n + j
      · exact .inr (by simpa using fun hh => h3' _ hlt hf hh)
      · exact .inl (by simpa using hf)
    refine ⟨.tuple #[], setCells w ⟨g, k * t.n, none⟩ 0 (rowOf (zeroL P e) (n + 1)), ?_, kk _ ?_ (Fr.setCells ⟨g, k * t.n, none⟩ (rowOf (zeroL P e) (n + 1)) 0 w)⟩
    · simp only [Option.map_some, hadd]
      exact clear_run hT hz hcs
    · rw [hzz]
      have hF := Fr.setCells ⟨g, k * t.n, none⟩ (rowOf zero (n + 1)) 0 w
      obtain ⟨cs', g1, g2⟩ := setCells_heap (g := g) (o := k * t.n) (rowOf zero (n + 1)) 0 w cs old rest h3 h4 (by omega) (by omega)
      have hsz : cs'.size = cs.size := by
        have := congrArg List.length g2
        simp at this
        omega
      refine .inr ⟨g, c, cs', T', fz, old, rowOf zero (n + 1) ++ rest.drop (rowOf zero (n + 1)).length, by rw [← hkl], h1, h2, g1, by rw [hsz]; exact h3', by rw [g2, List.append_assoc], by rw [hsz]; exact h5, ?_⟩
      exact h6.imp (fun _ h => h) (fun b hb hlt => hF.keep b hlt fun e => h2 (by rw [← show b = g from e]; exact hb))
end Go.G
end
section
set_option linter.unusedSimpArgs false
set_option linter.unusedVariables false
namespace Go.Proofs.YtkpgmaiklfjjgaaGreatDoor
open Go Go.G
variable {X : KX} {w : World} {K : KV} {D D' : Nat → Prop}
theorem idxByte {v : Value} {xs : List UInt8} (h : Rd (.slice .byte) D w [v] xs) {i : Nat} (hi : i < xs.length) : ∃ a c, v = .slice (some a) xs.length c ∧ w.cell? (a.add i) = some (.int .u8 (xs[i].toNat : Int)) := by
  obtain ⟨a, c, u, e, _, _, h1, h2⟩ := h.idx rfl hi
  have : [u] = [Value.int .u8 (xs[i].toNat : Int)] := h2
  simp only [List.cons.injEq, and_true] at this
  exact ⟨a, c, e, by rw [h1, this]⟩
theorem rdI {n : Int} (h0 : -9223372036854775808 ≤ n) (h1 : n ≤ 9223372036854775807) : Rd (.int .i64) D w [.int .i64 n] n := ⟨rfl, h0, h1⟩
theorem u8_ne {a b : UInt8} : ((a.toNat : Int) != (b.toNat : Int)) = decide (a ≠ b) := by
  by_cases h : a = b
  · subst h; simp
  · rw [bne_iff_ne.2 (fun e => h (UInt8.toNat.inj (by omega)))]; simp [h]
theorem Same_c {x y : Value} {xs ys : List UInt8} (hx : Rd (.slice .byte) D w [x] xs) (hy : Rd (.slice .byte) D' w [y] ys) (h : ∀ w', Ext w w' → K (.bool (decide (xs = ys))) w') : GCalls Tryz.prog 30 [x, y] K X w := by
  obtain ⟨a1, c1, rfl, hc1, hl1⟩ := hx.form
  obtain ⟨a2, c2, rfl, hc2, hl2⟩ := hy.form
  apply oublietteref01_Same.calls; unfold oublietteref01_Same.b
  simp only [↓eBinI, ↓eDiv, ↓eShift, ↓eBinS, ↓ePick, ↓eNot, ↓eNeg, ↓eConv, ↓eConvS, ↓eExt0, ↓eExt1, ↓eExt2, ↓eFA, ↓eIA, ↓eLenSl, ↓eCapSl, ↓eLenS, ↓eMin, ↓eMax, ↓eCondT, ↓eCondF, ↓gIf_tt, ↓gIf_ff, ↓gIf_tf, ↓gIf_ft, ↓gIf_u, ↓gIfW_u, ↓gIfW_tt, ↓gIfW_ff, ↓gIfW_tf, ↓gIfW_ft, binI, divI, shiftI, add_mk, Nat.zero_add, cond_true, cond_false, decide_true, decide_false, Bool.not_true, Bool.not_false, Bool.and_true, Bool.true_and, Bool.and_false, Bool.false_and, Int.toNat_natCast, Nat.mul_one]
  by_cases c : xs.length = ys.length
  · have e : (((xs.length : Nat) : Int) != ((ys.length : Nat) : Int)) = false := by rw [bne_eq_false_iff_eq]; omega
    simp only [↓eBinI, ↓eDiv, ↓eShift, ↓eBinS, ↓ePick, ↓eNot, ↓eNeg, ↓eConv, ↓eConvS, ↓eExt0, ↓eExt1, ↓eExt2, ↓eFA, ↓eIA, ↓eLenSl, ↓eCapSl, ↓eLenS, ↓eMin, ↓eMax, ↓eCondT, ↓eCondF, ↓gIf_tt, ↓gIf_ff, ↓gIf_tf, ↓gIf_ft, ↓gIf_u, ↓gIfW_u, ↓gIfW_tt, ↓gIfW_ff, ↓gIfW_tf, ↓gIfW_ft, binI, divI, shiftI, add_mk, Nat.zero_add, cond_true, cond_false, decide_true, decide_false, Bool.not_true, Bool.not_false, Bool.and_true, Bool.true_and, Bool.and_false, Bool.false_and, Int.toNat_natCast, Nat.mul_one, e]
    refine oublietteref01_Same.loop1 (fun x5 w' => ∃ i : Nat, i ≤ xs.length ∧ x5 = .int .i64 i ∧ xs.take i = ys.take i ∧ Ext w w') (fun x5 _ => xs.length - (iv x5).toNat) ⟨0, by omega, rfl, rfl, Fr.refl _ _⟩ ?_
    rintro x5 gg w1 ⟨i, hi, rfl, ht, h1⟩
    unfold oublietteref01_Same.b1
    simp only [↓eBinI, ↓eDiv, ↓eShift, ↓eBinS, ↓ePick, ↓eNot, ↓eNeg, ↓eConv, ↓eConvS, ↓eExt0, ↓eExt1, ↓eExt2, ↓eFA, ↓eIA, ↓eLenSl, ↓eCapSl, ↓eLenS, ↓eMin, ↓eMax, ↓eCondT, ↓eCondF, ↓gIf_tt, ↓gIf_ff, ↓gIf_tf, ↓gIf_ft, ↓gIf_u, ↓gIfW_u, ↓gIfW_tt, ↓gIfW_ff, ↓gIfW_tf, ↓gIfW_ft, binI, divI, shiftI, add_mk, Nat.zero_add, cond_true, cond_false, decide_true, decide_false, Bool.not_true, Bool.not_false, Bool.and_true, Bool.true_and, Bool.and_false, Bool.false_and, Int.toNat_natCast, Nat.mul_one]
    by_cases ci : (i : Int) < (xs.length : Int)
    · simp only [↓eBinI, ↓eDiv, ↓eShift, ↓eBinS, ↓ePick, ↓eNot, ↓eNeg, ↓eConv, ↓eConvS, ↓eExt0, ↓eExt1, ↓eExt2, ↓eFA, ↓eIA, ↓eLenSl, ↓eCapSl, ↓eLenS, ↓eMin, ↓eMax, ↓eCondT, ↓eCondF, ↓gIf_tt, ↓gIf_ff, ↓gIf_tf, ↓gIf_ft, ↓gIf_u, ↓gIfW_u, ↓gIfW_tt, ↓gIfW_ff, ↓gIfW_tf, ↓gIfW_ft, binI, divI, shiftI, add_mk, Nat.zero_add, cond_true, cond_false, decide_true, decide_false, Bool.not_true, Bool.not_false, Bool.and_true, Bool.true_and, Bool.and_false, Bool.false_and, Int.toNat_natCast, Nat.mul_one, ci]
      refine draw_ fun w2 h2 => ?_
      obtain ⟨b1, k1, e1, q1⟩ := idxByte ((hx.ext h1).ext h2) (i := i) (by omega)
      obtain ⟨b2, k2, e2, q2⟩ := idxByte ((hy.ext h1).ext h2) (i := i) (by omega)
      simp only [Value.slice.injEq] at e1 e2
      obtain ⟨rfl, -, rfl⟩ := e1
      obtain ⟨rfl, -, rfl⟩ := e2
      simp only [↓eBinI, ↓eDiv, ↓eShift, ↓eBinS, ↓ePick, ↓eNot, ↓eNeg, ↓eConv, ↓eConvS, ↓eExt0, ↓eExt1, ↓eExt2, ↓eFA, ↓eIA, ↓eLenSl, ↓eCapSl, ↓eLenS, ↓eMin, ↓eMax, ↓eCondT, ↓eCondF, ↓gIf_tt, ↓gIf_ff, ↓gIf_tf, ↓gIf_ft, ↓gIf_u, ↓gIfW_u, ↓gIfW_tt, ↓gIfW_ff, ↓gIfW_tf, ↓gIfW_ft, binI, divI, shiftI, add_mk, Nat.zero_add, cond_true, cond_false, decide_true, decide_false, Bool.not_true, Bool.not_false, Bool.and_true, Bool.true_and, Bool.and_false, Bool.false_and, Int.toNat_natCast, Nat.mul_one, ↓eLdE q1, ↓eLdE q2, u8_ne]
      refine ⟨by omega, by omega, by omega, by omega, ?_⟩
      by_cases cx : xs[i] = ys[i]
      · simp only [↓eBinI, ↓eDiv, ↓eShift, ↓eBinS, ↓ePick, ↓eNot, ↓eNeg, ↓eConv, ↓eConvS, ↓eExt0, ↓eExt1, ↓eExt2, ↓eFA, ↓eIA, ↓eLenSl, ↓eCapSl, ↓eLenS, ↓eMin, ↓eMax, ↓eCondT, ↓eCondF, ↓gIf_tt, ↓gIf_ff, ↓gIf_tf, ↓gIf_ft, ↓gIf_u, ↓gIfW_u, ↓gIfW_tt, ↓gIfW_ff, ↓gIfW_tf, ↓gIfW_ft, binI, divI, shiftI, add_mk, Nat.zero_add, cond_true, cond_false, decide_true, decide_false, Bool.not_true, Bool.not_false, Bool.and_true, Bool.true_and, Bool.and_false, Bool.false_and, Int.toNat_natCast, Nat.mul_one, cx, ne_eq, not_true_eq_false]
        rw [wrap64 (by omega) (by omega)]
        refine oublietteref01_Same.leaf1 ⟨i + 1, by omega, by simp, ?_, h1.tr h2⟩ (by simp only [iv]; omega)
        rw [List.take_succ_eq_append_getElem (by omega), List.take_succ_eq_append_getElem (by omega), ht, cx]
      · simp only [↓eBinI, ↓eDiv, ↓eShift, ↓eBinS, ↓ePick, ↓eNot, ↓eNeg, ↓eConv, ↓eConvS, ↓eExt0, ↓eExt1, ↓eExt2, ↓eFA, ↓eIA, ↓eLenSl, ↓eCapSl, ↓eLenS, ↓eMin, ↓eMax, ↓eCondT, ↓eCondF, ↓gIf_tt, ↓gIf_ff, ↓gIf_tf, ↓gIf_ft, ↓gIf_u, ↓gIfW_u, ↓gIfW_tt, ↓gIfW_ff, ↓gIfW_tf, ↓gIfW_ft, binI, divI, shiftI, add_mk, Nat.zero_add, cond_true, cond_false, decide_true, decide_false, Bool.not_true, Bool.not_false, Bool.and_true, Bool.true_and, Bool.and_false, Bool.false_and, Int.toNat_natCast, Nat.mul_one, cx, ne_eq, not_false_eq_true]
        have hk := h w2 (h1.tr h2)
        rw [decide_eq_false (fun e => cx (by subst e; rfl))] at hk
        exact hk
    · simp only [↓eBinI, ↓eDiv, ↓eShift, ↓eBinS, ↓ePick, ↓eNot, ↓eNeg, ↓eConv, ↓eConvS, ↓eExt0, ↓eExt1, ↓eExt2, ↓eFA, ↓eIA, ↓eLenSl, ↓eCapSl, ↓eLenS, ↓eMin, ↓eMax, ↓eCondT, ↓eCondF, ↓gIf_tt, ↓gIf_ff, ↓gIf_tf, ↓gIf_ft, ↓gIf_u, ↓gIfW_u, ↓gIfW_tt, ↓gIfW_ff, ↓gIfW_tf, ↓gIfW_ft, binI, divI, shiftI, add_mk, Nat.zero_add, cond_true, cond_false, decide_true, decide_false, Bool.not_true, Bool.not_false, Bool.and_true, Bool.true_and, Bool.and_false, Bool.false_and, Int.toNat_natCast, Nat.mul_one, ci]
      have hk := h w1 h1
      have : i = xs.length := by omega
      subst this
      rw [decide_eq_true (by rw [List.take_length] at ht; rw [ht, c, List.take_length])] at hk
      exact hk
  · have e : (((xs.length : Nat) : Int) != ((ys.length : Nat) : Int)) = true := by rw [bne_iff_ne]; omega
    simp only [↓eBinI, ↓eDiv, ↓eShift, ↓eBinS, ↓ePick, ↓eNot, ↓eNeg, ↓eConv, ↓eConvS, ↓eExt0, ↓eExt1, ↓eExt2, ↓eFA, ↓eIA, ↓eLenSl, ↓eCapSl, ↓eLenS, ↓eMin, ↓eMax, ↓eCondT, ↓eCondF, ↓gIf_tt, ↓gIf_ff, ↓gIf_tf, ↓gIf_ft, ↓gIf_u, ↓gIfW_u, ↓gIfW_tt, ↓gIfW_ff, ↓gIfW_tf, ↓gIfW_ft, binI, divI, shiftI, add_mk, Nat.zero_add, cond_true, cond_false, decide_true, decide_false, Bool.not_true, Bool.not_false, Bool.and_true, Bool.true_and, Bool.and_false, Bool.false_and, Int.toNat_natCast, Nat.mul_one, e]
    have hk := h w (Fr.refl _ _)
    rw [decide_eq_false (fun e => c (by rw [e]))] at hk
    exact hk
theorem num_Same_c {x y : Value} {xs ys : List UInt8} (hx : Rd (.slice .byte) D w [x] xs) (hy : Rd (.slice .byte) D' w [y] ys) (hl : xs.length + ys.length ≤ 9223372036854775807) (h : ∀ w', Ext w w' → K (.bool (decide (xs = ys))) w') : GCalls Tryz.prog 47 [x, y] K X w := by
  apply num_Same.calls; unfold num_Same.b
  refine (?_ : GCalls Tryz.prog 66 [x, y] _ X w)
  apply bytes_Equal.calls; unfold bytes_Equal.b
  refine strOf (S := (· = w)) (w := w) (fun w' e => e ▸ hx) rfl ?_
  refine strOf (S := (· = w)) (w := w) (fun w' e => e ▸ hy) rfl ?_
  simp only [↓eBinS, binS, bytes_toList]
  refine ⟨?_, ?_⟩
  · have e1 : (⟨xs.toArray⟩ : ByteArray).size = xs.length := rfl
    have e2 : (⟨ys.toArray⟩ : ByteArray).size = ys.length := rfl
    have hm : IntKind.i64.max = 9223372036854775807 := by decide
    rw [e1, e2, hm]; omega
  · have := h w (Fr.refl _ _)
    by_cases e : xs = ys
    · subst e; simpa using this
    · have e' : (xs == ys) = false := by simpa using e
      rw [e']; rwa [decide_eq_false e] at this

theorem Clone_c {x : Value} {xs : List UInt8} (hx : Rd (.slice .byte) D w [x] xs) (hl : xs.length ≤ 1000000) (h : ∀ v w', Ext w w' → G.Own .byte (fun _ => False) w.heap.size w' v xs → one v = true → K v w') : GCalls Tryz.prog 50 [x] K X w := by
  obtain ⟨a1, c1, rfl, hc1, hl1⟩ := hx.form
  apply slices_Clone_byte_byte.calls; unfold slices_Clone_byte_byte.b
  cases a1 with
  | none =>
    refine ⟨true, rfl, ?_⟩
    rw [show (true != false) = true from rfl]
    simp only [↓eCondT]
    have : xs = [] := by
      obtain ⟨a, c, e, _, _, hne⟩ := hx
      by_cases hx0 : xs = []
      · exact hx0
      · obtain ⟨ad, e2, _⟩ := hne hx0
        simp at e; rw [← e.1] at e2; cases e2
    subst this
    exact h _ w (Fr.refl _ _) G.Own.nil rfl
  | some ad =>
    refine ⟨false, rfl, ?_⟩
    rw [show (false != false) = false from rfl]
    simp only [↓eCondF]
    refine Cs.bslice (cs := []) (by simp [fillL, rowOf]) fun g w1 hg h1 b1 => ?_
    obtain ⟨T, b1⟩ := b1
    have ho : G.Own .byte (fun _ => False) w.heap.size w1 (.slice (some ⟨g, 0, none⟩) 0 0) [] := .inl ⟨rfl, _, rfl⟩
    refine ho.cat h1.size (fun h => h) rfl rfl (hx.ext h1) (fun cs h => h.flat rfl) (by simp; omega) fun v w2 hv hf _ => ?_
    rw [List.nil_append] at hv
    refine h v w2 (h1.tn hf (fun x hx => hx.2)) hv ?_
    obtain ⟨a, c, rfl, _⟩ := hv.form
    rfl

/-- append([]byte(nil), a...), then b. -/
theorem ref01_Join_c {x y : Value} {xs ys : List UInt8} (hx : Rd (.slice .byte) D w [x] xs) (hy : Rd (.slice .byte) D' w [y] ys) (hl : xs.length + ys.length ≤ 1000000)
    (h : ∀ v w', Ext w w' → G.Own .byte (fun _ => False) w.heap.size w' v (xs ++ ys) → K v w') : GCalls Tryz.prog 58 [x, y] K X w := by
  apply oublietteref01_Join.calls; unfold oublietteref01_Join.b
  refine G.Own.cat (t := .byte) (D := fun _ => False) (B := w.heap.size) (xs := []) G.Own.nil (Nat.le_refl _) (fun h => h) rfl rfl hx (fun cs h => h.flat rfl) (by simp; omega) fun v1 w1 ho1 hf1 hb1 => ?_
  have h1 : Ext w w1 := Ext.tn (Fr.refl _ _) hf1 (fun x hx => hx.2)
  rw [List.nil_append] at ho1
  refine ho1.cat h1.size (fun h => h) rfl rfl (hy.ext h1) (fun cs h => h.flat rfl) (by omega) fun v2 w2 ho2 hf2 hb2 => ?_
  exact h _ _ (h1.tn hf2 (fun x hx => hx.2)) ho2
theorem Grow_nil_c {n : Nat} (hn : n ≤ 1000000) (h : ∀ v w', Ext w w' → G.Own .byte (fun _ => False) w.heap.size w' v [] → K v w') : GCalls Tryz.prog 94 [.slice none 0 0, .int .i64 n] K X w := by
  apply slices_Grow_byte_byte.calls; unfold slices_Grow_byte_byte.b
  have c0 : ¬ ((n : Int) < 0) := by omega
  have e0 : IntKind.i64.wrap (((0 : Nat) : Int) - ((0 : Nat) : Int)) = 0 := by decide
  have e1 : IntKind.i64.wrap ((n : Int) - 0) = n := by rw [wrap64 (by omega) (by omega)]; omega
  simp only [↓eBinI, ↓eDiv, ↓eShift, ↓eBinS, ↓ePick, ↓eNot, ↓eNeg, ↓eConv, ↓eConvS, ↓eExt0, ↓eExt1, ↓eExt2, ↓eFA, ↓eIA, ↓eLenSl, ↓eCapSl, ↓eLenS, ↓eMin, ↓eMax, ↓eCondT, ↓eCondF, ↓gIf_tt, ↓gIf_ff, ↓gIf_tf, ↓gIf_ft, ↓gIf_u, ↓gIfW_u, ↓gIfW_tt, ↓gIfW_ff, ↓gIfW_tf, ↓gIfW_ft, binI, divI, shiftI, add_mk, Nat.zero_add, cond_true, cond_false, decide_true, decide_false, Bool.not_true, Bool.not_false, Bool.and_true, Bool.true_and, Bool.and_false, Bool.false_and, Int.toNat_natCast, Nat.mul_one, c0, e0, e1]
  by_cases c1 : (n : Int) > 0
  · simp only [↓eBinI, ↓eDiv, ↓eShift, ↓eBinS, ↓ePick, ↓eNot, ↓eNeg, ↓eConv, ↓eConvS, ↓eExt0, ↓eExt1, ↓eExt2, ↓eFA, ↓eIA, ↓eLenSl, ↓eCapSl, ↓eLenS, ↓eMin, ↓eMax, ↓eCondT, ↓eCondF, ↓gIf_tt, ↓gIf_ff, ↓gIf_tf, ↓gIf_ft, ↓gIf_u, ↓gIfW_u, ↓gIfW_tt, ↓gIfW_ff, ↓gIfW_tf, ↓gIfW_ft, binI, divI, shiftI, add_mk, Nat.zero_add, cond_true, cond_false, decide_true, decide_false, Bool.not_true, Bool.not_false, Bool.and_true, Bool.true_and, Bool.and_false, Bool.false_and, Int.toNat_natCast, Nat.mul_one, c1]
    refine eSl (c := 0) bnd_none (bnd_int (by omega)) bnd_none (by omega) (by simp) (by simp) (by simp) ?_
    refine ⟨none, 0, 0, .i64, n, n, by simp, rfl, by omega, by omega, by omega, by omega, fun h => by omega, fun hlt => ⟨?_, [], ⟨by simp, fun i u hi => by simp at hi⟩, fun cap hc hc' => ?_⟩⟩
    · have := nextslicecap_le hlt; omega
    · have hE : Ext w (w.drew.alloc (.cells ([] ++ rowOf [.int .u8 0] n ++ rowOf [.int .u8 0] (cap - (0 + n))).toArray 5)) := (Ext.drew w).tr (Ext.alloc _ _)
      refine eSl (h := 0) (m := cap) bnd_none (bnd_int (by simp)) bnd_none (by omega) (by omega) (by omega) (by simp) ?_
      rw [if_neg (by omega)]
      refine h _ _ hE (.inr ⟨w.heap.size, cap, _, 5, (0, 0), [], _, ?_, Nat.le_refl _, fun h => h, alloc_new w.drew _, fun o _ _ h => by simp at h, rfl, ?_, rfl⟩)
      · simp [add_zero]
      · simp [rowOf, Ty.n]; omega
  · simp only [↓eBinI, ↓eDiv, ↓eShift, ↓eBinS, ↓ePick, ↓eNot, ↓eNeg, ↓eConv, ↓eConvS, ↓eExt0, ↓eExt1, ↓eExt2, ↓eFA, ↓eIA, ↓eLenSl, ↓eCapSl, ↓eLenS, ↓eMin, ↓eMax, ↓eCondT, ↓eCondF, ↓gIf_tt, ↓gIf_ff, ↓gIf_tf, ↓gIf_ft, ↓gIf_u, ↓gIfW_u, ↓gIfW_tt, ↓gIfW_ff, ↓gIfW_tf, ↓gIfW_ft, binI, divI, shiftI, add_mk, Nat.zero_add, cond_true, cond_false, decide_true, decide_false, Bool.not_true, Bool.not_false, Bool.and_true, Bool.true_and, Bool.and_false, Bool.false_and, Int.toNat_natCast, Nat.mul_one, c1]
    exact h _ w (Fr.refl _ _) G.Own.nil
/-- slices.Concat of bytes. -/
theorem Concat_c {x : Value} {xss : List (List UInt8)} (hx : Rd (.slice (.slice .byte)) D w [x] xss) (hl : xss.length ≤ 1000) (hs : ∀ i (h : i < xss.length), xss[i].length ≤ 1000)
    (h : ∀ v w', Ext w w' → G.Own .byte (fun _ => False) w.heap.size w' v xss.flatten → K v w') : GCalls Tryz.prog 83 [x] K X w := by
  obtain ⟨a1, c1, rfl, hc1, hl1⟩ := hx.form
  have hsum : ∀ i, i ≤ xss.length → (xss.take i).flatten.length ≤ 1000 * i := fun i => by
    induction i with
    | zero => simp
    | succ i ih =>
      intro hi
      rw [List.take_succ_eq_append_getElem (by omega), List.flatten_append, List.length_append]
      have := ih (by omega); have := hs i (by omega)
      rw [List.flatten_cons, List.flatten_nil, List.append_nil]; omega
  apply slices_Concat_byte_byte.calls; unfold slices_Concat_byte_byte.b
  simp only [↓eBinI, ↓eDiv, ↓eShift, ↓eBinS, ↓ePick, ↓eNot, ↓eNeg, ↓eConv, ↓eConvS, ↓eExt0, ↓eExt1, ↓eExt2, ↓eFA, ↓eIA, ↓eLenSl, ↓eCapSl, ↓eLenS, ↓eMin, ↓eMax, ↓eCondT, ↓eCondF, ↓gIf_tt, ↓gIf_ff, ↓gIf_tf, ↓gIf_ft, ↓gIf_u, ↓gIfW_u, ↓gIfW_tt, ↓gIfW_ff, ↓gIfW_tf, ↓gIfW_ft, binI, divI, shiftI, add_mk, Nat.zero_add, cond_true, cond_false, decide_true, decide_false, Bool.not_true, Bool.not_false, Bool.and_true, Bool.true_and, Bool.and_false, Bool.false_and, Int.toNat_natCast, Nat.mul_one]
  refine slices_Concat_byte_byte.loop1 (fun x3 x11 w' => ∃ i : Nat, i ≤ xss.length ∧ x11 = .int .i64 i ∧ x3 = .int .i64 ((xss.take i).flatten.length : Nat) ∧ w' = w) (fun _ x11 _ => xss.length - (iv x11).toNat) ⟨0, by omega, rfl, rfl, rfl⟩ ?_
  rintro x3 x11 gg w1 ⟨i, hi, rfl, rfl, rfl⟩
  have hsi := hsum i hi
  unfold slices_Concat_byte_byte.b1
  by_cases ci : (i : Int) < (xss.length : Int)
  · obtain ⟨b1, k1, u, e1, _, _, q1, r1⟩ := hx.idx rfl (i := i) (by omega)
    simp only [Value.slice.injEq] at e1
    obtain ⟨rfl, -, rfl⟩ := e1
    obtain ⟨a2, c2, rfl, hc2, hl2⟩ := r1.form
    have hlen := hs i (by omega)
    have c0 : ¬ (IntKind.i64.wrap ((((xss.take i).flatten.length : Nat) : Int) + (xss[i].length : Int)) < 0) := by
      rw [wrap64 (by omega) (by omega)]; omega
    simp only [↓eBinI, ↓eDiv, ↓eShift, ↓eBinS, ↓ePick, ↓eNot, ↓eNeg, ↓eConv, ↓eConvS, ↓eExt0, ↓eExt1, ↓eExt2, ↓eFA, ↓eIA, ↓eLenSl, ↓eCapSl, ↓eLenS, ↓eMin, ↓eMax, ↓eCondT, ↓eCondF, ↓gIf_tt, ↓gIf_ff, ↓gIf_tf, ↓gIf_ft, ↓gIf_u, ↓gIfW_u, ↓gIfW_tt, ↓gIfW_ff, ↓gIfW_tf, ↓gIfW_ft, binI, divI, shiftI, add_mk, Nat.zero_add, cond_true, cond_false, decide_true, decide_false, Bool.not_true, Bool.not_false, Bool.and_true, Bool.true_and, Bool.and_false, Bool.false_and, Int.toNat_natCast, Nat.mul_one, ci, ↓eLdW, q1, Option.some.injEq, exists_eq_left', c0]
    refine ⟨by omega, trivial, ?_⟩
    rw [wrap64 (by omega) (by omega), wrap64 (by omega) (by omega)]
    refine slices_Concat_byte_byte.leaf1 ⟨i + 1, by omega, by simp, ?_, rfl⟩ (by simp only [iv]; omega)
    rw [List.take_succ_eq_append_getElem (by omega), List.flatten_append, List.length_append]; simp
  · simp only [↓eBinI, ↓eDiv, ↓eShift, ↓eBinS, ↓ePick, ↓eNot, ↓eNeg, ↓eConv, ↓eConvS, ↓eExt0, ↓eExt1, ↓eExt2, ↓eFA, ↓eIA, ↓eLenSl, ↓eCapSl, ↓eLenS, ↓eMin, ↓eMax, ↓eCondT, ↓eCondF, ↓gIf_tt, ↓gIf_ff, ↓gIf_tf, ↓gIf_ft, ↓gIf_u, ↓gIfW_u, ↓gIfW_tt, ↓gIfW_ff, ↓gIfW_tf, ↓gIfW_ft, binI, divI, shiftI, add_mk, Nat.zero_add, cond_true, cond_false, decide_true, decide_false, Bool.not_true, Bool.not_false, Bool.and_true, Bool.true_and, Bool.and_false, Bool.false_and, Int.toNat_natCast, Nat.mul_one, ci]
    have : i = xss.length := by omega
    subst this
    refine Grow_nil_c (by omega) fun v w2 h2 hv => ?_
    refine slices_Concat_byte_byte.loop2 (fun x6 x27 w' => ∃ i : Nat, i ≤ xss.length ∧ x27 = .int .i64 i ∧ Ext w1 w' ∧ G.Own .byte (fun _ => False) w1.heap.size w' x6 (xss.take i).flatten) (fun _ x27 _ => xss.length - (iv x27).toNat) ⟨0, by omega, rfl, h2, hv⟩ ?_
    rintro x6 x27 gg2 w3 ⟨j, hj, rfl, h3, ho⟩
    unfold slices_Concat_byte_byte.b2
    by_cases cj : (j : Int) < (xss.length : Int)
    · obtain ⟨b1, k1, u, e1, _, _, q1, r1⟩ := (hx.ext h3).idx rfl (i := j) (by omega)
      simp only [Value.slice.injEq] at e1
      obtain ⟨rfl, -, rfl⟩ := e1
      simp only [↓eBinI, ↓eDiv, ↓eShift, ↓eBinS, ↓ePick, ↓eNot, ↓eNeg, ↓eConv, ↓eConvS, ↓eExt0, ↓eExt1, ↓eExt2, ↓eFA, ↓eIA, ↓eLenSl, ↓eCapSl, ↓eLenS, ↓eMin, ↓eMax, ↓eCondT, ↓eCondF, ↓gIf_tt, ↓gIf_ff, ↓gIf_tf, ↓gIf_ft, ↓gIf_u, ↓gIfW_u, ↓gIfW_tt, ↓gIfW_ff, ↓gIfW_tf, ↓gIfW_ft, binI, divI, shiftI, add_mk, Nat.zero_add, cond_true, cond_false, decide_true, decide_false, Bool.not_true, Bool.not_false, Bool.and_true, Bool.true_and, Bool.and_false, Bool.false_and, Int.toNat_natCast, Nat.mul_one, cj, ↓eLdW, q1, Option.some.injEq, exists_eq_left']
      refine ⟨by omega, trivial, ?_⟩
      have hsj := hsum j hj
      have hlen := hs j (by omega)
      refine ho.cat h3.size (fun h => h) rfl rfl r1 (fun cs h => h.flat rfl) (by omega) fun v' w4 ho' hf' _ => ?_
      rw [wrap64 (by omega) (by omega)]
      refine slices_Concat_byte_byte.leaf2 ⟨j + 1, by omega, by simp, h3.tn hf' (fun x hx => hx.2), ?_⟩ (by simp only [iv]; omega)
      rw [List.take_succ_eq_append_getElem (by omega), List.flatten_append]; simpa using ho'
    · simp only [↓eBinI, ↓eDiv, ↓eShift, ↓eBinS, ↓ePick, ↓eNot, ↓eNeg, ↓eConv, ↓eConvS, ↓eExt0, ↓eExt1, ↓eExt2, ↓eFA, ↓eIA, ↓eLenSl, ↓eCapSl, ↓eLenS, ↓eMin, ↓eMax, ↓eCondT, ↓eCondF, ↓gIf_tt, ↓gIf_ff, ↓gIf_tf, ↓gIf_ft, ↓gIf_u, ↓gIfW_u, ↓gIfW_tt, ↓gIfW_ff, ↓gIfW_tf, ↓gIfW_ft, binI, divI, shiftI, add_mk, Nat.zero_add, cond_true, cond_false, decide_true, decide_false, Bool.not_true, Bool.not_false, Bool.and_true, Bool.true_and, Bool.and_false, Bool.false_and, Int.toNat_natCast, Nat.mul_one, cj]
      have : j = xss.length := by omega
      subst this
      rw [List.take_length] at ho
      exact h _ w3 h3 ho
theorem cutTo {x : Option Addr} {n c k : Nat} {xs : List UInt8} (hx : Rd (.slice .byte) D w [.slice x n c] xs) (hk : k ≤ n) (hc : n ≤ c) :
    Rd (.slice .byte) D w [.slice (if c = 0 then x else x.map (·.add (0 * 1))) (k - 0) (c - 0)] (xs.take k) := by
  have := hx.cut (l := 0) (e := k) (m := c) (by omega) hk (by omega) (Nat.le_refl _)
  simpa using this
theorem cutFrom {x : Option Addr} {n c k : Nat} {xs : List UInt8} (hx : Rd (.slice .byte) D w [.slice x n c] xs) (hk : k ≤ n) (hn : xs.length = n) (hc : n ≤ c) :
    Rd (.slice .byte) D w [.slice (if c = k then x else x.map (·.add (k * 1))) (n - k) (c - k)] (xs.drop k) := by
  have := hx.cut (l := k) (e := n) (m := c) hk (Nat.le_refl _) hc (Nat.le_refl _)
  rw [List.take_of_length_le (by omega)] at this
  exact this

theorem bslice0 {E : Nat} {z : List Value} {w : World} {K : KV} (h : ∀ g w', w.heap.size = g → Ext w w' → g < w'.heap.size → K (.slice (some ⟨g, 0, none⟩) 0 0) w') : pBSlice E 0 (rowOf z 0) [] w K :=
  ⟨[], by simp [rowOf, fillL], h _ _ rfl (Ext.alloc w _) (by rw [size_alloc]; exact Nat.lt_succ_self _)⟩

end Go.Proofs.YtkpgmaiklfjjgaaGreatDoor
end
section
set_option linter.unusedSimpArgs false
set_option linter.unusedVariables false
namespace Go.G
open Go
variable {w : World} {g : Nat} {l : List Value} {D : Nat → Prop}
def bv (l : List UInt8) : List Value := l.map fun b => .int .u8 (b.toNat : Int)
theorem bv_len (l : List UInt8) : (bv l).length = l.length := by simp [bv]
theorem bv_get {l : List UInt8} {i : Nat} (h : i < l.length) : (bv l)[i]? = some (.int .u8 (l[i].toNat : Int)) := by simp [bv, h]
theorem bv_one (l : List UInt8) : ∀ v ∈ bv l, one v = true := fun v hv => by
  obtain ⟨x, _, rfl⟩ := List.mem_map.1 hv; rfl
theorem bv_rows (D : Nat → Prop) (w : World) : ∀ l : List UInt8, RdL .byte D w (bv l) l
  | [] => rfl
  | x :: r => ⟨[.int .u8 (x.toNat : Int)], bv r, rfl, rfl, bv_rows D w r⟩
theorem rows_bv {D : Nat → Prop} {w : World} : ∀ {l : List UInt8} {cs : List Value}, RdL .byte D w cs l → cs = bv l
  | [], _, h => h
  | x :: r, _, ⟨a, b, h1, h2, h3⟩ => by
    have e1 : a = [.int .u8 (x.toNat : Int)] := h2
    rw [h1, e1, rows_bv h3]; rfl
theorem bv_zero (n : Nat) : rowOf [Value.int .u8 0] n = bv (List.replicate n 0) := by
  induction n with
  | zero => rfl
  | succ n ih =>
    have : rowOf [Value.int .u8 0] (n + 1) = Value.int .u8 0 :: rowOf [Value.int .u8 0] n := by simp [rowOf, List.replicate_succ]
    rw [this, ih]; rfl
/-- What is read of bytes. -/
theorem reads_bv {v : Value} {ys : List UInt8} {k : Nat} (h : Rd (.slice .byte) D w [v] ys) (hk : k ≤ ys.length) : reads w 1 k v (bv (ys.take k)) := by
  obtain ⟨a, c, e, hc, hl⟩ := h.form
  subst e
  refine ⟨by rw [bv_len, List.length_take, Nat.min_eq_left hk, Nat.mul_one], fun i u hi => ?_⟩
  have hlt : i < k := by
    have := (List.getElem?_eq_some_iff.1 hi).1
    rw [bv_len, List.length_take] at this; omega
  obtain ⟨ad, c', u', e', _, _, h5, h6⟩ := h.idx rfl (i := i) (by omega)
  simp only [Value.slice.injEq] at e'
  have hu : [u'] = [Value.int .u8 (ys[i].toNat : Int)] := h6
  simp only [List.cons.injEq, and_true] at hu
  rw [bv_get (by rw [List.length_take]; omega)] at hi
  refine ⟨ad, e'.1, ?_⟩
  rw [h5, hu, ← hi]; simp
/-- What is read of a block's cells. -/
theorem Cs.reads {n c k o : Nat} (h : Cs w g l) (hk : o + k ≤ l.length) : reads w 1 k (.slice (some ⟨g, o, none⟩) n c) ((l.drop o).take k) := by
  refine ⟨by rw [List.length_take, List.length_drop]; omega, fun i u hi => ⟨_, rfl, ?_⟩⟩
  rw [add_mk, h.c, ← hi]
  have hlt : i < k := by
    have := (List.getElem?_eq_some_iff.1 hi).1
    rw [List.length_take] at this; omega
  rw [List.getElem?_take, if_pos hlt, List.getElem?_drop]
/-- copy(b[o:], x) -/
theorem Cs.copy {o n c k : Nat} {xs : List Value} {x : Value} {K : KV} (h : Cs w g l) (hk : min (lenV x) n = k) (hr : Go.G.reads w 1 k x xs) (hx : xs.length = k) (hl : o + k ≤ l.length) (ho : ∀ v ∈ xs, one v = true)
    (K_ : ∀ w', Cs w' g (l.take o ++ xs ++ l.drop (o + k)) → Fr (· = g) w w' → K (.int .i64 k) w') : pCopy 1 (.slice (some ⟨g, o, none⟩) n c) x w K := by
  have hc := h.c
  obtain ⟨T, h⟩ := h
  subst hk
  refine ⟨_, n, c, xs, rfl, hr, fun j v hj => ?_, K_ _ ?_ (Fr.setCells ⟨g, o, none⟩ xs 0 w)⟩
  · have hjl := (List.getElem?_eq_some_iff.1 hj).1
    rw [add_mk]
    exact ⟨⟨_, by rw [hc]; exact List.getElem?_eq_getElem (by omega)⟩, by simp [World.frozen?, h], ho v (List.mem_of_getElem? hj)⟩
  · obtain ⟨cs', g1, g2⟩ := setCells_heap (g := g) (o := o) xs 0 w ⟨l⟩ (l.take o) (l.drop o) h (by simp) (by rw [List.length_take]; omega) (by rw [List.length_drop]; omega)
    refine ⟨T, ?_⟩
    rw [g1]
    have : cs' = ⟨l.take o ++ xs ++ l.drop (o + min (lenV x) n)⟩ := by
      apply Array.ext'
      rw [g2, List.drop_drop, hx]
    rw [this]
/-- A block of bytes that the call owns. -/
theorem Cs.own {B n c : Nat} {xs : List UInt8} {rest : List Value} (h : Cs w g (bv xs ++ rest)) (hB : B ≤ g) (hD : ¬ D g) (hn : xs.length = n) (hc : n + rest.length = c) : Own .byte D B w (.slice (some ⟨g, 0, none⟩) n c) xs := by
  obtain ⟨T, h⟩ := h
  subst hn
  refine .inr ⟨g, c, _, T, (0, 0), bv xs, rest, rfl, hB, hD, h, fun o _ _ h => by simp at h, rfl, ?_, bv_rows D w xs⟩
  show (bv xs ++ rest).length = c * 1
  rw [List.length_append, bv_len]; omega
/-- make([]byte, n), as a block. -/
theorem makeB {E n : Nat} {K : KV} (hn : n ≤ 1000000) (k : ∀ g w', w.heap.size = g → Ext w w' → Cs w' g (bv (List.replicate n 0)) → K (.slice (some ⟨g, 0, none⟩) n n) w') : pMake E 1 [.int .u8 0] (.int .i64 n) (.int .i64 n) w K := by
  refine ⟨.i64, .i64, n, n, rfl, rfl, by omega, Int.le_refl _, by omega, by omega, ?_⟩
  refine k _ _ rfl (Ext.alloc w _) ⟨E, ?_⟩
  rw [alloc_new, Int.toNat_natCast, bv_zero]
theorem u8_of (m : Nat) : (m : Int) % 256 = ((UInt8.ofNat m).toNat : Int) := by
  rw [UInt8.toNat_ofNat']; omega
theorem set_mid {l1 l2 : List UInt8} {x y : UInt8} {i : Nat} (h : l1.length = i) : (l1 ++ x :: l2).set i y = l1 ++ y :: l2 := by
  subst h; simp
end Go.G
end
