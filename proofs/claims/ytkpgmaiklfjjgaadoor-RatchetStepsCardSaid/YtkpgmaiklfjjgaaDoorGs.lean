/-
  Words of 32 bits: what the operations make of them; cells of a block, read and written at a place.
-/
import Derived.Test.YtkpgmaiklfjjgaaDoorGn
set_option linter.unusedSimpArgs false
set_option linter.unusedVariables false
namespace Go.G
open Go
abbrev W32 := BitVec 32
def u (x : W32) : Value := .int .u32 (x.toNat : Int)
variable {K : KP} {x y : W32}
theorem u_lt (x : W32) : (x.toNat : Int) < 4294967296 := by have := x.isLt; omega
theorem wrap32 {n : Int} : IntKind.u32.wrap n = ((BitVec.ofInt 32 n).toNat : Int) := by
  have h := BitVec.toNat_ofInt (n := 32) n
  simp only [IntKind.wrap, IntKind.signed, IntKind.bits]
  have h2 : (n % 2 ^ 32) = n % 4294967296 := rfl
  have h3 : 0 ≤ n % 4294967296 := Int.emod_nonneg _ (by omega)
  rw [h]
  simp only [show ((2 ^ 32 : Nat) : Int) = 4294967296 from rfl]
  first
    | (rw [Int.toNat_of_nonneg h3]; simp; done)
    | (simp; omega)
theorem ofInt_toNat (x : W32) : BitVec.ofInt 32 (x.toNat : Int) = x := by
  apply BitVec.eq_of_toNat_eq
  rw [BitVec.toNat_ofInt]
  have := x.isLt
  simp only [show ((2 ^ 32 : Nat) : Int) = 4294967296 from rfl]
  omega
theorem wrapU (x : W32) : IntKind.u32.wrap (x.toNat : Int) = (x.toNat : Int) := by rw [wrap32, ofInt_toNat]
theorem eUadd : pBinI .add .u32 (u x) (u y) K = K (u (x + y)) := by
  have e : binI .add .u32 (x.toNat : Int) (y.toNat : Int) = u (x + y) := by
    show Value.int .u32 (IntKind.u32.wrap ((x.toNat : Int) + (y.toNat : Int))) = u (x + y)
    rw [wrap32]
    have : BitVec.ofInt 32 ((x.toNat : Int) + (y.toNat : Int)) = x + y := by rw [BitVec.ofInt_add, ofInt_toNat, ofInt_toNat]
    rw [this]; rfl
  unfold u at e ⊢; rw [eBinI, e]
theorem eUxor : pBinI .xor .u32 (u x) (u y) K = K (u (x ^^^ y)) := by
  have e : binI .xor .u32 (x.toNat : Int) (y.toNat : Int) = u (x ^^^ y) := by
    show Value.int .u32 (IntKind.u32.wrap (((BitVec.ofInt 32 (x.toNat : Int) ^^^ BitVec.ofInt 32 (y.toNat : Int)).toNat : Nat) : Int)) = u (x ^^^ y)
    rw [ofInt_toNat, ofInt_toNat, wrapU]; rfl
  unfold u at e ⊢; rw [eBinI, e]
theorem eUand : pBinI .and .u32 (u x) (u y) K = K (u (x &&& y)) := by
  have e : binI .and .u32 (x.toNat : Int) (y.toNat : Int) = u (x &&& y) := by
    show Value.int .u32 (IntKind.u32.wrap (((BitVec.ofInt 32 (x.toNat : Int) &&& BitVec.ofInt 32 (y.toNat : Int)).toNat : Nat) : Int)) = u (x &&& y)
    rw [ofInt_toNat, ofInt_toNat, wrapU]; rfl
  unfold u at e ⊢; rw [eBinI, e]
theorem eUor : pBinI .or .u32 (u x) (u y) K = K (u (x ||| y)) := by
  have e : binI .or .u32 (x.toNat : Int) (y.toNat : Int) = u (x ||| y) := by
    show Value.int .u32 (IntKind.u32.wrap (((BitVec.ofInt 32 (x.toNat : Int) ||| BitVec.ofInt 32 (y.toNat : Int)).toNat : Nat) : Int)) = u (x ||| y)
    rw [ofInt_toNat, ofInt_toNat, wrapU]; rfl
  unfold u at e ⊢; rw [eBinI, e]
theorem inv_u (x : W32) : Value.int .u32 (IntKind.u32.wrap (((BitVec.ofInt 32 (4294967295 : Int) ^^^ BitVec.ofInt 32 (x.toNat : Int)).toNat : Nat) : Int)) = u (~~~ x) := by
  have e : BitVec.ofInt 32 (4294967295 : Int) = BitVec.allOnes 32 := by decide
  rw [e, ofInt_toNat, BitVec.allOnes_xor, wrapU]; rfl
theorem eUinv : pInv .u32 (u x) K = K (u (~~~ x)) := by
  have e := inv_u x
  apply propext; constructor
  · rintro ⟨a, h1, h⟩
    have : a = (x.toNat : Int) := by
      unfold u at h1
      simp only [Value.int.injEq, true_and] at h1
      exact h1.symm
    subst this
    rw [← e]; exact h
  · intro h
    rw [← e] at h
    exact ⟨_, rfl, h⟩
theorem eUshr {k : IntKind} {n : Nat} (hn : n < 32) : pShift .shr .u32 (u x) (.int k n) K = K (u (x >>> n)) := by
  unfold u; rw [eShift]
  have : shiftI .shr .u32 (x.toNat : Int) (n : Int) = .int .u32 ((x >>> n).toNat : Int) := by
    show Value.int .u32 ((x.toNat : Int).fdiv (2 ^ (min (n : Int).toNat 32))) = _
    rw [Int.toNat_natCast, Nat.min_eq_left (Nat.le_of_lt hn)]
    congr 1
    rw [BitVec.toNat_ushiftRight, Nat.shiftRight_eq_div_pow, Int.fdiv_eq_ediv_of_nonneg _ (by exact Int.le_of_lt (Int.pow_pos (by omega)))]
    rw [Int.natCast_ediv, Int.natCast_pow]; rfl
  rw [this]
  apply propext; exact ⟨fun h => h.2, fun h => ⟨by omega, h⟩⟩
theorem eUshl {k : IntKind} {n : Nat} (hn : n < 32) : pShift .shl .u32 (u x) (.int k n) K = K (u (x <<< n)) := by
  unfold u; rw [eShift]
  have : shiftI .shl .u32 (x.toNat : Int) (n : Int) = .int .u32 ((x <<< n).toNat : Int) := by
    show Value.int .u32 (IntKind.u32.wrap ((x.toNat : Int) * 2 ^ (min (n : Int).toNat 32))) = _
    rw [Int.toNat_natCast, Nat.min_eq_left (Nat.le_of_lt hn), wrap32]
    have e2 : (x.toNat : Int) * 2 ^ n = ((x.toNat * 2 ^ n : Nat) : Int) := by rw [Int.natCast_mul, Int.natCast_pow]; rfl
    rw [e2]
    have e3 : BitVec.ofInt 32 ((x.toNat * 2 ^ n : Nat) : Int) = x <<< n := by
     apply BitVec.eq_of_toNat_eq
     rw [BitVec.toNat_ofInt, BitVec.toNat_shiftLeft, Nat.shiftLeft_eq]
     simp only [show ((2 ^ 32 : Nat) : Int) = 4294967296 from rfl, show (2 ^ 32 : Nat) = 4294967296 from rfl]
     omega
    rw [e3]
  rw [this]
  apply propext; exact ⟨fun h => h.2, fun h => ⟨by omega, h⟩⟩
theorem eUconv {n : Int} : pConv .u32 (.int .u64 n) K = K (u (BitVec.ofInt 32 n)) := by
  rw [eConv, wrap32]; rfl
theorem wrapU64 {n : Int} (h0 : 0 ≤ n) (h1 : n < 18446744073709551616) : IntKind.u64.wrap n = n := by
  simp only [IntKind.wrap, IntKind.signed, IntKind.bits]
  first | omega | (simp; omega)
theorem wrapU8 {n : Int} : IntKind.u8.wrap n = n % 256 := by
  simp only [IntKind.wrap, IntKind.signed, IntKind.bits]
  first | omega | (simp; done) | (simp; omega)
theorem eU64 : pConv .u64 (u x) K = K (.int .u64 (x.toNat : Int)) := by
  unfold u; rw [eConv]
  have := x.isLt
  rw [wrapU64 (by omega) (by omega)]
theorem one_u (x : W32) : one (u x) = true := rfl
def us (l : List W32) : List Value := l.map u
theorem us_len (l : List W32) : (us l).length = l.length := by simp [us]
theorem us_get {l : List W32} {i : Nat} (h : i < l.length) : (us l)[i]? = some (u l[i]) := by simp [us, h]
theorem us_one (l : List W32) : ∀ v ∈ us l, one v = true := fun v hv => by
  obtain ⟨x, _, rfl⟩ := List.mem_map.1 hv; rfl
theorem us_set (l : List W32) (i : Nat) (x : W32) : (us l).set i (u x) = us (l.set i x) := by simp [us, List.map_set]
theorem us_rep (n : Nat) : List.replicate n (Value.int .u32 0) = us (List.replicate n 0) := by
  unfold us; rw [List.map_replicate]; rfl
/-- An element's address in an array. -/
theorem eIAr {size len b o : Nat} {k : IntKind} {j : Int} {K : KP} : pIAr len size (.pointer (some ⟨b, o, none⟩)) (.int k j) K = (0 ≤ j ∧ j < (len : Int) ∧ K (.pointer (some ⟨b, o + j.toNat * size, none⟩))) := by
  apply propext; constructor
  · rintro ⟨a', k', j', h1, h2, h⟩
    cases h1; cases h2
    rw [add_mk] at h; exact h
  · intro h
    refine ⟨_, k, j, rfl, rfl, h.1, h.2.1, ?_⟩
    rw [add_mk]; exact h.2.2
variable {w : World} {g : Nat} {l : List W32}
theorem Cs.uE {i : Nat} (h : Cs w g (us l)) (hi : i < l.length) {K : KP} : pLd (Ext w) (.pointer (some ⟨g, i, none⟩)) K = K (u l[i]) := eLdE (by rw [h.c]; exact us_get hi)
theorem Cs.uW {i : Nat} (h : Cs w g (us l)) (hi : i < l.length) {K : KP} : pLd (· = w) (.pointer (some ⟨g, i, none⟩)) K = K (u l[i]) := by
  rw [eLdW, h.c, us_get hi]; simp
theorem Cs.uT {T : Nat → Prop} {i : Nat} (h : Cs w g (us l)) (hT : ¬ T g) (hi : i < l.length) {K : KP} : pLd (Fr T w) (.pointer (some ⟨g, i, none⟩)) K = K (u l[i]) := eLdT hT (by rw [h.c]; exact us_get hi)
theorem Cs.uSet {i : Nat} {x : W32} {K : KV} (h : Cs w g (us l)) (hi : i < l.length) (k : ∀ w', Cs w' g (us (l.set i x)) → Fr (· = g) w w' → K undef w') : pSt (.pointer (some ⟨g, i, none⟩)) (u x) w K := by
  refine h.set (by rw [us_len]; exact hi) rfl fun w' h1 h2 => k w' ?_ h2
  rw [us_set] at h1; exact h1
theorem Cs.uSetN {n : Nat} {l' : List W32} {K : KV} (h : Cs w g (us l)) (hl : l'.length = l.length) (hn : l.length = n) (k : ∀ w', Cs w' g (us l') → Fr (· = g) w w' → K undef w') : pStN n (.pointer (some ⟨g, 0, none⟩)) (.agg ⟨us l'⟩) w K :=
  h.setN (by simp [us_len, hl]) (by simp [us_len, hl, hn]) (us_one _) k
end Go.G
