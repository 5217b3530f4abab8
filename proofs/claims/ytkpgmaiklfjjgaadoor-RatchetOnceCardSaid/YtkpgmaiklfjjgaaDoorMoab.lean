/-
  'sem' is sound: what it asks is enough for the walk's own 'Code.wp'.
  What only computes: its run.
-/
import Derived.Test.YtkpgmaiklfjjgaaDoorMoaa
section
set_option linter.unusedSimpArgs false
set_option linter.unusedVariables false
namespace Go.G
open Go

/-! ### 1. Slots -/
theorem nth_eq (e : List Value) : ∀ t, e.toArray.getD t undef = nth e t := by
  intro t
  simp only [Array.getD_eq_getD_getElem?, List.getElem?_toArray]
  induction e generalizing t with
  | nil => simp [nth]
  | cons v l ih => cases t with
    | zero => simp [nth]
    | succ t => simpa [nth] using ih t
theorem upd_eq (e : List Value) : ∀ d v, e.set d v = upd e d v := by
  induction e with
  | nil => intro d v; simp [upd]
  | cons a l ih => intro d v; cases d <;> simp [upd, ih]
theorem eval_eq (e : List Value) (ds : List Deferred) : Act.eval ⟨e.toArray, ds⟩ = evl e := by
  funext x
  cases x <;> simp only [Act.eval, evl]
  exact nth_eq e _
theorem put_eq (e : List Value) (ds : List Deferred) (dst : Option Tmp) (v : Value) : Act.put ⟨e.toArray, ds⟩ dst v = ⟨(put e dst v).toArray, ds⟩ := by
  cases dst with
  | none => rfl
  | some d => simp [Act.put, put, ← upd_eq]
theorem nth_bool {e : List Value} {d : Nat} {b : Bool} (h : nth e d = .bool b) : e[d]? = some (.bool b) := by
  rw [← nth_eq] at h
  simp only [Array.getD_eq_getD_getElem?, List.getElem?_toArray] at h
  cases hx : e[d]? with
  | none => rw [hx] at h; simp [undef] at h
  | some v => rw [hx] at h; simpa using h
theorem gval_bool {ops : Array Oper} {j : Nat} {e : List Value} {b : Bool} (h : gval ops j e = .bool b) : yielded ops e.toArray j = some b := by
  unfold gval dstOf at h
  unfold yielded
  cases ho : ops[j]? with
  | none => simp [ho, undef] at h
  | some o =>
    simp only [ho] at h ⊢
    cases hd : o.dst with
    | none => simp [hd, undef] at h
    | some d =>
      simp only [hd] at h
      simp [hd, nth_bool h]

theorem gval_undef {ops : Array Oper} {j : Nat} {e : List Value} (h : gval ops j e = undef) : yielded ops e.toArray j = none := by
  unfold gval dstOf at h
  unfold yielded
  cases ho : ops[j]? with
  | none => rfl
  | some o =>
    simp only [ho] at h ⊢
    cases hd : o.dst with
    | none => simp [hd]
    | some d =>
      simp only [hd] at h
      rw [← nth_eq] at h
      simp only [Array.getD_eq_getD_getElem?, List.getElem?_toArray] at h
      cases hx : e[d]? with
      | none => simp [hd, hx]
      | some v => rw [hx] at h; simp at h; subst h; simp [hd, hx, undef]
/-! ### 2. Tables -/
theorem run_underlying {P : Program} {T : TypeId} {d : TypeDesc} (h : P.underlying T = some d) (w : World) : (underlying T).run P w = .ok d w := by
  simp [underlying, h, Sem.run, program]
theorem info_some {P : Program} {T : TypeId} {d : TypeDesc} (h : P.underlying T = some d) : ∃ i, P.info? T = some i := by
  unfold Program.underlying at h
  cases hi : P.info? T with
  | none => rw [hi] at h; cases h
  | some i => exact ⟨i, rfl⟩
theorem run_typeInfo {P : Program} {T : TypeId} {i : TypeInfo} (h : P.info? T = some i) (w : World) : (typeInfo T).run P w = .ok i w := by
  simp [typeInfo, h, Sem.run, program]
theorem cellsOf_eq {P : Program} {T : TypeId} {i : TypeInfo} (h : P.info? T = some i) : P.cellsOf T = i.size := by simp [Program.cellsOf, h]
theorem bytesOf_eq {P : Program} {T : TypeId} {i : TypeInfo} (h : P.info? T = some i) : P.bytesOf T = i.bytes := by simp [Program.bytesOf, h]
theorem run_sizeOf {P : Program} {T : TypeId} {i : TypeInfo} (h : P.info? T = some i) (w : World) : (sizeOf T).run P w = .ok (P.cellsOf T) w := by
  simp [sizeOf, run_typeInfo h, cellsOf_eq h]
theorem info_of_cells {P : Program} {T : TypeId} {n : Nat} (h : P.cellsOf T = n + 1) : ∃ i, P.info? T = some i := by
  unfold Program.cellsOf at h
  cases hi : P.info? T with
  | none => simp [hi] at h
  | some i => exact ⟨i, rfl⟩
theorem run_zero {P : Program} {T : TypeId} (h : hasZero P T = true) : ∃ z, (∀ w, (zeroValue T).run P w = .ok z w) ∧ z.cells.toList = zeroL P T ∧ ∃ i, P.info? T = some i := by
  unfold hasZero at h
  unfold zeroL
  cases hi : P.info? T with
  | none => simp [hi] at h
  | some i =>
    simp only [hi, Option.bind_some] at h ⊢
    cases hz : i.zero with
    | none => simp [hz] at h
    | some z => exact ⟨z, fun w => by simp [zeroValue, run_typeInfo hi, hz], by simp, i, rfl⟩
theorem run_isAgg {P : Program} {T : TypeId} {d : TypeDesc} (h : P.underlying T = some d) (w : World) :
    (isAgg T).run P w = .ok (match d with | .struct _ | .array _ _ => true | _ => false) w := by
  simp only [isAgg, Sem.run_bind, run_underlying h, Result.andThen_ok]
  cases d <;> rfl
theorem tk_agg {P : Program} {T : TypeId} {n : Nat} (h : tkOf P T = .agg n) : (∀ w, (isAgg T).run P w = .ok true w) ∧ n = P.cellsOf T ∧ ∃ i, P.info? T = some i := by
  unfold tkOf at h
  split at h
  · rename_i hu; cases h; exact ⟨fun w => run_isAgg hu w, rfl, info_some hu⟩
  · rename_i hu; cases h; exact ⟨fun w => run_isAgg hu w, rfl, info_some hu⟩
  · split at h <;> cases h
  · cases h
theorem tk_cell {P : Program} {T : TypeId} (h : tkOf P T = .cell) : (∀ w, (isAgg T).run P w = .ok false w) ∧ P.cellsOf T = 1 ∧ ∃ i, P.info? T = some i := by
  unfold tkOf at h
  split at h
  · cases h
  · cases h
  · rename_i d h1 h2 hu
    split at h
    · rename_i h3
      refine ⟨fun w => ?_, h3, info_some hu⟩
      rw [run_isAgg hu]
      cases d <;> simp_all
    · cases h
  · cases h

/-! ### 3. What is filled -/
theorem foldl_cells (c : List Value) : ∀ (cs : List Value) (off k : Nat), off + k + c.length ≤ cs.length →
    (c.zipIdx k).foldl (fun (cs : Array Value) (p : Value × Nat) => cs.setIfInBounds (off + p.2) p.1) cs.toArray = (cs.take (off + k) ++ c ++ cs.drop (off + k + c.length)).toArray := by
  induction c with
  | nil => intro cs off k h; simp
  | cons v r ih =>
    intro cs off k h
    simp only [List.zipIdx_cons, List.foldl_cons, List.setIfInBounds_toArray]
    have hl : off + k < cs.length := by simp at h; omega
    rw [ih (cs.set (off + k) v) off (k + 1) (by simp at h ⊢; omega)]
    congr 1
    rw [List.set_eq_take_append_cons_drop, if_pos hl]
    have e1 : off + (k + 1) = off + k + 1 := by omega
    rw [e1, List.take_append, List.drop_append]
    have hm : min (off + k) cs.length = off + k := by omega
    simp only [List.length_take, hm]
    have e2 : off + k + 1 - (off + k) = 1 := by omega
    have e3 : off + k + 1 + r.length - (off + k) = r.length + 1 := by omega
    rw [e2, e3]
    simp only [List.take_succ_cons, List.take_zero, List.drop_succ_cons, List.length_cons, List.drop_drop]
    rw [List.take_of_length_le (by simp; omega), List.drop_eq_nil_of_le (by simp; omega)]
    simp only [List.nil_append, List.append_assoc, List.cons_append]
    congr 4
    omega
theorem fill_eq (place : Nat → Option (Nat × Nat)) : ∀ (ps : List (Nat × Value)) (qs : List (Nat × Nat × Value)) (cs r : List Value),
    qs = ps.map (fun p => (((place p.1).getD (0, 0)).1, ((place p.1).getD (0, 0)).2, p.2)) → (∀ p ∈ ps, (place p.1).isSome = true) →
    fillL cs qs = some r → Instr.fill place cs.toArray ps = some r.toArray
  | [], _, cs, r, hq, _, h => by subst hq; simp [fillL] at h; subst h; rfl
  | (i, v) :: rest, qs, cs, r, hq, hp, h => by
    subst hq
    have h0 := hp (i, v) (by simp)
    cases hi : place i with
    | none => simp [hi] at h0
    | some z =>
      obtain ⟨off, size⟩ := z
      simp only [List.map_cons, fillL, hi, Option.getD_some] at h
      split at h
      · rename_i hc
        obtain ⟨h1, h2⟩ := hc
        unfold Instr.fill
        simp only [hi]
        rw [if_neg (by simp only [List.size_toArray, Bool.or_eq_true, decide_eq_true_eq, not_or]; simp at h1; exact ⟨by simpa using h1, by simp [h1]; omega⟩)]
        have hz : (v.cells.zipIdx.foldl (fun (cs : Array Value) (p : Value × Nat) => cs.setIfInBounds (off + p.2) p.1) cs.toArray) = (cutIn cs off v.cells.toList).toArray := by
          have := foldl_cells v.cells.toList cs off 0 (by simp at h1 ⊢; omega)
          simp only [Nat.add_zero] at this
          rw [cutIn, ← this]
          rw [← Array.foldl_toList]
          simp
        have := fill_eq place rest _ _ r rfl (fun p hp' => hp p (by simp [hp'])) h
        rw [← this]
        congr 1
      · cases h
end Go.G
end
section
set_option linter.unusedSimpArgs false
set_option linter.unusedVariables false
namespace Go.G
open Go
variable {P : Program} {ev : Operand → Value} {K : KP}

/-- What a run of a value does: it hands v back, whatever the world. -/
def gives (P : Program) (s : Sem Value) (v : Value) : Prop := ∀ w, s.run P w = .ok v w

theorem pBinI_run {op : BinOp} {k : IntKind} {T : TypeId} {x y : Value} (h : pBinI op k x y K) (h1 : op ≠ .quo) (h2 : op ≠ .rem) (h3 : op ≠ .shl) (h4 : op ≠ .shr) :
    ∃ v, gives P (binOp op T x y) v ∧ K v := by
  obtain ⟨a, b, rfl, rfl, hk⟩ := h
  refine ⟨_, fun w => ?_, hk⟩
  cases op <;> first | contradiction | (simp [binOp, Op.intArith, Op.intBits, Op.intCmp, binI])
theorem pDiv_run {op : BinOp} {k : IntKind} {T : TypeId} {x y : Value} (h : pDiv op k x y K) (h1 : op = .quo ∨ op = .rem) : ∃ v, gives P (binOp op T x y) v ∧ K v := by
  obtain ⟨a, b, rfl, rfl, hb, hk⟩ := h
  refine ⟨_, fun w => ?_, hk⟩
  rcases h1 with rfl | rfl <;> simp [binOp, Op.intDiv, hb, divI]
theorem pShift_run {op : BinOp} {k : IntKind} {T : TypeId} {x y : Value} (h : pShift op k x y K) (h1 : op = .shl ∨ op = .shr) : ∃ v, gives P (binOp op T x y) v ∧ K v := by
  obtain ⟨a, j, b, rfl, rfl, hb, hk⟩ := h
  refine ⟨_, fun w => ?_, hk⟩
  rcases h1 with rfl | rfl <;> simp [binOp, Op.shift, show ¬ b < 0 by omega, shiftI]
theorem pBinS_run {op : BinOp} {T : TypeId} {x y : Value} (h : pBinS op x y K) (h0 : op = .add ∨ op = .eql ∨ op = .neq ∨ op = .lss ∨ op = .leq ∨ op = .gtr ∨ op = .geq) : ∃ v, gives P (binOp op T x y) v ∧ K v := by
  obtain ⟨a, b, rfl, rfl, hb, hk⟩ := h
  refine ⟨_, fun w => ?_, hk⟩
  have hb' : ¬ (((a.size + b.size : Nat) : Int) > IntKind.i64.max) := by omega
  rcases h0 with rfl | rfl | rfl | rfl | rfl | rfl | rfl <;> simp only [binOp, Op.stringOp, if_neg hb'] <;> simp [binS]

def ekD : Ek → TypeDesc → Bool
  | .bool, .bool => true
  | .ptr, .pointer _ => true
  | .sl, .slice _ => true
  | .mp, .map _ _ => true
  | .fn, .func _ _ _ => true
  | .ifc, .interface _ => true
  | _, _ => false
theorem eqB_run {k : Ek} {d : TypeDesc} {T : TypeId} {x y : Value} {b : Bool} (hT : P.underlying T = some d) (hd : ekD k d = true) (h : eqB k x y = some b) (w : World) : (Op.equal T x y).run P w = .ok b w := by
  unfold Op.equal Op.maxDepth Op.equalIn
  simp only [Sem.run_bind, run_underlying hT, Result.andThen_ok]
  unfold eqB at h
  split at h <;> first | (cases h; done) | skip
  all_goals (cases d <;> first | (simp [ekD] at hd; done) | skip)
  all_goals (simp only [Option.some.injEq] at h; subst h)
  all_goals simp
theorem eqB_guard {op : BinOp} {k : Ek} {T : TypeId} {x y : Value} {a b : Operand} {r : Bool} (h : eqB k x y = some r) (w : World) : (eqGuard op T a b x y).run P w = .ok () w := by
  unfold eqGuard
  unfold eqB at h
  split at h <;> first | (cases h; done) | skip
  all_goals (simp only [Sem.run_ite, Sem.run_pure])
  all_goals (cases op <;> simp)
theorem binOp_eql {T : TypeId} {x y : Value} {k : Ek} {b : Bool} (h : eqB k x y = some b) : binOp .eql T x y = (do pure (.bool (← Op.equal T x y))) := by
  unfold eqB at h
  split at h <;> first | (cases h; done) | rfl
theorem binOp_neq {T : TypeId} {x y : Value} {k : Ek} {b : Bool} (h : eqB k x y = some b) : binOp .neq T x y = (do pure (.bool (!(← Op.equal T x y)))) := by
  unfold eqB at h
  split at h <;> first | (cases h; done) | rfl
theorem sEq_run {k : Ek} {d : TypeDesc} {op : BinOp} {T : TypeId} {x y : Value} {a b : Operand} (hT : P.underlying T = some d) (hd : ekD k d = true) (h : sEq k op x y K) :
    ∃ v, gives P (do eqGuard op T a b x y; binOp op T x y) v ∧ K v := by
  unfold sEq at h
  split at h
  · obtain ⟨r, hr, hk⟩ := h
    refine ⟨_, fun w => ?_, hk⟩
    simp only [Sem.run_bind, eqB_guard hr, Result.andThen_ok, binOp_eql hr, eqB_run hT hd hr, Sem.run_pure]
    cases r <;> rfl
  · obtain ⟨r, hr, hk⟩ := h
    refine ⟨_, fun w => ?_, hk⟩
    simp only [Sem.run_bind, eqB_guard hr, Result.andThen_ok, binOp_neq hr, eqB_run hT hd hr, Sem.run_pure]
    cases r <;> rfl
  · cases h
theorem guard_int {op : BinOp} {T : TypeId} {a b : Operand} {k j : IntKind} {n m : Int} (w : World) : (eqGuard op T a b (.int k n) (.int j m)).run P w = .ok () w := by
  unfold eqGuard; cases op <;> simp
theorem guard_str {op : BinOp} {T : TypeId} {a b : Operand} {n m : ByteArray} (w : World) : (eqGuard op T a b (.string n) (.string m)).run P w = .ok () w := by
  unfold eqGuard; cases op <;> simp
theorem gives_guard {op : BinOp} {T : TypeId} {a b : Operand} {x y v : Value} (hg : ∀ w, (eqGuard op T a b x y).run P w = .ok () w) (h : gives P (binOp op T x y) v) :
    gives P (do eqGuard op T a b x y; binOp op T x y) v := fun w => by simp only [Sem.run_bind, hg, Result.andThen_ok, h w]
theorem sBin_run {op : BinOp} {T : TypeId} {x y : Value} {a b : Operand} (h : sBin P op T x y K) : ∃ v, gives P (do eqGuard op T a b x y; binOp op T x y) v ∧ K v := by
  unfold sBin at h
  split at h
  · rename_i k hT
    have gi : ∀ {n m : Int} {j l : IntKind} (w : World), (eqGuard op T a b (.int j n) (.int l m)).run P w = .ok () w := fun w => guard_int w
    split at h
    · obtain ⟨v, hv, hk⟩ := pDiv_run (T := T) (P := P) h (.inl rfl); obtain ⟨_, _, rfl, rfl, _⟩ := h; exact ⟨v, gives_guard gi hv, hk⟩
    · obtain ⟨v, hv, hk⟩ := pDiv_run (T := T) (P := P) h (.inr rfl); obtain ⟨_, _, rfl, rfl, _⟩ := h; exact ⟨v, gives_guard gi hv, hk⟩
    · obtain ⟨v, hv, hk⟩ := pShift_run (T := T) (P := P) h (.inl rfl); obtain ⟨_, _, _, rfl, rfl, _⟩ := h; exact ⟨v, gives_guard gi hv, hk⟩
    · obtain ⟨v, hv, hk⟩ := pShift_run (T := T) (P := P) h (.inr rfl); obtain ⟨_, _, _, rfl, rfl, _⟩ := h; exact ⟨v, gives_guard gi hv, hk⟩
    · rename_i h1 h2 h3 h4
      obtain ⟨v, hv, hk⟩ := pBinI_run (T := T) (P := P) h h1 h2 h3 h4; obtain ⟨_, _, rfl, rfl, _⟩ := h; exact ⟨v, gives_guard gi hv, hk⟩
  · split at h
    all_goals first
      | (obtain ⟨v, hv, hk⟩ := pBinS_run (T := T) (P := P) h (by simp); obtain ⟨_, _, rfl, rfl, _⟩ := h; exact ⟨v, gives_guard (fun w => guard_str w) hv, hk⟩)
      | (cases h; done)
  · rename_i hT; exact sEq_run hT rfl h
  · rename_i hT; exact sEq_run hT rfl h
  · rename_i hT; exact sEq_run hT rfl h
  · rename_i hT; exact sEq_run hT rfl h
  · rename_i hT; exact sEq_run hT rfl h
  · rename_i hT; exact sEq_run hT rfl h
  · obtain ⟨hg, v, hv, hk⟩ := h; exact ⟨v, gives_guard (hg a b) hv, hk⟩
  · obtain ⟨hg, v, hv, hk⟩ := h; exact ⟨v, gives_guard (hg a b) hv, hk⟩
  · cases h
theorem sUn_run {op : UnOp} {T : TypeId} {x : Value} (h : sUn P op T x K) : ∃ v, gives P (Op.unary op x) v ∧ K v := by
  unfold sUn at h
  split at h
  · obtain ⟨b, rfl, hk⟩ := h; exact ⟨_, fun w => rfl, hk⟩
  · obtain ⟨b, rfl, hk⟩ := h; exact ⟨_, fun w => rfl, hk⟩
  · obtain ⟨b, rfl, hk⟩ := h; exact ⟨_, fun w => rfl, hk⟩
  · cases h
theorem asIntOf_run {k : IntKind} {n : Int} : gives P (do pure (Value.int k n)) (.int k n) := fun _ => rfl
theorem sliceBound_run {x : Value} {k : IntKind} {n : Int} {y : Nat} {c : BoundsCode} (hx : x = .int k n) (h0 : 0 ≤ n) (h1 : n.toNat ≤ y) (w : World) : (Instr.sliceBound x y c).run P w = .ok n.toNat w := by
  subst hx
  have : 0 ≤ n ∧ n ≤ (y : Int) := ⟨h0, by omega⟩
  simp [Instr.sliceBound, asIntOf, this]
theorem bnd_some {d l : Nat} {v : Value} (h : bnd d (some v) = some l) : ∃ k n, v = .int k n ∧ 0 ≤ n ∧ l = n.toNat := by
  unfold bnd at h
  split at h
  · rename_i h1; cases h1
  · rename_i k n h1; cases h1; split at h
    · cases h; exact ⟨_, _, rfl, by assumption, rfl⟩
    · cases h
  · cases h
theorem sliceBounds_run {is : Bool} {len cap l h m : Nat} {lo hi mx : Option Value} (hl : bnd 0 lo = some l) (hh : bnd len hi = some h) (hm : bnd cap mx = some m)
    (h1 : l ≤ h) (h2 : h ≤ m) (h3 : m ≤ cap) (h4 : mx.isSome = true → hi.isSome = true) (w : World) : (Instr.sliceBounds is len cap lo hi mx).run P w = .ok (l, h, m) w := by
  unfold Instr.sliceBounds
  cases mx with
  | none =>
    simp only [bnd, Option.some.injEq] at hm
    subst hm
    cases hi with
    | none =>
      simp only [bnd, Option.some.injEq] at hh
      subst hh
      cases lo with
      | none => simp only [bnd, Option.some.injEq] at hl; subst hl; simp
      | some v => obtain ⟨k, n, hv, h0, rfl⟩ := bnd_some hl; simp [sliceBound_run hv h0 h1]
    | some u =>
      obtain ⟨k', n', hu, h0', rfl⟩ := bnd_some hh
      cases lo with
      | none => simp only [bnd, Option.some.injEq] at hl; subst hl; simp [sliceBound_run hu h0' h2]
      | some v => obtain ⟨k, n, hv, h0, rfl⟩ := bnd_some hl; simp [sliceBound_run hu h0' h2, sliceBound_run hv h0 h1]
  | some t =>
    obtain ⟨k'', n'', ht, h0'', rfl⟩ := bnd_some hm
    cases hi with
    | none => simp at h4
    | some u =>
      obtain ⟨k', n', hu, h0', rfl⟩ := bnd_some hh
      cases lo with
      | none => simp only [bnd, Option.some.injEq] at hl; subst hl; simp [sliceBound_run ht h0'' h3, sliceBound_run hu h0' h2]
      | some v => obtain ⟨k, n, hv, h0, rfl⟩ := bnd_some hl; simp [sliceBound_run ht h0'' h3, sliceBound_run hu h0' h2, sliceBound_run hv h0 h1]
theorem run_sizeOf' {T : TypeId} (h : ∃ i, P.info? T = some i) (w : World) : (sizeOf T).run P w = .ok (P.cellsOf T) w := by
  obtain ⟨i, h⟩ := h; exact run_sizeOf h w

theorem hasInfo_some {T : TypeId} (h : hasInfo P T = true) : ∃ i, P.info? T = some i := by
  unfold hasInfo at h
  cases hi : P.info? T with
  | none => simp [hi] at h
  | some i => exact ⟨i, rfl⟩
theorem sSlice_run {T : TypeId} {x : Value} {lo hi mx : Option Value} (h : sSlice P T x lo hi mx K) : ∃ v, gives P (Instr.sliceAt T x lo hi mx) v ∧ K v := by
  unfold sSlice at h
  split at h
  · rename_i e hT
    split at h
    · rename_i hi'
      obtain ⟨a, n, c, l, u, m, rfl, hl, hh, hm, h1, h2, h3, h4, hk⟩ := h
      refine ⟨_, fun w => ?_, hk⟩
      simp only [Instr.sliceAt, Sem.run_bind, run_underlying hT, Result.andThen_ok, Instr.slice, sliceBounds_run hl hh hm h1 h2 h3 h4, run_sizeOf' (hasInfo_some hi'), Sem.run_pure]
    · cases h
  · rename_i hT
    split at h
    · obtain ⟨s, l, u, rfl, hl, hh, h1, h2, hk⟩ := h
      refine ⟨_, fun w => ?_, hk⟩
      have := sliceBounds_run (P := P) (is := false) (mx := none) hl hh (m := s.size) (cap := s.size) rfl h1 h2 (Nat.le_refl _) (by simp) w
      simp [Instr.sliceAt, run_underlying hT, Instr.slice, this]
    · cases h
  · rename_i n e hT
    split at h
    · rename_i hi'
      obtain ⟨a, l, u, m, rfl, hl, hh, hm, h1, h2, h3, h4, hk⟩ := h
      refine ⟨_, fun w => ?_, hk⟩
      simp only [Instr.sliceAt, Sem.run_bind, run_underlying hT, Result.andThen_ok, Instr.sureAddr, Sem.run_pure, sliceBounds_run hl hh hm h1 h2 h3 h4, run_sizeOf' (hasInfo_some hi')]
    · cases h
  · cases h
theorem part_agg {T : TypeId} {cs : Array Value} {off n : Nat} (h : tkOf P T = .agg n) : gives P (part T cs off) (.agg (cs.extract off (off + n))) := by
  obtain ⟨h1, h2, h3⟩ := tk_agg h
  intro w
  simp [part, h1, run_sizeOf' h3, h2]
theorem part_cell {T : TypeId} {cs : Array Value} {off : Nat} {v : Value} (h : tkOf P T = .cell) (hv : cs[off]? = some v) : gives P (part T cs off) v := by
  obtain ⟨h1, h2, h3⟩ := tk_cell h
  intro w
  simp [part, h1, hv]
theorem sField_run {T : TypeId} {x : Value} {f : Nat} (h : sField P T x f K) : ∃ v, gives P (Instr.field T x f) v ∧ K v := by
  unfold sField at h
  split at h
  · rename_i fs hT
    split at h
    · rename_i g hg
      split at h
      · rename_i n hn
        obtain ⟨cs, rfl, hk⟩ := h
        exact ⟨_, fun w => by simp [Instr.field, run_underlying hT, hg, asAgg, part_agg hn w], hk⟩
      · rename_i hn
        obtain ⟨cs, v, rfl, hv, hk⟩ := h
        exact ⟨_, fun w => by simp [Instr.field, run_underlying hT, hg, asAgg, part_cell hn hv w], hk⟩
      · cases h
    · cases h
  · cases h
theorem sFA_run {T : TypeId} {x : Value} {f : Nat} (h : sFA P T x f K) : ∃ v, gives P (Instr.fieldAt T x f) v ∧ K v := by
  unfold sFA at h
  split at h
  · rename_i fs hT
    split at h
    · rename_i g hg
      split at h
      · cases h
      · rename_i n hn
        obtain ⟨a, rfl, hk⟩ := h
        refine ⟨_, fun w => ?_, hk⟩
        obtain ⟨i, hi⟩ := info_of_cells hn
        simp [Instr.fieldAt, run_underlying hT, hg, Instr.sureAddr, fieldPlace, run_sizeOf hi, hn]
    · cases h
  · cases h
theorem sIA_run {T : TypeId} {x i : Value} (h : sIA P T x i K) : ∃ v, gives P (Instr.indexAt T x i) v ∧ K v := by
  unfold sIA at h
  split at h
  · rename_i e hT
    split at h
    · rename_i hi
      obtain ⟨a, n, c, k, j, rfl, rfl, h0, h1, hk⟩ := h
      refine ⟨_, fun w => ?_, hk⟩
      have hc : 0 ≤ j ∧ j < (n : Int) := ⟨h0, h1⟩
      simp [Instr.indexAt, asIntOf, run_underlying hT, hc, run_sizeOf' (hasInfo_some hi)]
    · cases h
  · rename_i n e hT
    split at h
    · rename_i hi
      obtain ⟨a, k, j, rfl, rfl, h0, h1, hk⟩ := h
      refine ⟨_, fun w => ?_, hk⟩
      have hc : 0 ≤ j ∧ j < (n : Int) := ⟨h0, h1⟩
      simp [Instr.indexAt, asIntOf, run_underlying hT, hc, run_sizeOf' (hasInfo_some hi), Instr.sureAddr]
    · cases h
  · cases h
theorem sIx_run {T : TypeId} {x i : Value} (h : sIx P T x i K) : ∃ v, gives P (Instr.index T x i) v ∧ K v := by
  unfold sIx at h
  split at h
  · rename_i hT
    obtain ⟨s, k, j, b, rfl, rfl, h0, h1, hk⟩ := h
    refine ⟨_, fun w => ?_, hk⟩
    simp [Instr.index, asIntOf, run_underlying hT, h0, h1]
  · rename_i n e hT
    split at h
    · rename_i s hn
      obtain ⟨cs, k, j, rfl, rfl, h0, h1, hk⟩ := h
      refine ⟨_, fun w => ?_, hk⟩
      have hc : 0 ≤ j ∧ j < (n : Int) := ⟨h0, h1⟩
      obtain ⟨h2, h3, h4⟩ := tk_agg hn
      have := part_agg (cs := cs) (off := j.toNat * s) hn w
      simp [Instr.index, asIntOf, run_underlying hT, hc, run_sizeOf' h4, ← h3, this]
    · rename_i hn
      obtain ⟨cs, k, j, v, rfl, rfl, h0, h1, hv, hk⟩ := h
      refine ⟨_, fun w => ?_, hk⟩
      have hc : 0 ≤ j ∧ j < (n : Int) := ⟨h0, h1⟩
      obtain ⟨h2, h3, h4⟩ := tk_cell hn
      have := part_cell (cs := cs) (off := j.toNat) hn hv w
      simp [Instr.index, asIntOf, run_underlying hT, hc, run_sizeOf' h4, h3, this]
    · cases h
  · cases h
theorem places_run (fs : Array Field) (hi : ∀ f ∈ fs.toList, hasInfo P f.type = true) (w : World) :
    (fs.mapM fun f => (do pure (f.offset, ← sizeOf f.type) : Sem (Nat × Nat))).run P w = .ok (fs.map fun f => (f.offset, P.cellsOf f.type)) w := by
  rw [Array.mapM_eq_mapM_toList]
  have : ∀ l : List Field, (∀ f ∈ l, hasInfo P f.type = true) → (l.mapM fun f => (do pure (f.offset, ← sizeOf f.type) : Sem (Nat × Nat))).run P w = .ok (l.map fun f => (f.offset, P.cellsOf f.type)) w := by
    intro l
    induction l with
    | nil => intro _; rfl
    | cons f l ih =>
      intro h
      simp only [List.mapM_cons, Sem.run_bind, run_sizeOf' (hasInfo_some (h f (by simp))), Result.andThen_ok, Sem.run_pure, ih (fun g hg => h g (by simp [hg])), List.map_cons]
  simp only [Sem.run_map, this _ hi, Result.andThen_ok]
  congr 1
  apply Array.ext'
  simp

theorem pBuild_struct {T : TypeId} {fs : Array Field} {ps : Array (Nat × Operand)} (hT : P.underlying T = some (.struct fs)) (hz : hasZero P T = true) (hi : infoF P fs = true)
    (hp : ps.toList.all (okField fs) = true) (h : pBuild (zeroL P T) (partsF P fs ev ps) K) : ∃ v, gives P (Instr.build T (ps.map fun (i, x) => (i, ev x))) v ∧ K v := by
  obtain ⟨cs, hc, hk⟩ := h
  obtain ⟨z, hz1, hz2, _⟩ := run_zero hz
  refine ⟨_, fun w => ?_, hk⟩
  have hf := fill_eq (fun i => (fs.map fun f => (f.offset, P.cellsOf f.type))[i]?) (ps.toList.map fun p => (p.1, ev p.2)) _ _ _ (by
      simp only [partsF, List.map_map]
      apply List.map_congr_left
      intro p _
      simp only [Function.comp, placeF, Array.getElem?_map]
      cases fs[p.1]? <;> rfl) (by
      intro p hp'
      obtain ⟨q, hq, rfl⟩ := List.mem_map.1 hp'
      have := List.all_eq_true.1 hp q hq
      simp only [okField] at this
      simpa using this) hc
  have hz3 : z.cells = (zeroL P T).toArray := by rw [← hz2]
  have hi' : ∀ f ∈ fs.toList, hasInfo P f.type = true := fun f hf' => List.all_eq_true.1 hi f hf'
  have hps : (ps.map fun (x : Nat × Operand) => (x.1, ev x.2)).toList = ps.toList.map fun p => (p.1, ev p.2) := by simp
  simp only [Instr.build, Sem.run_bind, hz1, Result.andThen_ok, run_underlying hT, places_run fs hi', hz3, hps, hf, Sem.run_pure]
theorem pBuild_array {T e : TypeId} {n : Nat} {ps : Array (Nat × Operand)} (hT : P.underlying T = some (.array n e)) (hz : hasZero P T = true) (he : hasInfo P e = true)
    (h : pBuild (zeroL P T) (partsA (P.cellsOf e) ev ps) K) : ∃ v, gives P (Instr.build T (ps.map fun (i, x) => (i, ev x))) v ∧ K v := by
  obtain ⟨cs, hc, hk⟩ := h
  obtain ⟨z, hz1, hz2, _⟩ := run_zero hz
  refine ⟨_, fun w => ?_, hk⟩
  have hf := fill_eq (fun i => some (i * P.cellsOf e, P.cellsOf e)) (ps.toList.map fun p => (p.1, ev p.2)) _ _ _ (by
      simp only [partsA, List.map_map]
      apply List.map_congr_left
      intro p _
      rfl) (by intro p _; rfl) hc
  have hz3 : z.cells = (zeroL P T).toArray := by rw [← hz2]
  have hps : (ps.map fun (x : Nat × Operand) => (x.1, ev x.2)).toList = ps.toList.map fun p => (p.1, ev p.2) := by simp
  simp only [Instr.build, Sem.run_bind, hz1, Result.andThen_ok, run_underlying hT, run_sizeOf' (hasInfo_some he), hz3, hps, hf, Sem.run_pure]
theorem lk_str {T : TypeId} (h : lkOf P T = .str) : P.underlying T = some .string := by
  unfold lkOf at h; split at h <;> first | assumption | (cases h; done) | (split at h <;> cases h)
theorem lk_sl {T : TypeId} (h : lkOf P T = .sl) : ∃ e, P.underlying T = some (.slice e) := by
  unfold lkOf at h; split at h <;> first | exact ⟨_, by assumption⟩ | (cases h; done) | (split at h <;> cases h)
theorem lk_mp {T : TypeId} (h : lkOf P T = .mp) : ∃ k e, P.underlying T = some (.map k e) := by
  unfold lkOf at h; split at h <;> first | exact ⟨_, _, by assumption⟩ | (cases h; done) | (split at h <;> cases h)
theorem lk_arr {T : TypeId} {n : Nat} (h : lkOf P T = .arr n) : (∃ e, P.underlying T = some (.array n e)) ∨ ∃ t e, P.underlying T = some (.pointer t) ∧ P.underlying t = some (.array n e) := by
  unfold lkOf at h
  split at h <;> first | (cases h; done) | skip
  · rename_i hT; cases h; exact .inl ⟨_, hT⟩
  · rename_i t hT
    split at h
    · rename_i ht; cases h; exact .inr ⟨t, _, hT, ht⟩
    · cases h
theorem ck_ints {s d : TypeId} {k : IntKind} (h : ckOf P s d = .ints k) : ∃ j, P.underlying s = some (.int j) ∧ P.underlying d = some (.int k) := by
  unfold ckOf at h
  split at h <;> first | (cases h; done) | skip
  · rename_i h1 h2; cases h; exact ⟨_, h1, h2⟩
  all_goals (split at h <;> cases h)
theorem ck_str {s d : TypeId} (h : ckOf P s d = .str) : P.underlying s = some .string ∧ P.underlying d = some .string := by
  unfold ckOf at h
  split at h <;> first | (cases h; done) | skip
  · rename_i h1 h2; exact ⟨h1, h2⟩
  all_goals (split at h <;> cases h)
theorem ck_toBytes {s d e : TypeId} (h : ckOf P s d = .toBytes e) : P.underlying s = some .string ∧ P.underlying d = some (.slice e) ∧ P.underlying e = some (.int .u8) := by
  unfold ckOf at h
  split at h <;> first | (cases h; done) | skip
  · rename_i h1 h2
    split at h
    · rename_i h3; cases h; exact ⟨h1, h2, h3⟩
    · cases h
  all_goals (split at h <;> cases h)
theorem ck_toStr {s d : TypeId} (h : ckOf P s d = .toStr) : ∃ e, P.underlying s = some (.slice e) ∧ P.underlying d = some .string ∧ P.underlying e = some (.int .u8) := by
  unfold ckOf at h
  split at h <;> first | (cases h; done) | skip
  · split at h <;> cases h
  · rename_i h1 h2
    split at h
    · rename_i h3; exact ⟨_, h1, h2, h3⟩
    · cases h

/-- What only computes hands a value back, whatever the world. -/
theorem sPure_run {o : Oper} (h : sPure P o ev K) : ∃ v, (∀ w, (execOp ev o).run P w = .ok (.value v) w) ∧ K v := by
  obtain ⟨dst, op, type, pos, after, guard⟩ := o
  have lift : ∀ {s : Sem Value}, (∃ v, gives P s v ∧ K v) → ∃ v, (∀ w, ((do pure (Next.value (← s)) : Sem Next)).run P w = .ok (.value v) w) ∧ K v := fun ⟨v, hv, hk⟩ => ⟨v, fun w => by simp [hv w], hk⟩
  cases op <;> simp only [sPure] at h <;> try (cases h; done)
  case move x => exact ⟨_, fun w => rfl, h⟩
  case assign x => exact ⟨_, fun w => rfl, h⟩
  case pick c a b =>
    obtain ⟨t, hc, hk⟩ := h
    exact ⟨_, fun w => by cases t <;> simp [execOp, asBool, hc], hk⟩
  case build T ps =>
    split at h
    · rename_i fs hT
      split at h
      · rename_i hc
        simp only [Bool.and_eq_true] at hc
        exact lift (pBuild_struct hT hc.1.1 hc.1.2 hc.2 h)
      · cases h
    · rename_i n e hT
      split at h
      · rename_i hc
        simp only [Bool.and_eq_true] at hc
        exact lift (pBuild_array hT hc.1 hc.2 h)
      · cases h
    · cases h
  case nilCheck x =>
    simp only [execOp]
    unfold pNil at h
    split at h
    · rename_i hx; rw [hx]; exact ⟨_, fun w => rfl, h⟩
    · rename_i hx; rw [hx]; exact ⟨_, fun w => rfl, h⟩
    · rename_i hx; rw [hx]; exact ⟨_, fun w => rfl, h⟩
    · rename_i hx; rw [hx]; exact ⟨_, fun w => rfl, h⟩
    · cases h
  case binOp op T x y yT => exact lift (sBin_run h)
  case unOp op T x => exact lift (sUn_run h)
  case convert s d x =>
    split at h
    · rename_i k hc
      obtain ⟨j, h1, h2⟩ := ck_ints hc
      obtain ⟨j', a, hx, hk⟩ := h
      refine lift ⟨_, fun w => ?_, hk⟩
      simp [convert, run_underlying h1, run_underlying h2, hx, Conv.intToInt]
    · rename_i hc
      obtain ⟨h1, h2⟩ := ck_str hc
      obtain ⟨a, hx, hk⟩ := h
      refine lift ⟨_, fun w => ?_, hk⟩
      simp [convert, run_underlying h1, run_underlying h2, hx]
    · cases h
  case makeInterface T x =>
    split at h
    · cases h
    · rename_i d hd hT
      refine lift ⟨_, fun w => ?_, h⟩
      simp only [Instr.makeInterface, Sem.run_bind, run_underlying hT, Result.andThen_ok]
      cases d <;> first | rfl | exact absurd rfl (hd _)
    · cases h
  case makeFunc fn first captured => exact lift ⟨_, fun w => rfl, h⟩
  case slice T x lo hi mx => exact lift (sSlice_run h)
  case fieldAddr T x f => exact lift (sFA_run h)
  case field T x f => exact lift (sField_run h)
  case indexAddr T x i => exact lift (sIA_run h)
  case index T x i => exact lift (sIx_run h)
  case extract t i =>
    obtain ⟨vs, v, hx, hv, hk⟩ := h
    exact lift ⟨_, fun w => by simp [Instr.extract, hx, hv], hk⟩
  case call c =>
    obtain ⟨callee, args, argTypes⟩ := c
    simp only [execOp]
    simp only at h
    split at h
    · split at h
      · rename_i x T h1 h2
        have e1 : args = #[x] := by rw [← Array.toList_inj]; simpa using h1
        have e2 : argTypes = #[T] := by rw [← Array.toList_inj]; simpa using h2
        subst e1; subst e2
        split at h
        · rename_i hl
          obtain ⟨s, hx, hk⟩ := h
          exact ⟨_, fun w => by simp [resolve, invoke, builtin, Builtin.len_, run_underlying (lk_str hl), hx, goInt], hk⟩
        · rename_i hl
          obtain ⟨a, n, c, hx, hk⟩ := h
          obtain ⟨e, he⟩ := lk_sl hl
          exact ⟨_, fun w => by simp [resolve, invoke, builtin, Builtin.len_, run_underlying he, hx, goInt], hk⟩
        · rename_i n hl
          rcases lk_arr hl with ⟨e, he⟩ | ⟨t, e, he, ht⟩
          · exact ⟨_, fun w => by simp [resolve, invoke, builtin, Builtin.len_, run_underlying he, goInt], h⟩
          · exact ⟨_, fun w => by simp [resolve, invoke, builtin, Builtin.len_, run_underlying he, run_underlying ht, goInt], h⟩
        · cases h
      · cases h
    · split at h
      · rename_i x T h1 h2
        have e1 : args = #[x] := by rw [← Array.toList_inj]; simpa using h1
        have e2 : argTypes = #[T] := by rw [← Array.toList_inj]; simpa using h2
        subst e1; subst e2
        split at h
        · rename_i hl
          obtain ⟨a, n, c, hx, hk⟩ := h
          obtain ⟨e, he⟩ := lk_sl hl
          exact ⟨_, fun w => by simp [resolve, invoke, builtin, Builtin.cap_, run_underlying he, hx, goInt], hk⟩
        · cases h
      · cases h
    · split at h
      · rename_i x y h1
        have e1 : args = #[x, y] := by rw [← Array.toList_inj]; simpa using h1
        subst e1
        obtain ⟨k, a, b, hx, hy, hk⟩ := h
        exact ⟨_, fun w => by simp [resolve, invoke, builtin, Builtin.min_, List.foldlM, Builtin.min2, hx, hy], hk⟩
      · cases h
    · split at h
      · rename_i x y h1
        have e1 : args = #[x, y] := by rw [← Array.toList_inj]; simpa using h1
        subst e1
        obtain ⟨k, a, b, hx, hy, hk⟩ := h
        exact ⟨_, fun w => by simp [resolve, invoke, builtin, Builtin.max_, List.foldlM, Builtin.max2, hx, hy], hk⟩
      · cases h
    · cases h
end Go.G
end
