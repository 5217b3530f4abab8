/-
  What only computes: its run.
  What reads, and what turns the world: the run.
-/
import Derived.Test.YtkpgmaiklfjjgaaMaaa
import Derived.Laws.IdiomStrings
import Derived.Laws.Cells
section
set_option linter.unusedSimpArgs false
set_option linter.unusedVariables false
namespace Go.G
open Go
variable {P : Program} {ev : Operand → Value} {K : KP}

/-- What a run of a value does: it hands v back, whatever the world. -/
def gives (P : Program) (s : Sem Value) (v : Value) : Prop := ∀ w, s.run P w = .ok v w

theorem pBinI_run {op : BinOp} {k : IntKind} {T : TypeId} {x y : Value} (h : pBinI op k x y K) (h1 : op ≠ .quo) (h2 : op ≠ .rem) (h3 : op ≠ .shl) (h4 : op ≠ .shr) :
    ∃ v, gives P (binOp op T x y) v ∧ K v := by
  obtain ⟨a, b, rfl, rfl, hk⟩ := h
  refine ⟨_, fun w => ?_, hk⟩
  cases op <;> first | contradiction | (simp [binOp, Op.intArith, Op.intBits, Op.intCmp, binI])
theorem pDiv_run {op : BinOp} {k : IntKind} {T : TypeId} {x y : Value} (h : pDiv op k x y K) (h1 : op = .quo ∨ op = .rem) : ∃ v, gives P (binOp op T x y) v ∧ K v := by
  obtain ⟨a, b, rfl, rfl, hb, hk⟩ := h
  refine ⟨_, fun w => ?_, hk⟩
  rcases h1 with rfl | rfl <;> simp [binOp, Op.intDiv, hb, divI]
theorem pShift_run {op : BinOp} {k : IntKind} {T : TypeId} {x y : Value} (h : pShift op k x y K) (h1 : op = .shl ∨ op = .shr) : ∃ v, gives P (binOp op T x y) v ∧ K v := by
  obtain ⟨a, j, b, rfl, rfl, hb, hk⟩ := h
  refine ⟨_, fun w => ?_, hk⟩
  rcases h1 with rfl | rfl <;> simp [binOp, Op.shift, show ¬ b < 0 by omega, shiftI]
theorem pBinS_run {op : BinOp} {T : TypeId} {x y : Value} (h : pBinS op x y K) (h0 : op = .add ∨ op = .eql ∨ op = .neq ∨ op = .lss ∨ op = .leq ∨ op = .gtr ∨ op = .geq) : ∃ v, gives P (binOp op T x y) v ∧ K v := by
  obtain ⟨a, b, rfl, rfl, hb, hk⟩ := h
  refine ⟨_, fun w => ?_, hk⟩
  have hb' : ¬ (((a.size + b.size : Nat) : Int) > IntKind.i64.max) := by omega
  rcases h0 with rfl | rfl | rfl | rfl | rfl | rfl | rfl <;> simp only [binOp, Op.stringOp, if_neg hb'] <;> simp [binS]

def ekD : Ek → TypeDesc → Bool
  | .bool, .bool => true
  | .ptr, .pointer _ => true
  | .sl, .slice _ => true
  | .mp, .map _ _ => true
  | .fn, .func _ _ _ => true
  | .ifc, .interface _ => true
  | _, _ => false
theorem eqB_run {k : Ek} {d : TypeDesc} {T : TypeId} {x y : Value} {b : Bool} (hT : P.underlying T = some d) (hd : ekD k d = true) (h : eqB k x y = some b) (w : World) : (Op.equal T x y).run P w = .ok b w := by
  unfold Op.equal Op.maxDepth Op.equalIn
  simp only [Sem.run_bind, run_underlying hT, Result.andThen_ok]
  unfold eqB at h
  split at h <;> first | (cases h; done) | skip
  all_goals (cases d <;> first | (simp [ekD] at hd; done) | skip)
  all_goals (simp only [Option.some.injEq] at h; subst h)
  all_goals simp
theorem eqB_guard {op : BinOp} {k : Ek} {T : TypeId} {x y : Value} {a b : Operand} {r : Bool} (h : eqB k x y = some r) (w : World) : (eqGuard op T a b x y).run P w = .ok () w := by
  unfold eqGuard
  unfold eqB at h
  split at h <;> first | (cases h; done) | skip
  all_goals (simp only [Sem.run_ite, Sem.run_pure])
  all_goals (cases op <;> simp)
theorem binOp_eql {T : TypeId} {x y : Value} {k : Ek} {b : Bool} (h : eqB k x y = some b) : binOp .eql T x y = (do pure (.bool (← Op.equal T x y))) := by
  unfold eqB at h
  split at h <;> first | (cases h; done) | rfl
theorem binOp_neq {T : TypeId} {x y : Value} {k : Ek} {b : Bool} (h : eqB k x y = some b) : binOp .neq T x y = (do pure (.bool (!(← Op.equal T x y)))) := by
  unfold eqB at h
  split at h <;> first | (cases h; done) | rfl
theorem sEq_run {k : Ek} {d : TypeDesc} {op : BinOp} {T : TypeId} {x y : Value} {a b : Operand} (hT : P.underlying T = some d) (hd : ekD k d = true) (h : sEq k op x y K) :
    ∃ v, gives P (do eqGuard op T a b x y; binOp op T x y) v ∧ K v := by
  unfold sEq at h
  split at h
  · obtain ⟨r, hr, hk⟩ := h
    refine ⟨_, fun w => ?_, hk⟩
    simp only [Sem.run_bind, eqB_guard hr, Result.andThen_ok, binOp_eql hr, eqB_run hT hd hr, Sem.run_pure]
    cases r <;> rfl
  · obtain ⟨r, hr, hk⟩ := h
    refine ⟨_, fun w => ?_, hk⟩
    simp only [Sem.run_bind, eqB_guard hr, Result.andThen_ok, binOp_neq hr, eqB_run hT hd hr, Sem.run_pure]
    cases r <;> rfl
  · cases h
theorem guard_int {op : BinOp} {T : TypeId} {a b : Operand} {k j : IntKind} {n m : Int} (w : World) : (eqGuard op T a b (.int k n) (.int j m)).run P w = .ok () w := by
  unfold eqGuard; cases op <;> simp
theorem guard_str {op : BinOp} {T : TypeId} {a b : Operand} {n m : ByteArray} (w : World) : (eqGuard op T a b (.string n) (.string m)).run P w = .ok () w := by
  unfold eqGuard; cases op <;> simp
theorem gives_guard {op : BinOp} {T : TypeId} {a b : Operand} {x y v : Value} (hg : ∀ w, (eqGuard op T a b x y).run P w = .ok () w) (h : gives P (binOp op T x y) v) :
    gives P (do eqGuard op T a b x y; binOp op T x y) v := fun w => by simp only [Sem.run_bind, hg, Result.andThen_ok, h w]
theorem sBin_run {op : BinOp} {T : TypeId} {x y : Value} {a b : Operand} (h : sBin P op T x y K) : ∃ v, gives P (do eqGuard op T a b x y; binOp op T x y) v ∧ K v := by
  unfold sBin at h
  split at h
  · rename_i k hT
    have gi : ∀ {n m : Int} {j l : IntKind} (w : World), (eqGuard op T a b (.int j n) (.int l m)).run P w = .ok () w := fun w => guard_int w
    split at h
    · obtain ⟨v, hv, hk⟩ := pDiv_run (T := T) (P := P) h (.inl rfl); obtain ⟨_, _, rfl, rfl, _⟩ := h; exact ⟨v, gives_guard gi hv, hk⟩
    · obtain ⟨v, hv, hk⟩ := pDiv_run (T := T) (P := P) h (.inr rfl); obtain ⟨_, _, rfl, rfl, _⟩ := h; exact ⟨v, gives_guard gi hv, hk⟩
    · obtain ⟨v, hv, hk⟩ := pShift_run (T := T) (P := P) h (.inl rfl); obtain ⟨_, _, _, rfl, rfl, _⟩ := h; exact ⟨v, gives_guard gi hv, hk⟩
    · obtain ⟨v, hv, hk⟩ := pShift_run (T := T) (P := P) h (.inr rfl); obtain ⟨_, _, _, rfl, rfl, _⟩ := h; exact ⟨v, gives_guard gi hv, hk⟩
    · rename_i h1 h2 h3 h4
      obtain ⟨v, hv, hk⟩ := pBinI_run (T := T) (P := P) h h1 h2 h3 h4; obtain ⟨_, _, rfl, rfl, _⟩ := h; exact ⟨v, gives_guard gi hv, hk⟩
  · split at h
    all_goals first
      | (obtain ⟨v, hv, hk⟩ := pBinS_run (T := T) (P := P) h (by simp); obtain ⟨_, _, rfl, rfl, _⟩ := h; exact ⟨v, gives_guard (fun w => guard_str w) hv, hk⟩)
      | (cases h; done)
  · rename_i hT; exact sEq_run hT rfl h
  · rename_i hT; exact sEq_run hT rfl h
  · rename_i hT; exact sEq_run hT rfl h
  · rename_i hT; exact sEq_run hT rfl h
  · rename_i hT; exact sEq_run hT rfl h
  · rename_i hT; exact sEq_run hT rfl h
  · obtain ⟨hg, v, hv, hk⟩ := h; exact ⟨v, gives_guard (hg a b) hv, hk⟩
  · obtain ⟨hg, v, hv, hk⟩ := h; exact ⟨v, gives_guard (hg a b) hv, hk⟩
  · cases h
theorem sUn_run {op : UnOp} {T : TypeId} {x : Value} (h : sUn P op T x K) : ∃ v, gives P (Op.unary op x) v ∧ K v := by
  unfold sUn at h
  split at h
  · obtain ⟨b, rfl, hk⟩ := h; exact ⟨_, fun w => rfl, hk⟩
  · obtain ⟨b, rfl, hk⟩ := h; exact ⟨_, fun w => rfl, hk⟩
  · obtain ⟨b, rfl, hk⟩ := h; exact ⟨_, fun w => rfl, hk⟩
  · cases h
theorem asIntOf_run {k : IntKind} {n : Int} : gives P (do pure (Value.int k n)) (.int k n) := fun _ => rfl
theorem sliceBound_run {x : Value} {k : IntKind} {n : Int} {y : Nat} {c : BoundsCode} (hx : x = .int k n) (h0 : 0 ≤ n) (h1 : n.toNat ≤ y) (w : World) : (Instr.sliceBound x y c).run P w = .ok n.toNat w := by
  subst hx
  have : 0 ≤ n ∧ n ≤ (y : Int) := ⟨h0, by omega⟩
  simp [Instr.sliceBound, asIntOf, this]
theorem bnd_some {d l : Nat} {v : Value} (h : bnd d (some v) = some l) : ∃ k n, v = .int k n ∧ 0 ≤ n ∧ l = n.toNat := by
  unfold bnd at h
  split at h
  · rename_i h1; cases h1
  · rename_i k n h1; cases h1; split at h
    · cases h; exact ⟨_, _, rfl, by assumption, rfl⟩
    · cases h
  · cases h
theorem sliceBounds_run {is : Bool} {len cap l h m : Nat} {lo hi mx : Option Value} (hl : bnd 0 lo = some l) (hh : bnd len hi = some h) (hm : bnd cap mx = some m)
    (h1 : l ≤ h) (h2 : h ≤ m) (h3 : m ≤ cap) (h4 : mx.isSome = true → hi.isSome = true) (w : World) : (Instr.sliceBounds is len cap lo hi mx).run P w = .ok (l, h, m) w := by
  unfold Instr.sliceBounds
  cases mx with
  | none =>
    simp only [bnd, Option.some.injEq] at hm
    subst hm
    cases hi with
    | none =>
      simp only [bnd, Option.some.injEq] at hh
      subst hh
      cases lo with
      | none => simp only [bnd, Option.some.injEq] at hl; subst hl; simp
      | some v => obtain ⟨k, n, hv, h0, rfl⟩ := bnd_some hl; simp [sliceBound_run hv h0 h1]
    | some u =>
      obtain ⟨k', n', hu, h0', rfl⟩ := bnd_some hh
      cases lo with
      | none => simp only [bnd, Option.some.injEq] at hl; subst hl; simp [sliceBound_run hu h0' h2]
      | some v => obtain ⟨k, n, hv, h0, rfl⟩ := bnd_some hl; simp [sliceBound_run hu h0' h2, sliceBound_run hv h0 h1]
  | some t =>
    obtain ⟨k'', n'', ht, h0'', rfl⟩ := bnd_some hm
    cases hi with
    | none => simp at h4
    | some u =>
      obtain ⟨k', n', hu, h0', rfl⟩ := bnd_some hh
      cases lo with
      | none => simp only [bnd, Option.some.injEq] at hl; subst hl; simp [sliceBound_run ht h0'' h3, sliceBound_run hu h0' h2]
      | some v => obtain ⟨k, n, hv, h0, rfl⟩ := bnd_some hl; simp [sliceBound_run ht h0'' h3, sliceBound_run hu h0' h2, sliceBound_run hv h0 h1]
theorem run_sizeOf' {T : TypeId} (h : ∃ i, P.info? T = some i) (w : World) : (sizeOf T).run P w = .ok (P.cellsOf T) w := by
  obtain ⟨i, h⟩ := h; exact run_sizeOf h w

theorem hasInfo_some {T : TypeId} (h : hasInfo P T = true) : ∃ i, P.info? T = some i := by
  unfold hasInfo at h
  cases hi : P.info? T with
  | none => simp [hi] at h
  | some i => exact ⟨i, rfl⟩
theorem sSlice_run {T : TypeId} {x : Value} {lo hi mx : Option Value} (h : sSlice P T x lo hi mx K) : ∃ v, gives P (Instr.sliceAt T x lo hi mx) v ∧ K v := by
  unfold sSlice at h
  split at h
  · rename_i e hT
    split at h
    · rename_i hi'
      obtain ⟨a, n, c, l, u, m, rfl, hl, hh, hm, h1, h2, h3, h4, hk⟩ := h
      refine ⟨_, fun w => ?_, hk⟩
      simp only [Instr.sliceAt, Sem.run_bind, run_underlying hT, Result.andThen_ok, Instr.slice, sliceBounds_run hl hh hm h1 h2 h3 h4, run_sizeOf' (hasInfo_some hi'), Sem.run_pure]
    · cases h
  · rename_i hT
    split at h
    · obtain ⟨s, l, u, rfl, hl, hh, h1, h2, hk⟩ := h
      refine ⟨_, fun w => ?_, hk⟩
      have := sliceBounds_run (P := P) (is := false) (mx := none) hl hh (m := s.size) (cap := s.size) rfl h1 h2 (Nat.le_refl _) (by simp) w
      simp [Instr.sliceAt, run_underlying hT, Instr.slice, this]
    · cases h
  · rename_i n e hT
    split at h
    · rename_i hi'
      obtain ⟨a, l, u, m, rfl, hl, hh, hm, h1, h2, h3, h4, hk⟩ := h
      refine ⟨_, fun w => ?_, hk⟩
      simp only [Instr.sliceAt, Sem.run_bind, run_underlying hT, Result.andThen_ok, Instr.sureAddr, Sem.run_pure, sliceBounds_run hl hh hm h1 h2 h3 h4, run_sizeOf' (hasInfo_some hi')]
    · cases h
  · cases h
theorem part_agg {T : TypeId} {cs : Array Value} {off n : Nat} (h : tkOf P T = .agg n) : gives P (part T cs off) (.agg (cs.extract off (off + n))) := by
  obtain ⟨h1, h2, h3⟩ := tk_agg h
  intro w
  simp [part, h1, run_sizeOf' h3, h2]
theorem part_cell {T : TypeId} {cs : Array Value} {off : Nat} {v : Value} (h : tkOf P T = .cell) (hv : cs[off]? = some v) : gives P (part T cs off) v := by
  obtain ⟨h1, h2, h3⟩ := tk_cell h
  intro w
  simp [part, h1, hv]
theorem sField_run {T : TypeId} {x : Value} {f : Nat} (h : sField P T x f K) : ∃ v, gives P (Instr.field T x f) v ∧ K v := by
  unfold sField at h
  split at h
  · rename_i fs hT
    split at h
    · rename_i g hg
      split at h
      · rename_i n hn
        obtain ⟨cs, rfl, hk⟩ := h
        exact ⟨_, fun w => by simp [Instr.field, run_underlying hT, hg, asAgg, part_agg hn w], hk⟩
      · rename_i hn
        obtain ⟨cs, v, rfl, hv, hk⟩ := h
        exact ⟨_, fun w => by simp [Instr.field, run_underlying hT, hg, asAgg, part_cell hn hv w], hk⟩
      · cases h
    · cases h
  · cases h
theorem sFA_run {T : TypeId} {x : Value} {f : Nat} (h : sFA P T x f K) : ∃ v, gives P (Instr.fieldAt T x f) v ∧ K v := by
  unfold sFA at h
  split at h
  · rename_i fs hT
    split at h
    · rename_i g hg
      split at h
      · cases h
      · rename_i n hn
        obtain ⟨a, rfl, hk⟩ := h
        refine ⟨_, fun w => ?_, hk⟩
        obtain ⟨i, hi⟩ := info_of_cells hn
        simp [Instr.fieldAt, run_underlying hT, hg, Instr.sureAddr, fieldPlace, run_sizeOf hi, hn]
    · cases h
  · cases h
theorem sIA_run {T : TypeId} {x i : Value} (h : sIA P T x i K) : ∃ v, gives P (Instr.indexAt T x i) v ∧ K v := by
  unfold sIA at h
  split at h
  · rename_i e hT
    split at h
    · rename_i hi
      obtain ⟨a, n, c, k, j, rfl, rfl, h0, h1, hk⟩ := h
      refine ⟨_, fun w => ?_, hk⟩
      have hc : 0 ≤ j ∧ j < (n : Int) := ⟨h0, h1⟩
      simp [Instr.indexAt, asIntOf, run_underlying hT, hc, run_sizeOf' (hasInfo_some hi)]
    · cases h
  · rename_i n e hT
    split at h
    · rename_i hi
      obtain ⟨a, k, j, rfl, rfl, h0, h1, hk⟩ := h
      refine ⟨_, fun w => ?_, hk⟩
      have hc : 0 ≤ j ∧ j < (n : Int) := ⟨h0, h1⟩
      simp [Instr.indexAt, asIntOf, run_underlying hT, hc, run_sizeOf' (hasInfo_some hi), Instr.sureAddr]
    · cases h
  · cases h
theorem sIx_run {T : TypeId} {x i : Value} (h : sIx P T x i K) : ∃ v, gives P (Instr.index T x i) v ∧ K v := by
  unfold sIx at h
  split at h
  · rename_i hT
    obtain ⟨s, k, j, b, rfl, rfl, h0, h1, hk⟩ := h
    refine ⟨_, fun w => ?_, hk⟩
    simp [Instr.index, asIntOf, run_underlying hT, h0, h1]
  · rename_i n e hT
    split at h
    · rename_i s hn
      obtain ⟨cs, k, j, rfl, rfl, h0, h1, hk⟩ := h
      refine ⟨_, fun w => ?_, hk⟩
      have hc : 0 ≤ j ∧ j < (n : Int) := ⟨h0, h1⟩
      obtain ⟨h2, h3, h4⟩ := tk_agg hn
      have := part_agg (cs := cs) (off := j.toNat * s) hn w
      simp [Instr.index, asIntOf, run_underlying hT, hc, run_sizeOf' h4, ← h3, this]
    · rename_i hn
      obtain ⟨cs, k, j, v, rfl, rfl, h0, h1, hv, hk⟩ := h
      refine ⟨_, fun w => ?_, hk⟩
      have hc : 0 ≤ j ∧ j < (n : Int) := ⟨h0, h1⟩
      obtain ⟨h2, h3, h4⟩ := tk_cell hn
      have := part_cell (cs := cs) (off := j.toNat) hn hv w
      simp [Instr.index, asIntOf, run_underlying hT, hc, run_sizeOf' h4, h3, this]
    · cases h
  · cases h
theorem places_run (fs : Array Field) (hi : ∀ f ∈ fs.toList, hasInfo P f.type = true) (w : World) :
    (fs.mapM fun f => (do pure (f.offset, ← sizeOf f.type) : Sem (Nat × Nat))).run P w = .ok (fs.map fun f => (f.offset, P.cellsOf f.type)) w := by
  rw [Array.mapM_eq_mapM_toList]
  have : ∀ l : List Field, (∀ f ∈ l, hasInfo P f.type = true) → (l.mapM fun f => (do pure (f.offset, ← sizeOf f.type) : Sem (Nat × Nat))).run P w = .ok (l.map fun f => (f.offset, P.cellsOf f.type)) w := by
    intro l
    induction l with
    | nil => intro _; rfl
    | cons f l ih =>
      intro h
      simp only [List.mapM_cons, Sem.run_bind, run_sizeOf' (hasInfo_some (h f (by simp))), Result.andThen_ok, Sem.run_pure, ih (fun g hg => h g (by simp [hg])), List.map_cons]
  simp only [Sem.run_map, this _ hi, Result.andThen_ok]
  congr 1
  apply Array.ext'
  simp

theorem pBuild_struct {T : TypeId} {fs : Array Field} {ps : Array (Nat × Operand)} (hT : P.underlying T = some (.struct fs)) (hz : hasZero P T = true) (hi : infoF P fs = true)
    (hp : ps.toList.all (okField fs) = true) (h : pBuild (zeroL P T) (partsF P fs ev ps) K) : ∃ v, gives P (Instr.build T (ps.map fun (i, x) => (i, ev x))) v ∧ K v := by
  obtain ⟨cs, hc, hk⟩ := h
  obtain ⟨z, hz1, hz2, _⟩ := run_zero hz
  refine ⟨_, fun w => ?_, hk⟩
  have hf := fill_eq (fun i => (fs.map fun f => (f.offset, P.cellsOf f.type))[i]?) (ps.toList.map fun p => (p.1, ev p.2)) _ _ _ (by
      simp only [partsF, List.map_map]
      apply List.map_congr_left
      intro p _
      simp only [Function.comp, placeF, Array.getElem?_map]
      cases fs[p.1]? <;> rfl) (by
      intro p hp'
      obtain ⟨q, hq, rfl⟩ := List.mem_map.1 hp'
      have := List.all_eq_true.1 hp q hq
      simp only [okField] at this
      simpa using this) hc
  have hz3 : z.cells = (zeroL P T).toArray := by rw [← hz2]
  have hi' : ∀ f ∈ fs.toList, hasInfo P f.type = true := fun f hf' => List.all_eq_true.1 hi f hf'
  have hps : (ps.map fun (x : Nat × Operand) => (x.1, ev x.2)).toList = ps.toList.map fun p => (p.1, ev p.2) := by simp
  simp only [Instr.build, Sem.run_bind, hz1, Result.andThen_ok, run_underlying hT, places_run fs hi', hz3, hps, hf, Sem.run_pure]
theorem pBuild_array {T e : TypeId} {n : Nat} {ps : Array (Nat × Operand)} (hT : P.underlying T = some (.array n e)) (hz : hasZero P T = true) (he : hasInfo P e = true)
    (h : pBuild (zeroL P T) (partsA (P.cellsOf e) ev ps) K) : ∃ v, gives P (Instr.build T (ps.map fun (i, x) => (i, ev x))) v ∧ K v := by
  obtain ⟨cs, hc, hk⟩ := h
  obtain ⟨z, hz1, hz2, _⟩ := run_zero hz
  refine ⟨_, fun w => ?_, hk⟩
  have hf := fill_eq (fun i => some (i * P.cellsOf e, P.cellsOf e)) (ps.toList.map fun p => (p.1, ev p.2)) _ _ _ (by
      simp only [partsA, List.map_map]
      apply List.map_congr_left
      intro p _
      rfl) (by intro p _; rfl) hc
  have hz3 : z.cells = (zeroL P T).toArray := by rw [← hz2]
  have hps : (ps.map fun (x : Nat × Operand) => (x.1, ev x.2)).toList = ps.toList.map fun p => (p.1, ev p.2) := by simp
  simp only [Instr.build, Sem.run_bind, hz1, Result.andThen_ok, run_underlying hT, run_sizeOf' (hasInfo_some he), hz3, hps, hf, Sem.run_pure]
theorem lk_str {T : TypeId} (h : lkOf P T = .str) : P.underlying T = some .string := by
  unfold lkOf at h; split at h <;> first | assumption | (cases h; done) | (split at h <;> cases h)
theorem lk_sl {T : TypeId} (h : lkOf P T = .sl) : ∃ e, P.underlying T = some (.slice e) := by
  unfold lkOf at h; split at h <;> first | exact ⟨_, by assumption⟩ | (cases h; done) | (split at h <;> cases h)
theorem lk_mp {T : TypeId} (h : lkOf P T = .mp) : ∃ k e, P.underlying T = some (.map k e) := by
  unfold lkOf at h; split at h <;> first | exact ⟨_, _, by assumption⟩ | (cases h; done) | (split at h <;> cases h)
theorem lk_arr {T : TypeId} {n : Nat} (h : lkOf P T = .arr n) : (∃ e, P.underlying T = some (.array n e)) ∨ ∃ t e, P.underlying T = some (.pointer t) ∧ P.underlying t = some (.array n e) := by
  unfold lkOf at h
  split at h <;> first | (cases h; done) | skip
  · rename_i hT; cases h; exact .inl ⟨_, hT⟩
  · rename_i t hT
    split at h
    · rename_i ht; cases h; exact .inr ⟨t, _, hT, ht⟩
    · cases h
theorem ck_ints {s d : TypeId} {k : IntKind} (h : ckOf P s d = .ints k) : ∃ j, P.underlying s = some (.int j) ∧ P.underlying d = some (.int k) := by
  unfold ckOf at h
  split at h <;> first | (cases h; done) | skip
  · rename_i h1 h2; cases h; exact ⟨_, h1, h2⟩
  all_goals (split at h <;> cases h)
theorem ck_str {s d : TypeId} (h : ckOf P s d = .str) : P.underlying s = some .string ∧ P.underlying d = some .string := by
  unfold ckOf at h
  split at h <;> first | (cases h; done) | skip
  · rename_i h1 h2; exact ⟨h1, h2⟩
  all_goals (split at h <;> cases h)
theorem ck_toBytes {s d e : TypeId} (h : ckOf P s d = .toBytes e) : P.underlying s = some .string ∧ P.underlying d = some (.slice e) ∧ P.underlying e = some (.int .u8) := by
  unfold ckOf at h
  split at h <;> first | (cases h; done) | skip
  · rename_i h1 h2
    split at h
    · rename_i h3; cases h; exact ⟨h1, h2, h3⟩
    · cases h
  all_goals (split at h <;> cases h)
theorem ck_toStr {s d : TypeId} (h : ckOf P s d = .toStr) : ∃ e, P.underlying s = some (.slice e) ∧ P.underlying d = some .string ∧ P.underlying e = some (.int .u8) := by
  unfold ckOf at h
  split at h <;> first | (cases h; done) | skip
  · split at h <;> cases h
  · rename_i h1 h2
    split at h
    · rename_i h3; exact ⟨_, h1, h2, h3⟩
    · cases h

/-- What only computes hands a value back, whatever the world. -/
theorem sPure_run {o : Oper} (h : sPure P o ev K) : ∃ v, (∀ w, (execOp ev o).run P w = .ok (.value v) w) ∧ K v := by
  obtain ⟨dst, op, type, pos, after, guard⟩ := o
  have lift : ∀ {s : Sem Value}, (∃ v, gives P s v ∧ K v) → ∃ v, (∀ w, ((do pure (Next.value (← s)) : Sem Next)).run P w = .ok (.value v) w) ∧ K v := fun ⟨v, hv, hk⟩ => ⟨v, fun w => by simp [hv w], hk⟩
  cases op <;> simp only [sPure] at h <;> try (cases h; done)
  case move x => exact ⟨_, fun w => rfl, h⟩
  case assign x => exact ⟨_, fun w => rfl, h⟩
  case pick c a b =>
    obtain ⟨t, hc, hk⟩ := h
    exact ⟨_, fun w => by cases t <;> simp [execOp, asBool, hc], hk⟩
  case build T ps =>
    split at h
    · rename_i fs hT
      split at h
      · rename_i hc
        simp only [Bool.and_eq_true] at hc
        exact lift (pBuild_struct hT hc.1.1 hc.1.2 hc.2 h)
      · cases h
    · rename_i n e hT
      split at h
      · rename_i hc
        simp only [Bool.and_eq_true] at hc
        exact lift (pBuild_array hT hc.1 hc.2 h)
      · cases h
    · cases h
  case nilCheck x =>
    simp only [execOp]
    unfold pNil at h
    split at h
    · rename_i hx; rw [hx]; exact ⟨_, fun w => rfl, h⟩
    · rename_i hx; rw [hx]; exact ⟨_, fun w => rfl, h⟩
    · rename_i hx; rw [hx]; exact ⟨_, fun w => rfl, h⟩
    · rename_i hx; rw [hx]; exact ⟨_, fun w => rfl, h⟩
    · cases h
  case binOp op T x y yT => exact lift (sBin_run h)
  case unOp op T x => exact lift (sUn_run h)
  case convert s d x =>
    split at h
    · rename_i k hc
      obtain ⟨j, h1, h2⟩ := ck_ints hc
      obtain ⟨j', a, hx, hk⟩ := h
      refine lift ⟨_, fun w => ?_, hk⟩
      simp [convert, run_underlying h1, run_underlying h2, hx, Conv.intToInt]
    · rename_i hc
      obtain ⟨h1, h2⟩ := ck_str hc
      obtain ⟨a, hx, hk⟩ := h
      refine lift ⟨_, fun w => ?_, hk⟩
      simp [convert, run_underlying h1, run_underlying h2, hx]
    · cases h
  case makeInterface T x =>
    split at h
    · cases h
    · rename_i d hd hT
      refine lift ⟨_, fun w => ?_, h⟩
      simp only [Instr.makeInterface, Sem.run_bind, run_underlying hT, Result.andThen_ok]
      cases d <;> first | rfl | exact absurd rfl (hd _)
    · cases h
  case makeFunc fn first captured => exact lift ⟨_, fun w => rfl, h⟩
  case slice T x lo hi mx => exact lift (sSlice_run h)
  case fieldAddr T x f => exact lift (sFA_run h)
  case field T x f => exact lift (sField_run h)
  case indexAddr T x i => exact lift (sIA_run h)
  case index T x i => exact lift (sIx_run h)
  case extract t i =>
    obtain ⟨vs, v, hx, hv, hk⟩ := h
    exact lift ⟨_, fun w => by simp [Instr.extract, hx, hv], hk⟩
  case call c =>
    obtain ⟨callee, args, argTypes⟩ := c
    simp only [execOp]
    simp only at h
    split at h
    · split at h
      · rename_i x T h1 h2
        have e1 : args = #[x] := by rw [← Array.toList_inj]; simpa using h1
        have e2 : argTypes = #[T] := by rw [← Array.toList_inj]; simpa using h2
        subst e1; subst e2
        split at h
        · rename_i hl
          obtain ⟨s, hx, hk⟩ := h
          exact ⟨_, fun w => by simp [resolve, invoke, builtin, Builtin.len_, run_underlying (lk_str hl), hx, goInt], hk⟩
        · rename_i hl
          obtain ⟨a, n, c, hx, hk⟩ := h
          obtain ⟨e, he⟩ := lk_sl hl
          exact ⟨_, fun w => by simp [resolve, invoke, builtin, Builtin.len_, run_underlying he, hx, goInt], hk⟩
        · rename_i n hl
          rcases lk_arr hl with ⟨e, he⟩ | ⟨t, e, he, ht⟩
          · exact ⟨_, fun w => by simp [resolve, invoke, builtin, Builtin.len_, run_underlying he, goInt], h⟩
          · exact ⟨_, fun w => by simp [resolve, invoke, builtin, Builtin.len_, run_underlying he, run_underlying ht, goInt], h⟩
        · cases h
      · cases h
    · split at h
      · rename_i x T h1 h2
        have e1 : args = #[x] := by rw [← Array.toList_inj]; simpa using h1
        have e2 : argTypes = #[T] := by rw [← Array.toList_inj]; simpa using h2
        subst e1; subst e2
        split at h
        · rename_i hl
          obtain ⟨a, n, c, hx, hk⟩ := h
          obtain ⟨e, he⟩ := lk_sl hl
          exact ⟨_, fun w => by simp [resolve, invoke, builtin, Builtin.cap_, run_underlying he, hx, goInt], hk⟩
        · cases h
      · cases h
    · split at h
      · rename_i x y h1
        have e1 : args = #[x, y] := by rw [← Array.toList_inj]; simpa using h1
        subst e1
        obtain ⟨k, a, b, hx, hy, hk⟩ := h
        exact ⟨_, fun w => by simp [resolve, invoke, builtin, Builtin.min_, List.foldlM, Builtin.min2, hx, hy], hk⟩
      · cases h
    · split at h
      · rename_i x y h1
        have e1 : args = #[x, y] := by rw [← Array.toList_inj]; simpa using h1
        subst e1
        obtain ⟨k, a, b, hx, hy, hk⟩ := h
        exact ⟨_, fun w => by simp [resolve, invoke, builtin, Builtin.max_, List.foldlM, Builtin.max2, hx, hy], hk⟩
      · cases h
    · cases h
end Go.G
end
section
set_option linter.unusedSimpArgs false
set_option linter.unusedVariables false
namespace Go.G
open Go
variable {P : Program} {ev : Operand → Value}

theorem run_load_some {w : World} {a : Addr} {v : Value} (h : w.cell? a = some v) : (load a).run P w = .ok v w := by simp [h]
theorem loadCells_run {w : World} {a : Addr} {xs : List Value} {n : Nat} (hn : xs.length = n) (h : ∀ i, i < n → w.cell? (a.add i) = xs[i]?) : (loadCells a n).run P w = .ok xs.toArray w := by
  have := run_loadCells_list (P := P) w a xs (fun j v hj => by
    have hl : j < xs.length := by
      rcases Nat.lt_or_ge j xs.length with h' | h'
      · exact h'
      · rw [List.getElem?_eq_none h'] at hj; cases hj
    rw [h j (by omega), hj])
  rwa [hn] at this
theorem loadAt_cell {T : TypeId} {w : World} {a : Addr} {x : Value} (ht : tkOf P T = .cell) (h : w.cell? a = some x) : (Instr.loadAt T (.pointer (some a))).run P w = .ok x w := by
  simp [Instr.loadAt, Instr.sureAddr, loadVar, (tk_cell ht).1, h]
theorem loadAt_agg {T : TypeId} {n : Nat} {w : World} {a : Addr} {xs : List Value} (ht : tkOf P T = .agg n) (hn : xs.length = n) (h : ∀ i, i < n → w.cell? (a.add i) = xs[i]?) :
    (Instr.loadAt T (.pointer (some a))).run P w = .ok (.agg xs.toArray) w := by
  obtain ⟨h1, h2, h3⟩ := tk_agg ht
  simp [Instr.loadAt, Instr.sureAddr, loadVar, h1, run_sizeOf' h3, ← h2, loadCells_run hn h]
/-- What reads hands a value back in every world that meets S. -/
theorem sRead_run {S : World → Prop} {o : Oper} {K : KP} (h : sRead P S o ev K) : ∃ v, (∀ w, S w → (execOp ev o).run P w = .ok (.value v) w) ∧ K v := by
  obtain ⟨dst, op, type, pos, after, guard⟩ := o
  cases op <;> simp only [sRead] at h <;> try (cases h; done)
  case load T x =>
    simp only [execOp]
    split at h
    · rename_i n ht
      obtain ⟨a, xs, hx, hn, hc, hk⟩ := h
      exact ⟨_, fun w hw => by simp [hx, loadAt_agg ht hn (hc w hw)], hk⟩
    · rename_i ht
      obtain ⟨a, x', hx, hc, hk⟩ := h
      exact ⟨_, fun w hw => by simp [hx, loadAt_cell ht (hc w hw)], hk⟩
    · cases h
  case convert s d x =>
    simp only [execOp]
    split at h
    · rename_i hc
      obtain ⟨e, h1, h2, h3⟩ := ck_toStr hc
      obtain ⟨a, n, c, hx, bs, hb, hr, hk⟩ := h
      refine ⟨_, fun w hw => ?_, hk⟩
      cases a with
      | none =>
        have : bs = [] := by
          cases bs with
          | nil => rfl
          | cons b r => obtain ⟨ad, e, _⟩ := hr 0 b rfl; cases e
        subst this
        simp [hx, convert, run_underlying h1, run_underlying h2, run_underlying h3, Conv.bytesToString]
        rfl
      | some ad =>
        have := run_convert_bytes_back (P := P) w s d e ad c bs h1 h3 h2 (fun j hj => by
          obtain ⟨ad', e, hc⟩ := hr j bs[j] (by simp [List.getElem?_eq_getElem hj])
          cases e
          exact hc w hw)
        simp [hx, ← hb, this]
    · cases h
  case lookup T m i ok =>
    obtain ⟨v, hv, hk⟩ := h
    exact ⟨v, fun w hw => by simp [execOp, hv w hw], hk⟩
  case call c =>
    obtain ⟨callee, args, argTypes⟩ := c
    simp only [execOp]
    simp only at h
    split at h
    · split at h
      · rename_i x T h1 h2
        have e1 : args = #[x] := by rw [← Array.toList_inj]; simpa using h1
        have e2 : argTypes = #[T] := by rw [← Array.toList_inj]; simpa using h2
        subst e1; subst e2
        split at h
        · rename_i hl
          obtain ⟨r, n, hx, hr, hk⟩ := h
          obtain ⟨k, e, he⟩ := lk_mp hl
          refine ⟨_, fun w hw => ?_, hk⟩
          obtain ⟨es, cl, hh, hs⟩ := hr w hw
          simp [resolve, invoke, builtin, Builtin.len_, run_underlying he, hx, goInt, getObj, Sem.run, hh, hs]
        · cases h
      · cases h
    · cases h

/-! ### Cells that are written -/
theorem heap_setCell (w : World) (a : Addr) (v : Value) (k : Nat) : (w.setCell a v).heap[k]? = if a.block = k then (w.heap[k]?).map (fun
      | .cells c elem frozen => .cells (if a.spot.isSome then c else c.setIfInBounds a.off v) elem frozen
      | o => o) else w.heap[k]? := by
  unfold World.setCell
  simp only [Array.getElem?_modify]
  rfl
theorem cell?_setCell_isSome {w : World} {a b : Addr} {v : Value} : ((w.setCell a v).cell? b).isSome = (w.cell? b).isSome := by
  unfold World.cell?
  rw [heap_setCell]
  by_cases h : a.block = b.block
  · rw [if_pos h]
    cases hh : w.heap[b.block]? with
    | none => rfl
    | some o =>
      cases o <;> try rfl
      simp only [Option.map_some]
      by_cases h1 : b.spot.isSome = true
      · simp [h1]
      · simp only [h1]
        by_cases h2 : a.spot.isSome = true
        · simp [h2]
        · simp only [h2]
          rw [Bool.eq_iff_iff]
          simp
  · rw [if_neg h]
theorem frozen?_setCell' {w : World} {a b : Addr} {v : Value} : (w.setCell a v).frozen? b = w.frozen? b := by
  unfold World.frozen?
  rw [heap_setCell]
  by_cases h : a.block = b.block
  · rw [if_pos h]
    cases hh : w.heap[b.block]? with
    | none => rfl
    | some o => cases o <;> rfl
  · rw [if_neg h]
theorem run_store_one {w : World} {a : Addr} {v old : Value} (hv : one v = true) (hc : w.cell? a = some old) (hf : w.frozen? a = false) : (store a v).run P w = .ok () (w.setCell a v) := by
  unfold store
  cases v <;> first | (simp [one] at hv; done) | simp [Sem.run, hc, hf]
theorem storeCells_run (a : Addr) : ∀ (xs : List Value) (i : Nat) (w : World), (∀ j v, xs[j]? = some v → (w.cell? (a.add (i + j))).isSome = true ∧ w.frozen? (a.add (i + j)) = false ∧ one v = true) →
    (storeCells a xs i).run P w = .ok () (setCells w a i xs)
  | [], _, _, _ => rfl
  | v :: r, i, w, h => by
    obtain ⟨h1, h2, h3⟩ := h 0 v rfl
    obtain ⟨old, ho⟩ := Option.isSome_iff_exists.1 h1
    simp only [storeCells, Sem.run_bind, run_store_one h3 (by simpa using ho) (by simpa using h2), Result.andThen_ok, setCells]
    refine storeCells_run a r (i + 1) _ (fun j u hj => ?_)
    obtain ⟨g1, g2, g3⟩ := h (j + 1) u (by simpa using hj)
    rw [cell?_setCell_isSome, frozen?_setCell', show i + 1 + j = i + (j + 1) by omega]
    exact ⟨g1, g2, g3⟩
theorem canSet_run {w : World} {a : Addr} {xs : List Value} (h : canSet w a xs) : (storeCells a xs).run P w = .ok () (setCells w a 0 xs) :=
  storeCells_run a xs 0 w (fun j v hj => by
    obtain ⟨⟨old, ho⟩, h2, h3⟩ := h j v hj
    rw [Nat.zero_add]
    exact ⟨by simp [ho], h2, h3⟩)
theorem one_cells {v : Value} (h : one v = true) : v.cells = #[v] := by cases v <;> first | (simp [one] at h; done) | rfl
theorem add_zero (a : Addr) : a.add 0 = a := by simp [Addr.add]
theorem storeAt_cell {T : TypeId} {w : World} {a : Addr} {x old : Value} (ht : tkOf P T = .cell) (hc : w.cell? a = some old) (hf : w.frozen? a = false) (hx : one x = true) :
    (Instr.storeAt T (.pointer (some a)) x).run P w = .ok () (w.setCell a x) := by
  obtain ⟨h1, h2, h3⟩ := tk_cell ht
  simp only [Instr.storeAt, Instr.sureAddr, Sem.run_bind, Sem.run_pure, Result.andThen_ok, storeVar, run_sizeOf' h3, one_cells hx, h2, List.size_toArray, List.length_cons, List.length_nil, Nat.zero_add, ne_eq, not_true, if_false]
  simp only [storeCells, Sem.run_bind, Sem.run_pure, add_zero, run_store_one hx hc hf, Result.andThen_ok]
theorem storeAt_agg {T : TypeId} {n : Nat} {w : World} {a : Addr} {x : Value} (ht : tkOf P T = .agg n) (hn : x.cells.toList.length = n) (hc : canSet w a x.cells.toList) :
    (Instr.storeAt T (.pointer (some a)) x).run P w = .ok () (setCells w a 0 x.cells.toList) := by
  obtain ⟨h1, h2, h3⟩ := tk_agg ht
  have : x.cells.size = n := by simpa using hn
  simp only [Instr.storeAt, Instr.sureAddr, Sem.run_bind, Sem.run_pure, Result.andThen_ok, storeVar, run_sizeOf' h3, this, ← h2, ne_eq, not_true, if_false]
  exact canSet_run hc
theorem range_none {α : Type} (f : Nat → α) : (Array.range 0).map f = #[] := by apply Array.ext'; simp
theorem range_row (zero : List Value) (m : Nat) : ((Array.range (m * zero.length)).map (fun i => zero.toArray[i % zero.toArray.size]!)) = (rowOf zero m).toArray := by
  apply Array.ext'
  simp only [Array.toList_map, Array.toList_range, rowOf, List.size_toArray]
  induction m with
  | zero => simp
  | succ m ih =>
    rw [Nat.succ_mul, List.range_add, List.map_append, ih, List.replicate_succ', List.flatten_append]
    congr 1
    simp only [List.map_map, List.flatten_cons, List.flatten_nil, List.append_nil]
    apply List.ext_getElem
    · simp
    · intro i h1 h2
      simp only [List.getElem_map, List.getElem_range, Function.comp]
      have : (m * zero.length + i) % zero.length = i := by
        rw [Nat.mul_comm, Nat.mul_add_mod, Nat.mod_eq_of_lt (by simpa using h2)]
      rw [this]
      simp [h2]
theorem zeroCells_row (zero : List Value) (m : Nat) : Builtin.zeroCells zero.toArray m = (rowOf zero m).toArray := by
  unfold Builtin.zeroCells
  rw [← range_row]
  simp
theorem firstCells_run {w : World} {size n : Nat} {x : Value} {xs : List Value} (h : reads w size n x xs) : (Builtin.firstCells size n x).run P w = .ok xs.toArray w := by
  unfold reads at h
  split at h
  · rename_i a len c
    obtain ⟨hl, hc⟩ := h
    cases a with
    | none =>
      have : xs = [] := by
        cases xs with
        | nil => rfl
        | cons v r => obtain ⟨ad, e, _⟩ := hc 0 v rfl; cases e
      subst this
      rfl
    | some ad =>
      refine loadCells_run hl (fun i hi => ?_)
      rw [List.getElem?_eq_getElem (by omega)]
      obtain ⟨ad', e, hc'⟩ := hc i xs[i] (List.getElem?_eq_getElem (by omega))
      cases e
      exact hc'
  · rename_i s
    subst h
    simp only [Builtin.firstCells, Sem.run_pure]
    congr 1
    apply Array.ext'
    simp [ByteArray.data_extract]
  · cases h

/-- What a run comes to: a value in a world, or nothing and a world. -/
theorem upon_v {o : Oper} {a : Act} {next : Act → World → Prop} {Q : Exit → Act → World → Prop} {w w' : World} {s : Sem Value} {v : Value}
    (he : execOp a.eval o = (do pure (Next.value (← s)))) (hr : s.run P w = .ok v w') (h : next (a.put o.dst v) w') : o.wp P a w next Q := by
  unfold Oper.wp
  rw [he]
  simp only [Sem.run_bind, hr, Result.andThen_ok, Sem.run_pure]
  exact h
theorem upon_u {o : Oper} {a : Act} {next : Act → World → Prop} {Q : Exit → Act → World → Prop} {w w' : World} {s : Sem Unit}
    (he : execOp a.eval o = (do s; pure Next.skip)) (hr : s.run P w = .ok () w') (h : next (a.put o.dst undef) w') : o.wp P a w next Q := by
  unfold Oper.wp
  rw [he]
  simp only [Sem.run_bind, hr, Result.andThen_ok, Sem.run_pure]
  exact h
theorem callFunc_run {f : FuncId} {args : Array Value} {w : World} (h : ∃ fn, P.funcs[f]? = some fn ∧ fn.body.isSome = true ∧ (fn.name == "runtime.NumGoroutine") = false) :
    (callFunc f args).run P w = .ok (.enter f args) w := by
  obtain ⟨fn, h1, h2, h3⟩ := h
  have h4 : ¬ (fn.body.isNone = true) := by cases hb : fn.body <;> simp_all
  have h5 : ¬ ((fn.name == "runtime.NumGoroutine") = true) := by rw [h3]; simp
  unfold callFunc
  simp only [Sem.run_bind, program, Sem.run, Result.andThen_ok, h1]
  rw [if_neg h5, if_neg h4]
  rfl
theorem pCall_wp {o : Oper} {a : Act} {next : Act → World → Prop} {Q : Exit → Act → World → Prop} {w : World} {f : FuncId} {args : List Value} {X : KX} {K : KV}
    (h : pCall P f args X w K) (he : (execOp a.eval o).run P w = (callFunc f args.toArray).run P w)
    (hn : ∀ v w', K v w' → next (a.put o.dst v) w') (hx : ∀ ch w', X ch w' → Q (.panic ch) a w') : o.wp P a w next Q := by
  rcases h with ⟨h1, h2⟩ | ⟨v, w', hr, hk⟩
  · unfold Oper.wp
    rw [he, callFunc_run h1]
    simp only [Oper.upon]
    exact Calls.mono h2 (fun e w' he => by
      cases e with
      | returned v => exact hn _ _ he
      | panicked ch => exact hx _ _ he
      | outgrown => exact he.elim)
  · unfold Oper.wp
    rw [he, hr]
    exact hn _ _ hk
theorem wrap_in {n : Int} (h0 : 0 ≤ n) (h1 : n ≤ 9223372036854775807) : IntKind.i64.wrap n = n := by
  have h2 : n % 18446744073709551616 = n := Int.emod_eq_of_lt h0 (by omega)
  show (if (true && decide (n % 18446744073709551616 ≥ 9223372036854775808)) = true then n % 18446744073709551616 - 18446744073709551616 else n % 18446744073709551616) = n
  rw [h2, if_neg (by simp; omega)]
theorem askRoom_run {n : Nat} {w : World} : (askRoom n).run P w = .ok () w := by
  unfold askRoom
  split
  · rfl
  · rfl
theorem pMake_run {T e : TypeId} {l c : Value} {w : World} {K : KV} (hT : P.underlying T = some (.slice e)) (hz : hasZero P e = true) (hl : (zeroL P e).length = P.cellsOf e)
    (h : pMake e (P.bytesOf e) (zeroL P e) l c w K) : ∃ v w', (Instr.makeSlice T l c).run P w = .ok v w' ∧ K v w' := by
  obtain ⟨k, k', n, m, rfl, rfl, h0, h1, h2, h3, hk⟩ := h
  obtain ⟨z, hz1, hz2, i, hi⟩ := run_zero hz
  refine ⟨_, _, ?_, hk⟩
  have e1 : IntKind.i64.wrap n = n := wrap_in h0 (by omega)
  have e2 : IntKind.i64.wrap m = m := wrap_in (by omega) h2
  have hb : i.bytes = P.bytesOf e := (bytesOf_eq hi).symm
  have ht : (decide (m < 0) || decide ((P.bytesOf e : Int) * m > 2 ^ 48)) = false := by
    simp only [Bool.or_eq_false_iff, decide_eq_false_iff_not]
    omega
  have hcond : ¬ (((decide (m < 0) || decide ((P.bytesOf e : Int) * m > 2 ^ 48)) = true ∨ n < 0) ∨ n > m) := by
    rw [ht]; simp; omega
  have hzc : z.cells = (zeroL P e).toArray := by rw [← hz2]
  simp only [Instr.makeSlice, Sem.run_bind, run_underlying hT, Result.andThen_ok, asInt, asIntOf, Sem.run_pure, run_typeInfo hi, e1, e2, hb]
  simp only [Bool.or_eq_true, decide_eq_true_eq] at hcond ⊢
  rw [if_neg hcond]
  simp only [Sem.run_bind, Sem.run_pure, askRoom_run, Result.andThen_ok, run_sizeOf hi]
  rw [Sem.run_ite]
  by_cases h4 : m.toNat * P.cellsOf e = 0
  · rw [if_pos h4]
    have hrow : rowOf (zeroL P e) m.toNat = [] := by
      apply List.eq_nil_of_length_eq_zero
      simp [rowOf, hl, h4]
    simp only [Sem.run_pure, Result.andThen_ok, h4, hrow, newRow, Sem.run_bind, range_none]
    rfl
  · rw [if_neg h4]
    have hr := range_row (zeroL P e) m.toNat
    rw [hl] at hr
    simp only [Sem.run_bind, hz1, Result.andThen_ok, Sem.run_pure, hzc, hr, newRow]
    rfl
theorem pBSlice_run {T e : TypeId} {len : Nat} {ps : Array (Nat × Operand)} {w : World} {K : KV} (hT : P.underlying T = some (.slice e)) (hz : hasZero P e = true) (hl : (zeroL P e).length = P.cellsOf e)
    (hs : len * P.cellsOf e ≤ 16777216) (h : pBSlice e len (rowOf (zeroL P e) len) (partsA (P.cellsOf e) ev ps) w K) :
    ∃ v w', (Instr.buildSlice T len (ps.map fun (i, x) => (i, ev x))).run P w = .ok v w' ∧ K v w' := by
  obtain ⟨cs, hc, hk⟩ := h
  obtain ⟨z, hz1, hz2, i, hi⟩ := run_zero hz
  refine ⟨_, _, ?_, hk⟩
  have hf := fill_eq (fun i => some (i * P.cellsOf e, P.cellsOf e)) (ps.toList.map fun p => (p.1, ev p.2)) _ _ _ (by
      simp only [partsA, List.map_map]
      apply List.map_congr_left
      intro p _
      rfl) (by intro p _; rfl) hc
  have hzc : z.cells = (zeroL P e).toArray := by rw [← hz2]
  have hps : (ps.map fun (x : Nat × Operand) => (x.1, ev x.2)).toList = ps.toList.map fun p => (p.1, ev p.2) := by simp
  have hsz : ¬ (len * P.cellsOf e > 2 ^ 24) := by omega
  simp only [Instr.buildSlice, Sem.run_bind, run_underlying hT, Result.andThen_ok, run_sizeOf hi, if_neg hsz, Sem.run_pure]
  rw [Sem.run_ite]
  by_cases h4 : len * P.cellsOf e = 0
  · rw [if_pos h4]
    have hrow : rowOf (zeroL P e) len = [] := by
      apply List.eq_nil_of_length_eq_zero
      simp [rowOf, hl, h4]
    rw [hrow] at hf
    simp only [Sem.run_pure, Result.andThen_ok, h4, hps]
    simp only [range_none, hf, newRow, Sem.run_bind, Sem.run_pure, Result.andThen_ok]
    rfl
  · rw [if_neg h4]
    have hr := range_row (zeroL P e) len
    rw [hl] at hr
    simp only [Sem.run_bind, hz1, Result.andThen_ok, Sem.run_pure, hzc, hr, hps, hf, newRow]
    rfl
end Go.G
end
