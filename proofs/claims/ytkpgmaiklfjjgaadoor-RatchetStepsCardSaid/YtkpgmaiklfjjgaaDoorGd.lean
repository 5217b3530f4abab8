/-
  What reads, and what turns the world: the run.
-/
import Derived.Test.YtkpgmaiklfjjgaaDoorGc
import Derived.Laws.IdiomStrings
import Derived.Laws.Cells
set_option linter.unusedSimpArgs false
set_option linter.unusedVariables false
namespace Go.G
open Go
variable {P : Program} {ev : Operand → Value}

theorem run_load_some {w : World} {a : Addr} {v : Value} (h : w.cell? a = some v) : (load a).run P w = .ok v w := by simp [h]
theorem loadCells_run {w : World} {a : Addr} {xs : List Value} {n : Nat} (hn : xs.length = n) (h : ∀ i, i < n → w.cell? (a.add i) = xs[i]?) : (loadCells a n).run P w = .ok xs.toArray w := by
  have := run_loadCells_list (P := P) w a xs (fun j v hj => by
    have hl : j < xs.length := by
      rcases Nat.lt_or_ge j xs.length with h' | h'
      · exact h'
      · rw [List.getElem?_eq_none h'] at hj; cases hj
    rw [h j (by omega), hj])
  rwa [hn] at this
theorem loadAt_cell {T : TypeId} {w : World} {a : Addr} {x : Value} (ht : tkOf P T = .cell) (h : w.cell? a = some x) : (Instr.loadAt T (.pointer (some a))).run P w = .ok x w := by
  simp [Instr.loadAt, Instr.sureAddr, loadVar, (tk_cell ht).1, h]
theorem loadAt_agg {T : TypeId} {n : Nat} {w : World} {a : Addr} {xs : List Value} (ht : tkOf P T = .agg n) (hn : xs.length = n) (h : ∀ i, i < n → w.cell? (a.add i) = xs[i]?) :
    (Instr.loadAt T (.pointer (some a))).run P w = .ok (.agg xs.toArray) w := by
  obtain ⟨h1, h2, h3⟩ := tk_agg ht
  simp [Instr.loadAt, Instr.sureAddr, loadVar, h1, run_sizeOf' h3, ← h2, loadCells_run hn h]
/-- What reads hands a value back in every world that meets S. -/
theorem sRead_run {S : World → Prop} {o : Oper} {K : KP} (h : sRead P S o ev K) : ∃ v, (∀ w, S w → (execOp ev o).run P w = .ok (.value v) w) ∧ K v := by
  obtain ⟨dst, op, type, pos, after, guard⟩ := o
  cases op <;> simp only [sRead] at h <;> try (cases h; done)
  case load T x =>
    simp only [execOp]
    split at h
    · rename_i n ht
      obtain ⟨a, xs, hx, hn, hc, hk⟩ := h
      exact ⟨_, fun w hw => by simp [hx, loadAt_agg ht hn (hc w hw)], hk⟩
    · rename_i ht
      obtain ⟨a, x', hx, hc, hk⟩ := h
      exact ⟨_, fun w hw => by simp [hx, loadAt_cell ht (hc w hw)], hk⟩
    · cases h
  case convert s d x =>
    simp only [execOp]
    split at h
    · rename_i hc
      obtain ⟨e, h1, h2, h3⟩ := ck_toStr hc
      obtain ⟨a, n, c, hx, bs, hb, hr, hk⟩ := h
      refine ⟨_, fun w hw => ?_, hk⟩
      cases a with
      | none =>
        have : bs = [] := by
          cases bs with
          | nil => rfl
          | cons b r => obtain ⟨ad, e, _⟩ := hr 0 b rfl; cases e
        subst this
        simp [hx, convert, run_underlying h1, run_underlying h2, run_underlying h3, Conv.bytesToString]
        rfl
      | some ad =>
        have := run_convert_bytes_back (P := P) w s d e ad c bs h1 h3 h2 (fun j hj => by
          obtain ⟨ad', e, hc⟩ := hr j bs[j] (by simp [List.getElem?_eq_getElem hj])
          cases e
          exact hc w hw)
        simp [hx, ← hb, this]
    · cases h
  case lookup T m i ok =>
    obtain ⟨v, hv, hk⟩ := h
    exact ⟨v, fun w hw => by simp [execOp, hv w hw], hk⟩
  case call c =>
    obtain ⟨callee, args, argTypes⟩ := c
    simp only [execOp]
    simp only at h
    split at h
    · split at h
      · rename_i x T h1 h2
        have e1 : args = #[x] := by rw [← Array.toList_inj]; simpa using h1
        have e2 : argTypes = #[T] := by rw [← Array.toList_inj]; simpa using h2
        subst e1; subst e2
        split at h
        · rename_i hl
          obtain ⟨r, n, hx, hr, hk⟩ := h
          obtain ⟨k, e, he⟩ := lk_mp hl
          refine ⟨_, fun w hw => ?_, hk⟩
          obtain ⟨es, cl, hh, hs⟩ := hr w hw
          simp [resolve, invoke, builtin, Builtin.len_, run_underlying he, hx, goInt, getObj, Sem.run, hh, hs]
        · cases h
      · cases h
    · cases h

/-! ### Cells that are written -/
theorem heap_setCell (w : World) (a : Addr) (v : Value) (k : Nat) : (w.setCell a v).heap[k]? = if a.block = k then (w.heap[k]?).map (fun
      | .cells c elem frozen => .cells (if a.spot.isSome then c else c.setIfInBounds a.off v) elem frozen
      | o => o) else w.heap[k]? := by
  unfold World.setCell
  simp only [Array.getElem?_modify]
  rfl
theorem cell?_setCell_isSome {w : World} {a b : Addr} {v : Value} : ((w.setCell a v).cell? b).isSome = (w.cell? b).isSome := by
  unfold World.cell?
  rw [heap_setCell]
  by_cases h : a.block = b.block
  · rw [if_pos h]
    cases hh : w.heap[b.block]? with
    | none => rfl
    | some o =>
      cases o <;> try rfl
      simp only [Option.map_some]
      by_cases h1 : b.spot.isSome = true
      · simp [h1]
      · simp only [h1]
        by_cases h2 : a.spot.isSome = true
        · simp [h2]
        · simp only [h2]
          rw [Bool.eq_iff_iff]
          simp
  · rw [if_neg h]
theorem frozen?_setCell' {w : World} {a b : Addr} {v : Value} : (w.setCell a v).frozen? b = w.frozen? b := by
  unfold World.frozen?
  rw [heap_setCell]
  by_cases h : a.block = b.block
  · rw [if_pos h]
    cases hh : w.heap[b.block]? with
    | none => rfl
    | some o => cases o <;> rfl
  · rw [if_neg h]
theorem run_store_one {w : World} {a : Addr} {v old : Value} (hv : one v = true) (hc : w.cell? a = some old) (hf : w.frozen? a = false) : (store a v).run P w = .ok () (w.setCell a v) := by
  unfold store
  cases v <;> first | (simp [one] at hv; done) | simp [Sem.run, hc, hf]
theorem storeCells_run (a : Addr) : ∀ (xs : List Value) (i : Nat) (w : World), (∀ j v, xs[j]? = some v → (w.cell? (a.add (i + j))).isSome = true ∧ w.frozen? (a.add (i + j)) = false ∧ one v = true) →
    (storeCells a xs i).run P w = .ok () (setCells w a i xs)
  | [], _, _, _ => rfl
  | v :: r, i, w, h => by
    obtain ⟨h1, h2, h3⟩ := h 0 v rfl
    obtain ⟨old, ho⟩ := Option.isSome_iff_exists.1 h1
    simp only [storeCells, Sem.run_bind, run_store_one h3 (by simpa using ho) (by simpa using h2), Result.andThen_ok, setCells]
    refine storeCells_run a r (i + 1) _ (fun j u hj => ?_)
    obtain ⟨g1, g2, g3⟩ := h (j + 1) u (by simpa using hj)
    rw [cell?_setCell_isSome, frozen?_setCell', show i + 1 + j = i + (j + 1) by omega]
    exact ⟨g1, g2, g3⟩
theorem canSet_run {w : World} {a : Addr} {xs : List Value} (h : canSet w a xs) : (storeCells a xs).run P w = .ok () (setCells w a 0 xs) :=
  storeCells_run a xs 0 w (fun j v hj => by
    obtain ⟨⟨old, ho⟩, h2, h3⟩ := h j v hj
    rw [Nat.zero_add]
    exact ⟨by simp [ho], h2, h3⟩)
theorem one_cells {v : Value} (h : one v = true) : v.cells = #[v] := by cases v <;> first | (simp [one] at h; done) | rfl
theorem add_zero (a : Addr) : a.add 0 = a := by simp [Addr.add]
theorem storeAt_cell {T : TypeId} {w : World} {a : Addr} {x old : Value} (ht : tkOf P T = .cell) (hc : w.cell? a = some old) (hf : w.frozen? a = false) (hx : one x = true) :
    (Instr.storeAt T (.pointer (some a)) x).run P w = .ok () (w.setCell a x) := by
  obtain ⟨h1, h2, h3⟩ := tk_cell ht
  simp only [Instr.storeAt, Instr.sureAddr, Sem.run_bind, Sem.run_pure, Result.andThen_ok, storeVar, run_sizeOf' h3, one_cells hx, h2, List.size_toArray, List.length_cons, List.length_nil, Nat.zero_add, ne_eq, not_true, if_false]
  simp only [storeCells, Sem.run_bind, Sem.run_pure, add_zero, run_store_one hx hc hf, Result.andThen_ok]
theorem storeAt_agg {T : TypeId} {n : Nat} {w : World} {a : Addr} {x : Value} (ht : tkOf P T = .agg n) (hn : x.cells.toList.length = n) (hc : canSet w a x.cells.toList) :
    (Instr.storeAt T (.pointer (some a)) x).run P w = .ok () (setCells w a 0 x.cells.toList) := by
  obtain ⟨h1, h2, h3⟩ := tk_agg ht
  have : x.cells.size = n := by simpa using hn
  simp only [Instr.storeAt, Instr.sureAddr, Sem.run_bind, Sem.run_pure, Result.andThen_ok, storeVar, run_sizeOf' h3, this, ← h2, ne_eq, not_true, if_false]
  exact canSet_run hc
theorem range_none {α : Type} (f : Nat → α) : (Array.range 0).map f = #[] := by apply Array.ext'; simp
theorem range_row (zero : List Value) (m : Nat) : ((Array.range (m * zero.length)).map (fun i => zero.toArray[i % zero.toArray.size]!)) = (rowOf zero m).toArray := by
  apply Array.ext'
  simp only [Array.toList_map, Array.toList_range, rowOf, List.size_toArray]
  induction m with
  | zero => simp
  | succ m ih =>
    rw [Nat.succ_mul, List.range_add, List.map_append, ih, List.replicate_succ', List.flatten_append]
    congr 1
    simp only [List.map_map, List.flatten_cons, List.flatten_nil, List.append_nil]
    apply List.ext_getElem
    · simp
    · intro i h1 h2
      simp only [List.getElem_map, List.getElem_range, Function.comp]
      have : (m * zero.length + i) % zero.length = i := by
        rw [Nat.mul_comm, Nat.mul_add_mod, Nat.mod_eq_of_lt (by simpa using h2)]
      rw [this]
      simp [h2]
theorem zeroCells_row (zero : List Value) (m : Nat) : Builtin.zeroCells zero.toArray m = (rowOf zero m).toArray := by
  unfold Builtin.zeroCells
  rw [← range_row]
  simp
theorem firstCells_run {w : World} {size n : Nat} {x : Value} {xs : List Value} (h : reads w size n x xs) : (Builtin.firstCells size n x).run P w = .ok xs.toArray w := by
  unfold reads at h
  split at h
  · rename_i a len c
    obtain ⟨hl, hc⟩ := h
    cases a with
    | none =>
      have : xs = [] := by
        cases xs with
        | nil => rfl
        | cons v r => obtain ⟨ad, e, _⟩ := hc 0 v rfl; cases e
      subst this
      rfl
    | some ad =>
      refine loadCells_run hl (fun i hi => ?_)
      rw [List.getElem?_eq_getElem (by omega)]
      obtain ⟨ad', e, hc'⟩ := hc i xs[i] (List.getElem?_eq_getElem (by omega))
      cases e
      exact hc'
  · rename_i s
    subst h
    simp only [Builtin.firstCells, Sem.run_pure]
    congr 1
    apply Array.ext'
    simp [ByteArray.data_extract]
  · cases h

/-- What a run comes to: a value in a world, or nothing and a world. -/
theorem upon_v {o : Oper} {a : Act} {next : Act → World → Prop} {Q : Exit → Act → World → Prop} {w w' : World} {s : Sem Value} {v : Value}
    (he : execOp a.eval o = (do pure (Next.value (← s)))) (hr : s.run P w = .ok v w') (h : next (a.put o.dst v) w') : o.wp P a w next Q := by
  unfold Oper.wp
  rw [he]
  simp only [Sem.run_bind, hr, Result.andThen_ok, Sem.run_pure]
  exact h
theorem upon_u {o : Oper} {a : Act} {next : Act → World → Prop} {Q : Exit → Act → World → Prop} {w w' : World} {s : Sem Unit}
    (he : execOp a.eval o = (do s; pure Next.skip)) (hr : s.run P w = .ok () w') (h : next (a.put o.dst undef) w') : o.wp P a w next Q := by
  unfold Oper.wp
  rw [he]
  simp only [Sem.run_bind, hr, Result.andThen_ok, Sem.run_pure]
  exact h
theorem callFunc_run {f : FuncId} {args : Array Value} {w : World} (h : ∃ fn, P.funcs[f]? = some fn ∧ fn.body.isSome = true ∧ (fn.name == "runtime.NumGoroutine") = false) :
    (callFunc f args).run P w = .ok (.enter f args) w := by
  obtain ⟨fn, h1, h2, h3⟩ := h
  have h4 : ¬ (fn.body.isNone = true) := by cases hb : fn.body <;> simp_all
  have h5 : ¬ ((fn.name == "runtime.NumGoroutine") = true) := by rw [h3]; simp
  unfold callFunc
  simp only [Sem.run_bind, program, Sem.run, Result.andThen_ok, h1]
  rw [if_neg h5, if_neg h4]
  rfl
theorem pCall_wp {o : Oper} {a : Act} {next : Act → World → Prop} {Q : Exit → Act → World → Prop} {w : World} {f : FuncId} {args : List Value} {X : KX} {K : KV}
    (h : pCall P f args X w K) (he : (execOp a.eval o).run P w = (callFunc f args.toArray).run P w)
    (hn : ∀ v w', K v w' → next (a.put o.dst v) w') (hx : ∀ ch w', X ch w' → Q (.panic ch) a w') : o.wp P a w next Q := by
  rcases h with ⟨h1, h2⟩ | ⟨v, w', hr, hk⟩
  · unfold Oper.wp
    rw [he, callFunc_run h1]
    simp only [Oper.upon]
    exact Calls.mono h2 (fun e w' he => by
      cases e with
      | returned v => exact hn _ _ he
      | panicked ch => exact hx _ _ he
      | outgrown => exact he.elim)
  · unfold Oper.wp
    rw [he, hr]
    exact hn _ _ hk
theorem wrap_in {n : Int} (h0 : 0 ≤ n) (h1 : n ≤ 9223372036854775807) : IntKind.i64.wrap n = n := by
  have h2 : n % 18446744073709551616 = n := Int.emod_eq_of_lt h0 (by omega)
  show (if (true && decide (n % 18446744073709551616 ≥ 9223372036854775808)) = true then n % 18446744073709551616 - 18446744073709551616 else n % 18446744073709551616) = n
  rw [h2, if_neg (by simp; omega)]
theorem askRoom_run {n : Nat} {w : World} : (askRoom n).run P w = .ok () w := by
  unfold askRoom
  split
  · rfl
  · rfl
theorem pMake_run {T e : TypeId} {l c : Value} {w : World} {K : KV} (hT : P.underlying T = some (.slice e)) (hz : hasZero P e = true) (hl : (zeroL P e).length = P.cellsOf e)
    (h : pMake e (P.bytesOf e) (zeroL P e) l c w K) : ∃ v w', (Instr.makeSlice T l c).run P w = .ok v w' ∧ K v w' := by
  obtain ⟨k, k', n, m, rfl, rfl, h0, h1, h2, h3, hk⟩ := h
  obtain ⟨z, hz1, hz2, i, hi⟩ := run_zero hz
  refine ⟨_, _, ?_, hk⟩
  have e1 : IntKind.i64.wrap n = n := wrap_in h0 (by omega)
  have e2 : IntKind.i64.wrap m = m := wrap_in (by omega) h2
  have hb : i.bytes = P.bytesOf e := (bytesOf_eq hi).symm
  have ht : (decide (m < 0) || decide ((P.bytesOf e : Int) * m > 2 ^ 48)) = false := by
    simp only [Bool.or_eq_false_iff, decide_eq_false_iff_not]
    omega
  have hcond : ¬ (((decide (m < 0) || decide ((P.bytesOf e : Int) * m > 2 ^ 48)) = true ∨ n < 0) ∨ n > m) := by
    rw [ht]; simp; omega
  have hzc : z.cells = (zeroL P e).toArray := by rw [← hz2]
  simp only [Instr.makeSlice, Sem.run_bind, run_underlying hT, Result.andThen_ok, asInt, asIntOf, Sem.run_pure, run_typeInfo hi, e1, e2, hb]
  simp only [Bool.or_eq_true, decide_eq_true_eq] at hcond ⊢
  rw [if_neg hcond]
  simp only [Sem.run_bind, Sem.run_pure, askRoom_run, Result.andThen_ok, run_sizeOf hi]
  rw [Sem.run_ite]
  by_cases h4 : m.toNat * P.cellsOf e = 0
  · rw [if_pos h4]
    have hrow : rowOf (zeroL P e) m.toNat = [] := by
      apply List.eq_nil_of_length_eq_zero
      simp [rowOf, hl, h4]
    simp only [Sem.run_pure, Result.andThen_ok, h4, hrow, newRow, Sem.run_bind, range_none]
    rfl
  · rw [if_neg h4]
    have hr := range_row (zeroL P e) m.toNat
    rw [hl] at hr
    simp only [Sem.run_bind, hz1, Result.andThen_ok, Sem.run_pure, hzc, hr, newRow]
    rfl
theorem pBSlice_run {T e : TypeId} {len : Nat} {ps : Array (Nat × Operand)} {w : World} {K : KV} (hT : P.underlying T = some (.slice e)) (hz : hasZero P e = true) (hl : (zeroL P e).length = P.cellsOf e)
    (hs : len * P.cellsOf e ≤ 16777216) (h : pBSlice e len (rowOf (zeroL P e) len) (partsA (P.cellsOf e) ev ps) w K) :
    ∃ v w', (Instr.buildSlice T len (ps.map fun (i, x) => (i, ev x))).run P w = .ok v w' ∧ K v w' := by
  obtain ⟨cs, hc, hk⟩ := h
  obtain ⟨z, hz1, hz2, i, hi⟩ := run_zero hz
  refine ⟨_, _, ?_, hk⟩
  have hf := fill_eq (fun i => some (i * P.cellsOf e, P.cellsOf e)) (ps.toList.map fun p => (p.1, ev p.2)) _ _ _ (by
      simp only [partsA, List.map_map]
      apply List.map_congr_left
      intro p _
      rfl) (by intro p _; rfl) hc
  have hzc : z.cells = (zeroL P e).toArray := by rw [← hz2]
  have hps : (ps.map fun (x : Nat × Operand) => (x.1, ev x.2)).toList = ps.toList.map fun p => (p.1, ev p.2) := by simp
  have hsz : ¬ (len * P.cellsOf e > 2 ^ 24) := by omega
  simp only [Instr.buildSlice, Sem.run_bind, run_underlying hT, Result.andThen_ok, run_sizeOf hi, if_neg hsz, Sem.run_pure]
  rw [Sem.run_ite]
  by_cases h4 : len * P.cellsOf e = 0
  · rw [if_pos h4]
    have hrow : rowOf (zeroL P e) len = [] := by
      apply List.eq_nil_of_length_eq_zero
      simp [rowOf, hl, h4]
    rw [hrow] at hf
    simp only [Sem.run_pure, Result.andThen_ok, h4, hps]
    simp only [range_none, hf, newRow, Sem.run_bind, Sem.run_pure, Result.andThen_ok]
    rfl
  · rw [if_neg h4]
    have hr := range_row (zeroL P e) len
    rw [hl] at hr
    simp only [Sem.run_bind, hz1, Result.andThen_ok, Sem.run_pure, hzc, hr, hps, hf, newRow]
    rfl
end Go.G
