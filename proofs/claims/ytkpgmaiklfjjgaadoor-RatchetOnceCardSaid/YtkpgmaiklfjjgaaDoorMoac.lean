/-
  What reads, and what turns the world: the run.
  What turns the world: append, copy, calls; and all of it as the walk's own word.
-/
import Derived.Test.YtkpgmaiklfjjgaaDoorMoab
import Derived.Laws.IdiomStrings
import Derived.Laws.Cells
import Derived.Laws.NewFold
section
set_option linter.unusedSimpArgs false
set_option linter.unusedVariables false
namespace Go.G
open Go
variable {P : Program} {ev : Operand → Value}

theorem run_load_some {w : World} {a : Addr} {v : Value} (h : w.cell? a = some v) : (load a).run P w = .ok v w := by simp [h]
theorem loadCells_run {w : World} {a : Addr} {xs : List Value} {n : Nat} (hn : xs.length = n) (h : ∀ i, i < n → w.cell? (a.add i) = xs[i]?) : (loadCells a n).run P w = .ok xs.toArray w := by
  have := run_loadCells_list (P := P) w a xs (fun j v hj => by
    have hl : j < xs.length := by
      rcases Nat.lt_or_ge j xs.length with h' | h'
      · exact h'
      · rw [List.getElem?_eq_none h'] at hj; cases hj
    rw [h j (by omega), hj])
  rwa [hn] at this
theorem loadAt_cell {T : TypeId} {w : World} {a : Addr} {x : Value} (ht : tkOf P T = .cell) (h : w.cell? a = some x) : (Instr.loadAt T (.pointer (some a))).run P w = .ok x w := by
  simp [Instr.loadAt, Instr.sureAddr, loadVar, (tk_cell ht).1, h]
theorem loadAt_agg {T : TypeId} {n : Nat} {w : World} {a : Addr} {xs : List Value} (ht : tkOf P T = .agg n) (hn : xs.length = n) (h : ∀ i, i < n → w.cell? (a.add i) = xs[i]?) :
    (Instr.loadAt T (.pointer (some a))).run P w = .ok (.agg xs.toArray) w := by
  obtain ⟨h1, h2, h3⟩ := tk_agg ht
  simp [Instr.loadAt, Instr.sureAddr, loadVar, h1, run_sizeOf' h3, ← h2, loadCells_run hn h]
/-- What reads hands a value back in every world that meets S. -/
theorem sRead_run {S : World → Prop} {o : Oper} {K : KP} (h : sRead P S o ev K) : ∃ v, (∀ w, S w → (execOp ev o).run P w = .ok (.value v) w) ∧ K v := by
  obtain ⟨dst, op, type, pos, after, guard⟩ := o
  cases op <;> simp only [sRead] at h <;> try (cases h; done)
  case load T x =>
    simp only [execOp]
    split at h
    · rename_i n ht
      obtain ⟨a, xs, hx, hn, hc, hk⟩ := h
      exact ⟨_, fun w hw => by simp [hx, loadAt_agg ht hn (hc w hw)], hk⟩
    · rename_i ht
      obtain ⟨a, x', hx, hc, hk⟩ := h
      exact ⟨_, fun w hw => by simp [hx, loadAt_cell ht (hc w hw)], hk⟩
    · cases h
  case convert s d x =>
    simp only [execOp]
    split at h
    · rename_i hc
      obtain ⟨e, h1, h2, h3⟩ := ck_toStr hc
      obtain ⟨a, n, c, hx, bs, hb, hr, hk⟩ := h
      refine ⟨_, fun w hw => ?_, hk⟩
      cases a with
      | none =>
        have : bs = [] := by
          cases bs with
          | nil => rfl
          | cons b r => obtain ⟨ad, e, _⟩ := hr 0 b rfl; cases e
        subst this
        simp [hx, convert, run_underlying h1, run_underlying h2, run_underlying h3, Conv.bytesToString]
        rfl
      | some ad =>
        have := run_convert_bytes_back (P := P) w s d e ad c bs h1 h3 h2 (fun j hj => by
          obtain ⟨ad', e, hc⟩ := hr j bs[j] (by simp [List.getElem?_eq_getElem hj])
          cases e
          exact hc w hw)
        simp [hx, ← hb, this]
    · cases h
  case lookup T m i ok =>
    obtain ⟨v, hv, hk⟩ := h
    exact ⟨v, fun w hw => by simp [execOp, hv w hw], hk⟩
  case call c =>
    obtain ⟨callee, args, argTypes⟩ := c
    simp only [execOp]
    simp only at h
    split at h
    · split at h
      · rename_i x T h1 h2
        have e1 : args = #[x] := by rw [← Array.toList_inj]; simpa using h1
        have e2 : argTypes = #[T] := by rw [← Array.toList_inj]; simpa using h2
        subst e1; subst e2
        split at h
        · rename_i hl
          obtain ⟨r, n, hx, hr, hk⟩ := h
          obtain ⟨k, e, he⟩ := lk_mp hl
          refine ⟨_, fun w hw => ?_, hk⟩
          obtain ⟨es, cl, hh, hs⟩ := hr w hw
          simp [resolve, invoke, builtin, Builtin.len_, run_underlying he, hx, goInt, getObj, Sem.run, hh, hs]
        · cases h
      · cases h
    · cases h

/-! ### Cells that are written -/
theorem heap_setCell (w : World) (a : Addr) (v : Value) (k : Nat) : (w.setCell a v).heap[k]? = if a.block = k then (w.heap[k]?).map (fun
      | .cells c elem frozen => .cells (if a.spot.isSome then c else c.setIfInBounds a.off v) elem frozen
      | o => o) else w.heap[k]? := by
  unfold World.setCell
  simp only [Array.getElem?_modify]
  rfl
theorem cell?_setCell_isSome {w : World} {a b : Addr} {v : Value} : ((w.setCell a v).cell? b).isSome = (w.cell? b).isSome := by
  unfold World.cell?
  rw [heap_setCell]
  by_cases h : a.block = b.block
  · rw [if_pos h]
    cases hh : w.heap[b.block]? with
    | none => rfl
    | some o =>
      cases o <;> try rfl
      simp only [Option.map_some]
      by_cases h1 : b.spot.isSome = true
      · simp [h1]
      · simp only [h1]
        by_cases h2 : a.spot.isSome = true
        · simp [h2]
        · simp only [h2]
          rw [Bool.eq_iff_iff]
          simp
  · rw [if_neg h]
theorem frozen?_setCell' {w : World} {a b : Addr} {v : Value} : (w.setCell a v).frozen? b = w.frozen? b := by
  unfold World.frozen?
  rw [heap_setCell]
  by_cases h : a.block = b.block
  · rw [if_pos h]
    cases hh : w.heap[b.block]? with
    | none => rfl
    | some o => cases o <;> rfl
  · rw [if_neg h]
theorem run_store_one {w : World} {a : Addr} {v old : Value} (hv : one v = true) (hc : w.cell? a = some old) (hf : w.frozen? a = false) : (store a v).run P w = .ok () (w.setCell a v) := by
  unfold store
  cases v <;> first | (simp [one] at hv; done) | simp [Sem.run, hc, hf]
theorem storeCells_run (a : Addr) : ∀ (xs : List Value) (i : Nat) (w : World), (∀ j v, xs[j]? = some v → (w.cell? (a.add (i + j))).isSome = true ∧ w.frozen? (a.add (i + j)) = false ∧ one v = true) →
    (storeCells a xs i).run P w = .ok () (setCells w a i xs)
  | [], _, _, _ => rfl
  | v :: r, i, w, h => by
    obtain ⟨h1, h2, h3⟩ := h 0 v rfl
    obtain ⟨old, ho⟩ := Option.isSome_iff_exists.1 h1
    simp only [storeCells, Sem.run_bind, run_store_one h3 (by simpa using ho) (by simpa using h2), Result.andThen_ok, setCells]
    refine storeCells_run a r (i + 1) _ (fun j u hj => ?_)
    obtain ⟨g1, g2, g3⟩ := h (j + 1) u (by simpa using hj)
    rw [cell?_setCell_isSome, frozen?_setCell', show i + 1 + j = i + (j + 1) by omega]
    exact ⟨g1, g2, g3⟩
theorem canSet_run {w : World} {a : Addr} {xs : List Value} (h : canSet w a xs) : (storeCells a xs).run P w = .ok () (setCells w a 0 xs) :=
  storeCells_run a xs 0 w (fun j v hj => by
    obtain ⟨⟨old, ho⟩, h2, h3⟩ := h j v hj
    rw [Nat.zero_add]
    exact ⟨by simp [ho], h2, h3⟩)
theorem one_cells {v : Value} (h : one v = true) : v.cells = #[v] := by cases v <;> first | (simp [one] at h; done) | rfl
theorem add_zero (a : Addr) : a.add 0 = a := by simp [Addr.add]
theorem storeAt_cell {T : TypeId} {w : World} {a : Addr} {x old : Value} (ht : tkOf P T = .cell) (hc : w.cell? a = some old) (hf : w.frozen? a = false) (hx : one x = true) :
    (Instr.storeAt T (.pointer (some a)) x).run P w = .ok () (w.setCell a x) := by
  obtain ⟨h1, h2, h3⟩ := tk_cell ht
  simp only [Instr.storeAt, Instr.sureAddr, Sem.run_bind, Sem.run_pure, Result.andThen_ok, storeVar, run_sizeOf' h3, one_cells hx, h2, List.size_toArray, List.length_cons, List.length_nil, Nat.zero_add, ne_eq, not_true, if_false]
  simp only [storeCells, Sem.run_bind, Sem.run_pure, add_zero, run_store_one hx hc hf, Result.andThen_ok]
theorem storeAt_agg {T : TypeId} {n : Nat} {w : World} {a : Addr} {x : Value} (ht : tkOf P T = .agg n) (hn : x.cells.toList.length = n) (hc : canSet w a x.cells.toList) :
    (Instr.storeAt T (.pointer (some a)) x).run P w = .ok () (setCells w a 0 x.cells.toList) := by
  obtain ⟨h1, h2, h3⟩ := tk_agg ht
  have : x.cells.size = n := by simpa using hn
  simp only [Instr.storeAt, Instr.sureAddr, Sem.run_bind, Sem.run_pure, Result.andThen_ok, storeVar, run_sizeOf' h3, this, ← h2, ne_eq, not_true, if_false]
  exact canSet_run hc
theorem range_none {α : Type} (f : Nat → α) : (Array.range 0).map f = #[] := by apply Array.ext'; simp
theorem range_row (zero : List Value) (m : Nat) : ((Array.range (m * zero.length)).map (fun i => zero.toArray[i % zero.toArray.size]!)) = (rowOf zero m).toArray := by
  apply Array.ext'
  simp only [Array.toList_map, Array.toList_range, rowOf, List.size_toArray]
  induction m with
  | zero => simp
  | succ m ih =>
    rw [Nat.succ_mul, List.range_add, List.map_append, ih, List.replicate_succ', List.flatten_append]
    congr 1
    simp only [List.map_map, List.flatten_cons, List.flatten_nil, List.append_nil]
    apply List.ext_getElem
    · simp
    · intro i h1 h2
      simp only [List.getElem_map, List.getElem_range, Function.comp]
      have : (m * zero.length + i) % zero.length = i := by
        rw [Nat.mul_comm, Nat.mul_add_mod, Nat.mod_eq_of_lt (by simpa using h2)]
      rw [this]
      simp [h2]
theorem zeroCells_row (zero : List Value) (m : Nat) : Builtin.zeroCells zero.toArray m = (rowOf zero m).toArray := by
  unfold Builtin.zeroCells
  rw [← range_row]
  simp
theorem firstCells_run {w : World} {size n : Nat} {x : Value} {xs : List Value} (h : reads w size n x xs) : (Builtin.firstCells size n x).run P w = .ok xs.toArray w := by
  unfold reads at h
  split at h
  · rename_i a len c
    obtain ⟨hl, hc⟩ := h
    cases a with
    | none =>
      have : xs = [] := by
        cases xs with
        | nil => rfl
        | cons v r => obtain ⟨ad, e, _⟩ := hc 0 v rfl; cases e
      subst this
      rfl
    | some ad =>
      refine loadCells_run hl (fun i hi => ?_)
      rw [List.getElem?_eq_getElem (by omega)]
      obtain ⟨ad', e, hc'⟩ := hc i xs[i] (List.getElem?_eq_getElem (by omega))
      cases e
      exact hc'
  · rename_i s
    subst h
    simp only [Builtin.firstCells, Sem.run_pure]
    congr 1
    apply Array.ext'
    simp [ByteArray.data_extract]
  · cases h

/-- What a run comes to: a value in a world, or nothing and a world. -/
theorem upon_v {o : Oper} {a : Act} {next : Act → World → Prop} {Q : Exit → Act → World → Prop} {w w' : World} {s : Sem Value} {v : Value}
    (he : execOp a.eval o = (do pure (Next.value (← s)))) (hr : s.run P w = .ok v w') (h : next (a.put o.dst v) w') : o.wp P a w next Q := by
  unfold Oper.wp
  rw [he]
  simp only [Sem.run_bind, hr, Result.andThen_ok, Sem.run_pure]
  exact h
theorem upon_u {o : Oper} {a : Act} {next : Act → World → Prop} {Q : Exit → Act → World → Prop} {w w' : World} {s : Sem Unit}
    (he : execOp a.eval o = (do s; pure Next.skip)) (hr : s.run P w = .ok () w') (h : next (a.put o.dst undef) w') : o.wp P a w next Q := by
  unfold Oper.wp
  rw [he]
  simp only [Sem.run_bind, hr, Result.andThen_ok, Sem.run_pure]
  exact h
theorem callFunc_run {f : FuncId} {args : Array Value} {w : World} (h : ∃ fn, P.funcs[f]? = some fn ∧ fn.body.isSome = true ∧ (fn.name == "runtime.NumGoroutine") = false) :
    (callFunc f args).run P w = .ok (.enter f args) w := by
  obtain ⟨fn, h1, h2, h3⟩ := h
  have h4 : ¬ (fn.body.isNone = true) := by cases hb : fn.body <;> simp_all
  have h5 : ¬ ((fn.name == "runtime.NumGoroutine") = true) := by rw [h3]; simp
  unfold callFunc
  simp only [Sem.run_bind, program, Sem.run, Result.andThen_ok, h1]
  rw [if_neg h5, if_neg h4]
  rfl
theorem pCall_wp {o : Oper} {a : Act} {next : Act → World → Prop} {Q : Exit → Act → World → Prop} {w : World} {f : FuncId} {args : List Value} {X : KX} {K : KV}
    (h : pCall P f args X w K) (he : (execOp a.eval o).run P w = (callFunc f args.toArray).run P w)
    (hn : ∀ v w', K v w' → next (a.put o.dst v) w') (hx : ∀ ch w', X ch w' → Q (.panic ch) a w') : o.wp P a w next Q := by
  rcases h with ⟨h1, h2⟩ | ⟨v, w', hr, hk⟩
  · unfold Oper.wp
    rw [he, callFunc_run h1]
    simp only [Oper.upon]
    exact Calls.mono h2 (fun e w' he => by
      cases e with
      | returned v => exact hn _ _ he
      | panicked ch => exact hx _ _ he
      | outgrown => exact he.elim)
  · unfold Oper.wp
    rw [he, hr]
    exact hn _ _ hk
theorem wrap_in {n : Int} (h0 : 0 ≤ n) (h1 : n ≤ 9223372036854775807) : IntKind.i64.wrap n = n := by
  have h2 : n % 18446744073709551616 = n := Int.emod_eq_of_lt h0 (by omega)
  show (if (true && decide (n % 18446744073709551616 ≥ 9223372036854775808)) = true then n % 18446744073709551616 - 18446744073709551616 else n % 18446744073709551616) = n
  rw [h2, if_neg (by simp; omega)]
theorem askRoom_run {n : Nat} {w : World} : (askRoom n).run P w = .ok () w := by
  unfold askRoom
  split
  · rfl
  · rfl
theorem pMake_run {T e : TypeId} {l c : Value} {w : World} {K : KV} (hT : P.underlying T = some (.slice e)) (hz : hasZero P e = true) (hl : (zeroL P e).length = P.cellsOf e)
    (h : pMake e (P.bytesOf e) (zeroL P e) l c w K) : ∃ v w', (Instr.makeSlice T l c).run P w = .ok v w' ∧ K v w' := by
  obtain ⟨k, k', n, m, rfl, rfl, h0, h1, h2, h3, hk⟩ := h
  obtain ⟨z, hz1, hz2, i, hi⟩ := run_zero hz
  refine ⟨_, _, ?_, hk⟩
  have e1 : IntKind.i64.wrap n = n := wrap_in h0 (by omega)
  have e2 : IntKind.i64.wrap m = m := wrap_in (by omega) h2
  have hb : i.bytes = P.bytesOf e := (bytesOf_eq hi).symm
  have ht : (decide (m < 0) || decide ((P.bytesOf e : Int) * m > 2 ^ 48)) = false := by
    simp only [Bool.or_eq_false_iff, decide_eq_false_iff_not]
    omega
  have hcond : ¬ (((decide (m < 0) || decide ((P.bytesOf e : Int) * m > 2 ^ 48)) = true ∨ n < 0) ∨ n > m) := by
    rw [ht]; simp; omega
  have hzc : z.cells = (zeroL P e).toArray := by rw [← hz2]
  simp only [Instr.makeSlice, Sem.run_bind, run_underlying hT, Result.andThen_ok, asInt, asIntOf, Sem.run_pure, run_typeInfo hi, e1, e2, hb]
  simp only [Bool.or_eq_true, decide_eq_true_eq] at hcond ⊢
  rw [if_neg hcond]
  simp only [Sem.run_bind, Sem.run_pure, askRoom_run, Result.andThen_ok, run_sizeOf hi]
  rw [Sem.run_ite]
  by_cases h4 : m.toNat * P.cellsOf e = 0
  · rw [if_pos h4]
    have hrow : rowOf (zeroL P e) m.toNat = [] := by
      apply List.eq_nil_of_length_eq_zero
      simp [rowOf, hl, h4]
    simp only [Sem.run_pure, Result.andThen_ok, h4, hrow, newRow, Sem.run_bind, range_none]
    rfl
  · rw [if_neg h4]
    have hr := range_row (zeroL P e) m.toNat
    rw [hl] at hr
    simp only [Sem.run_bind, hz1, Result.andThen_ok, Sem.run_pure, hzc, hr, newRow]
    rfl
theorem pBSlice_run {T e : TypeId} {len : Nat} {ps : Array (Nat × Operand)} {w : World} {K : KV} (hT : P.underlying T = some (.slice e)) (hz : hasZero P e = true) (hl : (zeroL P e).length = P.cellsOf e)
    (hs : len * P.cellsOf e ≤ 16777216) (h : pBSlice e len (rowOf (zeroL P e) len) (partsA (P.cellsOf e) ev ps) w K) :
    ∃ v w', (Instr.buildSlice T len (ps.map fun (i, x) => (i, ev x))).run P w = .ok v w' ∧ K v w' := by
  obtain ⟨cs, hc, hk⟩ := h
  obtain ⟨z, hz1, hz2, i, hi⟩ := run_zero hz
  refine ⟨_, _, ?_, hk⟩
  have hf := fill_eq (fun i => some (i * P.cellsOf e, P.cellsOf e)) (ps.toList.map fun p => (p.1, ev p.2)) _ _ _ (by
      simp only [partsA, List.map_map]
      apply List.map_congr_left
      intro p _
      rfl) (by intro p _; rfl) hc
  have hzc : z.cells = (zeroL P e).toArray := by rw [← hz2]
  have hps : (ps.map fun (x : Nat × Operand) => (x.1, ev x.2)).toList = ps.toList.map fun p => (p.1, ev p.2) := by simp
  have hsz : ¬ (len * P.cellsOf e > 2 ^ 24) := by omega
  simp only [Instr.buildSlice, Sem.run_bind, run_underlying hT, Result.andThen_ok, run_sizeOf hi, if_neg hsz, Sem.run_pure]
  rw [Sem.run_ite]
  by_cases h4 : len * P.cellsOf e = 0
  · rw [if_pos h4]
    have hrow : rowOf (zeroL P e) len = [] := by
      apply List.eq_nil_of_length_eq_zero
      simp [rowOf, hl, h4]
    rw [hrow] at hf
    simp only [Sem.run_pure, Result.andThen_ok, h4, hps]
    simp only [range_none, hf, newRow, Sem.run_bind, Sem.run_pure, Result.andThen_ok]
    rfl
  · rw [if_neg h4]
    have hr := range_row (zeroL P e) len
    rw [hl] at hr
    simp only [Sem.run_bind, hz1, Result.andThen_ok, Sem.run_pure, hzc, hr, hps, hf, newRow]
    rfl
end Go.G
end
section
set_option linter.unusedSimpArgs false
set_option linter.unusedVariables false
namespace Go.G
open Go
variable {P : Program} {ev : Operand → Value}

theorem lenOf_run {size n : Nat} {w : World} {x : Value} {xs : List Value} (h : reads w size n x xs) : (Builtin.lenOf x).run P w = .ok (lenV x) w := by
  unfold reads at h
  split at h
  · rfl
  · rfl
  · cases h
theorem cut_appendCap {need old : Nat} {e : TypeId} (t : Nat) (h : need < 2 ^ 63) : need ≤ (Question.appendCap need old e).cut t ∧ (Question.appendCap need old e).cut t < 2 ^ 63 := by
  simp only [Question.cut]
  have : t % (2 ^ 63 - need) < 2 ^ 63 - need := Nat.mod_lt _ (by omega)
  omega
theorem nextslicecap_ge (newLen oldCap : Nat) (h : oldCap < newLen) (hb : newLen ≤ 2 ^ 62 ∨ True) : True := trivial
theorem zero_row_empty {zero : List Value} : rowOf zero 0 = [] := by simp [rowOf]
theorem pApp_run {T T2 e : TypeId} {d2 : TypeDesc} {s x : Value} {w : World} {K : KV} {ty : TypeId} (hT : P.underlying T = some (.slice e)) (hT2 : P.underlying T2 = some d2) (h2 : ∀ k, d2 ≠ .int k)
    (hz : hasZero P e = true) (hl : (zeroL P e).length = P.cellsOf e) (hb : 0 < P.bytesOf e)
    (h : pApp e (P.cellsOf e) (P.bytesOf e) (zeroL P e) s x w K) : ∃ v w', (Builtin.append_ #[T, T2] ty #[s, x]).run P w = .ok v w' ∧ K v w' := by
  obtain ⟨a, n, c, xs, rfl, hr, h3, h4⟩ := h
  obtain ⟨z, hz1, hz2, i, hi⟩ := run_zero hz
  have hzc : z.cells = (zeroL P e).toArray := by rw [← hz2]
  have hbi : i.bytes = P.bytesOf e := (bytesOf_eq hi).symm
  by_cases hle : n + lenV x ≤ c
  · have h3 := h3 hle
    cases a with
    | none =>
      refine ⟨_, _, ?_, h3⟩
      unfold Builtin.append_
      simp only [List.getElem?_toArray, List.getElem?_cons_zero, List.getElem?_cons_succ, Sem.run_bind, run_underlying hT, run_underlying hT2, Result.andThen_ok, run_sizeOf hi, Sem.run_pure]
      simp only [Bool.false_eq_true, if_false, Sem.run_ite, lenOf_run hr, Result.andThen_ok, Sem.run_bind]
      rw [if_pos hle]
      simp only [Bool.not_false, if_true, firstCells_run hr, Result.andThen_ok, Sem.run_pure]
    | some ad =>
      obtain ⟨hc, hk⟩ := h3
      refine ⟨_, _, ?_, hk⟩
      unfold Builtin.append_
      simp only [List.getElem?_toArray, List.getElem?_cons_zero, List.getElem?_cons_succ, Sem.run_bind, run_underlying hT, run_underlying hT2, Result.andThen_ok, run_sizeOf hi, Sem.run_pure]
      simp only [Bool.false_eq_true, if_false, Sem.run_ite, lenOf_run hr, Result.andThen_ok, Sem.run_bind]
      rw [if_pos hle]
      simp only [Bool.not_false, if_true, firstCells_run hr, Result.andThen_ok, Sem.run_pure, canSet_run hc]
  · obtain ⟨h5, old, hold, hk⟩ := h4 (by omega)
    have hnl : ∀ N c : Nat, c < N → N ≤ 2 * Builtin.nextslicecap N c + 1 := by
      intro N c hc
      unfold Builtin.nextslicecap
      split
      · omega
      · split
        · omega
        · have : ∀ r c, c ≤ Builtin.growBy N r c := by
            intro r
            induction r with
            | zero => intro c; exact Nat.le_refl _
            | succ r ih => intro c; unfold Builtin.growBy; split; · exact Nat.le_refl _
                           · exact Nat.le_trans (by omega) (ih _)
          have := this 4 c
          omega
    have hN := hnl (n + lenV x) c (by omega)
    have hN2 : Builtin.nextslicecap (n + lenV x) c ≤ 2 ^ 48 := Nat.le_trans (Nat.le_mul_of_pos_right _ hb) h5
    have hneed : n + lenV x < 2 ^ 63 := by omega
    have hcut := cut_appendCap (old := c) (e := e) (w.tape w.drawn (.appendCap (n + lenV x) c e)) hneed
    refine ⟨_, _, ?_, hk _ hcut.1 hcut.2⟩
    unfold Builtin.append_
    simp only [List.getElem?_toArray, List.getElem?_cons_zero, List.getElem?_cons_succ, Sem.run_bind, run_underlying hT, run_underlying hT2, Result.andThen_ok, run_sizeOf hi, Sem.run_pure]
    have g1 : ¬ (((n + lenV x : Nat) : Int) > IntKind.i64.max ∧ ((false : Bool) = true ∨ P.bytesOf e = 0)) := by
      rintro ⟨_, h | h⟩
      · cases h
      · omega
    have g2 : ¬ (Builtin.nextslicecap (n + lenV x) c * P.bytesOf e > 2 ^ 48) := by omega
    simp only [Bool.false_eq_true, if_false, Sem.run_ite, lenOf_run hr, Result.andThen_ok, Sem.run_bind]
    rw [if_neg hle]
    simp only [run_typeInfo hi, Result.andThen_ok, hbi, Bool.false_eq_true] at g1 ⊢
    rw [if_neg g1]
    rw [if_neg g2]
    have hdraw : (choose (.appendCap (n + lenV x) c e)).run P w = .ok ((Question.appendCap (n + lenV x) c e).cut (w.tape w.drawn (.appendCap (n + lenV x) c e))) w.drew := rfl
    have hold' : reads w.drew (P.cellsOf e) n (.slice a n c) old := hold
    have hr' : reads w.drew (P.cellsOf e) (lenV x) x xs := by
      unfold reads at hr ⊢
      exact hr
    simp only [Sem.run_bind, Sem.run_pure, Result.andThen_ok, hdraw, run_typeInfo hi, askRoom_run, firstCells_run hold', Bool.not_false, if_true,
      firstCells_run hr', hz1, hzc, zeroCells_row, newRow, run_newObj_alloc]
    congr 3
    simp

theorem pAppZ_run {T T2 e : TypeId} {k2 : IntKind} {s x : Value} {w : World} {K : KV} {ty : TypeId} (hT : P.underlying T = some (.slice e)) (hT2 : P.underlying T2 = some (.int k2))
    (hz : hasZero P e = true) (hl : (zeroL P e).length = P.cellsOf e) (hb : 0 < P.bytesOf e)
    (h : pAppZ e (P.cellsOf e) (P.bytesOf e) (zeroL P e) s x w K) : ∃ v w', (Builtin.append_ #[T, T2] ty #[s, x]).run P w = .ok v w' ∧ K v w' := by
  obtain ⟨a, n, c, k, l, m, rfl, rfl, h0, h1, h2, hm, h3, h4⟩ := h
  obtain ⟨z, hz1, hz2, i, hi⟩ := run_zero hz
  have hzc : z.cells = (zeroL P e).toArray := by rw [← hz2]
  have hbi : i.bytes = P.bytesOf e := (bytesOf_eq hi).symm
  have hw : IntKind.i64.wrap l = l := wrap_in h0 h1
  have hneg : ¬ l < 0 := by omega
  have hbig : ¬ (l * (i.bytes : Int) > 2 ^ 48) := by rw [hbi]; omega
  have hai : ∀ w : World, (asInt (Value.int k l)).run P w = .ok l w := fun _ => rfl
  have hnew : ∀ w : World, (if (!true) = true then Sem.run P (Builtin.firstCells (P.cellsOf e) m (Value.int k l)) w else if m * P.cellsOf e = 0 then Result.ok #[] w else (Sem.run P (zeroValue e) w).andThen fun a w' => Result.ok (Builtin.zeroCells a.cells m) w') = .ok (rowOf (zeroL P e) m).toArray w := fun w => by
    rw [if_neg (by simp)]
    by_cases hmz : m * P.cellsOf e = 0
    · rw [if_pos hmz]
      have : (rowOf (zeroL P e) m) = [] := by
        rcases Nat.mul_eq_zero.1 hmz with h | h
        · rw [h]; simp [rowOf]
        · have : zeroL P e = [] := List.length_eq_zero_iff.1 (by omega)
          rw [this]; simp [rowOf]
      rw [this]
    · rw [if_neg hmz]
      simp only [hz1, Result.andThen_ok, hzc, zeroCells_row]
  have hmn : l.toNat = m := hm.symm
  by_cases hle : n + m ≤ c
  · have h3 := h3 hle
    cases a with
    | none =>
      refine ⟨_, _, ?_, h3⟩
      unfold Builtin.append_
      simp only [List.getElem?_toArray, List.getElem?_cons_zero, List.getElem?_cons_succ, Sem.run_bind, run_underlying hT, run_underlying hT2, Result.andThen_ok, run_sizeOf hi, Sem.run_pure]
      simp only [if_true, Sem.run_ite, Sem.run_bind, hai, Sem.run_pure, Result.andThen_ok, hw, hneg, if_false, run_typeInfo hi, hbig, hmn, hle, hnew]
    | some ad =>
      obtain ⟨hc, hk⟩ := h3
      refine ⟨_, _, ?_, hk⟩
      unfold Builtin.append_
      simp only [List.getElem?_toArray, List.getElem?_cons_zero, List.getElem?_cons_succ, Sem.run_bind, run_underlying hT, run_underlying hT2, Result.andThen_ok, run_sizeOf hi, Sem.run_pure]
      simp only [if_true, Sem.run_ite, Sem.run_bind, hai, Sem.run_pure, Result.andThen_ok, hw, hneg, if_false, run_typeInfo hi, hbig, hmn, hle, hnew, canSet_run hc]
  · obtain ⟨h5, old, hold, hk⟩ := h4 (by omega)
    have hnl : ∀ N c : Nat, c < N → N ≤ 2 * Builtin.nextslicecap N c + 1 := by
      intro N c hc
      unfold Builtin.nextslicecap
      split
      · omega
      · split
        · omega
        · have : ∀ r c, c ≤ Builtin.growBy N r c := by
            intro r
            induction r with
            | zero => intro c; exact Nat.le_refl _
            | succ r ih => intro c; unfold Builtin.growBy; split; · exact Nat.le_refl _
                           · exact Nat.le_trans (by omega) (ih _)
          have := this 4 c
          omega
    have hN := hnl (n + m) c (by omega)
    have hN2 : Builtin.nextslicecap (n + m) c ≤ 2 ^ 48 := Nat.le_trans (Nat.le_mul_of_pos_right _ hb) h5
    have hneed : n + m < 2 ^ 63 := by omega
    have hcut := cut_appendCap (old := c) (e := e) (w.tape w.drawn (.appendCap (n + m) c e)) hneed
    refine ⟨_, _, ?_, hk _ hcut.1 hcut.2⟩
    unfold Builtin.append_
    simp only [List.getElem?_toArray, List.getElem?_cons_zero, List.getElem?_cons_succ, Sem.run_bind, run_underlying hT, run_underlying hT2, Result.andThen_ok, run_sizeOf hi, Sem.run_pure]
    have hmax : IntKind.i64.max = 9223372036854775807 := by decide
    have g1 : ¬ (((n + m : Nat) : Int) > IntKind.i64.max) := by rw [hmax]; omega
    have g2 : ¬ (Builtin.nextslicecap (n + m) c * P.bytesOf e > 2 ^ 48) := by omega
    have hdraw : (choose (.appendCap (n + m) c e)).run P w = .ok ((Question.appendCap (n + m) c e).cut (w.tape w.drawn (.appendCap (n + m) c e))) w.drew := rfl
    have hold' : reads w.drew (P.cellsOf e) n (.slice a n c) old := hold
    have hbig2 : ¬ (l * (P.bytesOf e : Int) > 2 ^ 48) := by omega
    simp only [if_true, Sem.run_ite, Sem.run_bind, hai, Sem.run_pure, Result.andThen_ok, hw, hneg, if_false, run_typeInfo hi, hbig2, hmn, hle, hnew, hbi, g1, g2, false_and, hdraw, askRoom_run, firstCells_run hold', hz1, hzc, zeroCells_row, newRow, run_newObj_alloc]
    congr 3
    simp
    intro hmz
    have : (rowOf (zeroL P e) m) = [] := by
      rcases Nat.mul_eq_zero.1 hmz with h | h
      · rw [h]; simp [rowOf]
      · have : zeroL P e = [] := List.length_eq_zero_iff.1 (by omega)
        rw [this]; simp [rowOf]
    rw [this]; rfl
theorem pCopy_run {T T2 e : TypeId} {d x : Value} {w : World} {K : KV} {ty : TypeId} (hT : P.underlying T = some (.slice e)) (hi : hasInfo P e = true)
    (h : pCopy (P.cellsOf e) d x w K) : ∃ v w', (Builtin.copy_ #[T, T2] ty #[d, x]).run P w = .ok v w' ∧ K v w' := by
  obtain ⟨a, n, c, xs, rfl, hr, h3⟩ := h
  have hm : Nat.min (lenV x) n = min (lenV x) n := rfl
  have hr0 : (Builtin.lenOf x).run P w = .ok (lenV x) w := lenOf_run hr
  cases a with
  | none =>
    refine ⟨_, _, ?_, h3⟩
    unfold Builtin.copy_
    simp only [List.getElem?_toArray, List.getElem?_cons_zero, List.getElem?_cons_succ, Sem.run_bind, run_underlying hT, Result.andThen_ok, run_sizeOf' (hasInfo_some hi), Sem.run_pure, hr0, hm, firstCells_run hr]
    rfl
  | some ad =>
    obtain ⟨hc, hk⟩ := h3
    refine ⟨_, _, ?_, hk⟩
    unfold Builtin.copy_
    simp only [List.getElem?_toArray, List.getElem?_cons_zero, List.getElem?_cons_succ, Sem.run_bind, run_underlying hT, Result.andThen_ok, run_sizeOf' (hasInfo_some hi), Sem.run_pure, hr0, hm, firstCells_run hr, canSet_run hc]
    rfl
theorem pBytesOf_run {s d e : TypeId} {x : Value} {w : World} {K : KV} (h1 : P.underlying s = some .string) (h2 : P.underlying d = some (.slice e)) (h3 : P.underlying e = some (.int .u8))
    (h : pBytesOf e x w K) : ∃ v w', (convert s d x).run P w = .ok v w' ∧ K v w' := by
  obtain ⟨b, rfl, hk⟩ := h
  have hr := run_bytes_of_string (P := P) w s d e b h1 h2 h3
  have hcap : b.size ≤ grownCap w b.size 0 e := by
    unfold grownCap
    simp only [Question.cut]
    omega
  refine ⟨_, _, hr, ?_⟩
  have hs : (bytesRow b (grownCap w b.size 0 e)).size = grownCap w b.size 0 e := by
    simp only [bytesRow, Array.size_append, Array.size_map, Array.size_replicate]
    have : b.data.size = b.size := rfl
    omega
  rw [hs]
  exact hk _ hcap
theorem toList_two {α : Type} {as : Array α} {x y : α} (h : as.toList = [x, y]) : as = #[x, y] := by rw [← Array.toList_inj]; simpa using h
set_option maxHeartbeats 2000000 in
/-- What turns the world, as the walk's own word. -/
theorem sWorld_wp {o : Oper} {a : Act} {next : Act → World → Prop} {Q : Exit → Act → World → Prop} {w : World} {X : KX} {K : KV} (he : a.eval = ev) (h : sWorld P o ev X w K)
    (hn : ∀ v w', K v w' → next (a.put o.dst v) w') (hx : ∀ ch w', X ch w' → Q (.panic ch) a w') : o.wp P a w next Q := by
  subst he
  obtain ⟨dst, op, type, pos, after, guard⟩ := o
  cases op <;> simp only [sWorld] at h <;> try (cases h; done)
  case alloc T =>
    split at h
    · rename_i hz
      obtain ⟨z, hz1, hz2, i, hi⟩ := run_zero hz
      have hzc : z.cells = (zeroL P T).toArray := by rw [← hz2]
      refine upon_v (s := Instr.alloc T true (.tuple #[])) (by simp only [execOp]) ?_ (hn _ _ h)
      simp only [Instr.alloc, Sem.run_bind, hz1, Result.andThen_ok, newVar, newRow, run_newObj_alloc, Sem.run_pure, hzc]
      rfl
    · cases h
  case box T x => exact upon_v (s := Instr.box T (a.eval x)) (by simp only [execOp]) rfl (hn _ _ h)
  case buildSlice T len ps =>
    split at h
    · rename_i e hT
      split at h
      · rename_i hc
        simp only [Bool.and_eq_true, Nat.ble_eq, Nat.beq_eq] at hc
        obtain ⟨v, w', hr, hk⟩ := pBSlice_run hT hc.1.1 hc.2 hc.1.2 h
        exact upon_v (s := Instr.buildSlice T len (ps.map fun (i, x) => (i, a.eval x))) (by simp only [execOp]) hr (hn _ _ hk)
      · cases h
    · cases h
  case store T p x =>
    split at h
    · rename_i n ht
      obtain ⟨ad, xs, hp, hxs, hl, hc, hk⟩ := h
      subst hxs
      exact upon_u (s := Instr.storeAt T (a.eval p) (a.eval x)) (by simp only [execOp]) (by rw [hp]; exact storeAt_agg ht hl hc) (hn _ _ hk)
    · rename_i ht
      obtain ⟨ad, old, hp, hc, hf, h1, hk⟩ := h
      exact upon_u (s := Instr.storeAt T (a.eval p) (a.eval x)) (by simp only [execOp]) (by rw [hp]; exact storeAt_cell ht hc hf h1) (hn _ _ hk)
    · cases h
  case convert s d x =>
    split at h
    · rename_i e hc
      obtain ⟨h1, h2, h3⟩ := ck_toBytes hc
      obtain ⟨v, w', hr, hk⟩ := pBytesOf_run h1 h2 h3 h
      exact upon_v (s := convert s d (a.eval x)) (by simp only [execOp]) hr (hn _ _ hk)
    · obtain ⟨v, w', hr, hk⟩ := h
      exact upon_v (s := convert s d (a.eval x)) (by simp only [execOp]) hr (hn _ _ hk)
    · cases h
  case makeMap T r =>
    cases r with
    | none => exact upon_v (s := Instr.makeMap T none) (by simp only [execOp, Option.map_none]) rfl (hn _ _ h)
    | some r =>
      obtain ⟨v, w', hr, hk⟩ := h
      exact upon_v (s := Instr.makeMap T (some (a.eval r))) (by simp only [execOp, Option.map_some]) hr (hn _ _ hk)
  case mapUpdate T m k x =>
    obtain ⟨w', hr, hk⟩ := h
    exact upon_u (s := Instr.mapUpdate T (a.eval m) (a.eval k) (a.eval x)) (by simp only [execOp]) hr (hn _ _ hk)
  case insert T m k x =>
    obtain ⟨w', hr, hk⟩ := h
    exact upon_u (s := Instr.mapUpdate T (a.eval m) (a.eval k) (a.eval x)) (by simp only [execOp]) hr (hn _ _ hk)
  case mapEntry T m k =>
    obtain ⟨v, w', hr, hk⟩ := h
    exact upon_v (s := Instr.mapEntry T (a.eval m) (a.eval k)) (by simp only [execOp]) hr (hn _ _ hk)
  case entryStore T m s x =>
    obtain ⟨w', hr, hk⟩ := h
    exact upon_u (s := Instr.entryStore T (a.eval m) (a.eval s) (a.eval x)) (by simp only [execOp]) hr (hn _ _ hk)
  case range T x =>
    obtain ⟨v, w', hr, hk⟩ := h
    exact upon_v (s := Instr.range T (a.eval x)) (by simp only [execOp]) hr (hn _ _ hk)
  case next it s =>
    obtain ⟨v, w', hr, hk⟩ := h
    exact upon_v (s := Instr.next (a.eval it) s type) (by simp only [execOp]) hr (hn _ _ hk)
  case entry it =>
    obtain ⟨v, w', hr, hk⟩ := h
    exact upon_v (s := Instr.entry (a.eval it)) (by simp only [execOp]) hr (hn _ _ hk)
  case typeAssert x T as ok =>
    obtain ⟨v, w', hr, hk⟩ := h
    exact upon_v (s := Instr.typeAssert (a.eval x) T as ok) (by simp only [execOp]) hr (hn _ _ hk)
  case sliceToArrayPointer T x =>
    obtain ⟨v, w', hr, hk⟩ := h
    exact upon_v (s := Instr.arrayAt T (a.eval x)) (by simp only [execOp]) hr (hn _ _ hk)
  case makeSlice T l c =>
    split at h
    · rename_i e hT
      split at h
      · rename_i hc
        simp only [Bool.and_eq_true, Nat.beq_eq] at hc
        obtain ⟨v, w', hr, hk⟩ := pMake_run hT hc.1 hc.2 h
        exact upon_v (s := Instr.makeSlice T (a.eval l) (a.eval c)) (by simp only [execOp]) hr (hn _ _ hk)
      · cases h
    · cases h
  case panic x =>
    obtain ⟨t, v, hp, hk⟩ := h
    unfold Oper.wp
    simp only [execOp, hp, Instr.panic, goPanic, Sem.run_bind, Sem.run_halt, Result.andThen_halt, Oper.upon]
    exact hx _ _ hk
  case call c =>
    obtain ⟨callee, args, argTypes⟩ := c
    simp only at h
    split at h
    · rename_i f
      refine pCall_wp h ?_ hn hx
      have hargs : (List.map a.eval args.toList).toArray = args.map a.eval := by apply Array.ext'; simp
      simp only [execOp, resolve, Act.eval, Deferred.ofValue, Sem.run_bind, Sem.run_pure, Result.andThen_ok, invoke]
      rw [show (List.map (fun x => a.eval x) args.toList).toArray = args.map a.eval from hargs]
      simp
    · rename_i f hnf
      unfold pCallV at h
      split at h
      · rename_i g first cap hf
        refine pCall_wp h ?_ hn hx
        simp only [execOp, resolve, hf, Deferred.ofValue, Sem.run_bind, Sem.run_pure, Result.andThen_ok, invoke]
        congr 2
        apply Array.ext'
        simp
      · cases h
    · rename_i r name
      obtain ⟨f, as, hr, hc⟩ := h
      have hargs : (List.map a.eval args.toList).toArray = args.map a.eval := by apply Array.ext'; simp
      unfold Oper.wp
      have he : (execOp a.eval { dst := dst, op := .call { callee := .invoke r name, args := args, argTypes := argTypes }, type := type, pos := pos, after := after, guard := guard }).run P w = .ok (.enter f as) w := by
        have e1 : (#[a.eval r] ++ args.map a.eval)[0]? = some (a.eval r) := by rw [Array.getElem?_append_left (by simp)]; rfl
        have e2 : (#[a.eval r] ++ args.map a.eval).extract 1 (#[a.eval r] ++ args.map a.eval).size = args.map a.eval := by
          apply Array.ext'
          simp
          exact List.take_of_length_le (by simp)
        simp only [execOp, resolve, Sem.run_bind, Sem.run_pure, Result.andThen_ok, invoke, e1, e2]
        rw [← hr, hargs]
      rw [he]
      simp only [Oper.upon]
      exact Calls.mono hc (fun e w' he => by
        cases e with
        | returned v => exact hn _ _ he
        | panicked ch => exact hx _ _ he
        | outgrown => exact he.elim)
    · obtain ⟨v, w', hr, hk⟩ := h
      have hargs : (List.map a.eval args.toList).toArray = args.map a.eval := by apply Array.ext'; simp
      refine upon_v (s := Builtin.delete_ argTypes type (List.map a.eval args.toList).toArray) ?_ hr (hn _ _ hk)
      rw [hargs]
      simp [execOp, resolve, invoke, builtin]
    · obtain ⟨v, w', hr, hk⟩ := h
      have hargs : (List.map a.eval args.toList).toArray = args.map a.eval := by apply Array.ext'; simp
      refine upon_v (s := Builtin.clear_ argTypes type (List.map a.eval args.toList).toArray) ?_ hr (hn _ _ hk)
      rw [hargs]
      simp [execOp, resolve, invoke, builtin]
    · split at h
      · rename_i s x T T2 h1 h2
        have e1 := toList_two h1
        have e2 := toList_two h2
        subst e1; subst e2
        unfold sApp at h
        split at h
        · rename_i e k2 hT hT2
          split at h
          · rename_i hc
            simp only [Bool.and_eq_true, Nat.beq_eq, Nat.ble_eq] at hc
            obtain ⟨v, w', hr, hk⟩ := pAppZ_run (ty := type) hT hT2 hc.1.1 hc.1.2 hc.2 h
            refine upon_v (s := Builtin.append_ #[T, T2] type #[a.eval s, a.eval x]) ?_ hr (hn _ _ hk)
            simp [execOp, resolve, invoke, builtin]
          · cases h
        · rename_i e d2 hne hT hT2
          split at h
          · rename_i hc
            simp only [Bool.and_eq_true, Nat.beq_eq, Nat.ble_eq] at hc
            obtain ⟨v, w', hr, hk⟩ := pApp_run (ty := type) hT hT2 (fun k e => hne k e) hc.1.1 hc.1.2 hc.2 h
            refine upon_v (s := Builtin.append_ #[T, T2] type #[a.eval s, a.eval x]) ?_ hr (hn _ _ hk)
            simp [execOp, resolve, invoke, builtin]
          · cases h
        · cases h
      · cases h
    · split at h
      · rename_i d x T T2 h1 h2
        have e1 := toList_two h1
        have e2 := toList_two h2
        subst e1; subst e2
        split at h
        · rename_i e hT
          split at h
          · rename_i hi
            obtain ⟨v, w', hr, hk⟩ := pCopy_run (T2 := T2) (ty := type) hT hi h
            refine upon_v (s := Builtin.copy_ #[T, T2] type #[a.eval d, a.eval x]) ?_ hr (hn _ _ hk)
            simp [execOp, resolve, invoke, builtin]
          · cases h
        · cases h
      · cases h
    · cases h
end Go.G
end
