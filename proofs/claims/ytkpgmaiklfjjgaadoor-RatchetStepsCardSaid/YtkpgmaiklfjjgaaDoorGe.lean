/-
  What turns the world: append, copy, calls; and all of it as the walk's own word.
-/
import Derived.Test.YtkpgmaiklfjjgaaDoorGd
import Derived.Laws.NewFold
set_option linter.unusedSimpArgs false
set_option linter.unusedVariables false
namespace Go.G
open Go
variable {P : Program} {ev : Operand → Value}

theorem lenOf_run {size n : Nat} {w : World} {x : Value} {xs : List Value} (h : reads w size n x xs) : (Builtin.lenOf x).run P w = .ok (lenV x) w := by
  unfold reads at h
  split at h
  · rfl
  · rfl
  · cases h
theorem cut_appendCap {need old : Nat} {e : TypeId} (t : Nat) (h : need < 2 ^ 63) : need ≤ (Question.appendCap need old e).cut t ∧ (Question.appendCap need old e).cut t < 2 ^ 63 := by
  simp only [Question.cut]
  have : t % (2 ^ 63 - need) < 2 ^ 63 - need := Nat.mod_lt _ (by omega)
  omega
theorem nextslicecap_ge (newLen oldCap : Nat) (h : oldCap < newLen) (hb : newLen ≤ 2 ^ 62 ∨ True) : True := trivial
theorem zero_row_empty {zero : List Value} : rowOf zero 0 = [] := by simp [rowOf]
theorem pApp_run {T T2 e : TypeId} {d2 : TypeDesc} {s x : Value} {w : World} {K : KV} {ty : TypeId} (hT : P.underlying T = some (.slice e)) (hT2 : P.underlying T2 = some d2) (h2 : ∀ k, d2 ≠ .int k)
    (hz : hasZero P e = true) (hl : (zeroL P e).length = P.cellsOf e) (hb : 0 < P.bytesOf e)
    (h : pApp e (P.cellsOf e) (P.bytesOf e) (zeroL P e) s x w K) : ∃ v w', (Builtin.append_ #[T, T2] ty #[s, x]).run P w = .ok v w' ∧ K v w' := by
  obtain ⟨a, n, c, xs, rfl, hr, h3, h4⟩ := h
  obtain ⟨z, hz1, hz2, i, hi⟩ := run_zero hz
  have hzc : z.cells = (zeroL P e).toArray := by rw [← hz2]
  have hbi : i.bytes = P.bytesOf e := (bytesOf_eq hi).symm
  by_cases hle : n + lenV x ≤ c
  · have h3 := h3 hle
    cases a with
    | none =>
      refine ⟨_, _, ?_, h3⟩
      unfold Builtin.append_
      simp only [List.getElem?_toArray, List.getElem?_cons_zero, List.getElem?_cons_succ, Sem.run_bind, run_underlying hT, run_underlying hT2, Result.andThen_ok, run_sizeOf hi, Sem.run_pure]
      simp only [Bool.false_eq_true, if_false, Sem.run_ite, lenOf_run hr, Result.andThen_ok, Sem.run_bind]
      rw [if_pos hle]
      simp only [Bool.not_false, if_true, firstCells_run hr, Result.andThen_ok, Sem.run_pure]
    | some ad =>
      obtain ⟨hc, hk⟩ := h3
      refine ⟨_, _, ?_, hk⟩
      unfold Builtin.append_
      simp only [List.getElem?_toArray, List.getElem?_cons_zero, List.getElem?_cons_succ, Sem.run_bind, run_underlying hT, run_underlying hT2, Result.andThen_ok, run_sizeOf hi, Sem.run_pure]
      simp only [Bool.false_eq_true, if_false, Sem.run_ite, lenOf_run hr, Result.andThen_ok, Sem.run_bind]
      rw [if_pos hle]
      simp only [Bool.not_false, if_true, firstCells_run hr, Result.andThen_ok, Sem.run_pure, canSet_run hc]
  · obtain ⟨h5, old, hold, hk⟩ := h4 (by omega)
    have hnl : ∀ N c : Nat, c < N → N ≤ 2 * Builtin.nextslicecap N c + 1 := by
      intro N c hc
      unfold Builtin.nextslicecap
      split
      · omega
      · split
        · omega
        · have : ∀ r c, c ≤ Builtin.growBy N r c := by
            intro r
            induction r with
            | zero => intro c; exact Nat.le_refl _
            | succ r ih => intro c; unfold Builtin.growBy; split; · exact Nat.le_refl _
                           · exact Nat.le_trans (by omega) (ih _)
          have := this 4 c
          omega
    have hN := hnl (n + lenV x) c (by omega)
    have hN2 : Builtin.nextslicecap (n + lenV x) c ≤ 2 ^ 48 := Nat.le_trans (Nat.le_mul_of_pos_right _ hb) h5
    have hneed : n + lenV x < 2 ^ 63 := by omega
    have hcut := cut_appendCap (old := c) (e := e) (w.tape w.drawn (.appendCap (n + lenV x) c e)) hneed
    refine ⟨_, _, ?_, hk _ hcut.1 hcut.2⟩
    unfold Builtin.append_
    simp only [List.getElem?_toArray, List.getElem?_cons_zero, List.getElem?_cons_succ, Sem.run_bind, run_underlying hT, run_underlying hT2, Result.andThen_ok, run_sizeOf hi, Sem.run_pure]
    have g1 : ¬ (((n + lenV x : Nat) : Int) > IntKind.i64.max ∧ ((false : Bool) = true ∨ P.bytesOf e = 0)) := by
      rintro ⟨_, h | h⟩
      · cases h
      · omega
    have g2 : ¬ (Builtin.nextslicecap (n + lenV x) c * P.bytesOf e > 2 ^ 48) := by omega
    simp only [Bool.false_eq_true, if_false, Sem.run_ite, lenOf_run hr, Result.andThen_ok, Sem.run_bind]
    rw [if_neg hle]
    simp only [run_typeInfo hi, Result.andThen_ok, hbi, Bool.false_eq_true] at g1 ⊢
    rw [if_neg g1]
    rw [if_neg g2]
    have hdraw : (choose (.appendCap (n + lenV x) c e)).run P w = .ok ((Question.appendCap (n + lenV x) c e).cut (w.tape w.drawn (.appendCap (n + lenV x) c e))) w.drew := rfl
    have hold' : reads w.drew (P.cellsOf e) n (.slice a n c) old := hold
    have hr' : reads w.drew (P.cellsOf e) (lenV x) x xs := by
      unfold reads at hr ⊢
      exact hr
    simp only [Sem.run_bind, Sem.run_pure, Result.andThen_ok, hdraw, run_typeInfo hi, askRoom_run, firstCells_run hold', Bool.not_false, if_true,
      firstCells_run hr', hz1, hzc, zeroCells_row, newRow, run_newObj_alloc]
    congr 3
    simp

theorem pAppZ_run {T T2 e : TypeId} {k2 : IntKind} {s x : Value} {w : World} {K : KV} {ty : TypeId} (hT : P.underlying T = some (.slice e)) (hT2 : P.underlying T2 = some (.int k2))
    (hz : hasZero P e = true) (hl : (zeroL P e).length = P.cellsOf e) (hb : 0 < P.bytesOf e)
    (h : pAppZ e (P.cellsOf e) (P.bytesOf e) (zeroL P e) s x w K) : ∃ v w', (Builtin.append_ #[T, T2] ty #[s, x]).run P w = .ok v w' ∧ K v w' := by
  obtain ⟨a, n, c, k, l, m, rfl, rfl, h0, h1, h2, hm, h3, h4⟩ := h
  obtain ⟨z, hz1, hz2, i, hi⟩ := run_zero hz
  have hzc : z.cells = (zeroL P e).toArray := by rw [← hz2]
  have hbi : i.bytes = P.bytesOf e := (bytesOf_eq hi).symm
  have hw : IntKind.i64.wrap l = l := wrap_in h0 h1
  have hneg : ¬ l < 0 := by omega
  have hbig : ¬ (l * (i.bytes : Int) > 2 ^ 48) := by rw [hbi]; omega
  have hai : ∀ w : World, (asInt (Value.int k l)).run P w = .ok l w := fun _ => rfl
  have hnew : ∀ w : World, (if (!true) = true then Sem.run P (Builtin.firstCells (P.cellsOf e) m (Value.int k l)) w else if m * P.cellsOf e = 0 then Result.ok #[] w else (Sem.run P (zeroValue e) w).andThen fun a w' => Result.ok (Builtin.zeroCells a.cells m) w') = .ok (rowOf (zeroL P e) m).toArray w := fun w => by
    rw [if_neg (by simp)]
    by_cases hmz : m * P.cellsOf e = 0
    · rw [if_pos hmz]
      have : (rowOf (zeroL P e) m) = [] := by
        rcases Nat.mul_eq_zero.1 hmz with h | h
        · rw [h]; simp [rowOf]
        · have : zeroL P e = [] := List.length_eq_zero_iff.1 (by omega)
          rw [this]; simp [rowOf]
      rw [this]
    · rw [if_neg hmz]
      simp only [hz1, Result.andThen_ok, hzc, zeroCells_row]
  have hmn : l.toNat = m := hm.symm
  by_cases hle : n + m ≤ c
  · have h3 := h3 hle
    cases a with
    | none =>
      refine ⟨_, _, ?_, h3⟩
      unfold Builtin.append_
      simp only [List.getElem?_toArray, List.getElem?_cons_zero, List.getElem?_cons_succ, Sem.run_bind, run_underlying hT, run_underlying hT2, Result.andThen_ok, run_sizeOf hi, Sem.run_pure]
      simp only [if_true, Sem.run_ite, Sem.run_bind, hai, Sem.run_pure, Result.andThen_ok, hw, hneg, if_false, run_typeInfo hi, hbig, hmn, hle, hnew]
    | some ad =>
      obtain ⟨hc, hk⟩ := h3
      refine ⟨_, _, ?_, hk⟩
      unfold Builtin.append_
      simp only [List.getElem?_toArray, List.getElem?_cons_zero, List.getElem?_cons_succ, Sem.run_bind, run_underlying hT, run_underlying hT2, Result.andThen_ok, run_sizeOf hi, Sem.run_pure]
      simp only [if_true, Sem.run_ite, Sem.run_bind, hai, Sem.run_pure, Result.andThen_ok, hw, hneg, if_false, run_typeInfo hi, hbig, hmn, hle, hnew, canSet_run hc]
  · obtain ⟨h5, old, hold, hk⟩ := h4 (by omega)
    have hnl : ∀ N c : Nat, c < N → N ≤ 2 * Builtin.nextslicecap N c + 1 := by
      intro N c hc
      unfold Builtin.nextslicecap
      split
      · omega
      · split
        · omega
        · have : ∀ r c, c ≤ Builtin.growBy N r c := by
            intro r
            induction r with
            | zero => intro c; exact Nat.le_refl _
            | succ r ih => intro c; unfold Builtin.growBy; split; · exact Nat.le_refl _
                           · exact Nat.le_trans (by omega) (ih _)
          have := this 4 c
          omega
    have hN := hnl (n + m) c (by omega)
    have hN2 : Builtin.nextslicecap (n + m) c ≤ 2 ^ 48 := Nat.le_trans (Nat.le_mul_of_pos_right _ hb) h5
    have hneed : n + m < 2 ^ 63 := by omega
    have hcut := cut_appendCap (old := c) (e := e) (w.tape w.drawn (.appendCap (n + m) c e)) hneed
    refine ⟨_, _, ?_, hk _ hcut.1 hcut.2⟩
    unfold Builtin.append_
    simp only [List.getElem?_toArray, List.getElem?_cons_zero, List.getElem?_cons_succ, Sem.run_bind, run_underlying hT, run_underlying hT2, Result.andThen_ok, run_sizeOf hi, Sem.run_pure]
    have hmax : IntKind.i64.max = 9223372036854775807 := by decide
    have g1 : ¬ (((n + m : Nat) : Int) > IntKind.i64.max) := by rw [hmax]; omega
    have g2 : ¬ (Builtin.nextslicecap (n + m) c * P.bytesOf e > 2 ^ 48) := by omega
    have hdraw : (choose (.appendCap (n + m) c e)).run P w = .ok ((Question.appendCap (n + m) c e).cut (w.tape w.drawn (.appendCap (n + m) c e))) w.drew := rfl
    have hold' : reads w.drew (P.cellsOf e) n (.slice a n c) old := hold
    have hbig2 : ¬ (l * (P.bytesOf e : Int) > 2 ^ 48) := by omega
    simp only [if_true, Sem.run_ite, Sem.run_bind, hai, Sem.run_pure, Result.andThen_ok, hw, hneg, if_false, run_typeInfo hi, hbig2, hmn, hle, hnew, hbi, g1, g2, false_and, hdraw, askRoom_run, firstCells_run hold', hz1, hzc, zeroCells_row, newRow, run_newObj_alloc]
    congr 3
    simp
    intro hmz
    have : (rowOf (zeroL P e) m) = [] := by
      rcases Nat.mul_eq_zero.1 hmz with h | h
      · rw [h]; simp [rowOf]
      · have : zeroL P e = [] := List.length_eq_zero_iff.1 (by omega)
        rw [this]; simp [rowOf]
    rw [this]; rfl
theorem pCopy_run {T T2 e : TypeId} {d x : Value} {w : World} {K : KV} {ty : TypeId} (hT : P.underlying T = some (.slice e)) (hi : hasInfo P e = true)
    (h : pCopy (P.cellsOf e) d x w K) : ∃ v w', (Builtin.copy_ #[T, T2] ty #[d, x]).run P w = .ok v w' ∧ K v w' := by
  obtain ⟨a, n, c, xs, rfl, hr, h3⟩ := h
  have hm : Nat.min (lenV x) n = min (lenV x) n := rfl
  have hr0 : (Builtin.lenOf x).run P w = .ok (lenV x) w := lenOf_run hr
  cases a with
  | none =>
    refine ⟨_, _, ?_, h3⟩
    unfold Builtin.copy_
    simp only [List.getElem?_toArray, List.getElem?_cons_zero, List.getElem?_cons_succ, Sem.run_bind, run_underlying hT, Result.andThen_ok, run_sizeOf' (hasInfo_some hi), Sem.run_pure, hr0, hm, firstCells_run hr]
    rfl
  | some ad =>
    obtain ⟨hc, hk⟩ := h3
    refine ⟨_, _, ?_, hk⟩
    unfold Builtin.copy_
    simp only [List.getElem?_toArray, List.getElem?_cons_zero, List.getElem?_cons_succ, Sem.run_bind, run_underlying hT, Result.andThen_ok, run_sizeOf' (hasInfo_some hi), Sem.run_pure, hr0, hm, firstCells_run hr, canSet_run hc]
    rfl
theorem pBytesOf_run {s d e : TypeId} {x : Value} {w : World} {K : KV} (h1 : P.underlying s = some .string) (h2 : P.underlying d = some (.slice e)) (h3 : P.underlying e = some (.int .u8))
    (h : pBytesOf e x w K) : ∃ v w', (convert s d x).run P w = .ok v w' ∧ K v w' := by
  obtain ⟨b, rfl, hk⟩ := h
  have hr := run_bytes_of_string (P := P) w s d e b h1 h2 h3
  have hcap : b.size ≤ grownCap w b.size 0 e := by
    unfold grownCap
    simp only [Question.cut]
    omega
  refine ⟨_, _, hr, ?_⟩
  have hs : (bytesRow b (grownCap w b.size 0 e)).size = grownCap w b.size 0 e := by
    simp only [bytesRow, Array.size_append, Array.size_map, Array.size_replicate]
    have : b.data.size = b.size := rfl
    omega
  rw [hs]
  exact hk _ hcap
theorem toList_two {α : Type} {as : Array α} {x y : α} (h : as.toList = [x, y]) : as = #[x, y] := by rw [← Array.toList_inj]; simpa using h
set_option maxHeartbeats 2000000 in
/-- What turns the world, as the walk's own word. -/
theorem sWorld_wp {o : Oper} {a : Act} {next : Act → World → Prop} {Q : Exit → Act → World → Prop} {w : World} {X : KX} {K : KV} (he : a.eval = ev) (h : sWorld P o ev X w K)
    (hn : ∀ v w', K v w' → next (a.put o.dst v) w') (hx : ∀ ch w', X ch w' → Q (.panic ch) a w') : o.wp P a w next Q := by
  subst he
  obtain ⟨dst, op, type, pos, after, guard⟩ := o
  cases op <;> simp only [sWorld] at h <;> try (cases h; done)
  case alloc T =>
    split at h
    · rename_i hz
      obtain ⟨z, hz1, hz2, i, hi⟩ := run_zero hz
      have hzc : z.cells = (zeroL P T).toArray := by rw [← hz2]
      refine upon_v (s := Instr.alloc T true (.tuple #[])) (by simp only [execOp]) ?_ (hn _ _ h)
      simp only [Instr.alloc, Sem.run_bind, hz1, Result.andThen_ok, newVar, newRow, run_newObj_alloc, Sem.run_pure, hzc]
      rfl
    · cases h
  case box T x => exact upon_v (s := Instr.box T (a.eval x)) (by simp only [execOp]) rfl (hn _ _ h)
  case buildSlice T len ps =>
    split at h
    · rename_i e hT
      split at h
      · rename_i hc
        simp only [Bool.and_eq_true, Nat.ble_eq, Nat.beq_eq] at hc
        obtain ⟨v, w', hr, hk⟩ := pBSlice_run hT hc.1.1 hc.2 hc.1.2 h
        exact upon_v (s := Instr.buildSlice T len (ps.map fun (i, x) => (i, a.eval x))) (by simp only [execOp]) hr (hn _ _ hk)
      · cases h
    · cases h
  case store T p x =>
    split at h
    · rename_i n ht
      obtain ⟨ad, xs, hp, hxs, hl, hc, hk⟩ := h
      subst hxs
      exact upon_u (s := Instr.storeAt T (a.eval p) (a.eval x)) (by simp only [execOp]) (by rw [hp]; exact storeAt_agg ht hl hc) (hn _ _ hk)
    · rename_i ht
      obtain ⟨ad, old, hp, hc, hf, h1, hk⟩ := h
      exact upon_u (s := Instr.storeAt T (a.eval p) (a.eval x)) (by simp only [execOp]) (by rw [hp]; exact storeAt_cell ht hc hf h1) (hn _ _ hk)
    · cases h
  case convert s d x =>
    split at h
    · rename_i e hc
      obtain ⟨h1, h2, h3⟩ := ck_toBytes hc
      obtain ⟨v, w', hr, hk⟩ := pBytesOf_run h1 h2 h3 h
      exact upon_v (s := convert s d (a.eval x)) (by simp only [execOp]) hr (hn _ _ hk)
    · obtain ⟨v, w', hr, hk⟩ := h
      exact upon_v (s := convert s d (a.eval x)) (by simp only [execOp]) hr (hn _ _ hk)
    · cases h
  case makeMap T r =>
    cases r with
    | none => exact upon_v (s := Instr.makeMap T none) (by simp only [execOp, Option.map_none]) rfl (hn _ _ h)
    | some r =>
      obtain ⟨v, w', hr, hk⟩ := h
      exact upon_v (s := Instr.makeMap T (some (a.eval r))) (by simp only [execOp, Option.map_some]) hr (hn _ _ hk)
  case mapUpdate T m k x =>
    obtain ⟨w', hr, hk⟩ := h
    exact upon_u (s := Instr.mapUpdate T (a.eval m) (a.eval k) (a.eval x)) (by simp only [execOp]) hr (hn _ _ hk)
  case insert T m k x =>
    obtain ⟨w', hr, hk⟩ := h
    exact upon_u (s := Instr.mapUpdate T (a.eval m) (a.eval k) (a.eval x)) (by simp only [execOp]) hr (hn _ _ hk)
  case mapEntry T m k =>
    obtain ⟨v, w', hr, hk⟩ := h
    exact upon_v (s := Instr.mapEntry T (a.eval m) (a.eval k)) (by simp only [execOp]) hr (hn _ _ hk)
  case entryStore T m s x =>
    obtain ⟨w', hr, hk⟩ := h
    exact upon_u (s := Instr.entryStore T (a.eval m) (a.eval s) (a.eval x)) (by simp only [execOp]) hr (hn _ _ hk)
  case range T x =>
    obtain ⟨v, w', hr, hk⟩ := h
    exact upon_v (s := Instr.range T (a.eval x)) (by simp only [execOp]) hr (hn _ _ hk)
  case next it s =>
    obtain ⟨v, w', hr, hk⟩ := h
    exact upon_v (s := Instr.next (a.eval it) s type) (by simp only [execOp]) hr (hn _ _ hk)
  case entry it =>
    obtain ⟨v, w', hr, hk⟩ := h
    exact upon_v (s := Instr.entry (a.eval it)) (by simp only [execOp]) hr (hn _ _ hk)
  case typeAssert x T as ok =>
    obtain ⟨v, w', hr, hk⟩ := h
    exact upon_v (s := Instr.typeAssert (a.eval x) T as ok) (by simp only [execOp]) hr (hn _ _ hk)
  case sliceToArrayPointer T x =>
    obtain ⟨v, w', hr, hk⟩ := h
    exact upon_v (s := Instr.arrayAt T (a.eval x)) (by simp only [execOp]) hr (hn _ _ hk)
  case makeSlice T l c =>
    split at h
    · rename_i e hT
      split at h
      · rename_i hc
        simp only [Bool.and_eq_true, Nat.beq_eq] at hc
        obtain ⟨v, w', hr, hk⟩ := pMake_run hT hc.1 hc.2 h
        exact upon_v (s := Instr.makeSlice T (a.eval l) (a.eval c)) (by simp only [execOp]) hr (hn _ _ hk)
      · cases h
    · cases h
  case panic x =>
    obtain ⟨t, v, hp, hk⟩ := h
    unfold Oper.wp
    simp only [execOp, hp, Instr.panic, goPanic, Sem.run_bind, Sem.run_halt, Result.andThen_halt, Oper.upon]
    exact hx _ _ hk
  case call c =>
    obtain ⟨callee, args, argTypes⟩ := c
    simp only at h
    split at h
    · rename_i f
      refine pCall_wp h ?_ hn hx
      have hargs : (List.map a.eval args.toList).toArray = args.map a.eval := by apply Array.ext'; simp
      simp only [execOp, resolve, Act.eval, Deferred.ofValue, Sem.run_bind, Sem.run_pure, Result.andThen_ok, invoke]
      rw [show (List.map (fun x => a.eval x) args.toList).toArray = args.map a.eval from hargs]
      simp
    · rename_i f hnf
      unfold pCallV at h
      split at h
      · rename_i g first cap hf
        refine pCall_wp h ?_ hn hx
        simp only [execOp, resolve, hf, Deferred.ofValue, Sem.run_bind, Sem.run_pure, Result.andThen_ok, invoke]
        congr 2
        apply Array.ext'
        simp
      · cases h
    · rename_i r name
      obtain ⟨f, as, hr, hc⟩ := h
      have hargs : (List.map a.eval args.toList).toArray = args.map a.eval := by apply Array.ext'; simp
      unfold Oper.wp
      have he : (execOp a.eval { dst := dst, op := .call { callee := .invoke r name, args := args, argTypes := argTypes }, type := type, pos := pos, after := after, guard := guard }).run P w = .ok (.enter f as) w := by
        have e1 : (#[a.eval r] ++ args.map a.eval)[0]? = some (a.eval r) := by rw [Array.getElem?_append_left (by simp)]; rfl
        have e2 : (#[a.eval r] ++ args.map a.eval).extract 1 (#[a.eval r] ++ args.map a.eval).size = args.map a.eval := by
          apply Array.ext'
          simp
          exact List.take_of_length_le (by simp)
        simp only [execOp, resolve, Sem.run_bind, Sem.run_pure, Result.andThen_ok, invoke, e1, e2]
        rw [← hr, hargs]
      rw [he]
      simp only [Oper.upon]
      exact Calls.mono hc (fun e w' he => by
        cases e with
        | returned v => exact hn _ _ he
        | panicked ch => exact hx _ _ he
        | outgrown => exact he.elim)
    · obtain ⟨v, w', hr, hk⟩ := h
      have hargs : (List.map a.eval args.toList).toArray = args.map a.eval := by apply Array.ext'; simp
      refine upon_v (s := Builtin.delete_ argTypes type (List.map a.eval args.toList).toArray) ?_ hr (hn _ _ hk)
      rw [hargs]
      simp [execOp, resolve, invoke, builtin]
    · obtain ⟨v, w', hr, hk⟩ := h
      have hargs : (List.map a.eval args.toList).toArray = args.map a.eval := by apply Array.ext'; simp
      refine upon_v (s := Builtin.clear_ argTypes type (List.map a.eval args.toList).toArray) ?_ hr (hn _ _ hk)
      rw [hargs]
      simp [execOp, resolve, invoke, builtin]
    · split at h
      · rename_i s x T T2 h1 h2
        have e1 := toList_two h1
        have e2 := toList_two h2
        subst e1; subst e2
        unfold sApp at h
        split at h
        · rename_i e k2 hT hT2
          split at h
          · rename_i hc
            simp only [Bool.and_eq_true, Nat.beq_eq, Nat.ble_eq] at hc
            obtain ⟨v, w', hr, hk⟩ := pAppZ_run (ty := type) hT hT2 hc.1.1 hc.1.2 hc.2 h
            refine upon_v (s := Builtin.append_ #[T, T2] type #[a.eval s, a.eval x]) ?_ hr (hn _ _ hk)
            simp [execOp, resolve, invoke, builtin]
          · cases h
        · rename_i e d2 hne hT hT2
          split at h
          · rename_i hc
            simp only [Bool.and_eq_true, Nat.beq_eq, Nat.ble_eq] at hc
            obtain ⟨v, w', hr, hk⟩ := pApp_run (ty := type) hT hT2 (fun k e => hne k e) hc.1.1 hc.1.2 hc.2 h
            refine upon_v (s := Builtin.append_ #[T, T2] type #[a.eval s, a.eval x]) ?_ hr (hn _ _ hk)
            simp [execOp, resolve, invoke, builtin]
          · cases h
        · cases h
      · cases h
    · split at h
      · rename_i d x T T2 h1 h2
        have e1 := toList_two h1
        have e2 := toList_two h2
        subst e1; subst e2
        split at h
        · rename_i e hT
          split at h
          · rename_i hi
            obtain ⟨v, w', hr, hk⟩ := pCopy_run (T2 := T2) (ty := type) hT hi h
            refine upon_v (s := Builtin.copy_ #[T, T2] type #[a.eval d, a.eval x]) ?_ hr (hn _ _ hk)
            simp [execOp, resolve, invoke, builtin]
          · cases h
        · cases h
      · cases h
    · cases h
end Go.G
