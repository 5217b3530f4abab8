/-
  What turns the world: append, copy, calls; and all of it as the walk's own word.
  Regions: in the order of the text, and in whatever order.
-/
import Derived.Test.YtkpgmaiklfjjgaaMaab
import Derived.Laws.NewFold
section
set_option linter.unusedSimpArgs false
set_option linter.unusedVariables false
namespace Go.G
open Go
variable {P : Program} {ev : Operand → Value}

theorem lenOf_run {size n : Nat} {w : World} {x : Value} {xs : List Value} (h : reads w size n x xs) : (Builtin.lenOf x).run P w = .ok (lenV x) w := by
  unfold reads at h
  split at h
  · rfl
  · rfl
  · cases h
theorem cut_appendCap {need old : Nat} {e : TypeId} (t : Nat) (h : need < 2 ^ 63) : need ≤ (Question.appendCap need old e).cut t ∧ (Question.appendCap need old e).cut t < 2 ^ 63 := by
  simp only [Question.cut]
  have : t % (2 ^ 63 - need) < 2 ^ 63 - need := Nat.mod_lt _ (by omega)
  omega
theorem nextslicecap_ge (newLen oldCap : Nat) (h : oldCap < newLen) (hb : newLen ≤ 2 ^ 62 ∨ True) : True := trivial
theorem zero_row_empty {zero : List Value} : rowOf zero 0 = [] := by simp [rowOf]
theorem pApp_run {T T2 e : TypeId} {d2 : TypeDesc} {s x : Value} {w : World} {K : KV} {ty : TypeId} (hT : P.underlying T = some (.slice e)) (hT2 : P.underlying T2 = some d2) (h2 : ∀ k, d2 ≠ .int k)
    (hz : hasZero P e = true) (hl : (zeroL P e).length = P.cellsOf e) (hb : 0 < P.bytesOf e)
    (h : pApp e (P.cellsOf e) (P.bytesOf e) (zeroL P e) s x w K) : ∃ v w', (Builtin.append_ #[T, T2] ty #[s, x]).run P w = .ok v w' ∧ K v w' := by
  obtain ⟨a, n, c, xs, rfl, hr, h3, h4⟩ := h
  obtain ⟨z, hz1, hz2, i, hi⟩ := run_zero hz
  have hzc : z.cells = (zeroL P e).toArray := by rw [← hz2]
  have hbi : i.bytes = P.bytesOf e := (bytesOf_eq hi).symm
  by_cases hle : n + lenV x ≤ c
  · have h3 := h3 hle
    cases a with
    | none =>
      refine ⟨_, _, ?_, h3⟩
      unfold Builtin.append_
      simp only [List.getElem?_toArray, List.getElem?_cons_zero, List.getElem?_cons_succ, Sem.run_bind, run_underlying hT, run_underlying hT2, Result.andThen_ok, run_sizeOf hi, Sem.run_pure]
      simp only [Bool.false_eq_true, if_false, Sem.run_ite, lenOf_run hr, Result.andThen_ok, Sem.run_bind]
      rw [if_pos hle]
      simp only [Bool.not_false, if_true, firstCells_run hr, Result.andThen_ok, Sem.run_pure]
    | some ad =>
      obtain ⟨hc, hk⟩ := h3
      refine ⟨_, _, ?_, hk⟩
      unfold Builtin.append_
      simp only [List.getElem?_toArray, List.getElem?_cons_zero, List.getElem?_cons_succ, Sem.run_bind, run_underlying hT, run_underlying hT2, Result.andThen_ok, run_sizeOf hi, Sem.run_pure]
      simp only [Bool.false_eq_true, if_false, Sem.run_ite, lenOf_run hr, Result.andThen_ok, Sem.run_bind]
      rw [if_pos hle]
      simp only [Bool.not_false, if_true, firstCells_run hr, Result.andThen_ok, Sem.run_pure, canSet_run hc]
  · obtain ⟨h5, old, hold, hk⟩ := h4 (by omega)
    have hnl : ∀ N c : Nat, c < N → N ≤ 2 * Builtin.nextslicecap N c + 1 := by
      intro N c hc
      unfold Builtin.nextslicecap
      split
      · omega
      · split
        · omega
        · have : ∀ r c, c ≤ Builtin.growBy N r c := by
            intro r
            induction r with
            | zero => intro c; exact Nat.le_refl _
            | succ r ih => intro c; unfold Builtin.growBy; split; · exact Nat.le_refl _
                           · exact Nat.le_trans (by omega) (ih _)
          have := this 4 c
          omega
    have hN := hnl (n + lenV x) c (by omega)
    have hN2 : Builtin.nextslicecap (n + lenV x) c ≤ 2 ^ 48 := Nat.le_trans (Nat.le_mul_of_pos_right _ hb) h5
    have hneed : n + lenV x < 2 ^ 63 := by omega
    have hcut := cut_appendCap (old := c) (e := e) (w.tape w.drawn (.appendCap (n + lenV x) c e)) hneed
    refine ⟨_, _, ?_, hk _ hcut.1 hcut.2⟩
    unfold Builtin.append_
    simp only [List.getElem?_toArray, List.getElem?_cons_zero, List.getElem?_cons_succ, Sem.run_bind, run_underlying hT, run_underlying hT2, Result.andThen_ok, run_sizeOf hi, Sem.run_pure]
    have g1 : ¬ (((n + lenV x : Nat) : Int) > IntKind.i64.max ∧ ((false : Bool) = true ∨ P.bytesOf e = 0)) := by
      rintro ⟨_, h | h⟩
      · cases h
      · omega
    have g2 : ¬ (Builtin.nextslicecap (n + lenV x) c * P.bytesOf e > 2 ^ 48) := by omega
    simp only [Bool.false_eq_true, if_false, Sem.run_ite, lenOf_run hr, Result.andThen_ok, Sem.run_bind]
    rw [if_neg hle]
    simp only [run_typeInfo hi, Result.andThen_ok, hbi, Bool.false_eq_true] at g1 ⊢
    rw [if_neg g1]
    rw [if_neg g2]
    have hdraw : (choose (.appendCap (n + lenV x) c e)).run P w = .ok ((Question.appendCap (n + lenV x) c e).cut (w.tape w.drawn (.appendCap (n + lenV x) c e))) w.drew := rfl
    have hold' : reads w.drew (P.cellsOf e) n (.slice a n c) old := hold
    have hr' : reads w.drew (P.cellsOf e) (lenV x) x xs := by
      unfold reads at hr ⊢
      exact hr
    simp only [Sem.run_bind, Sem.run_pure, Result.andThen_ok, hdraw, run_typeInfo hi, askRoom_run, firstCells_run hold', Bool.not_false, if_true,
      firstCells_run hr', hz1, hzc, zeroCells_row, newRow, run_newObj_alloc]
    congr 3
    simp

theorem pAppZ_run {T T2 e : TypeId} {k2 : IntKind} {s x : Value} {w : World} {K : KV} {ty : TypeId} (hT : P.underlying T = some (.slice e)) (hT2 : P.underlying T2 = some (.int k2))
    (hz : hasZero P e = true) (hl : (zeroL P e).length = P.cellsOf e) (hb : 0 < P.bytesOf e)
    (h : pAppZ e (P.cellsOf e) (P.bytesOf e) (zeroL P e) s x w K) : ∃ v w', (Builtin.append_ #[T, T2] ty #[s, x]).run P w = .ok v w' ∧ K v w' := by
  obtain ⟨a, n, c, k, l, m, rfl, rfl, h0, h1, h2, hm, h3, h4⟩ := h
  obtain ⟨z, hz1, hz2, i, hi⟩ := run_zero hz
  have hzc : z.cells = (zeroL P e).toArray := by rw [← hz2]
  have hbi : i.bytes = P.bytesOf e := (bytesOf_eq hi).symm
  have hw : IntKind.i64.wrap l = l := wrap_in h0 h1
  have hneg : ¬ l < 0 := by omega
  have hbig : ¬ (l * (i.bytes : Int) > 2 ^ 48) := by rw [hbi]; omega
  have hai : ∀ w : World, (asInt (Value.int k l)).run P w = .ok l w := fun _ => rfl
  have hnew : ∀ w : World, (if (!true) = true then Sem.run P (Builtin.firstCells (P.cellsOf e) m (Value.int k l)) w else if m * P.cellsOf e = 0 then Result.ok #[] w else (Sem.run P (zeroValue e) w).andThen fun a w' => Result.ok (Builtin.zeroCells a.cells m) w') = .ok (rowOf (zeroL P e) m).toArray w := fun w => by
    rw [if_neg (by simp)]
    by_cases hmz : m * P.cellsOf e = 0
    · rw [if_pos hmz]
      have : (rowOf (zeroL P e) m) = [] := by
        rcases Nat.mul_eq_zero.1 hmz with h | h
        · rw [h]; simp [rowOf]
        · have : zeroL P e = [] := List.length_eq_zero_iff.1 (by omega)
          rw [this]; simp [rowOf]
      rw [this]
    · rw [if_neg hmz]
      simp only [hz1, Result.andThen_ok, hzc, zeroCells_row]
  have hmn : l.toNat = m := hm.symm
  by_cases hle : n + m ≤ c
  · have h3 := h3 hle
    cases a with
    | none =>
      refine ⟨_, _, ?_, h3⟩
      unfold Builtin.append_
      simp only [List.getElem?_toArray, List.getElem?_cons_zero, List.getElem?_cons_succ, Sem.run_bind, run_underlying hT, run_underlying hT2, Result.andThen_ok, run_sizeOf hi, Sem.run_pure]
      simp only [if_true, Sem.run_ite, Sem.run_bind, hai, Sem.run_pure, Result.andThen_ok, hw, hneg, if_false, run_typeInfo hi, hbig, hmn, hle, hnew]
    | some ad =>
      obtain ⟨hc, hk⟩ := h3
      refine ⟨_, _, ?_, hk⟩
      unfold Builtin.append_
      simp only [List.getElem?_toArray, List.getElem?_cons_zero, List.getElem?_cons_succ, Sem.run_bind, run_underlying hT, run_underlying hT2, Result.andThen_ok, run_sizeOf hi, Sem.run_pure]
      simp only [if_true, Sem.run_ite, Sem.run_bind, hai, Sem.run_pure, Result.andThen_ok, hw, hneg, if_false, run_typeInfo hi, hbig, hmn, hle, hnew, canSet_run hc]
  · obtain ⟨h5, old, hold, hk⟩ := h4 (by omega)
    have hnl : ∀ N c : Nat, c < N → N ≤ 2 * Builtin.nextslicecap N c + 1 := by
      intro N c hc
      unfold Builtin.nextslicecap
      split
      · omega
      · split
        · omega
        · have : ∀ r c, c ≤ Builtin.growBy N r c := by
            intro r
            induction r with
            | zero => intro c; exact Nat.le_refl _
            | succ r ih => intro c; unfold Builtin.growBy; split; · exact Nat.le_refl _
                           · exact Nat.le_trans (by omega) (ih _)
          have := this 4 c
          omega
    have hN := hnl (n + m) c (by omega)
    have hN2 : Builtin.nextslicecap (n + m) c ≤ 2 ^ 48 := Nat.le_trans (Nat.le_mul_of_pos_right _ hb) h5
    have hneed : n + m < 2 ^ 63 := by omega
    have hcut := cut_appendCap (old := c) (e := e) (w.tape w.drawn (.appendCap (n + m) c e)) hneed
    refine ⟨_, _, ?_, hk _ hcut.1 hcut.2⟩
    unfold Builtin.append_
    simp only [List.getElem?_toArray, List.getElem?_cons_zero, List.getElem?_cons_succ, Sem.run_bind, run_underlying hT, run_underlying hT2, Result.andThen_ok, run_sizeOf hi, Sem.run_pure]
    have hmax : IntKind.i64.max = 9223372036854775807 := by decide
    have g1 : ¬ (((n + m : Nat) : Int) > IntKind.i64.max) := by rw [hmax]; omega
    have g2 : ¬ (Builtin.nextslicecap (n + m) c * P.bytesOf e > 2 ^ 48) := by omega
    have hdraw : (choose (.appendCap (n + m) c e)).run P w = .ok ((Question.appendCap (n + m) c e).cut (w.tape w.drawn (.appendCap (n + m) c e))) w.drew := rfl
    have hold' : reads w.drew (P.cellsOf e) n (.slice a n c) old := hold
    have hbig2 : ¬ (l * (P.bytesOf e : Int) > 2 ^ 48) := by omega
    simp only [if_true, Sem.run_ite, Sem.run_bind, hai, Sem.run_pure, Result.andThen_ok, hw, hneg, if_false, run_typeInfo hi, hbig2, hmn, hle, hnew, hbi, g1, g2, false_and, hdraw, askRoom_run, firstCells_run hold', hz1, hzc, zeroCells_row, newRow, run_newObj_alloc]
    congr 3
    simp
    intro hmz
    have : (rowOf (zeroL P e) m) = [] := by
      rcases Nat.mul_eq_zero.1 hmz with h | h
      · rw [h]; simp [rowOf]
      · have : zeroL P e = [] := List.length_eq_zero_iff.1 (by omega)
        rw [this]; simp [rowOf]
    rw [this]; rfl
theorem pCopy_run {T T2 e : TypeId} {d x : Value} {w : World} {K : KV} {ty : TypeId} (hT : P.underlying T = some (.slice e)) (hi : hasInfo P e = true)
    (h : pCopy (P.cellsOf e) d x w K) : ∃ v w', (Builtin.copy_ #[T, T2] ty #[d, x]).run P w = .ok v w' ∧ K v w' := by
  obtain ⟨a, n, c, xs, rfl, hr, h3⟩ := h
  have hm : Nat.min (lenV x) n = min (lenV x) n := rfl
  have hr0 : (Builtin.lenOf x).run P w = .ok (lenV x) w := lenOf_run hr
  cases a with
  | none =>
    refine ⟨_, _, ?_, h3⟩
    unfold Builtin.copy_
    simp only [List.getElem?_toArray, List.getElem?_cons_zero, List.getElem?_cons_succ, Sem.run_bind, run_underlying hT, Result.andThen_ok, run_sizeOf' (hasInfo_some hi), Sem.run_pure, hr0, hm, firstCells_run hr]
    rfl
  | some ad =>
    obtain ⟨hc, hk⟩ := h3
    refine ⟨_, _, ?_, hk⟩
    unfold Builtin.copy_
    simp only [List.getElem?_toArray, List.getElem?_cons_zero, List.getElem?_cons_succ, Sem.run_bind, run_underlying hT, Result.andThen_ok, run_sizeOf' (hasInfo_some hi), Sem.run_pure, hr0, hm, firstCells_run hr, canSet_run hc]
    rfl
theorem pBytesOf_run {s d e : TypeId} {x : Value} {w : World} {K : KV} (h1 : P.underlying s = some .string) (h2 : P.underlying d = some (.slice e)) (h3 : P.underlying e = some (.int .u8))
    (h : pBytesOf e x w K) : ∃ v w', (convert s d x).run P w = .ok v w' ∧ K v w' := by
  obtain ⟨b, rfl, hk⟩ := h
  have hr := run_bytes_of_string (P := P) w s d e b h1 h2 h3
  have hcap : b.size ≤ grownCap w b.size 0 e := by
    unfold grownCap
    simp only [Question.cut]
    omega
  refine ⟨_, _, hr, ?_⟩
  have hs : (bytesRow b (grownCap w b.size 0 e)).size = grownCap w b.size 0 e := by
    simp only [bytesRow, Array.size_append, Array.size_map, Array.size_replicate]
    have : b.data.size = b.size := rfl
    omega
  rw [hs]
  exact hk _ hcap
theorem toList_two {α : Type} {as : Array α} {x y : α} (h : as.toList = [x, y]) : as = #[x, y] := by rw [← Array.toList_inj]; simpa using h
set_option maxHeartbeats 2000000 in
/-- What turns the world, as the walk's own word. -/
theorem sWorld_wp {o : Oper} {a : Act} {next : Act → World → Prop} {Q : Exit → Act → World → Prop} {w : World} {X : KX} {K : KV} (he : a.eval = ev) (h : sWorld P o ev X w K)
    (hn : ∀ v w', K v w' → next (a.put o.dst v) w') (hx : ∀ ch w', X ch w' → Q (.panic ch) a w') : o.wp P a w next Q := by
  subst he
  obtain ⟨dst, op, type, pos, after, guard⟩ := o
  cases op <;> simp only [sWorld] at h <;> try (cases h; done)
  case alloc T =>
    split at h
    · rename_i hz
      obtain ⟨z, hz1, hz2, i, hi⟩ := run_zero hz
      have hzc : z.cells = (zeroL P T).toArray := by rw [← hz2]
      refine upon_v (s := Instr.alloc T true (.tuple #[])) (by simp only [execOp]) ?_ (hn _ _ h)
      simp only [Instr.alloc, Sem.run_bind, hz1, Result.andThen_ok, newVar, newRow, run_newObj_alloc, Sem.run_pure, hzc]
      rfl
    · cases h
  case box T x => exact upon_v (s := Instr.box T (a.eval x)) (by simp only [execOp]) rfl (hn _ _ h)
  case buildSlice T len ps =>
    split at h
    · rename_i e hT
      split at h
      · rename_i hc
        simp only [Bool.and_eq_true, Nat.ble_eq, Nat.beq_eq] at hc
        obtain ⟨v, w', hr, hk⟩ := pBSlice_run hT hc.1.1 hc.2 hc.1.2 h
        exact upon_v (s := Instr.buildSlice T len (ps.map fun (i, x) => (i, a.eval x))) (by simp only [execOp]) hr (hn _ _ hk)
      · cases h
    · cases h
  case store T p x =>
    split at h
    · rename_i n ht
      obtain ⟨ad, xs, hp, hxs, hl, hc, hk⟩ := h
      subst hxs
      exact upon_u (s := Instr.storeAt T (a.eval p) (a.eval x)) (by simp only [execOp]) (by rw [hp]; exact storeAt_agg ht hl hc) (hn _ _ hk)
    · rename_i ht
      obtain ⟨ad, old, hp, hc, hf, h1, hk⟩ := h
      exact upon_u (s := Instr.storeAt T (a.eval p) (a.eval x)) (by simp only [execOp]) (by rw [hp]; exact storeAt_cell ht hc hf h1) (hn _ _ hk)
    · cases h
  case convert s d x =>
    split at h
    · rename_i e hc
      obtain ⟨h1, h2, h3⟩ := ck_toBytes hc
      obtain ⟨v, w', hr, hk⟩ := pBytesOf_run h1 h2 h3 h
      exact upon_v (s := convert s d (a.eval x)) (by simp only [execOp]) hr (hn _ _ hk)
    · obtain ⟨v, w', hr, hk⟩ := h
      exact upon_v (s := convert s d (a.eval x)) (by simp only [execOp]) hr (hn _ _ hk)
    · cases h
  case makeMap T r =>
    cases r with
    | none => exact upon_v (s := Instr.makeMap T none) (by simp only [execOp, Option.map_none]) rfl (hn _ _ h)
    | some r =>
      obtain ⟨v, w', hr, hk⟩ := h
      exact upon_v (s := Instr.makeMap T (some (a.eval r))) (by simp only [execOp, Option.map_some]) hr (hn _ _ hk)
  case mapUpdate T m k x =>
    obtain ⟨w', hr, hk⟩ := h
    exact upon_u (s := Instr.mapUpdate T (a.eval m) (a.eval k) (a.eval x)) (by simp only [execOp]) hr (hn _ _ hk)
  case insert T m k x =>
    obtain ⟨w', hr, hk⟩ := h
    exact upon_u (s := Instr.mapUpdate T (a.eval m) (a.eval k) (a.eval x)) (by simp only [execOp]) hr (hn _ _ hk)
  case mapEntry T m k =>
    obtain ⟨v, w', hr, hk⟩ := h
    exact upon_v (s := Instr.mapEntry T (a.eval m) (a.eval k)) (by simp only [execOp]) hr (hn _ _ hk)
  case entryStore T m s x =>
    obtain ⟨w', hr, hk⟩ := h
    exact upon_u (s := Instr.entryStore T (a.eval m) (a.eval s) (a.eval x)) (by simp only [execOp]) hr (hn _ _ hk)
  case range T x =>
    obtain ⟨v, w', hr, hk⟩ := h
    exact upon_v (s := Instr.range T (a.eval x)) (by simp only [execOp]) hr (hn _ _ hk)
  case next it s =>
    obtain ⟨v, w', hr, hk⟩ := h
    exact upon_v (s := Instr.next (a.eval it) s type) (by simp only [execOp]) hr (hn _ _ hk)
  case entry it =>
    obtain ⟨v, w', hr, hk⟩ := h
    exact upon_v (s := Instr.entry (a.eval it)) (by simp only [execOp]) hr (hn _ _ hk)
  case typeAssert x T as ok =>
    obtain ⟨v, w', hr, hk⟩ := h
    exact upon_v (s := Instr.typeAssert (a.eval x) T as ok) (by simp only [execOp]) hr (hn _ _ hk)
  case sliceToArrayPointer T x =>
    obtain ⟨v, w', hr, hk⟩ := h
    exact upon_v (s := Instr.arrayAt T (a.eval x)) (by simp only [execOp]) hr (hn _ _ hk)
  case makeSlice T l c =>
    split at h
    · rename_i e hT
      split at h
      · rename_i hc
        simp only [Bool.and_eq_true, Nat.beq_eq] at hc
        obtain ⟨v, w', hr, hk⟩ := pMake_run hT hc.1 hc.2 h
        exact upon_v (s := Instr.makeSlice T (a.eval l) (a.eval c)) (by simp only [execOp]) hr (hn _ _ hk)
      · cases h
    · cases h
  case panic x =>
    obtain ⟨t, v, hp, hk⟩ := h
    unfold Oper.wp
    simp only [execOp, hp, Instr.panic, goPanic, Sem.run_bind, Sem.run_halt, Result.andThen_halt, Oper.upon]
    exact hx _ _ hk
  case call c =>
    obtain ⟨callee, args, argTypes⟩ := c
    simp only at h
    split at h
    · rename_i f
      refine pCall_wp h ?_ hn hx
      have hargs : (List.map a.eval args.toList).toArray = args.map a.eval := by apply Array.ext'; simp
      simp only [execOp, resolve, Act.eval, Deferred.ofValue, Sem.run_bind, Sem.run_pure, Result.andThen_ok, invoke]
      rw [show (List.map (fun x => a.eval x) args.toList).toArray = args.map a.eval from hargs]
      simp
    · rename_i f hnf
      unfold pCallV at h
      split at h
      · rename_i g first cap hf
        refine pCall_wp h ?_ hn hx
        simp only [execOp, resolve, hf, Deferred.ofValue, Sem.run_bind, Sem.run_pure, Result.andThen_ok, invoke]
        congr 2
        apply Array.ext'
        simp
      · cases h
    · rename_i r name
      obtain ⟨f, as, hr, hc⟩ := h
      have hargs : (List.map a.eval args.toList).toArray = args.map a.eval := by apply Array.ext'; simp
      unfold Oper.wp
      have he : (execOp a.eval { dst := dst, op := .call { callee := .invoke r name, args := args, argTypes := argTypes }, type := type, pos := pos, after := after, guard := guard }).run P w = .ok (.enter f as) w := by
        have e1 : (#[a.eval r] ++ args.map a.eval)[0]? = some (a.eval r) := by rw [Array.getElem?_append_left (by simp)]; rfl
        have e2 : (#[a.eval r] ++ args.map a.eval).extract 1 (#[a.eval r] ++ args.map a.eval).size = args.map a.eval := by
          apply Array.ext'
          simp
          exact List.take_of_length_le (by simp)
        simp only [execOp, resolve, Sem.run_bind, Sem.run_pure, Result.andThen_ok, invoke, e1, e2]
        rw [← hr, hargs]
      rw [he]
      simp only [Oper.upon]
      exact Calls.mono hc (fun e w' he => by
        cases e with
        | returned v => exact hn _ _ he
        | panicked ch => exact hx _ _ he
        | outgrown => exact he.elim)
    · obtain ⟨v, w', hr, hk⟩ := h
      have hargs : (List.map a.eval args.toList).toArray = args.map a.eval := by apply Array.ext'; simp
      refine upon_v (s := Builtin.delete_ argTypes type (List.map a.eval args.toList).toArray) ?_ hr (hn _ _ hk)
      rw [hargs]
      simp [execOp, resolve, invoke, builtin]
    · obtain ⟨v, w', hr, hk⟩ := h
      have hargs : (List.map a.eval args.toList).toArray = args.map a.eval := by apply Array.ext'; simp
      refine upon_v (s := Builtin.clear_ argTypes type (List.map a.eval args.toList).toArray) ?_ hr (hn _ _ hk)
      rw [hargs]
      simp [execOp, resolve, invoke, builtin]
    · split at h
      · rename_i s x T T2 h1 h2
        have e1 := toList_two h1
        have e2 := toList_two h2
        subst e1; subst e2
        unfold sApp at h
        split at h
        · rename_i e k2 hT hT2
          split at h
          · rename_i hc
            simp only [Bool.and_eq_true, Nat.beq_eq, Nat.ble_eq] at hc
            obtain ⟨v, w', hr, hk⟩ := pAppZ_run (ty := type) hT hT2 hc.1.1 hc.1.2 hc.2 h
            refine upon_v (s := Builtin.append_ #[T, T2] type #[a.eval s, a.eval x]) ?_ hr (hn _ _ hk)
            simp [execOp, resolve, invoke, builtin]
          · cases h
        · rename_i e d2 hne hT hT2
          split at h
          · rename_i hc
            simp only [Bool.and_eq_true, Nat.beq_eq, Nat.ble_eq] at hc
            obtain ⟨v, w', hr, hk⟩ := pApp_run (ty := type) hT hT2 (fun k e => hne k e) hc.1.1 hc.1.2 hc.2 h
            refine upon_v (s := Builtin.append_ #[T, T2] type #[a.eval s, a.eval x]) ?_ hr (hn _ _ hk)
            simp [execOp, resolve, invoke, builtin]
          · cases h
        · cases h
      · cases h
    · split at h
      · rename_i d x T T2 h1 h2
        have e1 := toList_two h1
        have e2 := toList_two h2
        subst e1; subst e2
        split at h
        · rename_i e hT
          split at h
          · rename_i hi
            obtain ⟨v, w', hr, hk⟩ := pCopy_run (T2 := T2) (ty := type) hT hi h
            refine upon_v (s := Builtin.copy_ #[T, T2] type #[a.eval d, a.eval x]) ?_ hr (hn _ _ hk)
            simp [execOp, resolve, invoke, builtin]
          · cases h
        · cases h
      · cases h
    · cases h
end Go.G
end
section
set_option linter.unusedSimpArgs false
set_option linter.unusedVariables false
namespace Go.G
open Go
variable {P : Program} {ds : List Deferred}

/-! ### 1. One operation -/
theorem wanted_none {o : Oper} {y : Nat → Option Bool} (h : o.guard = none) : Region.wanted o y = true := by simp [Region.wanted, h]
theorem wanted_some {o : Oper} {ops : Array Oper} {e : List Value} {j : Nat} {want b : Bool} (h : o.guard = some (j, want)) (hv : gval ops j e = .bool b) :
    Region.wanted o (yielded ops e.toArray) = (b == want) := by
  simp only [Region.wanted, h, gval_bool hv]
  cases b <;> cases want <;> rfl
theorem wanted_undef {o : Oper} {ops : Array Oper} {e : List Value} {j : Nat} {want : Bool} (h : o.guard = some (j, want)) (hv : gval ops j e = undef) :
    Region.wanted o (yielded ops e.toArray) = false := by
  simp only [Region.wanted, h, gval_undef hv]
  rfl
theorem stepP_yields {ops : Array Oper} {S : World → Prop} {o : Oper} {e : List Value} {K : KP} (h : stepP P ops S o e K) : ∃ v, K v ∧ YieldsIf P ops S o v ⟨e.toArray, ds⟩ := by
  unfold stepP at h
  have hev : Act.eval ⟨e.toArray, ds⟩ = evl e := eval_eq e ds
  split at h
  · rename_i hg hk
    obtain ⟨v, hr, hK⟩ := sPure_run h
    exact ⟨v, hK, .inl ⟨wanted_none hg, fun w _ => by rw [hev]; exact hr w⟩⟩
  · rename_i hg hk
    obtain ⟨v, hr, hK⟩ := sRead_run h
    exact ⟨v, hK, .inl ⟨wanted_none hg, fun w hw => by rw [hev]; exact hr w hw⟩⟩
  · rename_i j want hg hk
    rcases h with ⟨b, hb, h1, h2⟩ | ⟨hb, h2⟩
    rotate_left
    · exact ⟨undef, h2, .inr ⟨wanted_undef hg hb, rfl⟩⟩
    by_cases hbw : b = want
    · obtain ⟨v, hr, hK⟩ := sPure_run (h1 hbw)
      exact ⟨v, hK, .inl ⟨by rw [wanted_some hg hb, hbw]; simp, fun w _ => by rw [hev]; exact hr w⟩⟩
    · have : b = !want := by cases b <;> cases want <;> simp_all
      exact ⟨undef, h2 this, .inr ⟨by rw [wanted_some hg hb, this]; cases want <;> rfl, rfl⟩⟩
  · rename_i j want hg hk
    rcases h with ⟨b, hb, h1, h2⟩ | ⟨hb, h2⟩
    rotate_left
    · exact ⟨undef, h2, .inr ⟨wanted_undef hg hb, rfl⟩⟩
    by_cases hbw : b = want
    · obtain ⟨v, hr, hK⟩ := sRead_run (h1 hbw)
      exact ⟨v, hK, .inl ⟨by rw [wanted_some hg hb, hbw]; simp, fun w hw => by rw [hev]; exact hr w hw⟩⟩
    · have : b = !want := by cases b <;> cases want <;> simp_all
      exact ⟨undef, h2 this, .inr ⟨by rw [wanted_some hg hb, this]; cases want <;> rfl, rfl⟩⟩
  · cases h
theorem stepP_pure {ops : Array Oper} {S : World → Prop} {o : Oper} {e : List Value} {K : KP} (hk : isRead P o = false) (h : stepP P ops S o e K) : stepP P ops (fun _ => True) o e K := by
  unfold isRead at hk
  unfold stepP at h ⊢
  split at h
  · exact h
  · rename_i h1 h2; rw [h2] at hk; cases hk
  · exact h
  · rename_i h1 h2; rw [h2] at hk; cases hk
  · cases h
theorem stepW_wp {ops : Array Oper} {o : Oper} {e : List Value} {K : KV} {X : KX} {w : World} {next : Act → World → Prop} {Q : Exit → Act → World → Prop} (h : stepW P ops o e X w K)
    (hn : ∀ v w', K v w' → next (Act.put ⟨e.toArray, ds⟩ o.dst v) w') (hx : ∀ ch w', X ch w' → Q (.panic ch) ⟨e.toArray, ds⟩ w') :
    (Region.wanted o (yielded ops e.toArray) = true ∧ o.wp P ⟨e.toArray, ds⟩ w next Q) ∨ (Region.wanted o (yielded ops e.toArray) = false ∧ next (Act.put ⟨e.toArray, ds⟩ o.dst undef) w) := by
  unfold stepW at h
  have hev : Act.eval ⟨e.toArray, ds⟩ = evl e := eval_eq e ds
  split at h
  · rename_i hg
    exact .inl ⟨wanted_none hg, sWorld_wp hev h hn hx⟩
  · rename_i j want hg
    rcases h with ⟨b, hb, h1, h2⟩ | ⟨hb, h2⟩
    rotate_left
    · exact .inr ⟨wanted_undef hg hb, hn _ _ h2⟩
    by_cases hbw : b = want
    · exact .inl ⟨by rw [wanted_some hg hb, hbw]; simp, sWorld_wp hev (h1 hbw) hn hx⟩
    · have : b = !want := by cases b <;> cases want <;> simp_all
      exact .inr ⟨by rw [wanted_some hg hb, this]; cases want <;> rfl, hn _ _ (h2 this)⟩

/-! ### 2. The order of the text -/
theorem semL_sound {ops : Array Oper} {Q : QE} : ∀ (l : List Oper) (e : List Value) (w : World), semL P ops Q l e w → wpList P ops (liftQ ds Q) l ⟨e.toArray, ds⟩ w
  | [], e, w, h => ⟨rfl, by simpa [semL] using h⟩
  | o :: rest, e, w, h => by
    have pure : stepP P ops (fun w' => w' = w) o e (fun v => semL P ops Q rest (put e o.dst v) w) → wpList P ops (liftQ ds Q) (o :: rest) ⟨e.toArray, ds⟩ w := fun h => by
      obtain ⟨v, hK, hy⟩ := stepP_yields h
      have ih := semL_sound rest _ _ hK
      rw [← put_eq] at ih
      unfold wpList
      rcases hy with ⟨hw, hr⟩ | ⟨hw, rfl⟩
      · rw [if_pos hw]
        refine .inl ?_
        unfold Oper.wp
        rw [hr w rfl]
        exact ih
      · rw [if_neg (by rw [hw]; simp)]
        exact ih
    unfold semL at h
    split at h
    · rcases stepW_wp (next := wpList P ops (liftQ ds Q) rest) (Q := liftQ ds Q) h (fun v w' hk => by rw [put_eq]; exact semL_sound rest _ _ hk) (fun ch w' hx => ⟨rfl, by simpa using hx⟩) with ⟨hw, hh⟩ | ⟨hw, hh⟩
      · unfold wpList
        rw [if_pos hw]
        exact .inl hh
      · unfold wpList
        rw [if_neg (by rw [hw]; simp)]
        exact hh
    · exact pure h
    · exact pure h

/-! ### 3. Whatever order -/
theorem callL_eq (c : Call) : c.operands.toList = (match c.callee with | .value f => [f] | .invoke r _ => [r] | .builtin _ => []) ++ c.args.toList := by
  unfold Call.operands
  cases c.callee <;> simp
theorem opsL_eq (o : Op) (h : ∀ cs b, o ≠ .select cs b) : o.operands.toList = opsL o := by
  cases o
  case select cs b => exact absurd rfl (h _ _)
  case call c => exact callL_eq c
  case go c => exact callL_eq c
  case defer c => exact callL_eq c
  all_goals simp [Op.operands, opsL]
theorem tmpsL_eq (f : Operand → Option Tmp) (h1 : ∀ t, f (.tmp t) = some t) (h2 : ∀ v, f (.const v) = none) (h3 : ∀ v, f (.global v) = none) (h4 : ∀ v, f (.func v) = none) : ∀ l : List Operand, l.filterMap f = tmpsL l
  | [] => rfl
  | x :: r => by cases x <;> simp [tmpsL, ← tmpsL_eq f h1 h2 h3 h4 r, h1, h2, h3, h4]
theorem looksL_eq (ops : Array Oper) (o : Oper) (h : ∀ cs b, o.op ≠ .select cs b) : o.looksAt ops = looksL ops o := by
  unfold Oper.looksAt looksL
  rw [opsL_eq _ h, tmpsL_eq _ (fun _ => rfl) (fun _ => rfl) (fun _ => rfl) (fun _ => rfl)]
  congr 1
  cases o.guard with
  | none => rfl
  | some p =>
    obtain ⟨g, b⟩ := p
    simp only
    cases ops[g]? with
    | none => rfl
    | some x => cases hx : x.dst <;> simp [hx]
theorem memN_iff {a : Nat} : ∀ {l : List Nat}, memN a l = true ↔ a ∈ l
  | [] => by simp [memN]
  | b :: l => by
    simp only [memN, Bool.or_eq_true, Nat.beq_eq, memN_iff (l := l), List.mem_cons]
theorem apartL_apart {ops : Array Oper} {x y : Oper} (hx : ∀ cs b, x.op ≠ .select cs b) (hy : ∀ cs b, y.op ≠ .select cs b) (h : apartL x.dst (looksL ops x) y.dst (looksL ops y) = true) : x.apart ops y = true := by
  unfold apartL at h
  unfold Oper.apart
  rw [looksL_eq ops x hx, looksL_eq ops y hy]
  have hm : ∀ (d : Nat) (l : List Nat), memN d l = false → l.contains d = false := fun d l h => by
    cases hc : l.contains d with
    | false => rfl
    | true =>
      have : d ∈ l := by simpa using hc
      rw [memN_iff.2 this] at h; cases h
  simp only [Bool.and_eq_true] at h ⊢
  refine ⟨?_, ?_⟩
  · cases hd : x.dst with
    | none => rfl
    | some d =>
      have h1 := h.1
      simp only [hd, Bool.and_eq_true, Bool.not_eq_true'] at h1
      simp only [Bool.and_eq_true, Bool.not_eq_true']
      refine ⟨hm _ _ h1.1, ?_⟩
      cases hd' : y.dst with
      | none => rfl
      | some d' =>
        have h2 := h1.2
        simp only [hd', Bool.not_eq_true'] at h2
        have : d ≠ d' := fun e => by subst e; simp at h2
        simp
        exact fun e => this e.symm
  · cases hd : y.dst with
    | none => rfl
    | some d =>
      have h1 := h.2
      simp only [hd, Bool.not_eq_true'] at h1
      simp only [Bool.not_eq_true']
      exact hm _ _ h1
theorem edgesOk_spec {es : List Nat} : ∀ {after : List Edge}, edgesOk after es = true → ∀ e ∈ after, Region.binds .any e = true → e.on ∈ es
  | [], _, _, he, _ => by cases he
  | a :: r, h, e, he, hb => by
    simp only [edgesOk, Bool.and_eq_true, Bool.or_eq_true, Bool.not_eq_true'] at h
    rcases List.mem_cons.1 he with rfl | he
    · rcases h.1 with h1 | h1
      · rw [hb] at h1; cases h1
      · exact memN_iff.1 h1
    · exact edgesOk_spec h.2 e he hb
theorem edgesOk'_spec {after : List Edge} : ∀ {es : List Nat}, edgesOk' after es = true → ∀ a ∈ es, ∃ e ∈ after, Region.binds .any e = true ∧ e.on = a
  | [], _, _, ha => by cases ha
  | b :: r, h, a, ha => by
    simp only [edgesOk', Bool.and_eq_true] at h
    rcases List.mem_cons.1 ha with rfl | ha
    · obtain ⟨e, he, hb⟩ := List.any_eq_true.1 h.1
      simp only [Bool.and_eq_true, Nat.beq_eq] at hb
      exact ⟨e, he, hb.1, hb.2⟩
    · exact edgesOk'_spec h.2 a ha
theorem confOk_spec {i : Nat} {x : Option Tmp × List Tmp} {conf : List Nat} : ∀ (l : List (Option Tmp × List Tmp)) (j : Nat), confOk i x conf j l = true →
    ∀ k y, l[k]? = some y → i ≠ j + k → j + k ∉ conf → apartL x.1 x.2 y.1 y.2 = true
  | [], _, _, _, _, hk, _, _ => by simp at hk
  | z :: r, j, h, k, y, hk, hne, hc => by
    simp only [confOk, Bool.and_eq_true, Bool.or_eq_true, Nat.beq_eq] at h
    cases k with
    | zero =>
      simp at hk
      subst hk
      rcases h.1 with (h1 | h1) | h1
      · exact absurd h1 (by simpa using hne)
      · exact absurd (memN_iff.1 h1) (by simpa using hc)
      · exact h1
    | succ k =>
      have e : j + (k + 1) = j + 1 + k := by omega
      exact confOk_spec r (j + 1) h.2 k y (by simpa using hk) (by rw [← e]; exact hne) (by rw [← e]; exact hc)
theorem tabOk_spec (all : List (Option Tmp × List Tmp)) : ∀ (l : List Oper) (i : Nat) (rr : List (Option Tmp × List Tmp)) (ts : List (List Nat × List Nat)), tabOk all i l rr ts = true →
    ts.length = l.length ∧ ∀ k o, l[k]? = some o → ∃ x, rr[k]? = some x ∧ edgesOk o.after.toList (nthT ts k).1 = true ∧ edgesOk' o.after.toList (nthT ts k).1 = true ∧ confOk (i + k) x (nthT ts k).2 0 all = true
  | [], i, [], [], _ => ⟨rfl, fun k o h => by simp at h⟩
  | [], i, _ :: _, _, h => by simp [tabOk] at h
  | [], i, [], _ :: _, h => by simp [tabOk] at h
  | o :: r, i, [], _, h => by simp [tabOk] at h
  | o :: r, i, _ :: _, [], h => by simp [tabOk] at h
  | o :: r, i, x :: rr, t :: ts, h => by
    simp only [tabOk, Bool.and_eq_true] at h
    obtain ⟨⟨⟨h1, h2⟩, h3⟩, h4⟩ := h
    obtain ⟨hl, ih⟩ := tabOk_spec all r (i + 1) rr ts h4
    refine ⟨by simp [hl], fun k o' hk => ?_⟩
    cases k with
    | zero => simp at hk; subst hk; exact ⟨x, rfl, h1, h2, h3⟩
    | succ k =>
      obtain ⟨y, hy, g1, g2, g3⟩ := ih k o' (by simpa using hk)
      refine ⟨y, by simpa using hy, g1, g2, ?_⟩
      rw [show i + (k + 1) = i + 1 + k by omega]
      exact g3
theorem rowsL_get (ops : Array Oper) : ∀ (l : List Oper) (k : Nat) (o : Oper), l[k]? = some o → (rowsL ops l)[k]? = some (o.dst, looksL ops o)
  | [], _, _, h => by simp at h
  | a :: r, 0, o, h => by simp at h; subst h; rfl
  | a :: r, k + 1, o, h => by simpa [rowsL] using rowsL_get ops r k o (by simpa using h)
/-- What a right table says of the operations. -/
structure TabFits (ops : Array Oper) (tab : List (List Nat × List Nat)) : Prop where
  len : tab.length = ops.size
  edge : ∀ k o, ops[k]? = some o → ∀ e ∈ o.after, Region.binds .any e = true → e.on ∈ (nthT tab k).1
  edge' : ∀ k o, ops[k]? = some o → ∀ a ∈ (nthT tab k).1, ∃ e ∈ o.after, Region.binds .any e = true ∧ e.on = a
  conf : ∀ i oi, ops[i]? = some oi → ∀ k ok, ops[k]? = some ok → i ≠ k → k ∉ (nthT tab i).2 → oi.apart ops ok = true
theorem tabFits_of {ops : Array Oper} {tab : List (List Nat × List Nat)} (hs : Region.noSelect ops = true) (h : tabOk (rowsL ops ops.toList) 0 ops.toList (rowsL ops ops.toList) tab = true) : TabFits ops tab := by
  obtain ⟨hl, hk⟩ := tabOk_spec _ _ _ _ _ h
  have tl : ∀ {k : Nat} {o : Oper}, ops[k]? = some o → ops.toList[k]? = some o := fun h => by simpa using h
  refine ⟨by simpa using hl, fun k o ho e he hb => ?_, fun k o ho a ha => ?_, fun i oi hi k ok hok hne hc => ?_⟩
  · obtain ⟨x, _, h1, _, _⟩ := hk k o (tl ho)
    exact edgesOk_spec h1 e (by simpa using he) hb
  · obtain ⟨x, _, _, h2, _⟩ := hk k o (tl ho)
    obtain ⟨e, he, hb⟩ := edgesOk'_spec h2 a ha
    exact ⟨e, by simpa using he, hb⟩
  · obtain ⟨x, hx, _, _, h3⟩ := hk i oi (tl hi)
    rw [rowsL_get ops _ _ _ (tl hi)] at hx
    cases hx
    have := confOk_spec _ 0 h3 k (ok.dst, looksL ops ok) (rowsL_get ops _ _ _ (tl hok)) (by simpa using hne) (by simpa using hc)
    exact apartL_apart (fun cs b => Region.noSelect_spec hs i oi cs b hi) (fun cs b => Region.noSelect_spec hs k ok cs b hok) this

/-- The list of what has come up, and the walk's. -/
structure Rel (L : List Bool) (A : Array Bool) : Prop where
  len : L.length = A.size
  get : ∀ j, A.getD j false = nthB L j
theorem nthB_get : ∀ (L : List Bool) (j : Nat), nthB L j = (L[j]?).getD false
  | [], j => by simp [nthB]
  | b :: l, 0 => by simp [nthB]
  | b :: l, j + 1 => by simpa [nthB] using nthB_get l j
theorem setB_eq : ∀ (L : List Bool) (j : Nat), setB L j = L.set j true
  | [], j => by simp [setB]
  | b :: l, 0 => by simp [setB]
  | b :: l, j + 1 => by simp [setB, setB_eq l j]
theorem Rel.set {L : List Bool} {A : Array Bool} (h : Rel L A) (i : Nat) : Rel (setB L i) (A.setIfInBounds i true) := by
  rw [setB_eq]
  refine ⟨by simp [h.len], fun j => ?_⟩
  have h1 := h.get j
  rw [nthB_get] at h1 ⊢
  by_cases hij : i = j
  · subst hij
    by_cases hl : i < A.size
    · have hl' : i < L.length := by rw [h.len]; exact hl
      simp [hl, hl']
    · have hl' : ¬ i < L.length := by rw [h.len]; exact hl
      simp [hl, hl']
  · rw [getD_set_ne false hij, h1, List.getElem?_set_ne hij]
theorem Rel.getT {L : List Bool} {A : Array Bool} (h : Rel L A) {j : Nat} (hj : j < A.size) : A.getD j true = nthB L j := by
  rw [← h.get j]
  simp [hj]
theorem allIn_iff {L : List Bool} : ∀ {l : List Nat}, allIn L l = true ↔ ∀ a ∈ l, nthB L a = true
  | [] => by simp [allIn]
  | a :: r => by simp [allIn, allIn_iff (l := r)]
theorem freeL_iff {tab : List (List Nat × List Nat)} {L : List Bool} {i : Nat} : ∀ {l : List Nat}, freeL tab L i l = true ↔ ∀ j ∈ l, nthB L j = true ∨ i ∈ (nthT tab j).1
  | [] => by simp [freeL]
  | a :: r => by simp [freeL, freeL_iff (l := r), memN_iff]
theorem mem_readyFrom {L : List Bool} : ∀ (tab : List (List Nat × List Nat)) (i j : Nat), j ∈ readyFrom L i tab ↔ i ≤ j ∧ j - i < tab.length ∧ nthB L j = false ∧ allIn L (nthT tab (j - i)).1 = true
  | [], i, j => by simp [readyFrom]
  | t :: r, i, j => by
    have ih := mem_readyFrom (L := L) r (i + 1) j
    have key : j ∈ readyFrom L i (t :: r) ↔ (j = i ∧ nthB L i = false ∧ allIn L t.1 = true) ∨ j ∈ readyFrom L (i + 1) r := by
      have hu : readyFrom L i (t :: r) = (match !(nthB L i) && allIn L t.1 with | true => i :: readyFrom L (i + 1) r | false => readyFrom L (i + 1) r) := rfl
      rw [hu]
      split
      · rename_i h
        simp only [Bool.and_eq_true, Bool.not_eq_true'] at h
        simp only [List.mem_cons]
        constructor
        · rintro (h1 | h1)
          · exact .inl ⟨h1, h⟩
          · exact .inr h1
        · rintro (h1 | h1)
          · exact .inl h1.1
          · exact .inr h1
      · rename_i h
        simp only [Bool.and_eq_false_iff, Bool.not_eq_false'] at h
        constructor
        · exact .inr
        · rintro (h1 | h1)
          · obtain ⟨_, h2, h3⟩ := h1
            rcases h with h | h
            · rw [h2] at h; cases h
            · rw [h3] at h; cases h
          · exact h1
    rw [key, ih]
    constructor
    · rintro (⟨rfl, h1, h2⟩ | ⟨h0, h1, h2, h3⟩)
      · exact ⟨Nat.le_refl _, by simp, h1, by simpa [nthT] using h2⟩
      · refine ⟨by omega, by simp; omega, h2, ?_⟩
        rw [show j - i = (j - (i + 1)) + 1 by omega]
        exact h3
    · rintro ⟨h0, h1, h2, h3⟩
      by_cases hij : j = i
      · subst hij
        exact .inl ⟨rfl, h2, by simpa [nthT] using h3⟩
      · refine .inr ⟨by omega, by simp at h1; omega, h2, ?_⟩
        rw [show j - i = (j - (i + 1)) + 1 by omega] at h3
        exact h3
theorem lenOps_eq : ∀ l : List Oper, lenOps l = l.length
  | [] => rfl
  | _ :: r => by simp [lenOps, lenOps_eq r]
theorem beqL_iff : ∀ {a b : List Nat}, beqL a b = true → a = b
  | [], [], _ => rfl
  | [], _ :: _, h => by simp [beqL] at h
  | _ :: _, [], h => by simp [beqL] at h
  | a :: l, b :: m, h => by
    simp only [beqL, Bool.and_eq_true, Nat.beq_eq] at h
    rw [h.1, beqL_iff h.2]
theorem allB_iff : ∀ {L : List Bool}, allB L = true → ∀ j, j < L.length → nthB L j = true
  | [], _, j, hj => by simp at hj
  | b :: l, h, 0, _ => by simp only [allB, Bool.and_eq_true] at h; simpa [nthB] using h.1
  | b :: l, h, j + 1, hj => by
    simp only [allB, Bool.and_eq_true] at h
    simpa [nthB] using allB_iff h.2 j (by simpa using hj)
section
variable {ops : Array Oper} {Q : Exit → Act → World → Prop} {md : Region.Mode}
/-- Operation j waits for all of those that were read. -/
def Bar (rd : Nat → Bool) (md : Region.Mode) (ops : Array Oper) (listed : Array Bool) (j : Nat) : Prop :=
  ∀ k, listed.getD k false = true → rd k = true → ∃ oj, ops[j]? = some oj ∧ ∃ e ∈ oj.after, Region.binds md e = true ∧ e.on = k
/-- Whatever order is picked from here on; what is held may be turned behind an operation that waits for all that was read. -/
def wpG (P : Program) (rd : Nat → Bool) (md : Region.Mode) (ops : Array Oper) (Q : Exit → Act → World → Prop) : Nat → (World → Prop) → Array Bool → Act → World → Prop
  | 0, _, listed, a, w => Region.ready md ops listed = [] ∧ Q .normal a w
  | fuel + 1, S, listed, a, w =>
    (Region.ready md ops listed = [] → Q .normal a w) ∧
    ∀ i ∈ Region.ready md ops listed, wpOp P ops Q i (fun a' w' => ∃ S' : World → Prop, (S' = S ∨ Bar rd md ops listed i) ∧ S' w' ∧ wpG P rd md ops Q fuel S' (listed.setIfInBounds i true) a' w') a w
theorem wpAny_of_G {rd : Nat → Bool} : ∀ (fuel : Nat) (S : World → Prop) (listed : Array Bool) (a : Act) (w : World), wpG P rd md ops Q fuel S listed a w → wpAny P md ops Q fuel listed a w
  | 0, _, _, _, _, h => h
  | fuel + 1, _, _, _, _, h => ⟨h.1, fun i hi => wpOp_mono (fun a' w' ⟨S', _, _, h'⟩ => wpAny_of_G fuel S' _ a' w' h') (h.2 i hi)⟩
theorem wpG_done {rd : Nat → Bool} {S : World → Prop} {listed : Array Bool} {a : Act} {w : World} (hr : Region.ready md ops listed = []) (h : Q .normal a w) : ∀ fuel, wpG P rd md ops Q fuel S listed a w
  | 0 => ⟨hr, h⟩
  | _ + 1 => ⟨fun _ => h, by rw [hr]; simp⟩
theorem wpG_first {rd : Nat → Bool} {i : Nat} {oi : Oper} {v : Value} (hi : ops[i]? = some oi) (hsel : ∀ (j : Nat) (o : Oper) cs b, ops[j]? = some o → o.op ≠ .select cs b)
    (hQ : ∀ c a w, Q (.panic c) (a.put oi.dst v) w → Q (.panic c) a w) {S0 : World → Prop} (hS0 : rd i = false → ∀ w, S0 w) :
    ∀ (fuel : Nat) (S : World → Prop) (listed : Array Bool) (a : Act) (w : World), i < listed.size →
      (∀ j oj, ops[j]? = some oj → j ≠ i → listed.getD j true = false → (∀ e ∈ oj.after, Region.binds md e = true → e.on ≠ i) → oi.apart ops oj = true) →
      i ∈ Region.ready md ops listed → YieldsIf P ops S0 oi v a → (rd i = true → S = S0) → S w →
      wpG P rd md ops Q fuel S (listed.setIfInBounds i true) (a.put oi.dst v) w → wpG P rd md ops Q (fuel + 1) S listed a w := by
  intro fuel
  induction fuel with
  | zero =>
    intro S listed a w hsz _ hr hy hSS hS H
    have hS0w : S0 w := by
      cases hrd : rd i with
      | false => exact hS0 hrd w
      | true => exact hSS hrd ▸ hS
    refine ⟨fun h => (by rw [h] at hr; cases hr), fun j hj => ?_⟩
    by_cases hji : j = i
    · subst hji; exact hy.wpOp hi hS0w ⟨S, .inl rfl, hS, H⟩
    · have := ready_mono hj hji
      rw [H.1] at this
      cases this
  | succ fuel ih =>
    intro S listed a w hsz hfree hr hy hSS hS H
    have hS0w : S0 w := by
      cases hrd : rd i with
      | false => exact hS0 hrd w
      | true => exact hSS hrd ▸ hS
    refine ⟨fun h => (by rw [h] at hr; cases hr), fun j hj => ?_⟩
    by_cases hji : j = i
    · subst hji; exact hy.wpOp hi hS0w ⟨S, .inl rfl, hS, H⟩
    · have h1 := H.2 j (ready_mono hj hji)
      obtain ⟨hjun, oj, hoj, hall⟩ := mem_ready.1 hj
      have hnot : ∀ e ∈ oj.after, Region.binds md e = true → e.on ≠ i := fun e he hb heq => by
        have h1 := hall e he hb
        have h0 := (mem_ready.1 hr).1
        rw [heq] at h1
        rcases Nat.lt_or_ge i listed.size with h' | h'
        · simp [h'] at h0 h1; rw [h0] at h1; cases h1
        · simp [Array.getElem?_eq_none h'] at h1
      have h2 := wpOp_putIf hoj (hfree j oj hoj hji hjun hnot) (fun cs b => hsel i oi cs b hi) (fun cs b => hsel j oj cs b hoj) hQ hy h1
      have hfree' : ∀ k ok, ops[k]? = some ok → k ≠ i → (listed.setIfInBounds j true).getD k true = false →
          (∀ e ∈ ok.after, Region.binds md e = true → e.on ≠ i) → oi.apart ops ok = true := fun k ok hk hki hun hno => by
        refine hfree k ok hk hki ?_ hno
        by_cases hjk : j = k
        · subst hjk; exact hjun
        · rw [getD_set_ne true hjk] at hun; exact hun
      refine wpOp_mono (fun a' w' h3 => ?_) h2
      obtain ⟨hy', S', hS', hSw, hG⟩ := h3
      have hbar : Bar rd md ops (listed.setIfInBounds i true) j → rd i = true → False := fun hb hrd => by
        obtain ⟨oj', hoj', e, he, hbe, hon⟩ := hb i (by simp [hsz]) hrd
        rw [hoj] at hoj'; cases hoj'
        exact hnot e he hbe hon
      refine ⟨S', ?_, hSw, ih S' (listed.setIfInBounds j true) a' w' (by simpa using hsz) hfree' (ready_mono hr (Ne.symm hji)) hy' (fun hrd => ?_) hSw ?_⟩
      · rcases hS' with h | h
        · exact .inl h
        · refine .inr fun k hk hrd => h k ?_ hrd
          exact getD_set_true hk
      · rcases hS' with h | h
        · exact h.trans (hSS hrd)
        · exact (hbar h hrd).elim
      · rw [Array.setIfInBounds_comm _ _ hji]
        exact hG
end
theorem barL_iff : ∀ (L rd : List Bool) (k : Nat) (after : List Nat), barL L rd k after = true → ∀ j, nthB L j = true → nthB rd j = true → k + j ∈ after
  | [], _, _, _, _, j, hj, _ => by simp [nthB] at hj
  | l :: ls, [], _, _, _, j, _, hr => by simp [nthB] at hr
  | l :: ls, r :: rs, k, after, h, 0, hj, hr => by
    simp only [nthB] at hj hr
    simp only [barL, hj, hr, Bool.and_eq_true] at h
    exact memN_iff.1 (by simpa using h.1)
  | l :: ls, r :: rs, k, after, h, j + 1, hj, hr => by
    simp only [nthB] at hj hr
    simp only [barL, Bool.and_eq_true] at h
    have := barL_iff ls rs (k + 1) after h.2 j hj hr
    rw [show k + (j + 1) = k + 1 + j by omega]; exact this
theorem readsL_get : ∀ (l : List Oper) (k : Nat) (o : Oper), l[k]? = some o → nthB (readsL P l) k = isRead P o
  | [], _, _, h => by simp at h
  | a :: r, 0, o, h => by simp at h; subst h; rfl
  | a :: r, k + 1, o, h => by simpa [readsL, nthB] using readsL_get r k o (by simpa using h)
section
variable {ops : Array Oper} {tab : List (List Nat × List Nat)} {Q : QE}
/-- Who is ready. -/
theorem ready_iff (hT : TabFits ops tab) {L : List Bool} {A : Array Bool} (hR : Rel L A) (hA : A.size = ops.size) (j : Nat) : j ∈ Region.ready .any ops A ↔ j ∈ readyFrom L 0 tab := by
  rw [mem_ready, mem_readyFrom]
  simp only [Nat.zero_le, Nat.sub_zero, true_and]
  constructor
  · rintro ⟨h0, o, ho, h1⟩
    have hlt : j < ops.size := (Array.getElem?_eq_some_iff.1 ho).1
    refine ⟨by rw [hT.len]; exact hlt, by rw [← hR.getT (by omega)]; exact h0, allIn_iff.2 fun a ha => ?_⟩
    obtain ⟨e, he, hb, rfl⟩ := hT.edge' j o ho a ha
    rw [← hR.get]
    exact h1 e he hb
  · rintro ⟨h0, h1, h2⟩
    have hlt : j < ops.size := by rw [← hT.len]; exact h0
    refine ⟨by rw [hR.getT (by omega)]; exact h1, ops[j], Array.getElem?_eq_getElem hlt, fun e he hb => ?_⟩
    rw [hR.get]
    exact allIn_iff.1 h2 _ (hT.edge j _ (Array.getElem?_eq_getElem hlt) e he hb)
theorem semD_sound (hs : Region.noSelect ops = true) (hT : TabFits ops tab) (hQ : ∀ ch e e' w, Q (.panic ch) e w → Q (.panic ch) e' w) : ∀ (p : Plan) (S : World → Prop) (fuel : Nat) (L : List Bool) (A : Array Bool) (e : List Value) (w : World),
    (planOk tab (readsL P ops.toList) ops.size p false L = true → Rel L A → A.size = ops.size → S w → semD P ops Q p S e w → (L.filter (· == false)).length = fuel → wpG P (nthB (readsL P ops.toList)) .any ops (liftQ ds Q) fuel S A ⟨e.toArray, ds⟩ w) ∧
    (planOk tab (readsL P ops.toList) ops.size p true L = true → Rel L A → A.size = ops.size → semD P ops Q p S e w → (L.filter (· == false)).length = fuel + 1 → ∀ i ∈ altsOf p,
      wpOp P ops (liftQ ds Q) i (fun a' w' => ∃ S' : World → Prop, (S' = S ∨ Bar (nthB (readsL P ops.toList)) .any ops A i) ∧ S' w' ∧ wpG P (nthB (readsL P ops.toList)) .any ops (liftQ ds Q) fuel S' (A.setIfInBounds i true) a' w') ⟨e.toArray, ds⟩ w)
  | .done, S, fuel, L, A, e, w => by
    refine ⟨fun h hR hA hS hd hf => ?_, fun h hR hA hd hf i hi => by cases hi⟩
    have hall := allB_iff (L := L) (by simpa [planOk] using h)
    refine wpG_done ?_ ⟨rfl, by simpa [semD] using hd⟩ fuel
    cases hr : Region.ready .any ops A with
    | nil => rfl
    | cons j r =>
      have hj : j ∈ Region.ready .any ops A := by rw [hr]; simp
      rw [ready_iff hT hR hA, mem_readyFrom] at hj
      have := hall j (by rw [hR.len, hA, ← hT.len]; simpa using hj.2.1)
      rw [this] at hj
      cases hj.2.2.1
  | .none, S, fuel, L, A, e, w => ⟨fun h => by simp [planOk] at h, fun h hR hA hd hf i hi => by cases hi⟩
  | .take i p, S, fuel, L, A, e, w => by
    refine ⟨fun h hR hA hS hd hf => ?_, fun h hR hA hd hf i hi => by cases hi⟩
    simp only [planOk, Bool.and_eq_true, Nat.ble_eq, Bool.not_eq_true'] at h
    obtain ⟨⟨⟨⟨h1, h2⟩, h3⟩, h4⟩, h5⟩ := h
    have hi : ops[i]? = some ops[i] := Array.getElem?_eq_getElem (by omega)
    simp only [semD, hi] at hd
    have hrd : nthB (readsL P ops.toList) i = isRead P ops[i] := readsL_get _ _ _ (by simp)
    obtain ⟨S0, v, hK, hy, hS0, hSS⟩ : ∃ S0 v, semD P ops Q p S (put e ops[i].dst v) w ∧ YieldsIf P ops S0 ops[i] v ⟨e.toArray, ds⟩ ∧ (nthB (readsL P ops.toList) i = false → ∀ w, S0 w) ∧ (nthB (readsL P ops.toList) i = true → S = S0) := by
      cases hr : isRead P ops[i] with
      | true =>
        obtain ⟨v, hK, hy⟩ := stepP_yields hd
        exact ⟨S, v, hK, hy, fun h => (by rw [hrd, hr] at h; cases h), fun _ => rfl⟩
      | false =>
        obtain ⟨v, hK, hy⟩ := stepP_yields (stepP_pure hr hd)
        exact ⟨_, v, hK, hy, fun _ _ => trivial, fun h => (by rw [hrd, hr] at h; cases h)⟩
    have hiL : i < L.length := by rw [hR.len, hA]; omega
    obtain ⟨k, rfl⟩ : ∃ k, fuel = k + 1 := by
      refine ⟨fuel - 1, ?_⟩
      have : 0 < (L.filter (· == false)).length := by
        apply List.length_pos_iff.2
        intro hn
        have hm : L[i] ∈ L := List.getElem_mem hiL
        have : L[i] = false := by rw [nthB_get, List.getElem?_eq_getElem hiL] at h2; simpa using h2
        have : (false : Bool) ∈ L.filter (· == false) := List.mem_filter.2 ⟨this ▸ hm, rfl⟩
        rw [hn] at this
        cases this
      omega
    refine wpG_first (v := v) hi (Region.noSelect_spec hs) (fun c a w h => ⟨by simpa [Act.put] using (by cases hdst : ops[i].dst <;> simpa [Act.put, hdst] using h.1), hQ _ _ _ _ h.2⟩) hS0 k S A _ w (by omega) (fun j oj hj hne hun hno => ?_) ?_ hy hSS hS ?_
    · by_cases hc : j ∈ (nthT tab i).2
      · rcases freeL_iff.1 h4 j hc with h6 | h6
        · have : A.getD j true = nthB L j := hR.getT (by rw [hA]; exact (Array.getElem?_eq_some_iff.1 hj).1)
          rw [hun, h6] at this; cases this
        · obtain ⟨e', he', hb', hon⟩ := hT.edge' j oj hj i h6
          exact absurd hon (hno e' he' hb')
      · exact hT.conf i _ hi j oj hj (Ne.symm hne) hc
    · rw [ready_iff hT hR hA, mem_readyFrom]
      exact ⟨Nat.zero_le _, by rw [hT.len]; omega, h2, by simpa using h3⟩
    · rw [put_eq]
      refine (semD_sound hs hT hQ p S k (setB L i) _ _ w).1 h5 (hR.set i) (by simp [hA]) hS hK ?_
      rw [setB_eq]
      have hLi : L[i] = false := by rw [nthB_get, List.getElem?_eq_getElem hiL] at h2; simpa using h2
      have : (L.set i true).filter (· == false) = (L.take i ++ L.drop (i + 1)).filter (· == false) := by
        rw [List.set_eq_take_append_cons_drop, if_pos hiL, List.filter_append, List.filter_append, List.filter_cons_of_neg (by simp)]
      have h0 : (L.filter (· == false)).length = ((L.take i ++ L.drop (i + 1)).filter (· == false)).length + 1 := by
        conv => lhs; rw [← List.take_append_drop i L, List.drop_eq_getElem_cons hiL, List.filter_append, List.filter_cons_of_pos (by simp [hLi])]
        rw [List.filter_append]
        simp
        omega
      rw [this]
      omega
  | .world i r p m, S, fuel, L, A, e, w => by
    have count : ∀ fuel, i < L.length → nthB L i = false → (L.filter (· == false)).length = fuel + 1 → ((setB L i).filter (· == false)).length = fuel := fun fuel hiL h2 hf => by
      rw [setB_eq]
      have hLi : L[i] = false := by rw [nthB_get, List.getElem?_eq_getElem hiL] at h2; simpa using h2
      have : (L.set i true).filter (· == false) = (L.take i ++ L.drop (i + 1)).filter (· == false) := by
        rw [List.set_eq_take_append_cons_drop, if_pos hiL, List.filter_append, List.filter_append, List.filter_cons_of_neg (by simp)]
      have h0 : (L.filter (· == false)).length = ((L.take i ++ L.drop (i + 1)).filter (· == false)).length + 1 := by
        conv => lhs; rw [← List.take_append_drop i L, List.drop_eq_getElem_cons hiL, List.filter_append, List.filter_cons_of_pos (by simp [hLi])]
        rw [List.filter_append]
        simp
        omega
      rw [this]
      omega
    have key : ∀ fuel, i < ops.size → nthB L i = false → (!r || barL L (readsL P ops.toList) 0 (nthT tab i).1) = true → planOk tab (readsL P ops.toList) ops.size p false (setB L i) = true → (match m with | .none => true | .world _ _ _ _ => planOk tab (readsL P ops.toList) ops.size m true L | _ => false) = true →
        Rel L A → A.size = ops.size → semD P ops Q (.world i r p m) S e w → (L.filter (· == false)).length = fuel + 1 → ∀ j ∈ i :: altsOf m,
          wpOp P ops (liftQ ds Q) j (fun a' w' => ∃ S' : World → Prop, (S' = S ∨ Bar (nthB (readsL P ops.toList)) .any ops A j) ∧ S' w' ∧ wpG P (nthB (readsL P ops.toList)) .any ops (liftQ ds Q) fuel S' (A.setIfInBounds j true) a' w') ⟨e.toArray, ds⟩ w := by
      intro fuel h1 h2 hbar h5 h6 hR hA hd hf j hj
      have hi : ops[i]? = some ops[i] := Array.getElem?_eq_getElem h1
      have hiL : i < L.length := by rw [hR.len, hA]; omega
      have hparts : stepW P ops ops[i] e (fun ch w' => Q (.panic ch) e w') w (fun v w' => turned S r w' (fun S w' => semD P ops Q p S (put e ops[i].dst v) w')) ∧ (m ≠ .none → semD P ops Q m S e w) := by
        simp only [semD, hi] at hd
        cases m with
        | none => exact ⟨hd, fun h => absurd rfl h⟩
        | done => exact ⟨hd.1, fun _ => hd.2⟩
        | take _ _ => exact ⟨hd.1, fun _ => hd.2⟩
        | world _ _ _ _ => exact ⟨hd.1, fun _ => hd.2⟩
      rcases List.mem_cons.1 hj with rfl | hj
      · unfold wpOp
        simp only [hi]
        have := stepW_wp (next := fun a' w' => ∃ S' : World → Prop, (S' = S ∨ Bar (nthB (readsL P ops.toList)) .any ops A j) ∧ S' w' ∧ wpG P (nthB (readsL P ops.toList)) .any ops (liftQ ds Q) fuel S' (A.setIfInBounds j true) a' w') (Q := liftQ ds Q) hparts.1
          (fun v w' hk => by
            have go : ∀ S', S' w' → semD P ops Q p S' (put e ops[j].dst v) w' → wpG P (nthB (readsL P ops.toList)) .any ops (liftQ ds Q) fuel S' (A.setIfInBounds j true) (Act.put ⟨e.toArray, ds⟩ ops[j].dst v) w' := fun S' h1 h2' => by
              rw [put_eq]; exact (semD_sound hs hT hQ p S' fuel (setB L j) _ _ w').1 h5 (hR.set j) (by simp [hA]) h1 h2' (count fuel hiL h2 hf)
            cases r with
            | false => exact ⟨S, .inl rfl, hk.1, go S hk.1 hk.2⟩
            | true =>
              obtain ⟨S', h1, h2'⟩ := hk
              refine ⟨S', .inr fun k hk hrk => ⟨_, hi, ?_⟩, h1, go S' h1 h2'⟩
              rw [hR.get] at hk
              have hm := barL_iff _ _ _ _ (by simpa using hbar) k hk hrk
              rw [Nat.zero_add] at hm
              obtain ⟨e', he', hb', hon⟩ := hT.edge' j _ hi k hm
              exact ⟨e', he', hb', hon⟩)
          (fun ch w' hx => ⟨rfl, by simpa using hx⟩)
        rcases this with ⟨hw, hh⟩ | ⟨hw, hh⟩
        · rw [if_pos hw]
          exact .inl hh
        · rw [if_neg (by rw [hw]; simp)]
          exact hh
      · cases m with
        | none => cases hj
        | done => cases hj
        | take _ _ => cases hj
        | world i' r' p' m' => exact (semD_sound hs hT hQ (.world i' r' p' m') S fuel L A e w).2 h6 hR hA (hparts.2 (by simp)) hf j hj
    refine ⟨fun h hR hA hS hd hf => ?_, fun h hR hA hd hf j hj => ?_⟩
    · simp only [planOk, Bool.and_eq_true, Nat.ble_eq, Bool.not_eq_true', Bool.false_or] at h
      obtain ⟨⟨⟨⟨⟨h1, h2⟩, hbar⟩, h3⟩, h5⟩, h6⟩ := h
      have hiL : i < L.length := by rw [hR.len, hA]; omega
      have hrs := beqL_iff h3
      obtain ⟨k, rfl⟩ : ∃ k, fuel = k + 1 := by
        refine ⟨fuel - 1, ?_⟩
        have : 0 < (L.filter (· == false)).length := by
          apply List.length_pos_iff.2
          intro hn
          have hm : L[i] ∈ L := List.getElem_mem hiL
          have : L[i] = false := by rw [nthB_get, List.getElem?_eq_getElem hiL] at h2; simpa using h2
          have : (false : Bool) ∈ L.filter (· == false) := List.mem_filter.2 ⟨this ▸ hm, rfl⟩
          rw [hn] at this
          cases this
        omega
      refine ⟨fun hr => ?_, fun j hj => ?_⟩
      · have : i ∈ Region.ready .any ops A := by rw [ready_iff hT hR hA, ← hrs]; simp
        rw [hr] at this
        cases this
      · rw [ready_iff hT hR hA, ← hrs] at hj
        exact key k (by omega) h2 (by simpa using hbar) h5 h6 hR hA hd hf j hj
    · simp only [planOk, Bool.and_eq_true, Nat.ble_eq, Bool.not_eq_true', Bool.true_or, and_true] at h
      obtain ⟨⟨⟨⟨h1, h2⟩, hbar⟩, h5⟩, h6⟩ := h
      exact key fuel (by omega) h2 (by simpa using hbar) h5 h6 hR hA hd hf j hj
end
theorem drawn_sound {id : Nat} {ops : Array Oper} {Q : QE} {d : DrawPlan} {e : List Value} {w : World} (hm : P.follows .mixedOrders = true) (hQ : ∀ ch e e' w, Q (.panic ch) e w → Q (.panic ch) e' w)
    (hok : drawOk P ops d = true) (h : drawn w (fun S w => semD P ops Q d.plan S e w)) : (Code.region id ops true).wp P (liftQ ds Q) ⟨e.toArray, ds⟩ w := by
  simp only [drawOk, Bool.and_eq_true] at hok
  obtain ⟨⟨h1, h2⟩, h3⟩ := hok
  obtain ⟨S, hS, hD⟩ := h
  have hlen : lenOps ops.toList = ops.size := by rw [lenOps_eq]; simp
  rw [hlen] at h3
  have hf : ∀ n, falses n = List.replicate n false := fun n => by
    induction n with
    | zero => rfl
    | succ n ih => simp [falses, ih, List.replicate_succ]
  refine wp_region_any hm (wpAny_of_G (rd := nthB (readsL P ops.toList)) _ S _ _ _ ?_)
  refine (semD_sound h1 (tabFits_of h1 h2) hQ d.plan S ops.size (falses ops.size) _ e _).1 h3 ⟨by simp [hf], fun j => ?_⟩ (by simp) hS hD ?_
  · rw [nthB_get, hf]
    simp only [Array.getD_eq_getD_getElem?, List.getElem?_replicate, Array.getElem?_replicate]
  · rw [hf]
    simp
end Go.G
end
