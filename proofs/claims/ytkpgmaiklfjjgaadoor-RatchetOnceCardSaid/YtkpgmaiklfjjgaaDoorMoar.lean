/-
  The program's sum.
  A byte, 64 times.
-/
import Derived.Test.YtkpgmaiklfjjgaaDoorMoaq
import Derived.Shelf.Abstract
section
set_option linter.unusedSimpArgs false
set_option linter.unusedVariables false
namespace Go.Proofs.YtkpgmaiklfjjgaaDoor
open Go Go.G Go.RowKit Go.Shelf
variable {X : KX} {w : World} {K : KV} {D D' : Nat → Prop}
def sl30 (g : Nat → Value) : List Value := [g 0, g 1, g 2, g 3, g 4, g 5, g 6, g 7, g 8, g 9, g 10, g 11, g 12, g 13, g 14, g 15, g 16, g 17, g 18, g 19, g 20, g 21, g 22, g 23, g 24, g 25, g 26, g 27, g 28, g 29]
theorem su0_eq (N : List Value → World → Prop) (g : Nat → Value) (w : World) : semL Tryd.prog (opsOf (sub [0] (bodyOf Tryd.f123))) (justN N) (opsOf (sub [0] (bodyOf Tryd.f123))).toList (sl30 g) w =
  (N (sl30 (slot g 2 (.slice none 0 0))) w) := by kernel_rfl
theorem su1_eq (N : List Value → World → Prop) (g : Nat → Value) (w : World) : semL Tryd.prog (opsOf (sub [1, 0] (bodyOf Tryd.f123))) (justN N) (opsOf (sub [1, 0] (bodyOf Tryd.f123))).toList (sl30 g) w =
  (pCall Tryd.prog 131 [] (fun _ _ => False) w fun t7 w => pBox 157 (.agg #[.int .u32 0, .int .u32 0, .int .u32 0, .int .u32 0, .int .u32 0, .int .u32 0, .int .u32 0, .int .u32 0]) w fun t3 w => pStN 8 t3 t7 w fun _ w => N (sl30 (slot (slot g 7 t7) 3 t3)) w) := by kernel_rfl
theorem su2_eq (N : List Value → World → Prop) (g : Nat → Value) (w : World) : semL Tryd.prog (opsOf (sub [1, 1, 0, 0] (bodyOf Tryd.f123))) (justN N) (opsOf (sub [1, 1, 0, 0] (bodyOf Tryd.f123))).toList (sl30 g) w =
  (pLenSl (g 0) fun t10 => pCall Tryd.prog 133 [t10] (fun _ _ => False) w fun t11 w => pBSlice 22 2 (rowOf [.slice none 0 0] 2) [(0, 1, g 0), (1, 1, t11)] w fun t12 w => pCall Tryd.prog 97 [t12] (fun _ _ => False) w fun t13 w => pCall Tryd.prog 132 [t13, .int .i64 64] (fun _ _ => False) w fun t14 w => N (sl30 (slot (slot (slot (slot (slot (slot (slot g 8 (g 0)) 9 (g 0)) 10 t10) 11 t11) 12 t12) 13 t13) 14 t14)) w) := by kernel_rfl
theorem su3_eq (N : List Value → World → Prop) (g : Nat → Value) (w : World) : semL Tryd.prog (opsOf (asgOf (sub [1, 1, 0, 1, 0] (bodyOf Tryd.f123)))) (justN N) (opsOf (asgOf (sub [1, 1, 0, 1, 0] (bodyOf Tryd.f123)))).toList (sl30 g) w =
  (N (sl30 (slot g 4 (g 15))) w) := by kernel_rfl
theorem su4_eq (N : List Value → World → Prop) (g : Nat → Value) (w : World) : semL Tryd.prog (opsOf (sub [1, 1, 0, 1, 0, 0, 0] (bodyOf Tryd.f123))) (justN N) (opsOf (sub [1, 1, 0, 1, 0, 0, 0] (bodyOf Tryd.f123))).toList (sl30 g) w =
  (pLdN (· = w) 8 (g 3) fun t16 => pCall Tryd.prog 134 [t16, g 4] (fun _ _ => False) w fun t18 w => pStN 8 (g 3) t18 w fun _ w => N (sl30 (slot (slot (slot g 16 t16) 17 (g 4)) 18 t18)) w) := by kernel_rfl
theorem su5_eq (N : List Value → World → Prop) (g : Nat → Value) (w : World) : semL Tryd.prog (opsOf (sub [1, 1, 1, 0, 0] (bodyOf Tryd.f123))) (justN N) (opsOf (sub [1, 1, 1, 0, 0] (bodyOf Tryd.f123))).toList (sl30 g) w =
  (pLdN (· = w) 8 (g 3) fun t19 => N (sl30 (slot (slot g 19 t19) 20 (.int .i64 0))) w) := by kernel_rfl
theorem su6_eq (N : List Value → World → Prop) (g : Nat → Value) (w : World) : semL Tryd.prog (opsOf (sub [1, 1, 1, 0, 1, 0, 0, 0] (bodyOf Tryd.f123))) (justN N) (opsOf (sub [1, 1, 1, 0, 1, 0, 0, 0] (bodyOf Tryd.f123))).toList (sl30 g) w =
  (pBinI .lss .i64 (g 20) (.int .i64 8) fun t21 => N (sl30 (slot g 21 t21)) w) := by kernel_rfl
theorem su7_eq (N : List Value → World → Prop) (g : Nat → Value) (w : World) : semL Tryd.prog (opsOf (sub [1, 1, 1, 0, 1, 0, 0, 1, 1, 0, 0, 0] (bodyOf Tryd.f123))) (justN N) (opsOf (sub [1, 1, 1, 0, 1, 0, 0, 1, 1, 0, 0, 0] (bodyOf Tryd.f123))).toList (sl30 g) w =
  (pIx 8 (g 19) (g 20) fun t22 => N (sl30 (slot (slot g 22 t22) 6 t22)) w) := by kernel_rfl
theorem su8_eq (N : List Value → World → Prop) (g : Nat → Value) (w : World) : semL Tryd.prog (opsOf (sub [1, 1, 1, 0, 1, 0, 0, 1, 1, 0, 0, 1] (bodyOf Tryd.f123))) (justN N) (opsOf (sub [1, 1, 1, 0, 1, 0, 0, 1, 1, 0, 0, 1] (bodyOf Tryd.f123))).toList (sl30 g) w =
  (pConv .u64 (g 6) fun t25 => pCall Tryd.prog 78 [t25, .int .i64 4] (fun _ _ => False) w fun t26 w => pApp 5 1 1 [.int .u8 0] (g 2) t26 w fun t27 w => N (sl30 (slot (slot (slot (slot (slot (slot g 23 (g 2)) 24 (g 6)) 25 t25) 26 t26) 27 t27) 2 t27)) w) := by kernel_rfl
theorem su9_eq (N : List Value → World → Prop) (g : Nat → Value) (w : World) : semL Tryd.prog (opsOf (sub [1, 1, 1, 0, 1, 0, 0, 1, 1, 1] (bodyOf Tryd.f123))) (justN N) (opsOf (sub [1, 1, 1, 0, 1, 0, 0, 1, 1, 1] (bodyOf Tryd.f123))).toList (sl30 g) w =
  (pBinI .add .i64 (g 20) (.int .i64 1) fun t28 => N (sl30 (slot (slot g 28 t28) 20 t28)) w) := by kernel_rfl
theorem su10_eq (N : List Value → World → Prop) (g : Nat → Value) (w : World) : semL Tryd.prog (opsOf (sub [1, 1, 1, 1, 0] (bodyOf Tryd.f123))) (justN N) (opsOf (sub [1, 1, 1, 1, 0] (bodyOf Tryd.f123))).toList (sl30 g) w =
  (N (sl30 (slot (slot g 29 (g 2)) 2 (g 2))) w) := by kernel_rfl
theorem sl30_nth (g : Nat → Value) : ∀ i, i < 30 → nth (sl30 g) i = g i
  | 0, _ | 1, _ | 2, _ | 3, _ | 4, _ | 5, _ | 6, _ | 7, _ | 8, _ | 9, _ | 10, _ | 11, _ | 12, _ | 13, _ | 14, _ | 15, _ | 16, _ | 17, _ | 18, _ | 19, _ | 20, _ | 21, _ | 22, _ | 23, _ | 24, _ | 25, _ | 26, _ | 27, _ | 28, _ | 29, _ => rfl
  | n + 30, h => absurd h (by omega)
theorem ev30 {ds : List Deferred} (g : Nat → Value) (i : Nat) (hi : i < 30) : Act.eval ⟨(sl30 g).toArray, ds⟩ (.tmp i) = g i := by
  rw [eval_eq]; exact sl30_nth g i hi
theorem Chunk_c {a : Addr} {n c : Nat} {K : KV} (h : ∀ Bs Bn w', w.heap.size ≤ Bs → w.heap.size ≤ Bn → Bs < w'.heap.size → Bn < w'.heap.size → Ext w w' → w'.cell? ⟨Bs, 0, none⟩ = some (.slice (some a) n c) → w'.cell? ⟨Bn, 0, none⟩ = some (.int .i64 64) → K (.func (.func 142) #[] #[.pointer (some ⟨Bs, 0, none⟩), .pointer (some ⟨Bn, 0, none⟩)]) w') : GCalls Tryd.prog 132 [.slice (some a) n c, .int .i64 64] K X w := by
  apply slices_Chunk_byte_byte.calls; unfold slices_Chunk_byte_byte.b
  refine boxV rfl fun g1 w1 hg1 h1 c1 => ?_
  refine boxV rfl fun g2 w2 hg2 h2 c2 => ?_
  have l1 := c1.lt; have l2 := c2.lt; have z2 := h2.size; have z1 := h1.size
  rw [c2.c0]
  simp only [↓eBinI, ↓eDiv, ↓eShift, ↓eBinS, ↓ePick, ↓eNot, ↓eNeg, ↓eConv, ↓eConvS, ↓eExt0, ↓eExt1, ↓eExt2, ↓eFA, ↓eIA, ↓eLenSl, ↓eCapSl, ↓eLenS, ↓eMin, ↓eMax, ↓eCondT, ↓eCondF, ↓gIf_tt, ↓gIf_ff, ↓gIf_tf, ↓gIf_ft, ↓gIf_u, ↓gIfW_u, ↓gIfW_tt, ↓gIfW_ff, ↓gIfW_tf, ↓gIfW_ft, binI, divI, shiftI, add_mk, Nat.zero_add, cond_true, cond_false, decide_true, decide_false, Bool.not_true, Bool.not_false, Bool.and_true, Bool.true_and, Bool.and_false, Bool.false_and, Int.toNat_natCast, Nat.mul_one, show decide ((64 : Int) < 1) = false from by decide]
  refine h _ _ _ (by omega) (by omega) (by omega) l2 (h1.tr h2) ?_ ?_
  · rw [(c1.ext h2).c]; rfl
  · rw [c2.c]; rfl
def hv (all : List UInt8) (m : Nat) (pre : List (Fin m)) : List W32 := pre.foldl (fun v (j : Fin m) => blockF v ((all.take (64 * j.val + 64)).drop (64 * j.val))) firstF
theorem hv_snoc (all : List UInt8) (m : Nat) (pre : List (Fin m)) (j : Fin m) : hv all m (pre ++ [j]) = blockF (hv all m pre) ((all.take (64 * j.val + 64)).drop (64 * j.val)) := by simp [hv]
theorem hv_len (all : List UInt8) (m : Nat) : ∀ pre : List (Fin m), (hv all m pre).length = 8 := by
  have : ∀ (pre : List (Fin m)) (v : List W32), v.length = 8 → (pre.foldl (fun v (j : Fin m) => blockF v ((all.take (64 * j.val + 64)).drop (64 * j.val))) v).length = 8 := by
    intro pre
    induction pre with
    | nil => intro v h; exact h
    | cons x r ih => intro v h; exact ih _ (blockF_len h)
  exact fun pre => this pre _ rfl
theorem hv_all (all : List UInt8) (m : Nat) : ∀ k, k ≤ m → hv all m ((List.finRange m).take k) = hs all k
  | 0, _ => rfl
  | k + 1, h => by rw [fin_take (by omega), hv_snoc, hv_all all m k (by omega), hs]
theorem hv_done (all : List UInt8) (m : Nat) : hv all m (List.finRange m) = hs all m := by
  have := hv_all all m m (Nat.le_refl _)
  rwa [List.take_of_length_le (by simp)] at this
set_option maxHeartbeats 1000000 in
set_option maxRecDepth 100000 in
theorem Sum_c {x : Value} {b : List UInt8} (hk : KT w) (hx : Rd (.slice .byte) D w [x] b) (hb : b.length ≤ 1000) (h : ∀ v w', Ext w w' → G.Own .byte (fun _ => False) w.heap.size w' v (sumF b) → K v w') : GCalls Tryd.prog 123 [x] K X w := by
  have hk2 : 2 < w.heap.size := cell_lt (hk 0 (by rw [kT_len]; omega))
  refine .inl ⟨⟨_, Tryd.func123, by kernel_rfl, by kernel_rfl⟩, (callsIn_wide (n := 3)).1 ?_⟩
  show CallsIn (WF none) 3 Tryd.prog 123 _ w _
  refine callsIn_of_wp_marks Tryd.func123 rfl trivial ?_ rfl
  have he : ({ tmps := [x].toArray ++ Array.replicate (Tryd.f123.ntmps - [x].toArray.size) undef, defers := [] } : Act) = ⟨(sl30 (fun i => nth ([x] ++ undefs 29) i)).toArray, []⟩ := by kernel_rfl
  refine (Eq.mpr (congrArg (fun a => Code.wpIn _ _ _ _ _ a w) he) ?_)
  refine wpIn_seq (region_in (by kernel_rfl) (N := fun e w => Code.wpIn (WF none) 3 Tryd.prog (sub [1] (bodyOf Tryd.f123)) _ ⟨e.toArray, []⟩ w) (fun e w h => h) (Eq.mpr (su0_eq _ _ _) ?_))
  refine wpIn_seq (region_in (by kernel_rfl) (N := fun e w => Code.wpIn (WF none) 3 Tryd.prog (sub [1, 1] (bodyOf Tryd.f123)) _ ⟨e.toArray, []⟩ w) (fun e w h => h) (Eq.mpr (su1_eq _ _ _) ?_))
  refine First_c fun w1 h1 => ?_
  refine boxC (cs := us (List.replicate 8 0)) fun g3 w2 hg3 h2 c2 => ?_
  refine c2.uSetN (l' := firstF) rfl rfl fun w3 c3 f3 => ?_
  have z1 := h1.size
  have k3 : Ext w w3 := (h1.tr h2).tn f3 (fun x hx => by omega)
  refine wpIn_seq (wpIn_seq (region_in (by kernel_rfl) (N := fun e w => Code.wpIn (WF none) 3 Tryd.prog (sub [1, 1, 0, 1] (bodyOf Tryd.f123)) _ ⟨e.toArray, []⟩ w) (fun e w h => h) (Eq.mpr (su2_eq _ _ _) ?_)))
  generalize hgA : slot (slot (slot (fun i => nth ([x] ++ undefs 29) i) 2 _) 7 _) 3 _ = gA
  have a0 : gA 0 = x := by rw [← hgA]; rfl
  have a2 : gA 2 = .slice none 0 0 := by rw [← hgA]; rfl
  have a3 : gA 3 = .pointer (some ⟨g3, 0, none⟩) := by rw [← hgA]; rfl
  clear hgA he
  have hx3 := hx.ext k3
  obtain ⟨ax, cx, ex, hcx, hlx⟩ := hx3.form
  rw [a0, ex]
  rw [ex] at hx3
  simp only [↓eBinI, ↓eDiv, ↓eShift, ↓eBinS, ↓ePick, ↓eNot, ↓eNeg, ↓eConv, ↓eConvS, ↓eExt0, ↓eExt1, ↓eExt2, ↓eFA, ↓eIA, ↓eLenSl, ↓eCapSl, ↓eLenS, ↓eMin, ↓eMax, ↓eCondT, ↓eCondF, ↓gIf_tt, ↓gIf_ff, ↓gIf_tf, ↓gIf_ft, ↓gIf_u, ↓gIfW_u, ↓gIfW_tt, ↓gIfW_ff, ↓gIfW_tf, ↓gIfW_ft, binI, divI, shiftI, add_mk, Nat.zero_add, cond_true, cond_false, decide_true, decide_false, Bool.not_true, Bool.not_false, Bool.and_true, Bool.true_and, Bool.and_false, Bool.false_and, Int.toNat_natCast, Nat.mul_one]
  refine Pad_c (by omega) fun v4 w4 h4 o4 => ?_
  have hpl := padS_len b.length
  have hzl := zs_lt b.length
  have hp4 := o4.rd2 (D' := fun _ => True) (fun _ _ => trivial) (fun _ _ _ _ => trivial) (show (padS b.length).length < _ by omega)
  obtain ⟨a4, c4', e4, _⟩ := hp4.form
  refine Cs.bslice (cs := [.slice ax b.length cx, v4]) (fill2 rfl (by rw [e4]; rfl)) fun g5 w5 hg5 h5 c5 => ?_
  have k5 := (k3.tr h4).tr h5
  have hrd5 : Rd (.slice (.slice .byte)) (fun _ => True) w5 [.slice (some ⟨g5, 0, none⟩) 2 2] [b, padS b.length] := by
    have hr : RdL (.slice .byte) (fun _ => True) w5 [.slice ax b.length cx, v4] [b, padS b.length] :=
      ⟨[.slice ax b.length cx], [v4], rfl, ((hx3.ext h4).ext h5).wide (fun _ _ => trivial), [v4], [], rfl, hp4.ext h5, rfl⟩
    have hc5 := c5
    exact Rd.of_rows hr (fun _ h => h) (show 2 ≤ 2 by omega) (show 2 < _ by omega) fun i u hi => ⟨_, rfl, rfl, trivial, by rw [add_mk, Nat.zero_add, hc5.c]; exact hi⟩
  refine Concat_c hrd5 (show 2 ≤ _ by omega) (fun i hi => by
    match i, hi with
    | 0, _ => show b.length ≤ 1000; omega
    | 1, _ => show (padS b.length).length ≤ 1000; omega) fun v6 w6 h6 o6 => ?_
  have hal : (allF b).length = b.length + (1 + zs b.length + 8) := allF_len b
  have ham := allF_mod b
  have hfl : [b, padS b.length].flatten = allF b := by simp [allF]
  rw [hfl] at o6
  obtain ⟨ga, ca, ea, hgB, hgl⟩ := o6.some_of (by show 0 < (allF b).length; omega)
  subst ea
  refine Chunk_c fun Bs Bn w7 b1 b2 b3 b4 h7 q1 q2 => ?_
  have k7 := (k5.tr h6).tr h7
  have z3 := f3.size; have z4 := h4.size; have z5 := h5.size; have z6 := h6.size; have z7 := h7.size; have z2 := h2.size; have l2 := c2.lt; have l5 := c5.lt
  obtain ⟨m, hmd⟩ : ∃ m, m = (allF b).length / 64 := ⟨_, rfl⟩
  have hml : (allF b).length = 64 * m := by omega
  obtain ⟨_, _, ef, hcap⟩ := o6.form
  simp only [Value.slice.injEq] at ef
  obtain ⟨-, -, rfl⟩ := ef
  rw [hml] at q1 hcap
  have o7 := o6.ext h7
  rw [hml] at o7
  have c7 : Cs w7 g3 (us firstF) := (((c3.ext h4).ext h5).ext h6).ext h7
  have hk7 := hk.ext k7
  generalize hgB : slot (slot (slot (slot (slot (slot (slot gA 8 _) 9 _) 10 _) 11 _) 12 _) 13 _) 14 _ = gB
  have s2 : gB 2 = .slice none 0 0 := by rw [← hgB]; exact a2
  have s3 : gB 3 = .pointer (some ⟨g3, 0, none⟩) := by rw [← hgB]; exact a3
  have s14 : gB 14 = .func (.func 142) #[] #[.pointer (some ⟨Bs, 0, none⟩), .pointer (some ⟨Bn, 0, none⟩)] := by rw [← hgB]; rfl
  clear hgB a0 a2 a3 gA
  refine wpIn_block (wpIn_rangeFunc_ownF (α := Fin m) (encs := fun j => #[ckV ⟨ga, 0, none⟩ j.val]) (Kp := Kp (· = g3) w7.heap.size) (S := fun ys => ys = List.finRange m) (Sp := fun _ => True) (N := m) (w0 := w7) rfl (by omega) (gf := 142) (lb := #[.pointer (some ⟨Bs, 0, none⟩), .pointer (some ⟨Bn, 0, none⟩)]) (by rw [ev30 _ _ (by omega)]; exact s14) trivial (enters_of Tryd.func142 (by kernel_rfl) rfl)
    (fun l J Jx W hW hJ hJx hY h0 => chunk_in (T := (· = g3)) (by omega) ⟨b3, by omega⟩ ⟨b4, by omega⟩ hY hW.size hJ ((hW.cell (p := ⟨Bs, 0, none⟩) b3).trans q1) hcap ((hW.cell (p := ⟨Bn, 0, none⟩) b4).trans q2) h0)
    (fun h k => h.trans k) (fun W l o o' hl ho _ _ => ⟨by simp, fun b hb _ => World.putObj_heap_other (by omega)⟩) (Below.refl _ _) (fun _ => rfl)
    (fun pre W => Cs W g3 (us (hv (allF b) m pre)) ∧ Fr (· = g3) w7 W) (fun _ _ _ => False) ?_ (fun _ _ _ _ _ hs _ _ => hs) ⟨c7, Fr.refl _ _⟩
    (fun x => ⟨(sl30 (slot (slot gB 15 (ckV ⟨ga, 0, none⟩ x.val)) 4 (ckV ⟨ga, 0, none⟩ x.val))).toArray, []⟩) ?_ ?_ ?_ (fun _ _ _ _ _ _ h _ => h.elim))
  · rintro pre A B row ⟨hc, hf⟩ hg hr
    have hrow : ∀ r, row = some r → w7.heap.size ≤ r := fun r e => (hr r e).1
    refine ⟨?_, ?_⟩
    · obtain ⟨T, hc⟩ := hc
      refine ⟨T, ?_⟩
      rw [hg.block g3 (heap_lt hc) (fun e => by have := hrow g3 e.symm; omega)]
      exact hc
    · refine ⟨hg.os.trans hf.os, hg.tape.trans hf.tape, hg.output.trans hf.output, Nat.le_trans hf.size hg.size, fun k hk hT => ?_⟩
      rw [hg.block k (Nat.lt_of_lt_of_le hk hf.size) (fun e => by have := hrow k e.symm; omega)]
      exact hf.keep k hk hT
  · intro l x W K hK
    have het : ((#[15].zip #[ckV ⟨ga, 0, none⟩ x.val]).foldl (fun (t : Array Value) (pv : Tmp × Value) => t.setIfInBounds pv.1 pv.2) (sl30 gB).toArray) = (sl30 (slot gB 15 (ckV ⟨ga, 0, none⟩ x.val))).toArray := by
      simp [sl30, slot]
    refine (Eq.mpr (congrArg (fun t => Code.wpIn _ _ _ _ _ ⟨t, []⟩ W) het) ?_)
    refine region_in (ro := some l) (by kernel_rfl) (N := fun e w => K ⟨e.toArray, []⟩ w) (fun e w h => h) (Eq.mpr (su3_eq _ _ _) ?_)
    rw [slot_same]
    exact hK
  · rintro l pre x W ⟨hc, hf⟩ hlen
    refine wpIn_block (region_in (ro := some l) (by kernel_rfl) (N := fun e w => _) (fun e w h => h) (Eq.mpr (su4_eq _ _ _) ?_))
    have t3 : slot (slot gB 15 (ckV ⟨ga, 0, none⟩ x.val)) 4 (ckV ⟨ga, 0, none⟩ x.val) 3 = .pointer (some ⟨g3, 0, none⟩) := by rw [← s3]; rfl
    have t4 : slot (slot gB 15 (ckV ⟨ga, 0, none⟩ x.val)) 4 (ckV ⟨ga, 0, none⟩ x.val) 4 = ckV ⟨ga, 0, none⟩ x.val := rfl
    rw [t3, t4]
    have hvl := hv_len (allF b) m pre
    rw [hc.ld (by rw [us_len]; exact hvl)]
    have hkW : KT W := fun i hi => hf.cell (hk7 i hi) (by show ¬ 2 = g3; omega)
    have oW := o7.fr hf (fun _ h => h.elim) (fun b' hb' hB => by show ¬ b' = g3; omega)
    have hrW := oW.rd2 (D' := fun _ => True) (fun _ _ => trivial) (fun _ _ _ _ => trivial) (show (allF b).length < _ by omega)
    have hxm := x.isLt
    have hcut := hrW.cut (l := 64 * x.val) (e := 64 * x.val + 64) (m := 64 * x.val + 64) (by omega) (by omega) (by omega) (by omega)
    have a2 : Value.slice (if 64 * x.val + 64 = 64 * x.val then some (⟨ga, 0, none⟩ : Addr) else (some (⟨ga, 0, none⟩ : Addr)).map (·.add (64 * x.val * Ty.byte.n))) (64 * x.val + 64 - 64 * x.val) (64 * x.val + 64 - 64 * x.val) = ckV ⟨ga, 0, none⟩ x.val := by
      rw [if_neg (by omega), Option.map_some, show Ty.byte.n = 1 from rfl, Nat.mul_one, Nat.add_sub_cancel_left]; rfl
    rw [a2] at hcut
    refine Block_c hkW hvl hcut (by rw [List.length_drop, List.length_take]; omega) fun w8 h8 => ?_
    have hbl := blockF_len (v := hv (allF b) m pre) (b := ((allF b).take (64 * x.val + 64)).drop (64 * x.val)) hvl
    refine (hc.ext h8).uSetN (l' := blockF (hv (allF b) m pre) (((allF b).take (64 * x.val + 64)).drop (64 * x.val))) (by rw [hbl, hvl]) hvl fun w9 c9 f9 => ?_
    have hfr : Fr (· = g3) W w9 := (Fr.mono h8 (fun _ _ h => h.elim)).trans f9 (fun _ _ h => h)
    have hc0 := hc
    refine ⟨⟨hfr.size, fun k o hk ho => hfr.heap hk (fun e => ?_)⟩, ⟨hfr.size, fun b hb hT => ?_⟩, ?_, hf.trans hfr (fun _ _ h => h)⟩
    · have e : k = g3 := e
      subst e
      obtain ⟨T, hcT⟩ := hc0
      rw [hcT] at hk
      cases hk
      cases ho
    · exact hfr.keep b (by have := hf.size; omega) hT
    · rw [hv_snoc]; exact c9
  · rintro D ys W hD rfl ⟨hc, hf⟩ hKD
    rw [hv_done] at hc
    have hHl := hs_len (allF b) m
    simp only [Exit.then, Exit.inBlock]
    have hfW : Ext w W := k7.tn hf (fun x hx => by omega)
    have hDl : D < W.heap.size := heap_lt hKD
    refine wpIn_seq (wpIn_seq (region_in (by kernel_rfl) (N := fun e w => Code.wpIn (WF none) 3 Tryd.prog (sub [1, 1, 1, 0, 1] (bodyOf Tryd.f123)) _ ⟨e.toArray, [{ target := .collected D, args := #[] }]⟩ w) (fun e w h => h) (Eq.mpr (su5_eq _ _ _) ?_)))
    rw [s3, hc.ld (by rw [us_len]; exact hHl)]
    generalize hH : hs (allF b) m = H at *
    refine wpIn_block (wpIn_loop (fun a w' => ∃ i g, i ≤ 8 ∧ a = ⟨(sl30 g).toArray, [{ target := .collected D, args := #[] }]⟩ ∧ g 19 = .agg ⟨us H⟩ ∧ g 20 = .int .i64 ((i : Nat) : Int) ∧ G.Own .byte (fun _ => False) w.heap.size w' (g 2) (outF (H.take i)) ∧ (∀ b', Blk (g 2) b' → b' ≠ D) ∧ Ext w w' ∧ w'.heap[D]? = some (.deferred (some [])))
      (fun a _ => (8 - iv (nth a.tmps.toList 20)).toNat) ⟨0, _, by omega, rfl, by simp [slot], by simp [slot], by simp [slot, s2]; exact G.Own.nil, by simp only [slot]; rintro b' ⟨_, _, _, h, _⟩; simp [s2] at h, hfW, hKD⟩ ?_)
    rintro _ w1 ⟨i, g, hi, rfl, g19, g20, ho, hbk, hE, hD1⟩
    refine wpIn_seq (region_in (by kernel_rfl) (N := fun e w => Code.wpIn (WF none) 3 Tryd.prog (sub [1, 1, 1, 0, 1, 0, 0, 1] (bodyOf Tryd.f123)) _ ⟨e.toArray, [{ target := .collected D, args := #[] }]⟩ w) (fun e w h => h) (Eq.mpr (su6_eq _ _ _) ?_))
    rw [g20]
    simp only [↓eBinI, ↓eDiv, ↓eShift, ↓eBinS, ↓ePick, ↓eNot, ↓eNeg, ↓eConv, ↓eConvS, ↓eExt0, ↓eExt1, ↓eExt2, ↓eFA, ↓eIA, ↓eLenSl, ↓eCapSl, ↓eLenS, ↓eMin, ↓eMax, ↓eCondT, ↓eCondF, ↓gIf_tt, ↓gIf_ff, ↓gIf_tf, ↓gIf_ft, ↓gIf_u, ↓gIfW_u, ↓gIfW_tt, ↓gIfW_ff, ↓gIfW_tf, ↓gIfW_ft, binI, divI, shiftI, add_mk, Nat.zero_add, cond_true, cond_false, decide_true, decide_false, Bool.not_true, Bool.not_false, Bool.and_true, Bool.true_and, Bool.and_false, Bool.false_and, Int.toNat_natCast, Nat.mul_one]
    by_cases ci : (i : Int) < 8
    · refine wpIn_seq (wpIn_cond (t := true) (by rw [ev30 _ _ (by omega), slot_same]; congr 1; rw [decide_eq_true ci]) (wpIn_skip ?_))
      have hi8 : i < H.length := by omega
      refine wpIn_seq (wpIn_block (wpIn_seq (region_in (by kernel_rfl) (N := fun e w => Code.wpIn (WF none) 3 Tryd.prog (sub [1, 1, 1, 0, 1, 0, 0, 1, 1, 0, 0, 1] (bodyOf Tryd.f123)) _ ⟨e.toArray, [{ target := .collected D, args := #[] }]⟩ w) (fun e w h => h) (Eq.mpr (su7_eq _ _ _) ?_))))
      have u19 : slot g 21 (.bool (decide ((i : Int) < 8))) 19 = .agg ⟨us H⟩ := by simp [slot, g19]
      have u20 : slot g 21 (.bool (decide ((i : Int) < 8))) 20 = .int .i64 ((i : Nat) : Int) := by simp [slot, g20]
      rw [u19, u20]
      refine ⟨_, .i64, i, u H[i], rfl, rfl, by omega, by omega, by rw [Int.toNat_natCast]; have := us_get hi8; simpa using this, ?_⟩
      refine region_in (by kernel_rfl) (N := fun e w => Code.wpIn (WF none) 3 Tryd.prog (sub [1, 1, 1, 0, 1, 0, 0, 1, 1, 1] (bodyOf Tryd.f123)) _ ⟨e.toArray, [{ target := .collected D, args := #[] }]⟩ w) (fun e w h => h) (Eq.mpr (su8_eq _ _ _) ?_)
      generalize hgC : slot (slot (slot g 21 _) 22 _) 6 _ = gC
      have v2 : gC 2 = g 2 := by rw [← hgC]; simp [slot]
      have v6 : gC 6 = u H[i] := by rw [← hgC]; simp [slot]
      have v19 : gC 19 = .agg ⟨us H⟩ := by rw [← hgC]; simp [slot, g19]
      have v20 : gC 20 = .int .i64 ((i : Nat) : Int) := by rw [← hgC]; simp [slot, g20]
      clear hgC u19 u20
      have hlt : H[i].toNat < 4294967296 := H[i].isLt
      rw [v2, v6]
      simp only [↓eBinI, ↓eDiv, ↓eShift, ↓eBinS, ↓ePick, ↓eNot, ↓eNeg, ↓eConv, ↓eConvS, ↓eExt0, ↓eExt1, ↓eExt2, ↓eFA, ↓eIA, ↓eLenSl, ↓eCapSl, ↓eLenS, ↓eMin, ↓eMax, ↓eCondT, ↓eCondF, ↓gIf_tt, ↓gIf_ff, ↓gIf_tf, ↓gIf_ft, ↓gIf_u, ↓gIfW_u, ↓gIfW_tt, ↓gIfW_ff, ↓gIfW_tf, ↓gIfW_ft, binI, divI, shiftI, add_mk, Nat.zero_add, cond_true, cond_false, decide_true, decide_false, Bool.not_true, Bool.not_false, Bool.and_true, Bool.true_and, Bool.and_false, Bool.false_and, Int.toNat_natCast, Nat.mul_one, ↓eU64]
      refine num_Put_c (s := 4) (by omega) (by omega) (by omega) fun v3 w3 h3 o3 => ?_
      have hp := putF_len 4 H[i].toNat
      have hol := outF_len (H.take i)
      have htl : (H.take i).length = i := by rw [List.length_take]; omega
      have hD3 : w3.heap[D]? = some (.deferred (some [])) := h3.heap hD1 (fun h => h)
      refine (ho.ext h3).cat (hE.tr h3).size (fun h => h) rfl rfl (o3.rd2 (D' := fun _ => True) (fun _ _ => trivial) (fun _ _ _ _ => trivial) (show (putF _ 4).length < _ by omega)) (fun cs h => h.flat rfl) (by show (2 * ((outF _).length + (putF _ 4).length) + 192) * 1 ≤ _; omega) fun v w4 hv' hf' hbk' => ?_
      have e0 : IntKind.i64.wrap ((i : Int) + 1) = ((i + 1 : Nat) : Int) := by rw [wrap64 (by omega) (by omega)]; omega
      refine region_in (by kernel_rfl) (N := fun e w => _) (fun e w h => h) (Eq.mpr (su9_eq _ _ _) ?_)
      generalize hgE : slot (slot (slot (slot (slot (slot gC 23 _) 24 _) 25 _) 26 _) 27 _) 2 _ = gE
      have x2 : gE 2 = v := by rw [← hgE]; simp [slot]
      have x19 : gE 19 = .agg ⟨us H⟩ := by rw [← hgE]; simp [slot, v19]
      have x20 : gE 20 = .int .i64 ((i : Nat) : Int) := by rw [← hgE]; simp [slot, v20]
      rw [x20]
      simp only [↓eBinI, ↓eDiv, ↓eShift, ↓eBinS, ↓ePick, ↓eNot, ↓eNeg, ↓eConv, ↓eConvS, ↓eExt0, ↓eExt1, ↓eExt2, ↓eFA, ↓eIA, ↓eLenSl, ↓eCapSl, ↓eLenS, ↓eMin, ↓eMax, ↓eCondT, ↓eCondF, ↓gIf_tt, ↓gIf_ff, ↓gIf_tf, ↓gIf_ft, ↓gIf_u, ↓gIfW_u, ↓gIfW_tt, ↓gIfW_ff, ↓gIfW_tf, ↓gIfW_ft, binI, divI, shiftI, add_mk, Nat.zero_add, cond_true, cond_false, decide_true, decide_false, Bool.not_true, Bool.not_false, Bool.and_true, Bool.true_and, Bool.and_false, Bool.false_and, Int.toNat_natCast, Nat.mul_one, e0]
      have hm20 : nth (sl30 g) 20 = .int .i64 ((i : Nat) : Int) := g20
      refine ⟨⟨i + 1, _, by omega, rfl, by simp [slot, x19], by simp [slot], ?_, ?_, (hE.tr h3).tn hf' (fun x hx => hx.2), hf'.heap hD3 (fun h => hbk _ h.1 rfl)⟩, ?_⟩
      · rw [List.take_succ_eq_append_getElem hi8, outF_snoc]
        simpa [slot, x2] using hv'
      · have : slot (slot gE 28 (.int .i64 ((i + 1 : Nat) : Int))) 20 (.int .i64 ((i + 1 : Nat) : Int)) 2 = v := by simp [slot, x2]
        rw [this]
        intro b' hb'
        rcases hbk' b' hb' with h | h
        · exact hbk _ h
        · have := heap_lt hD3; have := h3.size; omega
      · rw [hm20]
        show (8 - iv (Value.int .i64 ((i + 1 : Nat) : Int))).toNat < (8 - iv (Value.int .i64 ((i : Nat) : Int))).toNat
        simp only [iv]; omega
    · refine wpIn_seq (wpIn_cond (t := false) (by rw [ev30 _ _ (by omega), slot_same]; congr 1; rw [decide_eq_false ci]) (wpIn_exit ?_))
      simp only [Exit.then, Exit.inBlock, if_true]
      have : i = 8 := by omega
      subst this
      refine wpIn_seq (region_in (by kernel_rfl) (N := fun e w => Code.wpIn (WF none) 3 Tryd.prog .ret _ ⟨e.toArray, [{ target := .collected D, args := #[] }]⟩ w) (fun e w h => h) (Eq.mpr (su10_eq _ _ _) ?_))
      refine wpIn_ret ?_
      refine ⟨by simp, .inl ⟨D, _, rfl, run_takeDeferred hD1, _, results_tmp rfl _ _ _, ?_⟩⟩
      have hF : Fr (· = D) w1 (w1.putObj D (.deferred none)) := ⟨rfl, rfl, rfl, by simp, fun b hb hT => World.putObj_heap_other (fun e => hT (by first | exact e | exact e.symm))⟩
      have hval : ((sl30 (slot (slot (slot g 21 (.bool (decide (((8 : Nat) : Int) < 8)))) 29 (slot g 21 (.bool (decide (((8 : Nat) : Int) < 8))) 2)) 2 (slot g 21 (.bool (decide (((8 : Nat) : Int) < 8))) 2))).toArray).getD 2 undef = g 2 := rfl
      rw [List.take_of_length_le (by omega)] at ho
      have hs1 : sumF b = outF H := by rw [sumF, ← hmd, hH]
      have hk := h (g 2) (w1.putObj D (.deferred none)) (hE.tn hF (fun x hx => by have := k7.size; omega)) (by rw [hs1]; exact ho.fr hF (fun _ h => h.elim) (fun b' hb' hB => hbk b' hb'))
      exact hk
end Go.Proofs.YtkpgmaiklfjjgaaDoor
end
section
set_option linter.unusedSimpArgs false
set_option linter.unusedVariables false
namespace Go.Proofs.YtkpgmaiklfjjgaaDoor
open Go Go.G
variable {X : KX} {w : World} {K : KV} {D D' : Nat → Prop}
theorem Mul64_c (h : K (.tuple #[.int .u64 0, .int .u64 64]) w) : GCalls Tryd.prog 141 [.int .u64 1, .int .u64 64] K X w := by
  apply bits_Mul64.calls; unfold bits_Mul64.b
  have e1 : IntKind.u64.wrap (((BitVec.ofInt IntKind.u64.bits 1 &&& BitVec.ofInt IntKind.u64.bits 4294967295).toNat : Nat) : Int) = 1 := by decide
  have e2 : IntKind.u64.wrap (((BitVec.ofInt IntKind.u64.bits 64 &&& BitVec.ofInt IntKind.u64.bits 4294967295).toNat : Nat) : Int) = 64 := by decide
  have e3 : (1 : Int).fdiv (2 ^ min (32 : Int).toNat IntKind.u64.bits) = 0 := by decide
  have e4 : (64 : Int).fdiv (2 ^ min (32 : Int).toNat IntKind.u64.bits) = 0 := by decide
  have e5 : IntKind.u64.wrap (1 * 64) = 64 := by decide
  have e6 : IntKind.u64.wrap (0 * 64) = 0 := by decide
  have e7 : IntKind.u64.wrap (0 + 0) = 0 := by decide
  have e8 : IntKind.u64.wrap (((BitVec.ofInt IntKind.u64.bits 0 &&& BitVec.ofInt IntKind.u64.bits 4294967295).toNat : Nat) : Int) = 0 := by decide
  have e9 : (0 : Int).fdiv (2 ^ min (32 : Int).toNat IntKind.u64.bits) = 0 := by decide
  have e10 : IntKind.u64.wrap (1 * 0) = 0 := by decide
  have e11 : IntKind.u64.wrap (0 * 0) = 0 := by decide
  have e0 : (0 : Int) ≤ 32 := by decide
  simp only [↓eBinI, ↓eShift, binI, shiftI, e0, e1, e2, e3, e4, e5, e6, e7, e8, e9, e10, e11, true_and]
  exact h
theorem Mul_c (h : K (.tuple #[.int .u64 0, .int .u64 64]) w) : GCalls Tryd.prog 129 [.int .u64 1, .int .u64 64] K X w := by
  apply bits_Mul.calls; unfold bits_Mul.b
  simp only [↓eBinI, ↓eDiv, ↓eShift, ↓eBinS, ↓ePick, ↓eNot, ↓eNeg, ↓eConv, ↓eConvS, ↓eExt0, ↓eExt1, ↓eExt2, ↓eFA, ↓eIA, ↓eLenSl, ↓eCapSl, ↓eLenS, ↓eMin, ↓eMax, ↓eCondT, ↓eCondF, ↓gIf_tt, ↓gIf_ff, ↓gIf_tf, ↓gIf_ft, ↓gIf_u, ↓gIfW_u, ↓gIfW_tt, ↓gIfW_ff, ↓gIfW_tf, ↓gIfW_ft, binI, divI, shiftI, add_mk, Nat.zero_add, cond_true, cond_false, decide_true, decide_false, Bool.not_true, Bool.not_false, Bool.and_true, Bool.true_and, Bool.and_false, Bool.false_and, Int.toNat_natCast, Nat.mul_one]
  refine Mul64_c ?_
  simp only [↓eBinI, ↓eDiv, ↓eShift, ↓eBinS, ↓ePick, ↓eNot, ↓eNeg, ↓eConv, ↓eConvS, ↓eExt0, ↓eExt1, ↓eExt2, ↓eFA, ↓eIA, ↓eLenSl, ↓eCapSl, ↓eLenS, ↓eMin, ↓eMax, ↓eCondT, ↓eCondF, ↓gIf_tt, ↓gIf_ff, ↓gIf_tf, ↓gIf_ft, ↓gIf_u, ↓gIfW_u, ↓gIfW_tt, ↓gIfW_ff, ↓gIfW_tf, ↓gIfW_ft, binI, divI, shiftI, add_mk, Nat.zero_add, cond_true, cond_false, decide_true, decide_false, Bool.not_true, Bool.not_false, Bool.and_true, Bool.true_and, Bool.and_false, Bool.false_and, Int.toNat_natCast, Nat.mul_one]
  exact h
/-- A row of bytes that nobody wrote yet. -/
theorem MakeNoZero_c {K : KV} (h : ∀ g w' l, w.heap.size = g → Ext w w' → Cs w' g l → 64 ≤ l.length → K (.slice (some ⟨g, 0, none⟩) 64 l.length) w') : pCall Tryd.prog 130 [.int .i64 64] X w K := by
  refine .inr ?_
  obtain ⟨cs, hr, h1, h2, _⟩ := Lib.run_makeNoZero_cap (P := Tryd.prog) w #[3] 22 5 (by kernel_rfl) 64 (by omega)
  refine ⟨_, _, ?_, h w.heap.size (w.drew.drew.alloc (.cells cs 5)) cs.toList rfl (((Ext.drew w).tr (Ext.drew _)).tr (Ext.alloc _ _)) ⟨5, alloc_new w.drew.drew _⟩ (by simpa using h1)⟩
  rw [run_callFunc_extern Tryd.func130 (by kernel_rfl) (by kernel_rfl) (by kernel_rfl) (e := Extern.BytealgMakeNoZero.makeNoZero #[3] #[22]) (by kernel_rfl)]
  have : (#[Value.int IntKind.i64 64] : Array Value) = #[.int .i64 ((64 : Nat) : Int)] := rfl
  rw [show ([Value.int IntKind.i64 64] : List Value).toArray = #[.int .i64 ((64 : Nat) : Int)] from rfl, hr]
  rfl
theorem Repeat_c {x : Value} {c : UInt8} (hx : Rd (.slice .byte) D w [x] [c]) (h : ∀ v w', Ext w w' → Rd (.slice .byte) (fun _ => True) w' [v] (List.replicate 64 c) → K v w') : GCalls Tryd.prog 122 [x, .int .i64 64] K X w := by
  obtain ⟨a, cp, rfl, hc, hl⟩ := hx.form
  apply bytes_Repeat.calls; unfold bytes_Repeat.b
  have e1 : IntKind.u64.wrap ((1 : Nat) : Int) = 1 := by decide
  have e2 : IntKind.u64.wrap 64 = 64 := by decide
  have e3 : IntKind.i64.wrap 64 = 64 := by decide
  simp only [↓eBinI, ↓eDiv, ↓eShift, ↓eBinS, ↓ePick, ↓eNot, ↓eNeg, ↓eConv, ↓eConvS, ↓eExt0, ↓eExt1, ↓eExt2, ↓eFA, ↓eIA, ↓eLenSl, ↓eCapSl, ↓eLenS, ↓eMin, ↓eMax, ↓eCondT, ↓eCondF, ↓gIf_tt, ↓gIf_ff, ↓gIf_tf, ↓gIf_ft, ↓gIf_u, ↓gIfW_u, ↓gIfW_tt, ↓gIfW_ff, ↓gIfW_tf, ↓gIfW_ft, binI, divI, shiftI, add_mk, Nat.zero_add, cond_true, cond_false, decide_true, decide_false, Bool.not_true, Bool.not_false, Bool.and_true, Bool.true_and, Bool.and_false, Bool.false_and, Int.toNat_natCast, Nat.mul_one, show ([c] : List UInt8).length = 1 from rfl, e1, e2, show ((64 : Int) == 0) = false from by decide, show decide ((64 : Int) < 0) = false from by decide]
  refine Mul_c ?_
  simp only [↓eBinI, ↓eDiv, ↓eShift, ↓eBinS, ↓ePick, ↓eNot, ↓eNeg, ↓eConv, ↓eConvS, ↓eExt0, ↓eExt1, ↓eExt2, ↓eFA, ↓eIA, ↓eLenSl, ↓eCapSl, ↓eLenS, ↓eMin, ↓eMax, ↓eCondT, ↓eCondF, ↓gIf_tt, ↓gIf_ff, ↓gIf_tf, ↓gIf_ft, ↓gIf_u, ↓gIfW_u, ↓gIfW_tt, ↓gIfW_ff, ↓gIfW_tf, ↓gIfW_ft, binI, divI, shiftI, add_mk, Nat.zero_add, cond_true, cond_false, decide_true, decide_false, Bool.not_true, Bool.not_false, Bool.and_true, Bool.true_and, Bool.and_false, Bool.false_and, Int.toNat_natCast, Nat.mul_one, e3, show decide ((0 : Int) > 0) = false from by decide, show decide ((64 : Int) > 9223372036854775807) = false from by decide, show ((((1 : Nat) : Int)) == 0) = false from by decide, show decide ((64 : Int) > 8192) = false from by decide]
  unfold bytes_Repeat.j1
  refine MakeNoZero_c fun g w1 l hg h1 hcs hll => ?_
  refine eSl (l := 0) (h := 64) (m := 64) bnd_none (bnd_int (by omega)) (bnd_int (by omega)) (by omega) (by omega) hll (by simp) ?_
  rw [if_neg (by omega)]
  simp only [Option.map_some, Nat.zero_mul, add_zero, Nat.sub_zero]
  refine hcs.copy (k := 1) (by show min 1 64 = 1; decide) (reads_bv (hx.ext h1) (by simp)) (by simp [bv]) (by omega) (bv_one _) fun w2 hc2 hf2 => ?_
  refine bytes_Repeat.loop1 (fun x10 w' => ∃ i : Nat, 1 ≤ i ∧ i ≤ 64 ∧ x10 = .int .i64 i ∧ Ext w w' ∧ ∃ rest, Cs w' g (bv (List.replicate i c) ++ rest) ∧ i + rest.length = l.length) (fun x10 _ => 64 - (iv x10).toNat)
    ⟨1, by omega, by omega, rfl, h1.tn hf2 (fun x hx => by omega), l.drop 1, by simpa [bv] using hc2, by rw [List.length_drop]; omega⟩ ?_
  rintro x10 gg w3 ⟨i, hi1, hi64, rfl, h3, rest, hc3, hr⟩
  unfold bytes_Repeat.b1
  by_cases ci : (i : Int) < 64
  · have e5 : (if (64 : Int) < (i : Int) then (64 : Int) else (i : Int)) = (i : Int) := by rw [if_neg (by omega)]
    simp only [↓eBinI, ↓eDiv, ↓eShift, ↓eBinS, ↓ePick, ↓eNot, ↓eNeg, ↓eConv, ↓eConvS, ↓eExt0, ↓eExt1, ↓eExt2, ↓eFA, ↓eIA, ↓eLenSl, ↓eCapSl, ↓eLenS, ↓eMin, ↓eMax, ↓eCondT, ↓eCondF, ↓gIf_tt, ↓gIf_ff, ↓gIf_tf, ↓gIf_ft, ↓gIf_u, ↓gIfW_u, ↓gIfW_tt, ↓gIfW_ff, ↓gIfW_tf, ↓gIfW_ft, binI, divI, shiftI, add_mk, Nat.zero_add, cond_true, cond_false, decide_true, decide_false, Bool.not_true, Bool.not_false, Bool.and_true, Bool.true_and, Bool.and_false, Bool.false_and, Int.toNat_natCast, Nat.mul_one, ci, e5]
    refine drawS (· = g) fun w4 h4 => ?_
    refine eSl (l := i) (h := 64) (m := 64) (bnd_int (by omega)) bnd_none bnd_none (by omega) (by omega) (by omega) (by simp) ?_
    rw [if_neg (by omega)]
    refine eSl (l := 0) (h := i) (m := 64) bnd_none (bnd_int (by omega)) bnd_none (by omega) (by omega) (by omega) (by simp) ?_
    rw [if_neg (by omega)]
    simp only [Option.map_some, Nat.zero_mul, add_zero, Nat.sub_zero, add_mk, Nat.zero_add, Nat.mul_one]
    have hlen : (bv (List.replicate i c) ++ rest).length = l.length := by rw [List.length_append, bv_len, List.length_replicate]; omega
    have hk : min i (64 - i) ≤ i := Nat.min_le_left _ _
    have hk2 : min i (64 - i) ≤ 64 - i := Nat.min_le_right _ _
    have hk3 : 1 ≤ min i (64 - i) := Nat.le_min.2 ⟨hi1, by omega⟩
    generalize hkk : min i (64 - i) = k at hk hk2 hk3
    have er : ((bv (List.replicate i c) ++ rest).drop 0).take k = bv (List.replicate k c) := by
      rw [List.drop_zero, List.take_append_of_le_length (by rw [bv_len, List.length_replicate]; exact hk)]
      simp only [bv, ← List.map_take, List.take_replicate]
      rw [Nat.min_eq_left hk]
    have hrd := (hc3.ext h4).reads (n := i) (c := 64) (k := k) (o := 0) (by rw [hlen]; omega)
    rw [er] at hrd
    refine (hc3.ext h4).copy (k := k) hkk hrd (by rw [bv_len, List.length_replicate]) (by rw [hlen]; omega) (bv_one _) fun w5 hc5 hf5 => ?_
    have h5 : Ext w w5 := (h3.tr h4).tn hf5 (fun x hx => by omega)
    have e6 : (bv (List.replicate i c) ++ rest).take i ++ bv (List.replicate k c) ++ (bv (List.replicate i c) ++ rest).drop (i + k) = bv (List.replicate (i + k) c) ++ rest.drop k := by
      rw [List.take_append_of_le_length (by rw [bv_len, List.length_replicate]; exact Nat.le_refl _), List.take_of_length_le (by rw [bv_len, List.length_replicate]; exact Nat.le_refl _), List.drop_append,
        List.drop_of_length_le (by rw [bv_len, List.length_replicate]; omega), bv_len, List.length_replicate, List.nil_append, Nat.add_sub_cancel_left]
      simp [bv, ← List.replicate_append_replicate]
    rw [e6] at hc5
    refine ⟨hf5, ?_⟩
    simp only [↓eBinI, ↓eDiv, ↓eShift, ↓eBinS, ↓ePick, ↓eNot, ↓eNeg, ↓eConv, ↓eConvS, ↓eExt0, ↓eExt1, ↓eExt2, ↓eFA, ↓eIA, ↓eLenSl, ↓eCapSl, ↓eLenS, ↓eMin, ↓eMax, ↓eCondT, ↓eCondF, ↓gIf_tt, ↓gIf_ff, ↓gIf_tf, ↓gIf_ft, ↓gIf_u, ↓gIfW_u, ↓gIfW_tt, ↓gIfW_ff, ↓gIfW_tf, ↓gIfW_ft, binI, divI, shiftI, add_mk, Nat.zero_add, cond_true, cond_false, decide_true, decide_false, Bool.not_true, Bool.not_false, Bool.and_true, Bool.true_and, Bool.and_false, Bool.false_and, Int.toNat_natCast, Nat.mul_one]
    rw [wrap64 (by omega) (by omega)]
    refine bytes_Repeat.leaf1 ⟨i + k, by omega, by omega, by simp, h5, rest.drop k, hc5, by rw [List.length_drop]; omega⟩ (by simp only [iv]; omega)
  · simp only [↓eBinI, ↓eDiv, ↓eShift, ↓eBinS, ↓ePick, ↓eNot, ↓eNeg, ↓eConv, ↓eConvS, ↓eExt0, ↓eExt1, ↓eExt2, ↓eFA, ↓eIA, ↓eLenSl, ↓eCapSl, ↓eLenS, ↓eMin, ↓eMax, ↓eCondT, ↓eCondF, ↓gIf_tt, ↓gIf_ff, ↓gIf_tf, ↓gIf_ft, ↓gIf_u, ↓gIfW_u, ↓gIfW_tt, ↓gIfW_ff, ↓gIfW_tf, ↓gIfW_ft, binI, divI, shiftI, add_mk, Nat.zero_add, cond_true, cond_false, decide_true, decide_false, Bool.not_true, Bool.not_false, Bool.and_true, Bool.true_and, Bool.and_false, Bool.false_and, Int.toNat_natCast, Nat.mul_one, ci]
    have : i = 64 := by omega
    subst this
    refine h _ _ h3 ?_
    have hn : (List.replicate 64 c).length = 64 := by simp
    have := Rd.of_rows (t := .byte) (D := fun _ => True) (D' := fun _ => True) (w := w3) (xs := List.replicate 64 c) (cs := bv (List.replicate 64 c)) (a := some ⟨g, 0, none⟩) (c := 64) (bv_rows _ _ _) (fun _ h => h) (by rw [hn]; omega) (by rw [hn]; omega) fun j u hj => ⟨_, rfl, rfl, trivial, by
      rw [add_mk, Nat.zero_add, hc3.c, List.getElem?_append_left (List.getElem?_eq_some_iff.1 hj).1]; exact hj⟩
    rw [hn] at this
    exact this
end Go.Proofs.YtkpgmaiklfjjgaaDoor
end
