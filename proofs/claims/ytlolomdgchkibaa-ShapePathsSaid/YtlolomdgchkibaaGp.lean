/-
  Maps: their entries as a list, and what the operations make of it.
-/
import Derived.Test.YtlolomdgchkibaaGl
import Derived.MapKept
set_option linter.unusedSimpArgs false
set_option linter.unusedVariables false
set_option linter.unusedSectionVars false
namespace Go.G
open Go Go.MapKept
variable {κ : Type} [DecidableEq κ]
/-- Entries, keys told by enc. -/
def mget : List (κ × Value) → κ → Option Value
  | [], _ => none
  | (a, v) :: l, k => if a = k then some v else mget l k
def mput : List (κ × Value) → κ → Value → List (κ × Value)
  | [], k, v => [(k, v)]
  | (a, u) :: l, k, v => if a = k then (a, v) :: l else (a, u) :: mput l k v
def mdel : List (κ × Value) → κ → List (κ × Value)
  | [], _ => []
  | (a, u) :: l, k => if a = k then l else (a, u) :: mdel l k
/-- How keys are told. -/
structure KeyEnc (d : TypeDesc) (enc : κ → Value) : Prop where
  inj : ∀ a b, enc a = enc b → a = b
  key : ∀ a, IsKey d (enc a)
def encI : Int → Value := .int .i64
theorem keyI : KeyEnc (.int .i64) encI := ⟨fun a b h => by simpa [encI] using h, fun a => rfl⟩
def MapB (enc : κ → Value) (w : World) (b : Nat) (l : List (κ × Value)) : Prop :=
  ∃ es cl, w.heap[b]? = some (.map es cl) ∧ Stamped es cl ∧ es.toList.map (fun e => (e.key, e.val)) = l.map (fun p => (enc p.1, p.2))
variable {d : TypeDesc} {enc : κ → Value} {w : World} {b : Nat} {l : List (κ × Value)}
theorem MapB.lt (h : MapB enc w b l) : b < w.heap.size := by
  obtain ⟨es, cl, h1, _⟩ := h; exact heap_lt h1
theorem MapB.fr {T : Nat → Prop} {w' : World} (h : MapB enc w b l) (hf : Fr T w w') (hb : ¬ T b) : MapB enc w' b l := by
  obtain ⟨es, cl, h1, h2⟩ := h; exact ⟨es, cl, hf.heap h1 hb, h2⟩
theorem MapB.ext {w' : World} (h : MapB enc w b l) (hf : Ext w w') : MapB enc w' b l := h.fr hf (fun h => h)
theorem MapB.nodup (h : MapB enc w b l) : (l.map (·.1)).Nodup := by
  obtain ⟨es, cl, _, ⟨_, _, h3⟩, h4⟩ := h
  have : es.toList.map (·.key) = (l.map (·.1)).map enc := by
    have := congrArg (List.map (·.1)) h4
    simpa [List.map_map, Function.comp_def] using this
  rw [this] at h3
  exact (List.pairwise_map.1 h3).imp (fun h e => h (by rw [e]))
theorem MapB.isKey (he : KeyEnc d enc) {es : Array MapEntry} (h : es.toList.map (fun e => (e.key, e.val)) = l.map (fun p => (enc p.1, p.2))) : ∀ x ∈ es.toList, IsKey d x.key := by
  intro x hx
  have : (x.key, x.val) ∈ l.map (fun p => (enc p.1, p.2)) := by rw [← h]; exact List.mem_map.2 ⟨x, hx, rfl⟩
  obtain ⟨p, _, e⟩ := List.mem_map.1 this
  have : x.key = enc p.1 := (congrArg Prod.fst e).symm
  rw [this]; exact he.key _
theorem mget_find (he : KeyEnc d enc) {k : κ} : ∀ (es : List MapEntry) (l : List (κ × Value)), es.map (fun e => (e.key, e.val)) = l.map (fun p => (enc p.1, p.2)) →
    (∀ x ∈ es, x.key ≠ enc k) → mget l k = none
  | [], [], _, _ => rfl
  | [], _ :: _, h, _ => by simp at h
  | _ :: _, [], h, _ => by simp at h
  | e :: es, (a, v) :: l, h, hn => by
    simp only [List.map_cons, List.cons.injEq, Prod.mk.injEq] at h
    have : a ≠ k := fun e' => hn e (by simp) (by rw [h.1.1, e'])
    simp only [mget, if_neg this]
    exact mget_find he es l h.2 (fun x hx => hn x (by simp [hx]))
theorem mget_at (he : KeyEnc d enc) {k : κ} : ∀ (es : List MapEntry) (l : List (κ × Value)) (j : Nat) (e : MapEntry), es.map (fun e => (e.key, e.val)) = l.map (fun p => (enc p.1, p.2)) →
    (es.map (·.key)).Nodup → es[j]? = some e → e.key = enc k → mget l k = some e.val
  | [], _, j, e, _, _, hj, _ => by simp at hj
  | _ :: _, [], _, _, h, _, _, _ => by simp at h
  | x :: es, (a, v) :: l, 0, e, h, _, hj, hk => by
    simp at hj; subst hj
    simp only [List.map_cons, List.cons.injEq, Prod.mk.injEq] at h
    have : a = k := he.inj _ _ (by rw [← h.1.1, hk])
    simp only [mget, if_pos this, h.1.2]
  | x :: es, (a, v) :: l, j + 1, e, h, hd, hj, hk => by
    simp only [List.map_cons, List.cons.injEq, Prod.mk.injEq, List.nodup_cons] at h hd
    have hm : e ∈ es := List.mem_of_getElem? (by simpa using hj)
    have : a ≠ k := fun e' => hd.1 (List.mem_map.2 ⟨e, hm, by rw [hk, ← e', ← h.1.1]⟩)
    simp only [mget, if_neg this]
    exact mget_at he es l j e h.2 hd.2 (by simpa using hj) hk
variable {P : Program} {T kt et : TypeId}
theorem Fr.setObj {w : World} {r : Nat} {o' : Obj} : Fr (· = r) w { w with heap := w.heap.setIfInBounds r o' } :=
  ⟨rfl, rfl, rfl, by simp, fun b _ hn => by simp [Ne.symm hn]⟩
theorem mput_none {k : κ} {v : Value} : ∀ {l : List (κ × Value)}, mget l k = none → mput l k v = l ++ [(k, v)]
  | [], _ => rfl
  | (a, u) :: l, h => by
    simp only [mget] at h
    split at h
    · cases h
    · rename_i hn; simp [mput, if_neg hn, mput_none h]
theorem mput_at (he : KeyEnc d enc) {k : κ} {v : Value} : ∀ (es : List MapEntry) (l : List (κ × Value)) (j : Nat) (e : MapEntry), es.map (fun e => (e.key, e.val)) = l.map (fun p => (enc p.1, p.2)) →
    (es.map (·.key)).Nodup → es[j]? = some e → e.key = enc k → (es.modify j fun e => { e with key := enc k, val := v }).map (fun e => (e.key, e.val)) = (mput l k v).map (fun p => (enc p.1, p.2))
  | [], _, j, e, _, _, hj, _ => by simp at hj
  | _ :: _, [], _, _, h, _, _, _ => by simp at h
  | x :: es, (a, u) :: l, 0, e, h, _, hj, hk => by
    simp at hj; subst hj
    simp only [List.map_cons, List.cons.injEq, Prod.mk.injEq] at h
    have : a = k := he.inj _ _ (by rw [← h.1.1, hk])
    subst this
    simp only [mput, if_true, List.modify_zero_cons, List.map_cons, h.2]
  | x :: es, (a, u) :: l, j + 1, e, h, hd, hj, hk => by
    simp only [List.map_cons, List.cons.injEq, Prod.mk.injEq, List.nodup_cons] at h hd
    have hm : e ∈ es := List.mem_of_getElem? (by simpa using hj)
    have : a ≠ k := fun e' => hd.1 (List.mem_map.2 ⟨e, hm, by rw [hk, ← e', ← h.1.1]⟩)
    simp only [mput, if_neg this, List.modify_succ_cons, List.map_cons, h.1.1, h.1.2]
    rw [mput_at he es l j e h.2 hd.2 (by simpa using hj) hk]
/-- m[k] = v -/
theorem mapUpdate_run (he : KeyEnc d enc) (hT : P.underlying T = some (.map kt et)) (hd : P.underlying kt = some d) (h : MapB enc w b l) (k : κ) (v : Value) :
    ∃ w', (Instr.mapUpdate T (.map (some b)) (enc k) v).run P w = .ok () w' ∧ MapB enc w' b (mput l k v) ∧ Fr (· = b) w w' := by
  obtain ⟨es, cl, hb, hs, hl⟩ := h
  have hks := MapB.isKey he hl
  have hk := he.key k
  rcases findNow_spec hk es.toList 0 hks with ⟨h1, h2⟩ | ⟨j, e, h1, h2, h3⟩
  · refine ⟨{ w with heap := w.heap.setIfInBounds b (.map (es.push { key := enc k, val := v, born := cl }) (cl + 1)) }, ?_, ⟨_, _, (heap_set hb).1, stamped_push hs h2, ?_⟩, Fr.setObj⟩
    · simp [Instr.mapUpdate, Go.G.run_underlying hT, MapKept.run_getObj_map hb, run_checkKey hd hk, run_findKey hd h1, MapKept.run_setObj_map _ hb, Result.andThen]
    · rw [mput_none (mget_find he _ _ hl h2)]
      simp [hl]
  · rw [Nat.zero_add] at h1
    have h2' : es[j]? = some e := by simpa using h2
    refine ⟨{ w with heap := w.heap.setIfInBounds b (.map (es.modify j fun e => { e with key := enc k, val := v }) cl) }, ?_, ⟨_, _, (heap_set hb).1, stamped_modify hs _ _ (fun _ _ => rfl) (fun x _ hx => by rw [h2'] at hx; cases hx; exact h3.symm), ?_⟩, Fr.setObj⟩
    · simp only [Instr.mapUpdate, Sem.run_bind, Go.G.run_underlying hT, Result.andThen_ok, MapKept.run_getObj_map hb, run_checkKey hd hk, run_findKey hd h1, h2', Option.map_some, Option.getD_some, h3, run_keyThatStays hk, MapKept.run_setObj_map _ hb]
    · have := mput_at he (v := v) es.toList l j e hl hs.2.2 h2 h3
      rw [← this, Array.toList_modify]
/-- m[k] -/
theorem lookup_run {z : Value} (he : KeyEnc d enc) (hT : P.underlying T = some (.map kt et)) (hd : P.underlying kt = some d) (hz : ∀ w, (zeroValue et).run P w = .ok z w) (h : MapB enc w b l) (k : κ) :
    (Instr.lookup T (.map (some b)) (enc k) false).run P w = .ok ((mget l k).getD z) w := by
  obtain ⟨es, cl, hb, hs, hl⟩ := h
  have hks := MapB.isKey he hl
  have hk := he.key k
  rcases findNow_spec hk es.toList 0 hks with ⟨h1, h2⟩ | ⟨j, e, h1, h2, h3⟩
  · simp [Instr.lookup, Go.G.run_underlying hT, MapKept.run_getObj_map hb, run_checkKey hd hk, run_findKey hd h1, hz, Result.andThen, mget_find he _ _ hl h2]
  · rw [Nat.zero_add] at h1
    simp [Instr.lookup, Go.G.run_underlying hT, MapKept.run_getObj_map hb, run_checkKey hd hk, run_findKey hd h1, Result.andThen, mget_at he _ _ j e hl hs.2.2 h2 h3]
theorem lookup_ok {z : Value} (he : KeyEnc d enc) (hT : P.underlying T = some (.map kt et)) (hd : P.underlying kt = some d) (hz : ∀ w, (zeroValue et).run P w = .ok z w) (h : MapB enc w b l) (k : κ) :
    (Instr.lookup T (.map (some b)) (enc k) true).run P w = .ok (.tuple #[(mget l k).getD z, .bool (mget l k).isSome]) w := by
  obtain ⟨es, cl, hb, hs, hl⟩ := h
  have hks := MapB.isKey he hl
  have hk := he.key k
  rcases findNow_spec hk es.toList 0 hks with ⟨h1, h2⟩ | ⟨j, e, h1, h2, h3⟩
  · simp [Instr.lookup, Go.G.run_underlying hT, MapKept.run_getObj_map hb, run_checkKey hd hk, run_findKey hd h1, hz, Result.andThen, mget_find he _ _ hl h2]
  · rw [Nat.zero_add] at h1
    simp [Instr.lookup, Go.G.run_underlying hT, MapKept.run_getObj_map hb, run_checkKey hd hk, run_findKey hd h1, Result.andThen, mget_at he _ _ j e hl hs.2.2 h2 h3]
theorem mdel_none {k : κ} : ∀ {l : List (κ × Value)}, mget l k = none → mdel l k = l
  | [], _ => rfl
  | (a, u) :: l, h => by
    simp only [mget] at h
    split at h
    · cases h
    · rename_i hn; simp [mdel, if_neg hn, mdel_none h]
theorem mdel_at (he : KeyEnc d enc) {k : κ} : ∀ (es : List MapEntry) (l : List (κ × Value)) (j : Nat) (e : MapEntry), es.map (fun e => (e.key, e.val)) = l.map (fun p => (enc p.1, p.2)) →
    (es.map (·.key)).Nodup → es[j]? = some e → e.key = enc k → (es.eraseIdx j).map (fun e => (e.key, e.val)) = (mdel l k).map (fun p => (enc p.1, p.2))
  | [], _, j, e, _, _, hj, _ => by simp at hj
  | _ :: _, [], _, _, h, _, _, _ => by simp at h
  | x :: es, (a, u) :: l, 0, e, h, _, hj, hk => by
    simp at hj; subst hj
    simp only [List.map_cons, List.cons.injEq, Prod.mk.injEq] at h
    have : a = k := he.inj _ _ (by rw [← h.1.1, hk])
    simp only [mdel, if_pos this, List.eraseIdx_cons_zero, h.2]
  | x :: es, (a, u) :: l, j + 1, e, h, hd, hj, hk => by
    simp only [List.map_cons, List.cons.injEq, Prod.mk.injEq, List.nodup_cons] at h hd
    have hm : e ∈ es := List.mem_of_getElem? (by simpa using hj)
    have : a ≠ k := fun e' => hd.1 (List.mem_map.2 ⟨e, hm, by rw [hk, ← e', ← h.1.1]⟩)
    simp only [mdel, if_neg this, List.eraseIdx_cons_succ, List.map_cons, h.1.1, h.1.2]
    rw [mdel_at he es l j e h.2 hd.2 (by simpa using hj) hk]
/-- delete(m, k) -/
theorem delete_run {ty t2 : TypeId} (he : KeyEnc d enc) (hT : P.underlying T = some (.map kt et)) (hd : P.underlying kt = some d) (h : MapB enc w b l) (k : κ) :
    ∃ w', (Builtin.delete_ #[T, t2] ty #[.map (some b), enc k]).run P w = .ok (.tuple #[]) w' ∧ MapB enc w' b (mdel l k) ∧ Fr (· = b) w w' := by
  obtain ⟨es, cl, hb, hs, hl⟩ := h
  have hks := MapB.isKey he hl
  have hk := he.key k
  rcases findNow_spec hk es.toList 0 hks with ⟨h1, h2⟩ | ⟨j, e, h1, h2, h3⟩
  · refine ⟨{ w with heap := w.heap.setIfInBounds b (.map es cl) }, ?_, ⟨_, _, (heap_set hb).1, hs, ?_⟩, Fr.setObj⟩
    · simp [Builtin.delete_, Go.G.run_underlying hT, MapKept.run_getObj_map hb, run_checkKey hd hk, run_findKey hd h1, MapKept.run_setObj_map _ hb, Result.andThen]
    · rw [mdel_none (mget_find he _ _ hl h2)]; exact hl
  · rw [Nat.zero_add] at h1
    have hlt : j < es.size := by
      have := (List.getElem?_eq_some_iff.1 h2).1; simpa using this
    refine ⟨{ w with heap := w.heap.setIfInBounds b (.map (es.eraseIdxIfInBounds j) cl) }, ?_, ⟨_, _, (heap_set hb).1, stamped_erase hs _, ?_⟩, Fr.setObj⟩
    · simp [Builtin.delete_, Go.G.run_underlying hT, MapKept.run_getObj_map hb, run_checkKey hd hk, run_findKey hd h1, MapKept.run_setObj_map _ hb, Result.andThen]
    · rw [← mdel_at he es.toList l j e hl hs.2.2 h2 h3]
      simp [Array.eraseIdxIfInBounds, hlt]
theorem map_ {K : KV} (h : ∀ g w', w.heap.size = g → Ext w w' → MapB enc w' g [] → K (.map (some g)) w') : pMap w K :=
  h _ _ rfl (Ext.alloc w _) ⟨_, _, alloc_new w _, stamped_empty 0, rfl⟩
theorem mput_keys {k : κ} {v : Value} : ∀ {l : List (κ × Value)}, (mput l k v).map (·.1) = if k ∈ l.map (·.1) then l.map (·.1) else l.map (·.1) ++ [k]
  | [] => by simp [mput]
  | (a, u) :: l => by
    by_cases h : a = k
    · simp [mput, h]
    · have hk : ¬ k = a := fun e => h e.symm
      simp only [mput, if_neg h, List.map_cons, mput_keys (l := l), List.mem_cons]
      by_cases hm : k ∈ l.map (·.1)
      · rw [if_pos hm, if_pos (.inr hm)]
      · rw [if_neg hm, if_neg (by rintro (e | e); exact hk e; exact hm e)]; rfl
theorem mget_put {k k' : κ} {v : Value} : ∀ {l : List (κ × Value)}, mget (mput l k v) k' = if k = k' then some v else mget l k'
  | [] => by simp [mput, mget]
  | (a, u) :: l => by
    by_cases h : a = k
    · subst h
      by_cases h2 : a = k' <;> simp [mput, mget, h2]
    · simp only [mput, if_neg h, mget, mget_put (l := l)]
      by_cases h2 : a = k'
      · subst h2; rw [if_pos rfl, if_neg (fun e => h e.symm), if_pos rfl]
      · rw [if_neg h2, if_neg h2]
theorem mget_mem {k : κ} {v : Value} : ∀ {l : List (κ × Value)}, mget l k = some v → (k, v) ∈ l
  | [], h => by cases h
  | (a, u) :: l, h => by
    simp only [mget] at h
    split at h
    · rename_i e; cases h; subst e; simp
    · exact List.mem_cons_of_mem _ (mget_mem h)
theorem mget_isSome {k : κ} : ∀ {l : List (κ × Value)}, (mget l k).isSome = true ↔ k ∈ l.map (·.1)
  | [] => by simp [mget]
  | (a, u) :: l => by
    by_cases h : a = k
    · subst h; simp [mget]
    · simp only [mget, if_neg h, mget_isSome (l := l), List.map_cons, List.mem_cons]
      exact ⟨.inr, fun h' => h'.elim (fun e => absurd e.symm h) id⟩
end Go.G
namespace Go.G
open Go Go.MapKept
variable {κ : Type} [DecidableEq κ] {d : TypeDesc} {enc : κ → Value} {w : World} {b : Nat} {l : List (κ × Value)} {P : Program} {T kt et : TypeId}
theorem eMapUpd {k : κ} {v : Value} {K : KV} (h : MapB enc w b l) (he : KeyEnc d enc) (hT : P.underlying T = some (.map kt et)) (hd : P.underlying kt = some d)
    (hk : ∀ w', MapB enc w' b (mput l k v) → Fr (· = b) w w' → K undef w') : pRunU P (Instr.mapUpdate T (.map (some b)) (enc k) v) w K := by
  obtain ⟨w', h1, h2, h3⟩ := mapUpdate_run he hT hd h k v
  exact ⟨w', h1, hk w' h2 h3⟩
theorem eMapDel {k : κ} {ty t2 : TypeId} {K : KV} (h : MapB enc w b l) (he : KeyEnc d enc) (hT : P.underlying T = some (.map kt et)) (hd : P.underlying kt = some d)
    (hk : ∀ w', MapB enc w' b (mdel l k) → Fr (· = b) w w' → K (.tuple #[]) w') : pRun P (Builtin.delete_ #[T, t2] ty #[.map (some b), enc k]) w K := by
  obtain ⟨w', h1, h2, h3⟩ := delete_run (ty := ty) (t2 := t2) he hT hd h k
  exact ⟨_, w', h1, hk w' h2 h3⟩
theorem eLook {k : κ} {z : Value} {K : KP} {S : World → Prop} (h : ∀ w', S w' → MapB enc w' b l) (he : KeyEnc d enc) (hT : P.underlying T = some (.map kt et)) (hd : P.underlying kt = some d) (hz : ∀ w, (zeroValue et).run P w = .ok z w)
    (hk : K ((mget l k).getD z)) : pRunR P S (Instr.lookup T (.map (some b)) (enc k) false) K := ⟨_, fun w' hw => lookup_run he hT hd hz (h w' hw) k, hk⟩
theorem eLookOk {k : κ} {z : Value} {K : KP} {S : World → Prop} (h : ∀ w', S w' → MapB enc w' b l) (he : KeyEnc d enc) (hT : P.underlying T = some (.map kt et)) (hd : P.underlying kt = some d) (hz : ∀ w, (zeroValue et).run P w = .ok z w)
    (hk : K (.tuple #[(mget l k).getD z, .bool (mget l k).isSome])) : pRunR P S (Instr.lookup T (.map (some b)) (enc k) true) K := ⟨_, fun w' hw => lookup_ok he hT hd hz (h w' hw) k, hk⟩
/-- Keys, each once, as they first come. -/
def keysF [DecidableEq κ] (ks : List κ) : List κ := ks.foldl (fun l k => if k ∈ l then l else l ++ [k]) []
theorem keysF_snoc (ks : List κ) (k : κ) : keysF (ks ++ [k]) = if k ∈ keysF ks then keysF ks else keysF ks ++ [k] := by unfold keysF; rw [List.foldl_append]; rfl
theorem mem_keysFrom {k : κ} : ∀ (ks acc : List κ), k ∈ ks.foldl (fun l k => if k ∈ l then l else l ++ [k]) acc ↔ k ∈ acc ∨ k ∈ ks
  | [], acc => by simp
  | a :: ks, acc => by
    simp only [List.foldl_cons, mem_keysFrom ks, List.mem_cons]
    by_cases h : a ∈ acc
    · rw [if_pos h]
      constructor
      · rintro (h1 | h1)
        · exact .inl h1
        · exact .inr (.inr h1)
      · rintro (h1 | rfl | h1)
        · exact .inl h1
        · exact .inl h
        · exact .inr h1
    · rw [if_neg h, List.mem_append, List.mem_singleton, or_assoc]
theorem mem_keysF {ks : List κ} {k : κ} : k ∈ keysF ks ↔ k ∈ ks := by
  unfold keysF; rw [mem_keysFrom]; simp
theorem keysFrom_nodup : ∀ (ks acc : List κ), acc.Nodup → (ks.foldl (fun l k => if k ∈ l then l else l ++ [k]) acc).Nodup
  | [], acc, h => h
  | a :: ks, acc, h => by
    rw [List.foldl_cons]
    refine keysFrom_nodup ks _ ?_
    split
    · exact h
    · rename_i hn
      rw [List.nodup_append]
      exact ⟨h, by simp, fun x hx y hy e => hn (by rw [List.mem_singleton] at hy; subst hy; subst e; exact hx)⟩
theorem keysF_nodup (ks : List κ) : (keysF ks).Nodup := keysFrom_nodup ks [] List.nodup_nil
end Go.G
