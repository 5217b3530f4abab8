/-
  The places of writes, each once, in order.
-/
import Derived.Test.YtlolomdgchkibaaTk
import Derived.Test.YtlolomdgchkibaaLy
set_option linter.unusedSimpArgs false
set_option linter.unusedVariables false
namespace Go.Proofs.Ytlolomdgchkibaa
open Go Go.G
variable {X : KX} {w : World} {K : KV} {D D' : Nat → Prop}
theorem insF_mem {p q : Int} : ∀ {l : List Int}, q ∈ insF p l ↔ q = p ∨ q ∈ l
  | [] => by simp [insF]
  | a :: l => by
    unfold insF
    split
    · simp only [List.mem_cons, insF_mem (l := l)]
      constructor
      · rintro (h | h | h) <;> simp [h]
      · rintro (h | h | h) <;> simp [h]
    · split
      · rename_i h; subst h; simp
      · simp
theorem insF_sorted {p : Int} : ∀ {l : List Int}, l.Pairwise (· < ·) → (insF p l).Pairwise (· < ·)
  | [], _ => by simp [insF]
  | a :: l, h => by
    obtain ⟨h1, h2⟩ := List.pairwise_cons.1 h
    unfold insF
    split
    · rename_i hlt
      refine List.pairwise_cons.2 ⟨fun q hq => ?_, insF_sorted h2⟩
      rcases insF_mem.1 hq with rfl | hq
      · exact hlt
      · exact h1 q hq
    · split
      · exact h
      · refine List.pairwise_cons.2 ⟨fun q hq => ?_, h⟩
        rcases List.mem_cons.1 hq with rfl | hq
        · omega
        · have := h1 q hq; omega
theorem placesF_snoc (ps : List Int) (p : Int) : placesF (ps ++ [p]) = insF p (placesF ps) := by unfold placesF; rw [List.foldl_append]; rfl
theorem places_spec (ps : List Int) : (placesF ps).Pairwise (· < ·) ∧ ∀ q, q ∈ placesF ps ↔ q ∈ ps := by
  have : ∀ (ps acc : List Int), acc.Pairwise (· < ·) → (ps.foldl (fun out p => insF p out) acc).Pairwise (· < ·) ∧ ∀ q, q ∈ ps.foldl (fun out p => insF p out) acc ↔ q ∈ acc ∨ q ∈ ps := by
    intro ps
    induction ps with
    | nil => intro acc h; simpa using h
    | cons p ps ih =>
      intro acc h
      obtain ⟨h1, h2⟩ := ih (insF p acc) (insF_sorted h)
      refine ⟨h1, fun q => ?_⟩
      rw [List.foldl_cons, h2 q, insF_mem, List.mem_cons]
      constructor
      · rintro ((h | h) | h) <;> simp [h]
      · rintro (h | h | h) <;> simp [h]
  obtain ⟨h1, h2⟩ := this ps [] List.Pairwise.nil
  exact ⟨h1, fun q => by rw [show placesF ps = ps.foldl (fun out p => insF p out) [] from rfl, h2 q]; simp⟩
theorem sortI_spec (l : List Int) : (sortI l).Pairwise (· ≤ ·) ∧ (sortI l).Perm l := by
  refine ⟨?_, List.mergeSort_perm _ _⟩
  have tr : ∀ a b c : Int, leI a b = true → leI b c = true → leI a c = true := fun a b c h1 h2 => by simp only [leI, decide_eq_true_eq] at *; exact Int.le_trans h1 h2
  have to : ∀ a b : Int, (leI a b || leI b a) = true := fun a b => by simp only [leI, Bool.or_eq_true, decide_eq_true_eq]; exact Int.le_total a b
  exact (List.pairwise_mergeSort tr to l).imp (fun h => by simpa [leI] using h)
theorem sort_unique {l s : List Int} (hs : s.Pairwise (· < ·)) (hl : l.Nodup) (hm : ∀ q, q ∈ s ↔ q ∈ l) : sortI l = s := by
  obtain ⟨h1, h2⟩ := sortI_spec l
  have hp : (sortI l).Perm s := h2.trans ((List.perm_ext_iff_of_nodup hl (hs.imp (fun h => by omega))).2 fun q => (hm q).symm)
  refine List.Perm.eq_of_pairwise (le := fun a b => a ≤ b) (fun a b _ _ h1 h2 => by omega) h1 (hs.imp (fun h => by omega)) hp
theorem sort_places (ps : List Int) : sortI (keysF ps) = placesF ps := by
  obtain ⟨h1, h2⟩ := places_spec ps
  exact sort_unique h1 (keysF_nodup ps) (fun q => by rw [h2 q, mem_keysF])
/-- slices.Sort's two contracts. -/
theorem sortsA (m : Nat) : AnyZI.SortsIn Try.prog Try.sortedA_ren Fence.wide m :=
  ⟨fun blk off cap ss W hH hblk hsz => callsIn_wide.2 (AnyM.slices_Sort_int Try.sortA blk off cap ss W hH hblk hsz),
   fun p cap W => callsIn_wide.2 (AnyM.slices_Sort_int_none Try.sortA p cap W)⟩
theorem rd_range {x : Value} {l : List (Int × List UInt8)} (hx : Rd (.slice tWrite) D w [x] l) : ∀ p ∈ l.map (·.1), IntKind.i64.min ≤ p ∧ p ≤ IntKind.i64.max := by
  intro p hp
  obtain ⟨r, hr, rfl⟩ := List.mem_map.1 hp
  obtain ⟨i, hi, rfl⟩ := List.getElem_of_mem hr
  obtain ⟨_, _, _, _, _, _, _, _, h0, h1⟩ := idxWrite hx hi
  exact ⟨h0, h1⟩
theorem keysA_c {g : Nat} (h : K (.func (.func 83) #[] #[.pointer (some ⟨w.heap.size, 0, none⟩)]) (w.alloc (.cells #[.map (some g)] 69))) : GCalls Try.prog 68 [.map (some g)] K X w := by
  refine Calls.g (fn := Try.f68) ((callsIn_wide (n := 5)).1 (AnyZI.keys_in Try.keysA Fence.wide 5 trivial rfl (some g) w)) Try.func68 (by kernel_rfl) (by kernel_rfl) ?_
  rintro e w' ⟨rfl, rfl⟩
  exact ⟨_, rfl, h⟩
theorem trail_Places_c {x : Value} {l : List (Int × List UInt8)} (hx : Rd (.slice tWrite) D w [x] l) (hD : ∀ b, D b → b < w.heap.size) (hl : l.length ≤ 1000)
    (h : ∀ v w', Ext w w' → Own (.int .i64) (fun _ => False) w.heap.size w' v (placesF (l.map (·.1))) → K v w') : GCalls Try.prog 40 [x] K X w := by
  apply trail_Places.calls; unfold trail_Places.b
  refine trail_last_c hx hD fun g m w1 hg h1 hm hk _ => ?_
  have hr := rd_range hx
  have hlen : m.length ≤ l.length := by
    have e := congrArg List.length hk
    rw [List.length_map] at e
    have : ∀ (ks acc : List Int), (ks.foldl (fun l k => if k ∈ l then l else l ++ [k]) acc).length ≤ acc.length + ks.length := by
      intro ks
      induction ks with
      | nil => intro acc; simp
      | cons a ks ih =>
        intro acc
        have := ih (if a ∈ acc then acc else acc ++ [a])
        rw [List.foldl_cons]
        have h2 : (if a ∈ acc then acc else acc ++ [a]).length ≤ acc.length + 1 := by split <;> simp
        simp at this ⊢; omega
    have := this (l.map (·.1)) []
    rw [show (l.map (·.1)).foldl (fun l k => if k ∈ l then l else l ++ [k]) [] = keysF (l.map (·.1)) from rfl, ← e] at this
    simpa using this
  obtain ⟨c1, c2⟩ := sorted_keys (ρ := Try.keysA_ren) (ρ2 := Try.sortedA_ren) Try.keysA Try.sortedA sortsA hm (fun p hp => by
    refine hr p.1 ?_
    have : p.1 ∈ m.map (·.1) := List.mem_map.2 ⟨p, hp, rfl⟩
    rw [hk] at this
    exact mem_keysF.1 this) (by omega) Try.underlying3 (enters_of Try.func82 (by kernel_rfl) rfl) (enters_of Try.func83 (by kernel_rfl) rfl)
  refine keysA_c ?_
  refine Calls.g (fn := Try.f67) c2 Try.func67 (by kernel_rfl) (by kernel_rfl) ?_
  rintro e w' ⟨v, rfl, h2, ho⟩
  refine ⟨v, rfl, h v w' (h1.tr h2) ?_⟩
  rw [hk, sort_places] at ho
  exact ho.low h1.size
end Go.Proofs.Ytlolomdgchkibaa
