/- slices.SortFunc of candidates by pool.sooner: the row sorted. No condition. -/
import Derived.Test.YtpcjogmikgfgdaaCmp
import Derived.Sort.KeysCollected
import Derived.Sort.OwnSorted
namespace Go.Proofs.Ytpcjogmikgfgdaa
open Go.RowKit Go.Sort Go.Shelf Go.Lib
def ltC (a b : Cd) : Prop := a.rank < b.rank ∨ (a.rank = b.rank ∧ a.key.toList < b.key.toList)
instance (a b : Cd) : Decidable (ltC a b) := by unfold ltC; exact inferInstance
theorem ltOf_C (a b : Cd) : ltOf cfC a b = decide (ltC a b) := by
  unfold ltOf cfC cmpU cmpS ltC
  rw [bytesLess_eq]
  by_cases h1 : a.rank < b.rank
  · simp [h1]
  · by_cases h2 : b.rank < a.rank
    · have h3 : ¬ a.rank = b.rank := by omega
      simp [h1, h2, h3]
    · have h3 : a.rank = b.rank := by omega
      by_cases h4 : a.key.toList < b.key.toList
      · simp [h3, h4]
      · by_cases h5 : (a.key.toList == b.key.toList) = true
        · simp [h3, h4, h5]
        · simp [h3, h4, h5]
theorem ltC_irrefl (a : Cd) : ¬ ltC a a := by
  unfold ltC
  rintro (h | ⟨-, h⟩)
  · omega
  · exact List.lt_irrefl _ h
theorem ltC_trans {a b c : Cd} (h1 : ltC a b) (h2 : ltC b c) : ltC a c := by
  unfold ltC at *
  rcases h1 with h1 | ⟨h1, k1⟩
  · rcases h2 with h2 | ⟨h2, k2⟩
    · exact .inl (by omega)
    · exact .inl (by omega)
  · rcases h2 with h2 | ⟨h2, k2⟩
    · exact .inl (by omega)
    · exact .inr ⟨by omega, List.lt_trans k1 k2⟩
theorem ltC_total {a b : Cd} (h1 : ¬ ltC a b) (h2 : ¬ ltC b a) : a = b := by
  unfold ltC at *
  have hr : a.rank = b.rank := by
    have : ¬ a.rank < b.rank := fun h => h1 (.inl h)
    have : ¬ b.rank < a.rank := fun h => h2 (.inl h)
    omega
  have k1 : ¬ a.key.toList < b.key.toList := fun h => h1 (.inr ⟨hr, h⟩)
  have k2 : ¬ b.key.toList < a.key.toList := fun h => h2 (.inr ⟨hr.symm, h⟩)
  have hk : a.key.toList = b.key.toList := List.le_antisymm (List.not_lt.1 k2) (List.not_lt.1 k1)
  have hk2 : a.key = b.key := bytes_ext (by rw [Go.ByteArray.toList_eq, Go.ByteArray.toList_eq] at hk; exact hk)
  obtain ⟨ka, ra⟩ := a
  obtain ⟨kb, rb⟩ := b
  cases hr
  cases hk2
  rfl
theorem swoC : SWO (ltOf cfC) where
  irrefl x := by rw [ltOf_C]; simpa using ltC_irrefl x
  trans x y z h1 h2 := by rw [ltOf_C] at *; simp only [decide_eq_true_eq] at *; exact ltC_trans h1 h2
  ntrans x y z h1 h2 := by
    rw [ltOf_C] at *
    simp only [decide_eq_false_iff_not] at *
    intro h
    by_cases h3 : ltC x y
    · exact h1 h3
    · by_cases h4 : ltC y x
      · exact h2 (ltC_trans h4 h)
      · obtain rfl := ltC_total h3 h4
        exact h2 h
def sortC (l : List Cd) : List Cd := l.mergeSort fun x y => !ltOf cfC y x
def clC (l : List Cd) : List Value := l.flatMap encC
theorem clC_len (l : List Cd) : (clC l).length = l.length * 2 := by
  unfold clC
  induction l with
  | nil => rfl
  | cons a l ih => rw [List.flatMap_cons, List.length_append, ih, List.length_cons]; simp [encC]; omega
theorem flatK_C (l : List Cd) : flatK encC 2 l.toArray = (clC l).toArray := by
  refine ext_get! (by simp [clC_len]) fun t ht => ?_
  have ht' : t < l.length * 2 := by simpa using ht
  rw [get_flatK _ _ _ t (by simpa using ht')]
  have h1 := flat_at encC 2 (fun _ => rfl) l (t / 2) (t % 2) (by omega) (Nat.mod_lt _ (by decide))
  have h2 : t / 2 * 2 + t % 2 = t := by omega
  rw [h2] at h1
  have h3 : (l.toArray[t / 2]!) = l[t / 2]'(by omega) := by
    rw [getElem!_pos l.toArray (t / 2) (by simp; omega)]
    simp
  rw [h3]
  have h4 : (clC l).toArray[t]! = (clC l)[t]'(by rw [clC_len]; exact ht') := by
    rw [getElem!_pos (clC l).toArray t (by simp [clC_len]; exact ht')]
    simp
  rw [h4]
  have h5 : (clC l)[t]? = some ((clC l)[t]'(by rw [clC_len]; exact ht')) := List.getElem?_eq_getElem _
  rw [show (clC l)[t]? = (l.flatMap encC)[t]? from rfl, h1] at h5
  rw [List.getElem!_eq_getElem?_getD, h5]
  rfl
theorem sortC_len (l : List Cd) : (sortC l).length = l.length := by simp [sortC]
/-- the row's block behind the sort -/
theorem holdsC {w : World} {g : Nat} {cur : Array Value} {e : TypeId} {l : List Cd} (hb : w.heap[g]? = some (.cells cur e (0, 0))) (ht : cur.toList.take (l.length * 2) = clC l) : HoldsK encC 2 w g 0 l.toArray := by
  unfold HoldsK
  rw [flatK_C]
  intro j hj
  have hj' : j < l.length * 2 := by simpa [clC_len] using hj
  refine ⟨?_, by simp [World.frozen?, hb]⟩
  have h1 : (cur.toList.take (l.length * 2))[j]? = (clC l)[j]? := by rw [ht]
  rw [List.getElem?_take_of_lt hj'] at h1
  simp only [World.cell?, hb, Nat.zero_add]
  simp only [Option.isSome_none, Bool.false_eq_true, if_false]
  rw [← Array.getElem?_toList, h1]
  have hj2 : j < (clC l).length := by rw [clC_len]; exact hj'
  rw [List.getElem?_eq_getElem hj2, getElem!_pos (clC l).toArray j (by simpa using hj2)]
  simp
theorem take_putC (cur : Array Value) (ts : List Value) (h : ts.length ≤ cur.size) : (putCells id 0 ts.toArray cur).toList.take ts.length = ts := by
  apply List.ext_getElem?
  intro j
  by_cases hj : j < ts.length
  · rw [List.getElem?_take_of_lt hj, Array.getElem?_toList]
    simp [putCells, hj, show j < cur.size by omega]
  · rw [List.getElem?_take_eq_none (by omega), List.getElem?_eq_none (by omega)]
theorem heap_putC {w : World} {g n : Nat} {os : Array Obj} {cur : Array Value} {e : TypeId} {fr : Nat × Nat} (d : Array Value) (hb : w.heap[g]? = some (.cells cur e fr)) :
    (grow (putRow id (Sort.ahead w n) g 0 d) os).heap[g]? = some (.cells (putCells id 0 d cur) e fr) := by
  have hg : g < w.heap.size := (Array.getElem?_eq_some_iff.1 hb).1
  rw [heap_grow_old _ _ (by simpa using hg)]
  simp [putRow, mapBlock, Sort.ahead, Array.getElem?_modify, hb, onCells]
/-- slices.SortFunc by pool.sooner -/
def SortPost (w : World) (B : Nat) (v : Value) (l : List Cd) (e : Ending) (w' : World) : Prop :=
  e = .returned (.tuple #[]) ∧ w'.ownsRow B 73 2 v l.length (clC (sortC l)) ∧ Fr (fun i => v.ownBlock = some i) w w'
theorem eg78 : ∀ args w, (callFunc 78 args).run Try.prog w = .ok (.enter 78 args) w := enters_of Try.func78 (by kernel_rfl) rfl
theorem sortC_any (w : World) (B : Nat) (v : Value) (l : List Cd) (h : w.ownsRow B 73 2 v l.length (clC l)) (hn : l.length < 4611686018427387904) :
    Calls Try.prog 77 #[v, .func (.func 78) #[] #[]] w (SortPost w B v l) := by
  obtain ⟨hl, ⟨rfl, h0⟩ | ⟨g, cap, cur, rfl, hbase, hb, h1, h2, h3, h4⟩⟩ := h
  · have hl0 : l = [] := List.length_eq_zero_iff.1 h0
    subst hl0
    exact (AnyF.slices_SortFunc_none Try.sortC none 0 _ w).mono fun e w' ⟨he, hw⟩ => ⟨he, by rw [show clC (sortC []) = [] by simp [sortC, clC]]; exact World.ownsRow_nil _ _ _ _, by rw [hw]; exact Fr.refl _ _⟩
  · have hH := holdsC hb h4
    have hgl : g < w.heap.size := (Array.getElem?_eq_some_iff.1 hb).1
    have hsz : l.toArray.size < 4611686018427387904 := by simpa using hn
    have hC := AnyQ.slices_SortFunc_total Try.sortC 2 Try.isAgg73 Try.sizeOf73 encC (fun _ => rfl) (fun x v hv => by simp [encC] at hv; rcases hv with rfl | rfl <;> rfl) cfC swoC 78 #[] g 0 cap l.toArray w eg78 (fun _ _ _ _ x y => sooner_any x y _) hH hgl hsz
      (fun x y k1 k2 => ltC_total (by rw [ltOf_C] at k1; simpa using k1) (by rw [ltOf_C] at k2; simpa using k2))
    refine hC.mono ?_
    rintro e w' ⟨he, n, os, hw⟩
    have hw2 : w' = grow (putRow id (Sort.ahead w n) g 0 (clC (sortC l)).toArray) os := by rw [hw, sortWorldK, putRowK, flatK_C]; rfl
    have hlen : (clC (sortC l)).length = l.length * 2 := by rw [clC_len, sortC_len]
    refine ⟨he, ⟨hlen, .inr ⟨g, cap, _, rfl, hbase, by rw [hw2]; exact heap_putC _ hb, h1, h2, by simp [putCells, h3], ?_⟩⟩, ?_⟩
    · rw [← hlen]; exact take_putC cur _ (by rw [hlen, h3]; omega)
    · rw [hw2]
      refine ⟨rfl, rfl, rfl, by simp, fun k hk hne => ?_⟩
      rw [heap_grow_old _ _ (by simpa using hk)]
      have : g ≠ k := fun e => hne (by rw [e]; rfl)
      simp [putRow, mapBlock, Sort.ahead, Array.getElem?_modify, this]
end Go.Proofs.Ytpcjogmikgfgdaa
