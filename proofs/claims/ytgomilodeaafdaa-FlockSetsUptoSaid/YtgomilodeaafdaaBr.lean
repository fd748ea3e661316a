/- Small laws. No condition. -/
import Derived.Test.YtgomilodeaafdaaBb
import Derived.Test.YtgomilodeaafdaaBa
import Derived.Test.YtgomilodeaafdaaShelfP
import Derived.Deep.RegionWith
import Derived.StillTailTactics
import Derived.Laws.Cover1
import Derived.Sort.KeysCollected
import Derived.Sort.OwnSorted
import Derived.Deep.Fields
import Derived.BigQuiet
import Derived.Deep.Cut
import Derived.Deep.CutBlock
import Derived.Deep.QuietTactic
import Derived.Laws.MakeOwn
import Derived.Laws.NewBlocks
import Derived.BigRegion
import Derived.BigRegionIn
import Derived.Deep.Light
import Derived.Deep.LoopGhost
import Derived.Deep.Upon
import Derived.Laws.IdiomCopy
import Derived.Lib.SliceRun
import Derived.LoopIn
import Derived.LoopNIn
import Derived.Maps.AppendAt
import Derived.Outline
import Derived.OwnWalkIn
import Derived.RangeFuncBound
import Derived.RangeFuncBox
import Derived.RangeFuncCalls
import Derived.RangeFuncLeaves
import Derived.RangeFuncNested
import Derived.RegionIn
import Derived.Shelf.Abstract
import Derived.Shelf.RegionOpen
import Derived.Sort.CutIn
import Derived.Sort.QuietIn
import Derived.TacticsInMore
namespace Go.Proofs.Ytgomilodeaafdaa
abbrev Pr := ByteArray × ByteArray
def prC (x : Pr) : Nat := 32 + x.1.size + x.2.size
def costP (A : List Pr) : Nat := (A.map prC).sum
theorem costP_nil : costP [] = 0 := rfl
theorem costP_cons (x : Pr) (A : List Pr) : costP (x :: A) = prC x + costP A := by unfold costP; rw [List.map_cons, List.sum_cons]
theorem costP_perm {A A' : List Pr} (h : A.Perm A') : costP A = costP A' := by
  induction h with
  | nil => rfl
  | cons x _ ih => rw [costP_cons, costP_cons, ih]
  | swap x y l => rw [costP_cons, costP_cons, costP_cons, costP_cons]; omega
  | trans _ _ ih1 ih2 => exact ih1.trans ih2
theorem costP_at {A : List Pr} {i : Nat} {x : Pr} (h : A[i]? = some x) : costP A = prC x + costP (A.eraseIdx i) := by rw [costP_perm (permG_erase A i x h), costP_cons]
theorem costP_set {A : List Pr} {i : Nat} (y : Pr) (h : i < A.length) : costP (A.set i y) = prC y + costP (A.eraseIdx i) := by rw [costP_perm (permG_set A i y h), costP_cons]
theorem costP_snoc (A : List Pr) (x : Pr) : costP (A ++ [x]) = costP A + prC x := by
  rw [costP_perm (List.perm_append_singleton x A), costP_cons, Nat.add_comm]
/-- texts that may be held -/
def Fits (x : Pr) : Prop := x.1.size ≤ 1048576 ∧ x.2.size ≤ 1048576
theorem costP_le {A : List Pr} (h : ∀ x ∈ A, Fits x) : costP A ≤ A.length * 2097184 := by
  induction A with
  | nil => exact Nat.le_refl _
  | cons a A ih =>
    have h1 := ih (fun x hx => h x (List.mem_cons_of_mem _ hx))
    have h2 := h a (List.mem_cons_self ..)
    rw [costP_cons, List.length_cons, Nat.add_mul]
    unfold prC
    have h3 := h2.1
    have h4 := h2.2
    omega
theorem fits_set {A : List Pr} {key v : ByteArray} (h : ∀ x ∈ A, Fits x) (hk : Fits (key, v)) : ∀ x ∈ setG A key v, Fits x := by
  intro x hx
  unfold setG at hx
  cases ha : fdG key A with
  | some i =>
    rw [ha] at hx
    rcases List.mem_or_eq_of_mem_set hx with hx | rfl
    · exact h x hx
    · exact hk
  | none =>
    rw [ha] at hx
    rcases List.mem_append.1 hx with hx | hx
    · exact h x hx
    · rw [List.mem_singleton.1 hx]; exact hk
theorem fits_del {A : List Pr} {key : ByteArray} (h : ∀ x ∈ A, Fits x) : ∀ x ∈ delG A key, Fits x := by
  intro x hx
  unfold delG at hx
  cases ha : fdG key A with
  | some i => rw [ha] at hx; exact h x (List.mem_of_mem_eraseIdx hx)
  | none => rw [ha] at hx; exact h x hx
theorem len_set {α : Type} {A : List (ByteArray × α)} {key : ByteArray} {v : α} : (setG A key v).length = if (fdG key A).isSome then A.length else A.length + 1 := by
  unfold setG
  cases ha : fdG key A with
  | some i => simp
  | none => simp
theorem len_del {α : Type} {A : List (ByteArray × α)} {key : ByteArray} : (delG A key).length ≤ A.length := by
  unfold delG
  cases ha : fdG key A with
  | some i => exact List.length_eraseIdx_le ..
  | none => exact Nat.le_refl _
/-- what lies under a field -/
def getP (A : List Pr) (key : ByteArray) : ByteArray := match fdG key A with
  | some i => match A[i]? with
    | some y => y.2
    | none => ⟨#[]⟩
  | none => ⟨#[]⟩
end Go.Proofs.Ytgomilodeaafdaa
namespace Go.Proofs.Ytgomilodeaafdaa
open Go.RowKit Go.Sort
def cmpS (x y : ByteArray) : Int := if Op.bytesLess x.toList y.toList then -1 else if (x.toList == y.toList) then 0 else 1
theorem nanS_any (x : ByteArray) (w : World) : Calls Try.prog 161 #[.string x] w fun e w' => e = .returned (.bool false) ∧ w = w' := by
  have hx : (x.toList == x.toList) = true := by rw [str_beq]; simp
  go_enter Try.func161, Try.ntmps161
  go_wp2
  go_ret
  exact ⟨rfl, rfl⟩
theorem cmpS_any (x y : ByteArray) (w : World) : Calls Try.prog 103 #[.string x, .string y] w fun e w' => e = .returned (.int .i64 (cmpS x y)) ∧ w = w' := by
  have H : Hid (cmpS x y = if Op.bytesLess x.toList y.toList then -1 else if (x.toList == y.toList) then 0 else 1) := rfl
  obtain ⟨r, hr⟩ : ∃ r, cmpS x y = r := ⟨_, rfl⟩
  rw [hr] at H ⊢
  clear hr
  go_enter Try.func103, Try.ntmps103
  go_wp2_with fail
  refine (nanS_any _ _).mono ?_
  rintro e w' ⟨rfl, rfl⟩
  go_wp2_with fail
  refine (nanS_any _ _).mono ?_
  rintro e w' ⟨rfl, rfl⟩
  cases g1 : Op.bytesLess x.toList y.toList
  · cases g2 : (x.toList == y.toList)
    · obtain rfl : r = 1 := by rw [H.out, g1, g2]; rfl
      go_wp2
      go_ret
      exact ⟨rfl, rfl⟩
    · obtain rfl : r = 0 := by rw [H.out, g1, g2]; rfl
      go_wp2
      go_ret
      exact ⟨rfl, rfl⟩
  · obtain rfl : r = -1 := by rw [H.out, g1]; rfl
    go_wp2
    go_ret
    exact ⟨rfl, rfl⟩
def cfP (a b : Pr) : Int := cmpS a.1 b.1
def encP (a : Pr) : List Value := [.string a.1, .string a.2]
theorem pairs1_any (a b : Pr) (W : World) : Calls Try.prog 102 #[.agg #[.string a.1, .string a.2], .agg #[.string b.1, .string b.2]] W fun e w' => e = .returned (.int .i64 (cfP a b)) ∧ ∃ q os', w' = grow (W.drewN q) os' := by
  have hc : ∀ W', Calls Try.prog 103 #[.string a.1, .string b.1] W' fun e w' => e = .returned (.int .i64 (cmpS a.1 b.1)) ∧ w' = W' := fun W' => (cmpS_any a.1 b.1 W').mono fun _ _ h => ⟨h.1, h.2.symm⟩
  obtain ⟨x, hx⟩ : ∃ x, cmpS a.1 b.1 = x := ⟨_, rfl⟩
  have hx2 : cfP a b = x := hx
  rw [hx] at hc
  rw [hx2]
  obtain ⟨a1, a2⟩ := a
  obtain ⟨b1, b2⟩ := b
  clear hx hx2
  dsimp only at hc ⊢
  go_enter Try.func102, Try.ntmps102
  go_wp2_with (go_at_call 103; refine (hc _).mono ?_; rintro e w' ⟨rfl, rfl⟩)
  go_ret
  exact ⟨rfl, 0, _, by rw [alloc_eq_grow, alloc_eq_grow]; show grow (grow (W.drewN 0) _) _ = _; rw [grow_grow]⟩
end Go.Proofs.Ytgomilodeaafdaa
namespace Go.Proofs.Ytgomilodeaafdaa
open Go.RowKit Go.Sort Go.Shelf Go.Lib
theorem flatAt {α : Type} (f : α → List Value) (n : Nat) (hf : ∀ x, (f x).length = n) (l : List α) (k j : Nat) (hk : k < l.length) (hj : j < n) : (l.flatMap f)[k * n + j]? = (f l[k])[j]? := by
  induction l generalizing k with
  | nil => simp at hk
  | cons x l ih =>
    rw [List.flatMap_cons]
    cases k with
    | zero =>
      rw [Nat.zero_mul, Nat.zero_add, List.getElem?_append_left (by rw [hf]; exact hj)]
      rfl
    | succ k =>
      have := ih k (by simpa using hk)
      rw [List.getElem?_append_right (by rw [hf, Nat.succ_mul]; omega), hf, show (k + 1) * n + j - n = k * n + j by rw [Nat.succ_mul]; omega]
      exact this
theorem flat_size {α : Type} (f : α → List Value) (n : Nat) (hf : ∀ x, (f x).length = n) (l : List α) : (l.flatMap f).length = l.length * n := by
  induction l with
  | nil => simp
  | cons a l ih => rw [List.flatMap_cons, List.length_append, ih, hf, List.length_cons, Nat.succ_mul, Nat.add_comm]
section
variable {α : Type} [Inhabited α] (f : α → List Value) (hf : ∀ x, (f x).length = 2)
include hf
theorem flatK_2 (l : List α) : flatK f 2 l.toArray = (l.flatMap f).toArray := by
  have hl := flat_size f 2 hf l
  refine ext_get! (by simp [hl]) fun t ht => ?_
  have ht' : t < l.length * 2 := by simpa using ht
  rw [get_flatK _ _ _ t (by simpa using ht')]
  have h1 := flatAt f 2 hf l (t / 2) (t % 2) (by omega) (Nat.mod_lt _ (by decide))
  have h2 : t / 2 * 2 + t % 2 = t := by omega
  rw [h2] at h1
  have h3 : (l.toArray[t / 2]!) = l[t / 2]'(by omega) := by
    rw [getElem!_pos l.toArray (t / 2) (by simp; omega)]
    simp
  rw [h3]
  have h4 : (l.flatMap f).toArray[t]! = (l.flatMap f)[t]'(by rw [hl]; exact ht') := by
    rw [getElem!_pos (l.flatMap f).toArray t (by simp only [List.size_toArray]; rw [hl]; exact ht')]
    simp
  rw [h4]
  have h5 : (l.flatMap f)[t]? = some ((l.flatMap f)[t]'(by rw [hl]; exact ht')) := List.getElem?_eq_getElem _
  rw [h1] at h5
  rw [List.getElem!_eq_getElem?_getD, h5]
  rfl
/-- the row's block -/
theorem holds2 {w : World} {g : Nat} {cur : Array Value} {e : TypeId} {l : List α} (hb : w.heap[g]? = some (.cells cur e (0, 0))) (ht : cur.toList.take (l.length * 2) = l.flatMap f) : HoldsK f 2 w g 0 l.toArray := by
  have hl := flat_size f 2 hf l
  unfold HoldsK
  rw [flatK_2 f hf]
  intro j hj
  have hj' : j < l.length * 2 := by rw [← hl]; simpa using hj
  refine ⟨?_, by simp [World.frozen?, hb]⟩
  have h1 : (cur.toList.take (l.length * 2))[j]? = (l.flatMap f)[j]? := by rw [ht]
  rw [List.getElem?_take_of_lt hj'] at h1
  simp only [World.cell?, hb, Nat.zero_add]
  simp only [Option.isSome_none, Bool.false_eq_true, if_false]
  rw [← Array.getElem?_toList, h1]
  have hj2 : j < (l.flatMap f).length := by rw [hl]; exact hj'
  rw [List.getElem?_eq_getElem hj2, getElem!_pos (l.flatMap f).toArray j (by simpa using hj2)]
  simp
end
theorem take_put2 (cur : Array Value) (ts : List Value) (h : ts.length ≤ cur.size) : (putCells id 0 ts.toArray cur).toList.take ts.length = ts := by
  apply List.ext_getElem?
  intro j
  by_cases hj : j < ts.length
  · rw [List.getElem?_take_of_lt hj, Array.getElem?_toList]
    simp [putCells, hj, show j < cur.size by omega]
  · rw [List.getElem?_take_eq_none (by omega), List.getElem?_eq_none (by omega)]
theorem heap_put2 {w : World} {g n : Nat} {os : Array Obj} {cur : Array Value} {e : TypeId} {fr : Nat × Nat} (d : Array Value) (hb : w.heap[g]? = some (.cells cur e fr)) :
    (grow (putRow id (Sort.ahead w n) g 0 d) os).heap[g]? = some (.cells (putCells id 0 d cur) e fr) := by
  have hg : g < w.heap.size := (Array.getElem?_eq_some_iff.1 hb).1
  rw [heap_grow_old _ _ (by simpa using hg)]
  simp [putRow, mapBlock, Sort.ahead, Array.getElem?_modify, hb, onCells]
def ltP (a b : Pr) : Prop := a.1.toList < b.1.toList
theorem ltOf_P (a b : Pr) : ltOf cfP a b = decide (a.1.toList < b.1.toList) := by
  unfold ltOf cfP cmpS
  rw [bytesLess_eq]
  by_cases h4 : a.1.toList < b.1.toList
  · simp [h4]
  · by_cases h5 : (a.1.toList == b.1.toList) = true
    · simp [h4, h5]
    · simp [h4, h5]
theorem key_eq {a b : ByteArray} (h1 : ¬ a.toList < b.toList) (h2 : ¬ b.toList < a.toList) : a = b := by
  have hk : a.toList = b.toList := List.le_antisymm (List.not_lt.1 h2) (List.not_lt.1 h1)
  rw [Go.ByteArray.toList_eq, Go.ByteArray.toList_eq] at hk
  cases a; cases b
  simp only [ByteArray.mk.injEq] at hk ⊢
  exact Array.toList_inj.1 hk
def cfM (l : List Pr) (a b : { x : Pr // x ∈ l }) : Int := cfP a.1 b.1
theorem ltOf_M (l : List Pr) (a b : { x : Pr // x ∈ l }) : ltOf (cfM l) a b = decide (a.1.1.toList < b.1.1.toList) := ltOf_P a.1 b.1
theorem swoM (l : List Pr) : SWO (ltOf (cfM l)) where
  irrefl x := by rw [ltOf_M]; simp [List.lt_irrefl]
  trans x y z h1 h2 := by rw [ltOf_M] at *; simp only [decide_eq_true_eq] at *; exact List.lt_trans h1 h2
  ntrans x y z h1 h2 := by
    rw [ltOf_M] at *
    simp only [decide_eq_false_iff_not] at *
    intro h
    by_cases h3 : x.1.1.toList < y.1.1.toList
    · exact h1 h3
    · by_cases h4 : y.1.1.toList < x.1.1.toList
      · exact h2 (List.lt_trans h4 h)
      · rw [key_eq h3 h4] at h
        exact h2 h
theorem egP : ∀ args w, (callFunc 102 args).run Try.prog w = .ok (.enter 102 args) w := enters_of Try.func102 (by kernel_rfl) rfl
/-- slices.SortFunc by the field: the same pairs, rising -/
def SortPostP (w : World) (B : Nat) (v : Value) (l : List Pr) (e : Ending) (w' : World) : Prop :=
  e = .returned (.tuple #[]) ∧ ∃ l' : List Pr, l'.Perm l ∧ l'.Pairwise ltP ∧ w'.ownsRow B 51 2 v l.length (l'.flatMap encP) ∧ Fr (fun i => v.ownBlock = some i) w w'
theorem sortP_any (w : World) (B : Nat) (v : Value) (l : List Pr) (h : w.ownsRow B 51 2 v l.length (l.flatMap encP)) (hn : l.length < 4611686018427387904) (hd : (l.map (·.1)).Nodup) :
    Calls Try.prog 101 #[v, .func (.func 102) #[] #[]] w (SortPostP w B v l) := by
  obtain ⟨hl, ⟨rfl, h0⟩ | ⟨g, cap, cur, rfl, hbase, hb, h1, h2, h3, h4⟩⟩ := h
  · have hl0 : l = [] := List.length_eq_zero_iff.1 h0
    subst hl0
    exact (AnyF.slices_SortFunc_none Try.sortP none 0 _ w).mono fun e w' ⟨he, hw⟩ => ⟨he, [], List.Perm.refl _, List.Pairwise.nil, World.ownsRow_nil _ _ _ _, by rw [hw]; exact Fr.refl _ _⟩
  · by_cases hl0 : l = []
    · subst hl0
      refine (AnyF.slices_SortFunc_none Try.sortP (some ⟨g, 0, none⟩) cap _ w).mono fun e w' ⟨he, hw⟩ => ⟨he, [], List.Perm.refl _, List.Pairwise.nil, ?_, by rw [hw]; exact Fr.refl _ _⟩
      rw [hw]
      exact ⟨hl, .inr ⟨g, cap, cur, rfl, hbase, hb, h1, h2, h3, h4⟩⟩
    · haveI : Inhabited { x : Pr // x ∈ l } := ⟨⟨l.head hl0, List.head_mem hl0⟩⟩
      have hfe : ∀ k : List { x : Pr // x ∈ l }, k.flatMap (fun x => encP x.1) = (k.map Subtype.val).flatMap encP := fun k => by rw [List.flatMap_map]
      have hat : l.attach.flatMap (fun x => encP x.1) = l.flatMap encP := by rw [hfe, List.attach_map_subtype_val]
      have hH := holds2 (fun x : { x : Pr // x ∈ l } => encP x.1) (fun _ => rfl) (l := l.attach) hb (by rw [hat, List.length_attach]; exact h4)
      have hgl : g < w.heap.size := (Array.getElem?_eq_some_iff.1 hb).1
      have hsz : l.attach.toArray.size < 4611686018427387904 := by simpa using hn
      have hC := AnyQ.slices_SortFunc_total Try.sortP 2 Try.isAgg51 Try.sizeOf51 (fun x : { x : Pr // x ∈ l } => encP x.1) (fun _ => rfl) (fun x v hv => by simp [encP] at hv; rcases hv with rfl | rfl <;> rfl) (cfM l) (swoM l) 102 #[] g 0 cap l.attach.toArray w egP (fun _ _ _ _ x y => pairs1_any x.1 y.1 _) hH hgl hsz
        (fun x y k1 k2 => by
          rw [ltOf_M] at k1 k2
          have hk := key_eq (by simpa using k1) (by simpa using k2)
          obtain ⟨i, hi⟩ := List.mem_iff_getElem?.1 x.2
          obtain ⟨j, hj⟩ := List.mem_iff_getElem?.1 y.2
          have e1 := fdG_nodup (key := x.1.1) (x := x.1.2) hd hi
          have e2 := fdG_nodup (key := y.1.1) (x := y.1.2) hd hj
          rw [hk] at e1
          have e3 := Option.some.inj (e1.symm.trans e2)
          subst e3
          rw [hi] at hj
          exact Subtype.ext (Option.some.inj hj))
      have hsize : l.attach.toArray.size = l.length := by simp
      rw [hsize] at hC
      refine hC.mono ?_
      rintro e w' ⟨he, n, os, hw⟩
      obtain ⟨m, hm⟩ : ∃ m, l.attach.mergeSort (fun x y => !ltOf (cfM l) y x) = m := ⟨_, rfl⟩
      have hmp : m.Perm l.attach := by rw [← hm]; exact List.mergeSort_perm _ _
      have hw2 : w' = grow (putRow id (Sort.ahead w n) g 0 (m.flatMap fun x => encP x.1).toArray) os := by rw [hw, sortWorldK, putRowK, flatK_2 _ (fun _ => rfl), ← hm]
      have hmap : m.flatMap (fun x => encP x.1) = (m.map Subtype.val).flatMap encP := hfe m
      have hperm : (m.map Subtype.val).Perm l := by
        have := hmp.map Subtype.val
        rwa [List.attach_map_subtype_val] at this
      have hlen : ((m.map Subtype.val).flatMap encP).length = l.length * 2 := by rw [flat_size encP 2 (fun _ => rfl), hperm.length_eq]
      have hnd : ((m.map Subtype.val).map (·.1)).Nodup := (hperm.map (·.1)).nodup_iff.2 hd
      have hsort : m.Pairwise fun x y => (!ltOf (cfM l) y x) = true := by
        rw [← hm]
        refine List.pairwise_mergeSort (fun a b c h1 h2 => ?_) (fun a b => ?_) l.attach
        · rw [ltOf_M] at *
          simp only [Bool.not_eq_true', decide_eq_false_iff_not] at *
          intro h
          by_cases h3 : b.1.1.toList < a.1.1.toList
          · exact h1 h3
          · by_cases h4 : a.1.1.toList < b.1.1.toList
            · exact h2 (List.lt_trans h h4)
            · rw [key_eq h4 h3] at h
              exact h2 h
        · rw [ltOf_M, ltOf_M]
          by_cases h3 : b.1.1.toList < a.1.1.toList
          · have h4 : ¬ a.1.1.toList < b.1.1.toList := fun h4 => List.lt_irrefl _ (List.lt_trans h3 h4)
            simp [h4]
          · simp [h3]
      refine ⟨he, m.map Subtype.val, hperm, ?_, ⟨hlen, .inr ⟨g, cap, _, rfl, hbase, by rw [hw2]; exact heap_put2 _ hb, h1, h2, by simp [putCells, h3], ?_⟩⟩, ?_⟩
      · rw [List.pairwise_map]
        rw [List.map_map] at hnd
        have hne : m.Pairwise fun x y => x.1.1 ≠ y.1.1 := List.pairwise_map.1 hnd
        refine (hsort.and hne).imp fun {x y} h => ?_
        have hA := h.1
        rw [ltOf_M] at hA
        simp only [Bool.not_eq_true', decide_eq_false_iff_not] at hA
        by_cases h4 : x.1.1.toList < y.1.1.toList
        · exact h4
        · exact absurd (key_eq h4 hA) h.2
      · rw [hmap, ← hlen]; exact take_put2 cur _ (by rw [hlen, h3]; omega)
      · rw [hw2]
        refine ⟨rfl, rfl, rfl, by simp, fun k hk hne => ?_⟩
        rw [heap_grow_old _ _ (by simpa using hk)]
        have : g ≠ k := fun e => hne (by rw [e]; rfl)
        simp [putRow, mapBlock, Sort.ahead, Array.getElem?_modify, this]
end Go.Proofs.Ytgomilodeaafdaa
namespace Go.Proofs.Ytgomilodeaafdaa
open Go.ChangeShapes Go.WideShapes Go.ChangeAt Go.RowKit Go.Deep

section
variable {H : Type} {enc : TypeId × Value → H} {P : Program} {w : World} {base : Nat} {spare : Nat → Bool} {held : Bool}
theorem struct_read {t : TypeId} {fs : Array Field} {fuel : Nat} {cs : List Value} {x : DataW H × List MemPlace} (he : P.underlying t = some (.struct fs)) (hone : oneCellFields P fs = true) (hC : P.cellsOf t = fs.size)
    (h : DataW.trod enc P w base spare held fuel t cs = some x) :
    cs.length = fs.size ∧ ∀ (j : Nat) (f : Field), fs[j]? = some f → ∃ (v : Value) (n : Nat) (y : DataW H × List MemPlace), cs[j]? = some v ∧ DataW.trod enc P w base spare held n f.type [v] = some y := by
  obtain ⟨ys, n', hn', hy, hlen, hyl, hf⟩ := DataW.trod_struct he h
  rw [hC] at hlen
  refine ⟨hlen, fun j f hj => ?_⟩
  obtain ⟨ho, hk⟩ := hone_of hone j f hj
  have hjl : j < fs.size := (Array.getElem?_eq_some_iff.1 hj).1
  have h1 := hf j f hj
  rw [ho, hk] at h1
  have hone' : (cs.drop j).take 1 = [cs[j]'(by omega)] := by
    rw [List.drop_eq_getElem_cons (by omega)]
    rfl
  rw [hone'] at h1
  have hys : ys[j]? = some (ys[j]'(by omega)) := List.getElem?_eq_getElem (by omega)
  exact ⟨_, n', _, List.getElem?_eq_getElem (by omega), h1.trans hys⟩
end
structure St9 where
  do_ : Int
  who : Int
  field : ByteArray
  s : ByteArray
  n : UInt64
  count : Int
abbrev St9B := { o : St9 // o.field.size ≤ maxLen ∧ o.s.size ≤ maxLen ∧ InI o.count }
def st9 (o : St9B) : List Value := [.int .i64 o.1.do_, .int .i64 o.1.who, .string o.1.field, .string o.1.s, .int .u64 (wd o.1.n), .int .i64 o.1.count]
theorem st9_len (o : St9B) : (st9 o).length = 6 := rfl
section
variable {H : Type} {enc : TypeId × Value → H} {w : World} {base : Nat} {held : Bool}
theorem st9_read (n : Nat) (l : List Value) (y : DataW H × List MemPlace) (h : DataW.trod enc Try.prog w base (fun _ => true) held n 55 l = some y) : ∃ x : St9B, l = st9 x := by
  obtain ⟨hl, hf⟩ := struct_read Try.underlying55 (by kernel_rfl) (by kernel_rfl) h
  match l, hl with
  | [c0, c1, c2, c3, c4, c5], _ =>
    obtain ⟨v0, n0, y0, e0, t0⟩ := hf 0 _ rfl
    obtain ⟨v1, n1, y1, e1, t1⟩ := hf 1 _ rfl
    obtain ⟨v2, n2, y2, e2, t2⟩ := hf 2 _ rfl
    obtain ⟨v3, n3, y3, e3, t3⟩ := hf 3 _ rfl
    obtain ⟨v4, n4, y4, e4, t4⟩ := hf 4 _ rfl
    obtain ⟨v5, n5, y5, e5, t5⟩ := hf 5 _ rfl
    cases e0; cases e1; cases e2; cases e3; cases e4; cases e5
    obtain ⟨x0, g0, _, _⟩ := DataW.trod_int Try.underlying3 t0
    obtain ⟨x1, g1, _, _⟩ := DataW.trod_int Try.underlying3 t1
    obtain ⟨x2, g2, _, hs2⟩ := DataW.trod_string Try.underlying9 t2
    obtain ⟨x3, g3, _, hs3⟩ := DataW.trod_string Try.underlying9 t3
    obtain ⟨x4, g4, _, hw⟩ := DataW.trod_int Try.underlying22 t4
    obtain ⟨x5, g5, _, hw5⟩ := DataW.trod_int Try.underlying3 t5
    obtain ⟨u, rfl⟩ := word_of hw
    cases g0; cases g1; cases g2; cases g3; cases g4; cases g5
    exact ⟨⟨⟨x0, x1, x2, x3, u, x5⟩, hs2, hs3, i64_of hw5⟩, rfl⟩
end
/-- the cells of step k of a script -/
theorem st9_at {w : World} {a : Option Addr} {n cap : Nat} {l : List St9B} (h : RdC w 6 (.slice a n cap) n (l.flatMap st9)) (k : Nat) (hk : k < l.length) :
    ∃ g off, a = some ⟨g, off, none⟩ ∧ w.cell? ⟨g, off + k * 6, none⟩ = some (.int .i64 l[k].1.do_) ∧ w.cell? ⟨g, off + k * 6 + 1, none⟩ = some (.int .i64 l[k].1.who) ∧ w.cell? ⟨g, off + k * 6 + 2, none⟩ = some (.string l[k].1.field) ∧
      w.cell? ⟨g, off + k * 6 + 3, none⟩ = some (.string l[k].1.s) ∧ w.cell? ⟨g, off + k * 6 + 4, none⟩ = some (.int .u64 (wd l[k].1.n)) ∧ w.cell? ⟨g, off + k * 6 + 5, none⟩ = some (.int .i64 l[k].1.count) := by
  have hf := fun j hj => flatAt st9 6 st9_len l k j hk hj
  obtain ⟨g, off, rfl, hc⟩ := h.at (by rw [flat_size st9 6 st9_len]; omega)
  refine ⟨g, off, rfl, ?_, ?_, ?_, ?_, ?_, ?_⟩
  · exact hc (k * 6 + 0) _ (by rw [hf 0 (by decide)]; rfl)
  · rw [Nat.add_assoc]; exact hc (k * 6 + 1) _ (by rw [hf 1 (by decide)]; rfl)
  · rw [Nat.add_assoc]; exact hc (k * 6 + 2) _ (by rw [hf 2 (by decide)]; rfl)
  · rw [Nat.add_assoc]; exact hc (k * 6 + 3) _ (by rw [hf 3 (by decide)]; rfl)
  · rw [Nat.add_assoc]; exact hc (k * 6 + 4) _ (by rw [hf 4 (by decide)]; rfl)
  · rw [Nat.add_assoc]; exact hc (k * 6 + 5) _ (by rw [hf 5 (by decide)]; rfl)
end Go.Proofs.Ytgomilodeaafdaa
namespace Go.Proofs.Ytgomilodeaafdaa
open Go.RowKit
theorem setG_some {α : Type} {A : List (ByteArray × α)} {key : ByteArray} {x : α} {i : Nat} (ha : fdG key A = some i) : setG A key x = A.set i (key, x) := by unfold setG; rw [ha]
theorem setG_none {α : Type} {A : List (ByteArray × α)} {key : ByteArray} {x : α} (ha : fdG key A = none) : setG A key x = A ++ [(key, x)] := by unfold setG; rw [ha]
theorem delG_some {α : Type} {A : List (ByteArray × α)} {key : ByteArray} {i : Nat} (ha : fdG key A = some i) : delG A key = A.eraseIdx i := by unfold delG; rw [ha]
theorem delG_none {α : Type} {A : List (ByteArray × α)} {key : ByteArray} (ha : fdG key A = none) : delG A key = A := by unfold delG; rw [ha]
theorem fr_bel {w w' : World} (hb : Below w.heap.size w w') : Fr (fun _ => False) w w' := ⟨hb.os, hb.tape, hb.output, hb.size, fun k hk _ => hb.block k hk⟩
def Aw (F : Nat → Prop) (v : Value) : Prop := ∀ g, v.ownBlock = some g → ¬ F g
theorem Aw.grew {F : Nat → Prop} {v : Value} {w w' : World} (h : Aw F v) (hl : ∀ g, v.ownBlock = some g → g < w.heap.size) : Aw (Grew F w w') v := fun g hg k => k.elim (h g hg) (fun h2 => by have := hl g hg; omega)
theorem Aw.own {F : Nat → Prop} {v : Value} {w w' : World} {B : Nat} {e : TypeId} {s n : Nat} {xs : List Value} (h : Aw F v) (hr : w.ownsRow B e s v n xs) : Aw (Grew F w w') v := h.grew fun _ hg => (own_blk hr hg).2.1
end Go.Proofs.Ytgomilodeaafdaa
