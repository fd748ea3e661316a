/- slices.Sort of texts and of whole numbers: the same, rising. No condition but sizes. -/
import Derived.Test.YtleoeccjnchclaaGreatDoorShelf
import Derived.Test.YtleoeccjnchclaaGreatDoorZac
import Derived.Shelf.Slices.In.SortNone
import Derived.Sort.OwnSorted
import Derived.Sort.KeysCollected
namespace Go.Proofs.YtleoeccjnchclaaGreatDoor
open Go.RowKit Go.Sort
theorem key_eqS {a b : ByteArray} (h1 : ¬ a.toList < b.toList) (h2 : ¬ b.toList < a.toList) : a = b := by
  have hk : a.toList = b.toList := List.le_antisymm (List.not_lt.1 h2) (List.not_lt.1 h1)
  rw [Go.ByteArray.toList_eq, Go.ByteArray.toList_eq] at hk
  cases a; cases b
  simp only [ByteArray.mk.injEq] at hk ⊢
  exact Array.toList_inj.1 hk
def bytesL (k : ByteArray) : List UInt8 := k.data.toList
def ofB (b : List UInt8) : ByteArray := ⟨b.toArray⟩
/-- a list of texts, rising -/
def sortS (l : List ByteArray) : List ByteArray := ((l.map bytesL).mergeSort leB).map ofB
theorem bytes_ofB (b : List UInt8) : bytesL (ofB b) = b := rfl
theorem ofB_bytes (k : ByteArray) : ofB (bytesL k) = k := by cases k; rfl
theorem sortS_len (l : List ByteArray) : (sortS l).length = l.length := by simp [sortS]
theorem sortS_vals (l : List ByteArray) : (sortS l).map Value.string = ((l.map bytesL).mergeSort leB).map encStr := by
  unfold sortS
  rw [List.map_map]
  rfl
theorem sortS_perm (l : List ByteArray) : (sortS l).Perm l := by
  unfold sortS
  have h := (List.mergeSort_perm (l.map bytesL) leB).map ofB
  rw [List.map_map] at h
  have e : (ofB ∘ bytesL) = id := funext ofB_bytes
  rw [e, List.map_id] at h
  exact h
def ltS (a b : ByteArray) : Prop := a.toList < b.toList
theorem sortS_rises {l : List ByteArray} (hd : l.Nodup) : (sortS l).Pairwise ltS := by
  have hp := sortS_perm l
  have hnd : (sortS l).Nodup := hp.nodup_iff.2 hd
  have hs : (sortS l).Pairwise fun a b => ¬ b.toList < a.toList := by
    unfold sortS
    rw [List.pairwise_map]
    refine (List.pairwise_mergeSort (le := leB) (fun a b c h1 h2 => ?_) (fun a b => ?_) _).imp fun {a b} h => ?_
    · simp only [leB, decide_eq_true_eq] at *
      exact List.le_trans h1 h2
    · simp only [leB, Bool.or_eq_true, decide_eq_true_eq]
      exact List.le_total a b
    · simp only [leB, decide_eq_true_eq] at h
      rw [Go.ByteArray.toList_eq, Go.ByteArray.toList_eq]
      exact List.not_lt.2 h
  refine (hs.and hnd).imp fun {a b} h => ?_
  by_cases h1 : a.toList < b.toList
  · exact h1
  · exact absurd (key_eqS h1 h.1) h.2
theorem ltS_one {l l' : List ByteArray} (hp : l.Perm l') (h : l.Pairwise ltS) (h' : l'.Pairwise ltS) : l = l' :=
  hp.eq_of_pairwise (fun a b _ _ h1 h2 => absurd (List.lt_trans h1 h2) (List.lt_irrefl _)) h h'
theorem sortS_any (w : World) (B : Nat) (v : Value) (l : List ByteArray) (h : w.ownsRow B 9 1 v l.length (l.map .string)) (hn : l.length < 4611686018427387904) :
    Calls Tryz.prog 49 #[v] w fun e w' => e = .returned (.tuple #[]) ∧ w'.ownsRow B 9 1 v l.length ((sortS l).map .string) ∧ Fr (fun i => v.ownBlock = some i) w w' := by
  obtain ⟨hl, ⟨rfl, h0⟩ | ⟨g, cap, cur, rfl, hbase, hb, h1, h2, h3, h4⟩⟩ := h
  · have hl0 : l = [] := List.length_eq_zero_iff.1 h0
    subst hl0
    refine (Tryz.slices_Sort_string_none none 0 w).mono fun e w' ⟨he, hw⟩ => ⟨he, ?_, by rw [hw]; exact Fr.refl _ _⟩
    have e0 : (sortS []).map Value.string = [] := by simp [sortS]
    rw [e0]
    exact World.ownsRow_nil _ _ _ _
  · have hss : (l.map bytesL).length = l.length := by simp
    have hH : Holds encStr w g 0 (l.map bytesL).toArray := by
      refine holds_of_block hb ?_
      rw [List.length_map, List.map_map]
      have e : (encStr ∘ bytesL) = Value.string := funext fun k => by show Value.string (ofB (bytesL k)) = _; rw [ofB_bytes]
      rw [e]
      simpa using h4
    have hgl : g < w.heap.size := (Array.getElem?_eq_some_iff.1 hb).1
    have hC := Tryz.slices_Sort_string g 0 cap (l.map bytesL) w hH hgl (by rw [hss]; exact hn)
    rw [hss] at hC
    refine hC.mono ?_
    rintro e w' ⟨he, n, os, hw⟩
    refine ⟨he, ?_, ?_⟩
    · have ho := ownsRow_sorted (w := w) (n := n) (os := os) (ss := l.map bytesL) (ts := (l.map bytesL).mergeSort fun x y => decide (x ≤ y)) (by simp) hbase hb (by rw [hss]; exact h1) h2 h3
      rw [hw, sortS_vals]
      have hlen : ((l.map bytesL).mergeSort fun x y => decide (x ≤ y)).length = l.length := by simp
      simpa using ho
    · rw [hw]
      exact Fr.of_grownBy (grownBy_sorted _)
/-- a list of whole numbers, rising -/
def sortI (l : List Int) : List Int := l.mergeSort fun x y => decide (x ≤ y)
theorem sortI_perm (l : List Int) : (sortI l).Perm l := List.mergeSort_perm _ _
theorem sortI_len (l : List Int) : (sortI l).length = l.length := (sortI_perm l).length_eq
theorem sortI_rises {l : List Int} (hd : l.Nodup) : (sortI l).Pairwise (· < ·) := by
  have h1 : (sortI l).Pairwise (fun a b => decide (a ≤ b) = true) := List.pairwise_mergeSort (fun a b c h1 h2 => by simp only [decide_eq_true_eq] at *; omega) (fun a b => by simp only [Bool.or_eq_true, decide_eq_true_eq]; omega) l
  have h2 : (sortI l).Nodup := (sortI_perm l).nodup_iff.2 hd
  exact (h1.and h2).imp fun {a b} h => by
    have := h.1
    simp only [decide_eq_true_eq] at this
    have := h.2
    omega
theorem ltI_one {l l' : List Int} (hp : l.Perm l') (h : l.Pairwise (· < ·)) (h' : l'.Pairwise (· < ·)) : l = l' :=
  hp.eq_of_pairwise (fun a b _ _ h1 h2 => by omega) h h'
theorem heap_row {enc : Int → Value} {w : World} {g n : Nat} {os : Array Obj} {cur : Array Value} {e : TypeId} (d : Array Int) (hb : w.heap[g]? = some (.cells cur e (0, 0))) :
    (grow (putRow enc (Sort.ahead w n) g 0 d) os).heap[g]? = some (.cells (putCells enc 0 d cur) e (0, 0)) := by
  have hg : g < w.heap.size := (Array.getElem?_eq_some_iff.1 hb).1
  rw [heap_grow_old _ _ (by simpa using hg)]
  simp [putRow, mapBlock, Sort.ahead, Array.getElem?_modify, hb, onCells]
theorem grown_row {enc : Int → Value} {w : World} {g n : Nat} {os : Array Obj} (d : Array Int) : Fr (fun i => i = g) w (grow (putRow enc (Sort.ahead w n) g 0 d) os) := by
  refine ⟨rfl, rfl, rfl, by simp, fun k hk hne => ?_⟩
  rw [heap_grow_old _ _ (by simpa using hk)]
  simp [putRow, mapBlock, Sort.ahead, Array.getElem?_modify, Ne.symm hne]
theorem take_row (enc : Int → Value) (cur : Array Value) (ts : List Int) (h : ts.length ≤ cur.size) : (putCells enc 0 ts.toArray cur).toList.take ts.length = ts.map enc := by
  refine List.ext_getElem? fun j => ?_
  by_cases hj : j < ts.length
  · have hj2 : j < cur.size := by omega
    rw [List.getElem?_take_of_lt hj, Array.getElem?_toList]
    simp [putCells, hj, hj2]
  · rw [List.getElem?_take_eq_none (by omega), List.getElem?_eq_none (by rw [List.length_map]; omega)]
theorem sortI_any (w : World) (B : Nat) (v : Value) (l : List Int) (h : w.ownsRow B 3 1 v l.length (l.map (.int .i64))) (hn : l.length < 4611686018427387904) :
    Calls Tryz.prog 45 #[v] w fun e w' => e = .returned (.tuple #[]) ∧ w'.ownsRow B 3 1 v l.length ((sortI l).map (.int .i64)) ∧ Fr (fun i => v.ownBlock = some i) w w' := by
  obtain ⟨hl, ⟨rfl, h0⟩ | ⟨g, cap, cur, rfl, hbase, hb, h1, h2, h3, h4⟩⟩ := h
  · have hl0 : l = [] := List.length_eq_zero_iff.1 h0
    subst hl0
    refine (Tryz.slices_Sort_int_none none 0 w).mono fun e w' ⟨he, hw⟩ => ⟨he, ?_, by rw [hw]; exact Fr.refl _ _⟩
    have e0 : (sortI []).map (Value.int .i64) = [] := by simp [sortI]
    rw [e0]
    exact World.ownsRow_nil _ _ _ _
  · have hH : Holds (Value.int .i64) w g 0 l.toArray := by
      intro j hj
      have hj' : j < l.length := by simpa using hj
      refine ⟨?_, by simp [World.frozen?, hb]⟩
      have h5 : (cur.toList.take (l.length * 1))[j]? = (l.map (Value.int .i64))[j]? := by rw [h4]
      rw [List.getElem?_take_of_lt (by omega)] at h5
      simp only [World.cell?, hb, Nat.zero_add]
      simp only [Option.isSome_none, Bool.false_eq_true, if_false]
      rw [← Array.getElem?_toList, h5]
      simp [hj']
    have hgl : g < w.heap.size := (Array.getElem?_eq_some_iff.1 hb).1
    refine (Tryz.slices_Sort_int g 0 cap l w hH hgl hn).mono ?_
    rintro e w' ⟨he, n, os, hw⟩
    have hsl : (l.mergeSort fun x y => decide (x ≤ y)).length = l.length := sortI_len l
    refine ⟨he, ?_, ?_⟩
    · rw [hw]
      refine ⟨by rw [List.length_map, sortI_len]; omega, .inr ⟨g, cap, _, rfl, hbase, heap_row _ hb, h1, h2, by simp [putCells, h3], ?_⟩⟩
      have := take_row (Value.int .i64) cur (l.mergeSort fun x y => decide (x ≤ y)) (by omega)
      rw [hsl] at this
      rw [Nat.mul_one]
      exact this
    · rw [hw]
      exact (grown_row _).mono fun i hi _ => by rw [hi]; rfl
end Go.Proofs.YtleoeccjnchclaaGreatDoor
