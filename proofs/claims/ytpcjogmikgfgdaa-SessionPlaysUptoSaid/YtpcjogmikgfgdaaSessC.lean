/- A session's Watched: the keys that are watched, rising. No condition. -/
import Derived.Test.YtpcjogmikgfgdaaSessB
import Derived.Test.YtpcjogmikgfgdaaShelf
import Derived.Shelf.Slices.In.SortNone
import Derived.Sort.OwnSorted
import Derived.Maps.RangeWalk
namespace Go.Proofs.Ytpcjogmikgfgdaa
open Go.RowKit Go.Maps Go.Sort
def bytesL (k : ByteArray) : List UInt8 := k.data.toList
def ofB (b : List UInt8) : ByteArray := ⟨b.toArray⟩
/-- a list of texts, rising -/
def sortS (l : List ByteArray) : List ByteArray := ((l.map bytesL).mergeSort leB).map ofB
theorem bytes_ofB (b : List UInt8) : bytesL (ofB b) = b := rfl
theorem ofB_bytes (k : ByteArray) : ofB (bytesL k) = k := by cases k; rfl
theorem sortS_len (l : List ByteArray) : (sortS l).length = l.length := by simp [sortS]
theorem sortS_vals (l : List ByteArray) : (sortS l).map Value.string = ((l.map bytesL).mergeSort leB).map encStr := by
  unfold sortS
  rw [List.map_map]
  rfl
theorem collected_perm {D0 : DataW Unit} {l : List ByteArray} (hs : SetMap D0 l) {left : Lit → Bool} {ss : List (List UInt8)} (hC : Collected D0 left ss) (hl : ∀ kl, left kl = false) : ss.Perm (l.map bytesL) := by
  refine (List.perm_ext_iff_of_nodup hC.1 (List.pairwise_map.2 (hs.nodup.imp (fun h e => h (bytes_ext e))))).2 fun x => ?_
  rw [hC.2 x, hl, List.mem_map]
  have e : Maps.has D0 (.string x) = inL (ofB x) l := hs.has (ofB x)
  rw [e]
  constructor
  · rintro ⟨h, _⟩
    exact ⟨ofB x, inL_iff.1 h, rfl⟩
  · rintro ⟨k, hk, rfl⟩
    exact ⟨inL_iff.2 (by rw [ofB_bytes]; exact hk), rfl⟩
theorem PE_inv {v : Value} {y : DataW Unit × List MemPlace} (h : PE v = some y) : ∃ b, v = .bool b := by
  have hu := Try.underlying4
  unfold PE plainElem at h
  simp only [hu] at h
  cases v <;> simp at h
  exact ⟨_, rfl⟩
/-- what Watched hands back -/
def WPost (w : World) (l : List ByteArray) (e : Ending) (w' : World) : Prop :=
  ∃ v, e = .returned v ∧ w'.ownsRow w.heap.size 9 1 v l.length ((sortS l).map .string) ∧ Below w.heap.size w w'
theorem sortNil_any (w : World) : Calls Try.prog 60 #[.slice none 0 0] w fun e w' => e = .returned (.tuple #[]) ∧ w' = w := Any.slices_Sort_string_none Try.lays190 none 0 w
set_option maxRecDepth 100000 in
set_option maxHeartbeats 2000000 in
theorem watched_any (w : World) (B p m : Nat) (vq : Value) (S : SS) (h : SessAt w B p m vq S) : Calls Try.prog 37 #[.pointer (some ⟨p, 0, none⟩)] w (WPost w S.wt) := by
  obtain ⟨op, sp, di, q, wt⟩ := S
  have c4 : w.cell? ⟨p, 4, none⟩ = some (.map (some m)) := h.cell 4
  obtain ⟨D0, hown, hset⟩ := h.map
  have hbl := hown.lt
  have hsw : wt.length ≤ 1024 := h.sw
  have hsz : Maps.size D0 = wt.length := hset.size
  have HSET := Lib.hid hset
  have HSZ := Lib.hid hsz
  obtain ⟨i0, hi, hz0, hz1, hz2⟩ := info_parts infoS
  have HI := Lib.hid hi
  have HZ0 := Lib.hid hz0
  have HZ1 := Lib.hid hz1
  have HZ2 := Lib.hid hz2
  clear h hset hsz hi hz0 hz1 hz2
  dsimp only at hown
  go_enter Try.func37, Try.ntmps37
  go_wp2_with (at_range; refine wpList_range_own _ rfl _ 97 rfl 9 4 lawS Try.underlying97 _ m wt.length D0 rfl hown ?_; intro w0 hrg0 hg0 hs0)
  go_loopw [3] (fun v wr => ∃ (left : Lit → Bool) (cnt : Nat) (ss : List (List UInt8)), wr.ranges Try.prog 9 PE m w.heap.size wt.length D0 left cnt ∧ ss.length + cnt ≤ wt.length ∧
      wr.ownsRow w.heap.size 9 1 v ss.length (ss.map encStr) ∧ Collected D0 left ss ∧ Below w.heap.size w wr)
    (fun _ wr => wr.rangeLeft m w.heap.size)
  case atStart =>
    exact ⟨_, _, [], hrg0, by rw [HSZ.out]; simp, World.ownsRow_nil _ _ _ _, Collected.start D0, (Below.refl _ _).grown hg0 (Nat.le_refl _) (fun j hj => by cases hj)⟩
  case round =>
    obtain ⟨left, cnt, ss, hrg, hcs, hrow, hC, hnx⟩ := hrel
    clear hrg0 hg0 hs0
    go_wp2_with (at_next; refine wpList_next_ranges _ rfl _ rfl 9 lawS PE encStr (fun v : Value => v) (fun key kl hk => by obtain ⟨x, hx, _⟩ := Maps.keyOf_str Try.underlying9 hk; exact ⟨x, hx⟩) (fun v y _ => ⟨v, rfl⟩) m w.heap.size wt.length _ _ _ rfl hrg ?_ ?_)
    · intro hc0 hl0
      have HPM := Lib.hid (collected_perm HSET.out hC hl0)
      have HB := Lib.hid hnx
      rcases hrow.2 with ⟨hnil, hz⟩ | ⟨g, cap, cur, hv, hbase, hb, h1, h2, h3, h4⟩
      · subst hnil
        have hss : ss = [] := List.length_eq_zero_iff.1 hz
        subst hss
        have hw0 : wt.length = 0 := by have := HPM.out.length_eq; simpa using this.symm
        have HW0 : Hid (wt = []) := List.length_eq_zero_iff.1 hw0
        clear hrow hcs hz hw0
        go_wp2_with (go_at_call 60; ((with_reducible refine (sortNil_any _).mono ?_); rintro e w' ⟨rfl, rfl⟩))
        go_ret
        refine ⟨_, rfl, ?_, HB.out⟩
        have e0 : (sortS []).map Value.string = [] := by simp [sortS]
        rw [HW0.out, e0]
        exact World.ownsRow_nil _ _ _ _
      · subst hv
        have hH : Holds encStr wr g 0 ss.toArray := holds_of_block hb (by simpa using h4)
        have hgl : g < wr.heap.size := (Array.getElem?_eq_some_iff.1 hb).1
        have HC := Lib.hid (Try.slices_Sort_string g 0 cap ss wr hH hgl (by omega))
        have HSL : Hid (ss.length = wt.length) := by show _ = _; have := HPM.out.length_eq; simpa using this
        have HOUT := Lib.hid (fun (n : Nat) (os : Array Obj) => ownsRow_sorted (w := wr) (n := n) (os := os) (ts := ss.mergeSort fun x y => decide (x ≤ y)) (by simp) hbase hb h1 h2 h3)
        have HGB : Hid (w.heap.size ≤ g) := hbase
        clear hrow hcs hb h1 h2 h3 h4 hH hgl hnx hrg hC hl0 hbase
        go_wp2_with (go_at_call 60; ((with_reducible refine HC.out.mono ?_); rintro e w' ⟨rfl, nn, os, rfl⟩))
        go_ret
        refine ⟨_, rfl, ?_, HB.out.grown (grownBy_sorted _) HB.out.size (fun j hj => by cases hj; exact HGB.out)⟩
        have h := HOUT.out nn os
        rw [HSL.out] at h ⊢
        rw [sortS_vals, ← mergeSort_of_perm HPM.out]
        exact h
    · intro x c kl yd yp w2 cnt2 hkey hlk hv hat hrg2 hlt hg2 hs2 hen
      obtain ⟨x', ex, rfl, _⟩ := Maps.keyOf_str Try.underlying9 hkey
      obtain rfl : x = x' := encStr_inj ex
      have hrow2 := hrow.kept hg2 (Or.inr (row_ne_iter hrow hrg).symm)
      have HB2 := Lib.hid (hnx.grown hg2 hnx.size (fun j hj => by cases hj; exact Nat.le_refl _))
      have HR2 := Lib.hid hrg2
      have HRW := Lib.hid hrow2
      have HST := Lib.hid (hC.step hlk hat)
      have HRG := Lib.hid hrg
      have hb2 := hown.lt
      clear hs2 hrow hC hlk hat hkey hv hg2 hnx hrg hrg2 hrow2
      go_wp2_with (at_builtin; refine wpList_append_own _ rfl (.tmp 16) (.tmp 18) 41 rfl w.heap.size 9 i0 (.string ⟨#[]⟩) 1 16 Try.underlying41 HI.out HZ0.out HZ1.out HZ2.out rfl (by decide) _ _ _ rfl (HRW.out.alloc _) ⟨w2.heap.size, 0, none⟩ 1 1 [encStr x] rfl rfl (cell_one_new _ _ _) (by simp [Value.oneCell', encStr]) (by unfold maxLen; omega) (by omega) (by have := HB2.out.size; simp; omega) ?_; intro v' w3 hown' hg3 hnil3)
      have hrg3 := (HR2.out.alloc _).kept hg3 (row_ne_low HRW.out hbl) (row_ne_iter HRW.out HR2.out)
      have HR3 := Lib.hid hrg3
      have HO3 := Lib.hid hown'
      have HG3 := Lib.hid hg3
      clear hown' hg3 hnil3 hrg3
      go_roundw
      case rel =>
        exact ⟨_, cnt2, ss ++ [x], HR3.out, by simp; omega, by simpa using HO3.out, HST.out, (HB2.out.alloc HB2.out.size _).grown HG3.out (by have := HB2.out.size; simp; omega) (fun j hj => (HRW.out.lt j hj).1)⟩
      case measure => rw [HR3.out.left_eq, HRG.out.left_eq]; exact hlt
end Go.Proofs.Ytpcjogmikgfgdaa
