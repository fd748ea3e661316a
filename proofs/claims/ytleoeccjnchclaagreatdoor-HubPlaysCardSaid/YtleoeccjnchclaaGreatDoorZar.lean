/- The walk of pantryref03's item; The cells of the document's own sign: a star or not, its table of 256 bytes, the byte by itself; A new sign of the document's own. No condition but sizes. -/
import Derived.Test.YtleoeccjnchclaaGreatDoorZaq
import Derived.OwnWalk
namespace Go.Proofs.YtleoeccjnchclaaGreatDoor
open Go.RowKit
/-- what item answers at a place that lies within the pattern and is no ] -/
def itemV (q : Bytes) (k : Nat) : Value := .tuple #[b8 (lit q).1, .int .i64 ((k + (lit q).2 : Nat) : Int), .bool true]
theorem item_end (s : ByteArray) (k : Nat) (w : World) (hs : s.size < 4611686018427387904) (hk : s.size ≤ k) (hk2 : k < 4611686018427387904) :
    Calls Tryz.prog 63 #[.string s, .int .i64 k] w fun e w' => e = .returned (.tuple #[.int .u8 0, .int .i64 k, .bool false]) ∧ w = w' := by
  have g : ((s.size : Nat) : Int) ≤ k := by omega
  go_enter Tryz.func63, Tryz.ntmps63
  go_wp2
  go_ret3
  exact ⟨rfl, rfl⟩
theorem item_shut (s : ByteArray) (k : Nat) (w : World) (hs : s.size < 4611686018427387904) (hk : k < s.size) (hb : s[k] = 93) :
    Calls Tryz.prog 63 #[.string s, .int .i64 k] w fun e w' => e = .returned (.tuple #[.int .u8 0, .int .i64 k, .bool false]) ∧ w = w' := by
  have g : decide (s.size ≤ k) = false := by simp; omega
  have g1 : (((s[k].toNat : Nat) : Int) == 93) = true := by rw [hb]; rfl
  clear hb
  go_enter Tryz.func63, Tryz.ntmps63
  go_wp2
  go_ret3
  exact ⟨rfl, rfl⟩
theorem item_at (s : ByteArray) (k : Nat) (w : World) (hs : s.size < 4611686018427387904) (hk : k < s.size) (h93 : s[k] ≠ 93) :
    Calls Tryz.prog 63 #[.string s, .int .i64 k] w fun e w' => e = .returned (itemV ((bl s).drop k) k) ∧ w = w' := by
  have g : decide (s.size ≤ k) = false := by simp; omega
  have g0 : (((s[k].toNat : Nat) : Int) == 93) = false := byte_ne _ 93 (by decide) h93
  clear h93
  by_cases hb : s[k] = 92
  · have g1 : (((s[k].toNat : Nat) : Int) == 92) = true := by rw [hb]; rfl
    rw [hb] at g0
    by_cases h1 : k + 1 < s.size
    · have hl := lit_esc s k h1 hb
      have HL := Lib.hid hl
      have HB := Lib.hid hb
      have g2 : (((s[k].toNat : Nat) : Int) == 93) = false := by rw [hb]; rfl
      clear hl hb g0
      go_enter Tryz.func63, Tryz.ntmps63
      go_wp2
      go_ret3
      refine ⟨?_, rfl⟩
      unfold itemV
      rw [HL.out]
      rfl
    · have hl := lit_one s k hk (.inr h1)
      have HL := Lib.hid hl
      have g2 : (((s[k].toNat : Nat) : Int) == 93) = false := by rw [hb]; rfl
      have g3 : decide ((k : Int) + 1 < s.size) = false := by simp; omega
      clear hl hb g0
      go_enter Tryz.func63, Tryz.ntmps63
      go_wp2
      go_ret3
      refine ⟨?_, rfl⟩
      unfold itemV
      rw [HL.out]
      rfl
  · have g1 : (((s[k].toNat : Nat) : Int) == 92) = false := byte_ne _ 92 (by decide) hb
    have hl := lit_one s k hk (.inl hb)
    have HL := Lib.hid hl
    clear hl hb
    go_enter Tryz.func63, Tryz.ntmps63
    go_wp2
    go_ret3
    refine ⟨?_, rfl⟩
    unfold itemV
    rw [HL.out]
    rfl
end Go.Proofs.YtleoeccjnchclaaGreatDoor
namespace Go.Proofs.YtleoeccjnchclaaGreatDoor
def tab (T : UInt8 → Bool) : List Value := (List.range 256).map fun i => .bool (T (UInt8.ofNat i))
theorem tab_len (T : UInt8 → Bool) : (tab T).length = 256 := by simp [tab]
theorem tab_at (T : UInt8 → Bool) (i : Nat) (h : i < 256) : (tab T)[i]? = some (.bool (T (UInt8.ofNat i))) := by
  unfold tab
  rw [List.getElem?_map, List.getElem?_range h]; rfl
/-- the table turned below a place -/
def upd (T T' : UInt8 → Bool) (n : Nat) : UInt8 → Bool := fun y => if y.toNat < n then T' y else T y
theorem upd_zero (T T' : UInt8 → Bool) : upd T T' 0 = T := by funext y; simp [upd]
theorem upd_all (T T' : UInt8 → Bool) : upd T T' 256 = T' := by
  funext y
  have h : y.toNat < 256 := y.toNat_lt
  simp [upd, h]
theorem ofNat_toNat (i : Nat) (h : i < 256) : (UInt8.ofNat i).toNat = i := by rw [UInt8.toNat_ofNat']; omega
theorem tab_set (T T' : UInt8 → Bool) (n : Nat) (h : n < 256) : (tab (upd T T' n)).set n (.bool (T' (UInt8.ofNat n))) = tab (upd T T' (n + 1)) := by
  apply List.ext_getElem?
  intro i
  by_cases hi : i < 256
  · rw [List.getElem?_set, tab_at (upd T T' (n + 1)) i hi]
    by_cases hn : n = i
    · subst hn
      rw [if_pos rfl, if_pos (by rw [tab_len]; exact h)]
      simp [upd, ofNat_toNat n h]
    · rw [if_neg hn, tab_at (upd T T' n) i hi]
      unfold upd
      rw [ofNat_toNat i hi]
      have e : (i < n) ↔ (i < n + 1) := by omega
      simp only [e]
  · rw [List.getElem?_eq_none (by rw [List.length_set, tab_len]; omega), List.getElem?_eq_none (by rw [tab_len]; omega)]
/-- a value that is kept where it is not turned -/
theorem tab_keep (T T' : UInt8 → Bool) (n : Nat) (h : n < 256) (he : T' (UInt8.ofNat n) = T (UInt8.ofNat n)) : tab (upd T T' n) = tab (upd T T' (n + 1)) := by
  rw [← tab_set T T' n h]
  apply List.ext_getElem?
  intro i
  rw [List.getElem?_set]
  by_cases hn : n = i
  · subst hn
    rw [if_pos rfl, if_pos (by rw [tab_len]; exact h), tab_at _ n h]
    simp [upd, ofNat_toNat n h, he]
  · rw [if_neg hn]
def signC (st : Bool) (T : UInt8 → Bool) (one : UInt8) (pl : Bool) : List Value := .bool st :: (tab T ++ [.int .u8 one.toNat, .bool pl])
theorem signC_len (st : Bool) (T : UInt8 → Bool) (one : UInt8) (pl : Bool) : (signC st T one pl).length = 259 := by simp [signC, tab_len]
theorem signC_one (st : Bool) (T : UInt8 → Bool) (one : UInt8) (pl : Bool) : (signC st T one pl).toArray.all (·.oneCell') = true := by
  rw [List.all_toArray, List.all_eq_true]
  intro v hv
  unfold signC tab at hv
  rcases List.mem_cons.1 hv with rfl | hv
  · rfl
  rcases List.mem_append.1 hv with hv | hv
  · obtain ⟨i, _, rfl⟩ := List.mem_map.1 hv; rfl
  · simp at hv
    rcases hv with rfl | rfl <;> rfl
theorem signC_zero (st : Bool) (T : UInt8 → Bool) (one : UInt8) (pl : Bool) : (signC st T one pl)[0]? = some (.bool st) := rfl
theorem signC_at (st : Bool) (T : UInt8 → Bool) (one : UInt8) (pl : Bool) (i : Nat) (h : i < 256) : (signC st T one pl)[1 + i]? = some (.bool (T (UInt8.ofNat i))) := by
  unfold signC
  rw [Nat.add_comm 1 i, List.getElem?_cons_succ, List.getElem?_append_left (by rw [tab_len]; exact h), tab_at T i h]
end Go.Proofs.YtleoeccjnchclaaGreatDoor
namespace Go.Proofs.YtleoeccjnchclaaGreatDoor
open Go.RowKit
theorem zeroSign : Tryz.t83.zero = some (.agg (signC false (fun _ => false) 0 false).toArray) := by kernel_rfl
theorem run_zeroSign (w : World) : (zeroValue 83).run Tryz.prog w = .ok (.agg (signC false (fun _ => false) 0 false).toArray) w := by
  simp [zeroValue, go_sem, zeroSign]
/-- a sign of the document's in a block of its own -/
def SignAt (w : World) (g : Nat) (st : Bool) (T : UInt8 → Bool) (one : UInt8) (pl : Bool) : Prop := w.heap[g]? = some (.cells (signC st T one pl).toArray 83)
theorem SignAt.tab {w : World} {g : Nat} {st : Bool} {T : UInt8 → Bool} {one : UInt8} {pl : Bool} (h : SignAt w g st T one pl) (i : Nat) (hi : i < 256) : w.cell? ⟨g, 1 + i, none⟩ = some (.bool (T (UInt8.ofNat i))) := by
  unfold SignAt at h
  unfold World.cell?
  rw [h]
  show (signC st T one pl).toArray[1 + i]? = _
  rw [List.getElem?_toArray]
  exact signC_at st T one pl i hi
theorem signC_set (st : Bool) (T T' : UInt8 → Bool) (one : UInt8) (pl : Bool) (n : Nat) (hn : n < 256) : (signC st (upd T T' n) one pl).set (1 + n) (.bool (T' (UInt8.ofNat n))) = signC st (upd T T' (n + 1)) one pl := by
  unfold signC
  rw [Nat.add_comm 1 n, List.set_cons_succ, List.set_append_left _ _ (by rw [tab_len]; exact hn), tab_set T T' n hn]
theorem SignAt.set {w : World} {g : Nat} {st : Bool} {T T' : UInt8 → Bool} {one : UInt8} {pl : Bool} {n : Nat} (h : SignAt w g st (upd T T' n) one pl) (hn : n < 256) :
    SignAt (w.setCell ⟨g, 1 + n, none⟩ (.bool (T' (UInt8.ofNat n)))) g st (upd T T' (n + 1)) one pl := by
  unfold SignAt at h ⊢
  rw [← signC_set st T T' one pl n hn]
  simp only [World.setCell, Array.getElem?_modify, if_true, h, Option.map_some]
  simp
theorem SignAt.keep {w : World} {g : Nat} {st : Bool} {T T' : UInt8 → Bool} {one : UInt8} {pl : Bool} {n : Nat} (h : SignAt w g st (upd T T' n) one pl) (hn : n < 256) (he : T' (UInt8.ofNat n) = T (UInt8.ofNat n)) :
    SignAt w g st (upd T T' (n + 1)) one pl := by
  unfold SignAt at h ⊢
  unfold signC at h ⊢
  rw [← tab_keep T T' n hn he]
  exact h
theorem SignAt.new (w : World) : SignAt (w.alloc (.cells (signC false (fun _ => false) 0 false).toArray 83)) w.heap.size false (fun _ => false) 0 false := heap_alloc_new w _
theorem SignAt.frozen {w : World} {g : Nat} {st : Bool} {T : UInt8 → Bool} {one : UInt8} {pl : Bool} (h : SignAt w g st T one pl) (i : Nat) : w.frozen? ⟨g, i, none⟩ = false := by
  unfold SignAt at h
  simp [World.frozen?, h]
end Go.Proofs.YtleoeccjnchclaaGreatDoor
