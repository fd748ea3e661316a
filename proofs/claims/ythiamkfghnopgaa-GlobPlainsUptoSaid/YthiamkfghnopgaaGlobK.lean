/- The cells of the document's own sign: a star or not, its table of 256 bytes, the byte by itself. Plain Lean. -/
import Derived.Test.YthiamkfghnopgaaGlobJ
namespace Go.Proofs.Ythiamkfghnopgaa
def tab (T : UInt8 → Bool) : List Value := (List.range 256).map fun i => .bool (T (UInt8.ofNat i))
theorem tab_len (T : UInt8 → Bool) : (tab T).length = 256 := by simp [tab]
theorem tab_at (T : UInt8 → Bool) (i : Nat) (h : i < 256) : (tab T)[i]? = some (.bool (T (UInt8.ofNat i))) := by
  unfold tab
  rw [List.getElem?_map, List.getElem?_range h]; rfl
/-- the table turned below a place -/
def upd (T T' : UInt8 → Bool) (n : Nat) : UInt8 → Bool := fun y => if y.toNat < n then T' y else T y
theorem upd_zero (T T' : UInt8 → Bool) : upd T T' 0 = T := by funext y; simp [upd]
theorem upd_all (T T' : UInt8 → Bool) : upd T T' 256 = T' := by
  funext y
  have h : y.toNat < 256 := y.toNat_lt
  simp [upd, h]
theorem ofNat_toNat (i : Nat) (h : i < 256) : (UInt8.ofNat i).toNat = i := by rw [UInt8.toNat_ofNat']; omega
theorem tab_set (T T' : UInt8 → Bool) (n : Nat) (h : n < 256) : (tab (upd T T' n)).set n (.bool (T' (UInt8.ofNat n))) = tab (upd T T' (n + 1)) := by
  apply List.ext_getElem?
  intro i
  by_cases hi : i < 256
  · rw [List.getElem?_set, tab_at (upd T T' (n + 1)) i hi]
    by_cases hn : n = i
    · subst hn
      rw [if_pos rfl, if_pos (by rw [tab_len]; exact h)]
      simp [upd, ofNat_toNat n h]
    · rw [if_neg hn, tab_at (upd T T' n) i hi]
      unfold upd
      rw [ofNat_toNat i hi]
      have e : (i < n) ↔ (i < n + 1) := by omega
      simp only [e]
  · rw [List.getElem?_eq_none (by rw [List.length_set, tab_len]; omega), List.getElem?_eq_none (by rw [tab_len]; omega)]
/-- a value that is kept where it is not turned -/
theorem tab_keep (T T' : UInt8 → Bool) (n : Nat) (h : n < 256) (he : T' (UInt8.ofNat n) = T (UInt8.ofNat n)) : tab (upd T T' n) = tab (upd T T' (n + 1)) := by
  rw [← tab_set T T' n h]
  apply List.ext_getElem?
  intro i
  rw [List.getElem?_set]
  by_cases hn : n = i
  · subst hn
    rw [if_pos rfl, if_pos (by rw [tab_len]; exact h), tab_at _ n h]
    simp [upd, ofNat_toNat n h, he]
  · rw [if_neg hn]
def signC (st : Bool) (T : UInt8 → Bool) (one : UInt8) (pl : Bool) : List Value := .bool st :: (tab T ++ [.int .u8 one.toNat, .bool pl])
theorem signC_len (st : Bool) (T : UInt8 → Bool) (one : UInt8) (pl : Bool) : (signC st T one pl).length = 259 := by simp [signC, tab_len]
theorem signC_one (st : Bool) (T : UInt8 → Bool) (one : UInt8) (pl : Bool) : (signC st T one pl).toArray.all (·.oneCell') = true := by
  rw [List.all_toArray, List.all_eq_true]
  intro v hv
  unfold signC tab at hv
  rcases List.mem_cons.1 hv with rfl | hv
  · rfl
  rcases List.mem_append.1 hv with hv | hv
  · obtain ⟨i, _, rfl⟩ := List.mem_map.1 hv; rfl
  · simp at hv
    rcases hv with rfl | rfl <;> rfl
theorem signC_zero (st : Bool) (T : UInt8 → Bool) (one : UInt8) (pl : Bool) : (signC st T one pl)[0]? = some (.bool st) := rfl
theorem signC_at (st : Bool) (T : UInt8 → Bool) (one : UInt8) (pl : Bool) (i : Nat) (h : i < 256) : (signC st T one pl)[1 + i]? = some (.bool (T (UInt8.ofNat i))) := by
  unfold signC
  rw [Nat.add_comm 1 i, List.getElem?_cons_succ, List.getElem?_append_left (by rw [tab_len]; exact h), tab_at T i h]
end Go.Proofs.Ythiamkfghnopgaa
