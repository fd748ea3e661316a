/- The walks of package dict's inner functions at int: New, moving, slot, link, find, hang. Each says what is told and what memory then holds. -/
import Derived.Test.YtkecipdonamjaaaHash
import Derived.Test.YtkecipdonamjaaaDictF
import Derived.Deep.Light
import Derived.Deep.LoopGhost
import Derived.Deep.QuietTactic
import Derived.BigQuiet
import Derived.BigRegion
namespace Go.Proofs.Ytkecipdonamjaaa.Di
open Go.RowKit

theorem blk_field {w : World} {d : Nat} {M : DM} (h : w.heap[d]? = some (fieldsO 109 M)) :
    w.cell? ⟨d, 0, none⟩ = some (.int .u64 (wd M.seed)) ∧ w.cell? ⟨d, 1, none⟩ = some (tv M.told M.old) ∧ w.cell? ⟨d, 2, none⟩ = some (tv M.tyoung M.young) ∧
      w.cell? ⟨d, 3, none⟩ = some (.int .i64 M.at_) ∧ w.cell? ⟨d, 4, none⟩ = some (.int .i64 M.n) ∧ ∀ i, w.frozen? ⟨d, i, none⟩ = false :=
  ⟨cell_of_blk h 0, cell_of_blk h 1, cell_of_blk h 2, cell_of_blk h 3, cell_of_blk h 4, free_of_blk h⟩

theorem new_any (seed : UInt64) (w : World) : Calls Try.prog 21 #[.int .u64 (wd seed)] w fun e w' =>
    e = .returned (ptr w.heap.size) ∧ w.alloc (fieldsO 109 ⟨seed, 0, [], 0, [], 0, 0⟩) = w' := by
  go_enter Try.func21, Try.ntmps21
  go_wp2
  go_ret
  exact ⟨rfl, rfl⟩
theorem moving_any (w : World) (d : Nat) (t : Nat) (cs : List (List E)) (hl : cs.length ≤ 9223372036854775807) (h : w.cell? ⟨d, 2, none⟩ = some (tv t cs)) :
    Calls Try.prog 65 #[.pointer (some ⟨d, 0, none⟩)] w fun e w' => e = .returned (.bool (decide (cs ≠ []))) ∧ w = w' := by
  by_cases hc : cs = []
  · subst hc
    rw [tv_nil] at h
    go_enter Try.func65, Try.ntmps65
    go_wp2
    go_ret
    exact ⟨by simp, rfl⟩
  · rw [tv_of hc] at h
    have hpos : 0 < cs.length := List.length_pos_iff.2 hc
    have hd : decide (0 < cs.length) = true := by simpa using hpos
    go_enter Try.func65, Try.ntmps65
    go_wp2
    go_ret
    exact ⟨by simp [hc], rfl⟩
theorem wrap_pred (n : Nat) (h : 0 < n) (h2 : n ≤ 1152921504606846976) : IntKind.u64.wrap ((n : Int) - 1) = (n : Int) - 1 := by rw [IntKind.wrap_u64]; omega
theorem slot_core (w : World) (d t n i : Nat) (seed : UInt64) (key : ByteArray) (hs : key.size ≤ maxLen) (hlt : i < n) (hle : n ≤ 1152921504606846976)
    (hmask : bits .and .u64 (wd (hash seed key.data.toList)) ((n : Int) - 1) = (i : Int)) (h : w.cell? ⟨d, 0, none⟩ = some (.int .u64 (wd seed))) :
    Calls Try.prog 98 #[.pointer (some ⟨d, 0, none⟩), .slice (some ⟨t, 0, none⟩) n n, .string key] w fun e w' =>
      e = .returned (.pointer (some ⟨t, i, none⟩)) ∧ w = w' := by
  have hs1 : (1 : Int) ≤ n := by omega
  have hin : (i : Int) < n := by omega
  go_enter Try.func98, Try.ntmps98
  go_wp2_with (go_at_call 31; refine (hash_any _ _ _ hs).mono ?_; rintro e w' ⟨rfl, rfl⟩)
  go_ret
  exact ⟨rfl, rfl⟩
theorem slot_any (w : World) (d t : Nat) (cs : List (List E)) (seed : UInt64) (key : ByteArray) (k : Nat) (hk : cs.length = 2 ^ k) (hk2 : k < 60) (hs : key.size ≤ maxLen)
    (h : w.cell? ⟨d, 0, none⟩ = some (.int .u64 (wd seed))) :
    Calls Try.prog 98 #[.pointer (some ⟨d, 0, none⟩), .slice (some ⟨t, 0, none⟩) cs.length cs.length, .string key] w fun e w' =>
      e = .returned (.pointer (some ⟨t, slotOf seed cs.length key, none⟩)) ∧ w = w' := by
  have hpos : 0 < cs.length := by rw [hk]; exact Nat.two_pow_pos k
  exact slot_core w d t _ _ seed key hs (slotOf_lt seed cs.length key hpos) (by rw [hk]; exact Nat.pow_le_pow_right (by decide) (by omega : k ≤ 60)) (by have := wd_and_mask (hash seed key.data.toList) cs.length k hk (by omega); rwa [wrap_pred _ hpos (by rw [hk]; exact Nat.pow_le_pow_right (by decide) (by omega : k ≤ 60))] at this) h

/-- where the link to the entry of a key hangs: the bucket's own cell, or the last cell of the entry before it -/
def linkA (t i : Nat) (pre : List E) : Addr := match pre.getLast? with
  | none => ⟨t, i, none⟩
  | some q => ⟨q.b, 2, none⟩
def preOf (c : List E) (key : ByteArray) : List E := c.takeWhile (fun e => decide (e.key ≠ key))
def linkV (t i : Nat) (c : List E) (key : ByteArray) : Value := if c.any (fun e => decide (e.key = key)) then .pointer (some (linkA t i (preOf c key))) else .pointer none

/-- a table in memory that some buckets has -/
structure Tab (w : World) (t : Nat) (cs : List (List E)) : Prop where
  row : w.heap[t]? = some (rowO 112 cs)
  chains : Rep w (chainsO 114 cs)
  sz : ∀ c ∈ cs, ∀ e ∈ c, e.val.length = 1
theorem mid_at {w : World} {cs : List (List E)} {i : Nat} {pre post : List E} {e : E} (h : Rep w (chainsO 114 cs)) (hc : cs[i]? = some (pre ++ e :: post)) :
    w.heap[e.b]? = some (entryObj 114 e (hp post)) := by
  obtain ⟨hi, hc'⟩ := List.getElem?_eq_some_iff.1 hc
  refine h (e.b, _) ?_
  rw [chainsO_split cs i hi, hc', chainO_mid]
  exact List.mem_append.2 (.inr (List.mem_append.2 (.inl (List.mem_append.2 (.inr (List.mem_cons_self ..))))))
theorem link_cell {w : World} {t : Nat} {cs : List (List E)} {i : Nat} {pre post : List E} (h : Tab w t cs) (hc : cs[i]? = some (pre ++ post)) : w.cell? (linkA t i pre) = some (hp post) := by
  obtain ⟨hi, hc'⟩ := List.getElem?_eq_some_iff.1 hc
  unfold linkA
  cases hl : pre.getLast? with
  | none =>
    have : pre = [] := by simpa using hl
    subst this
    have := row_cell h.row i hi
    rw [hc'] at this; exact this
  | some q =>
    obtain ⟨pre', rfl⟩ := List.getLast?_eq_some_iff.1 hl
    have hm := mid_at (e := q) (pre := pre') (post := post) h.chains (by rw [hc]; simp)
    have hq := h.sz _ (List.mem_of_getElem? hc) q (by simp)
    show w.cell? ⟨q.b, 2, none⟩ = _
    unfold entryObj at hm
    rw [cell_of_blk hm]
    match hv : q.val, hq with
    | [x0], _ => rfl
theorem key_cell {w : World} {cs : List (List E)} {i : Nat} {pre post : List E} {e : E} (h : Rep w (chainsO 114 cs)) (hc : cs[i]? = some (pre ++ e :: post)) : w.cell? ⟨e.b, 0, none⟩ = some (.string e.key) := by
  have hm := mid_at h hc
  unfold entryObj at hm
  rw [cell_of_blk hm]; rfl

theorem linkA_snoc (t i : Nat) (pre : List E) (e : E) : linkA t i (pre ++ [e]) = ⟨e.b, 2, none⟩ := by simp [linkA]
theorem preOf_mid (pre post : List E) (e : E) (key : ByteArray) (hp : ∀ x ∈ pre, x.key ≠ key) (he : e.key = key) : preOf (pre ++ e :: post) key = pre := by
  unfold preOf
  rw [List.takeWhile_append_of_pos (fun x hx => by simpa using hp x hx)]
  simp [he]
theorem linkV_mid (t i : Nat) (pre post : List E) (e : E) (key : ByteArray) (hp : ∀ x ∈ pre, x.key ≠ key) (he : e.key = key) : linkV t i (pre ++ e :: post) key = .pointer (some (linkA t i pre)) := by
  unfold linkV
  rw [preOf_mid pre post e key hp he, if_pos (by simp [he])]
theorem linkV_none (t i : Nat) (c : List E) (key : ByteArray) (hp : ∀ x ∈ c, x.key ≠ key) : linkV t i c key = .pointer none := by
  unfold linkV
  rw [if_neg]
  simpa using hp
set_option maxHeartbeats 400000 in
theorem link_any (w : World) (d t : Nat) (cs : List (List E)) (seed : UInt64) (key : ByteArray) (k : Nat) (hk : cs.length = 2 ^ k) (hk2 : k < 60) (hs : key.size ≤ maxLen)
    (h : w.cell? ⟨d, 0, none⟩ = some (.int .u64 (wd seed))) (ht : Tab w t cs) (c : List E) (i : Nat) (hi : slotOf seed cs.length key = i) (hc : cs[i]? = some c) :
    Calls Try.prog 97 #[.pointer (some ⟨d, 0, none⟩), .slice (some ⟨t, 0, none⟩) cs.length cs.length, .string key] w fun e w' =>
      e = .returned (linkV t i c key) ∧ w = w' := by
  have hpos : 0 < cs.length := by rw [hk]; exact Nat.two_pow_pos k
  have hne : ((cs.length : Int) == 0) = false := beq_eq_false_iff_ne.2 (by omega)
  have hsl := slot_any w d t cs seed key k hk hk2 hs h
  rw [hi] at hsl
  have HSL := Lib.hid hsl; clear hsl
  have HC := Lib.hid hc; clear hc
  have HI := Lib.hid hi; clear hi hk h
  go_enter Try.func97, Try.ntmps97
  go_wp2_with (go_at_call 98; refine (HSL.out).mono ?_; rintro e w' ⟨rfl, rfl⟩)
  go_loopg [7] c.length (fun k p wr => w = wr ∧ ∃ pre post : List E, Hid (c = pre ++ post) ∧ Hid (post.length = k) ∧ p = .pointer (some (linkA t i pre)) ∧ ∀ x ∈ pre, x.key ≠ key)
  case atStart => exact ⟨rfl, [], c, rfl, rfl, rfl, fun x hx => by cases hx⟩
  case round =>
    obtain ⟨rfl, pre, post, H1, H2, rfl, hno⟩ := hrel
    have hcc : cs[i]? = some (pre ++ post) := by rw [HC.out, H1.out]
    have hlc := link_cell ht hcc
    obtain ⟨A, hA⟩ : ∃ A, linkA t i pre = A := ⟨_, rfl⟩
    rw [hA] at hlc
    have HA := Lib.hid hA; rw [hA]; clear hA
    cases post with
    | nil =>
      have hlc' : w.cell? A = some (.pointer none) := hlc
      clear hlc
      go_wp2
      go_ret
      refine ⟨?_, rfl⟩
      rw [linkV_none t i c key (by rw [H1.out]; simpa using hno)]; rfl
    | cons e post =>
      have hlc' : w.cell? A = some (.pointer (some ⟨e.b, 0, none⟩)) := hlc
      clear hlc
      have hkc := key_cell ht.chains hcc
      by_cases he : e.key = key
      · have hb : (e.key.toList == key.toList) = true := by rw [str_beq]; simpa using he
        have HE := Lib.hid he; clear he
        go_wp2
        go_ret
        refine ⟨?_, rfl⟩
        have := linkV_mid t i pre post e key hno HE.out
        rw [← H1.out, HA.out] at this
        rw [this]; rfl
      · have hb : (e.key.toList == key.toList) = false := by rw [str_beq]; simpa using he
        have HE := Lib.hid he; clear he
        go_wp2
        go_roundg post.length
        case measure => have := H2.out; simp at this; omega
        case rel =>
          refine ⟨rfl, pre ++ [e], post, by rw [List.append_assoc]; exact H1, rfl, by rw [linkA_snoc], fun x hx => ?_⟩
          rcases List.mem_append.1 hx with hx | hx
          · exact hno x hx
          · rw [List.mem_singleton.1 hx]; exact HE.out
end Go.Proofs.Ytkecipdonamjaaa.Di
