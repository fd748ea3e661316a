/- A dict of whole numbers. No condition. -/
import Derived.Test.YtgomilodeaafdaaBa
import Derived.Test.YtgomilodeaafdaaBb
import Derived.Deep.Light
import Derived.Deep.LoopGhost
import Derived.Deep.QuietTactic
import Derived.BigQuiet
import Derived.BigRegion
import Derived.Deep.Cut
import Derived.Deep.CutBlock
import Derived.Laws.NewBlocks
import Derived.Outline
import Derived.Laws.IdiomCopy
import Derived.Lib.SliceRun
import Derived.Deep.Upon
import Derived.RangeFuncNested
import Derived.RangeFuncBound
import Derived.RangeFuncCalls
import Derived.RangeFuncLeaves
import Derived.RangeFuncBox
import Derived.Shelf.Abstract
import Derived.Shelf.RegionOpen
import Derived.OwnWalkIn
import Derived.TacticsInMore
import Derived.LoopNIn
import Derived.LoopIn
import Derived.RegionIn
import Derived.BigRegionIn
import Derived.Sort.QuietIn
import Derived.Sort.CutIn
import Derived.Maps.AppendAt
namespace Go.Proofs.Ytgomilodeaafdaa.Di
open Go.RowKit

theorem blk_field {w : World} {d : Nat} {M : DM} (h : w.heap[d]? = some (fieldsO 113 M)) :
    w.cell? ⟨d, 0, none⟩ = some (.int .u64 (wd M.seed)) ∧ w.cell? ⟨d, 1, none⟩ = some (tv M.told M.old) ∧ w.cell? ⟨d, 2, none⟩ = some (tv M.tyoung M.young) ∧
      w.cell? ⟨d, 3, none⟩ = some (.int .i64 M.at_) ∧ w.cell? ⟨d, 4, none⟩ = some (.int .i64 M.n) ∧ ∀ i, w.frozen? ⟨d, i, none⟩ = false :=
  ⟨cell_of_blk h 0, cell_of_blk h 1, cell_of_blk h 2, cell_of_blk h 3, cell_of_blk h 4, free_of_blk h⟩

theorem new_any (seed : UInt64) (w : World) : Calls Try.prog 15 #[.int .u64 (wd seed)] w fun e w' =>
    e = .returned (ptr w.heap.size) ∧ w.alloc (fieldsO 113 ⟨seed, 0, [], 0, [], 0, 0⟩) = w' := by
  go_enter Try.func15, Try.ntmps15
  go_wp2
  go_ret
  exact ⟨rfl, rfl⟩
theorem moving_any (w : World) (d : Nat) (t : Nat) (cs : List (List E)) (hl : cs.length ≤ 9223372036854775807) (h : w.cell? ⟨d, 2, none⟩ = some (tv t cs)) :
    Calls Try.prog 140 #[.pointer (some ⟨d, 0, none⟩)] w fun e w' => e = .returned (.bool (decide (cs ≠ []))) ∧ w = w' := by
  by_cases hc : cs = []
  · subst hc
    rw [tv_nil] at h
    go_enter Try.func140, Try.ntmps140
    go_wp2
    go_ret
    exact ⟨by simp, rfl⟩
  · rw [tv_of hc] at h
    have hpos : 0 < cs.length := List.length_pos_iff.2 hc
    have hd : decide (0 < cs.length) = true := by simpa using hpos
    go_enter Try.func140, Try.ntmps140
    go_wp2
    go_ret
    exact ⟨by simp [hc], rfl⟩
theorem wrap_pred (n : Nat) (h : 0 < n) (h2 : n ≤ 1152921504606846976) : IntKind.u64.wrap ((n : Int) - 1) = (n : Int) - 1 := by rw [IntKind.wrap_u64]; omega
theorem slot_core (w : World) (d t n i : Nat) (seed : UInt64) (key : ByteArray) (hs : key.size ≤ maxLen) (hlt : i < n) (hle : n ≤ 1152921504606846976)
    (hmask : bits .and .u64 (wd (hash seed key.data.toList)) ((n : Int) - 1) = (i : Int)) (h : w.cell? ⟨d, 0, none⟩ = some (.int .u64 (wd seed))) :
    Calls Try.prog 184 #[.pointer (some ⟨d, 0, none⟩), .slice (some ⟨t, 0, none⟩) n n, .string key] w fun e w' =>
      e = .returned (.pointer (some ⟨t, i, none⟩)) ∧ w = w' := by
  have hs1 : (1 : Int) ≤ n := by omega
  have hin : (i : Int) < n := by omega
  go_enter Try.func184, Try.ntmps184
  go_wp2_with (go_at_call 217; refine (hash_any _ _ _ hs).mono ?_; rintro e w' ⟨rfl, rfl⟩)
  go_ret
  exact ⟨rfl, rfl⟩
theorem slot_any (w : World) (d t : Nat) (cs : List (List E)) (seed : UInt64) (key : ByteArray) (k : Nat) (hk : cs.length = 2 ^ k) (hk2 : k < 60) (hs : key.size ≤ maxLen)
    (h : w.cell? ⟨d, 0, none⟩ = some (.int .u64 (wd seed))) :
    Calls Try.prog 184 #[.pointer (some ⟨d, 0, none⟩), .slice (some ⟨t, 0, none⟩) cs.length cs.length, .string key] w fun e w' =>
      e = .returned (.pointer (some ⟨t, slotOf seed cs.length key, none⟩)) ∧ w = w' := by
  have hpos : 0 < cs.length := by rw [hk]; exact Nat.two_pow_pos k
  exact slot_core w d t _ _ seed key hs (slotOf_lt seed cs.length key hpos) (by rw [hk]; exact Nat.pow_le_pow_right (by decide) (by omega : k ≤ 60)) (by have := wd_and_mask (hash seed key.data.toList) cs.length k hk (by omega); rwa [wrap_pred _ hpos (by rw [hk]; exact Nat.pow_le_pow_right (by decide) (by omega : k ≤ 60))] at this) h

/-- where the link to the entry of a key hangs: the bucket's own cell, or the last cell of the entry before it -/
def linkA (t i : Nat) (pre : List E) : Addr := match pre.getLast? with
  | none => ⟨t, i, none⟩
  | some q => ⟨q.b, 2, none⟩
def preOf (c : List E) (key : ByteArray) : List E := c.takeWhile (fun e => decide (e.key ≠ key))
def linkV (t i : Nat) (c : List E) (key : ByteArray) : Value := if c.any (fun e => decide (e.key = key)) then .pointer (some (linkA t i (preOf c key))) else .pointer none

/-- a table in memory that some buckets has -/
structure Tab (w : World) (t : Nat) (cs : List (List E)) : Prop where
  row : w.heap[t]? = some (rowO 176 cs)
  chains : Rep w (chainsO 178 cs)
  sz : ∀ c ∈ cs, ∀ e ∈ c, e.val.length = 1
theorem mid_at {w : World} {cs : List (List E)} {i : Nat} {pre post : List E} {e : E} (h : Rep w (chainsO 178 cs)) (hc : cs[i]? = some (pre ++ e :: post)) :
    w.heap[e.b]? = some (entryObj 178 e (hp post)) := by
  obtain ⟨hi, hc'⟩ := List.getElem?_eq_some_iff.1 hc
  refine h (e.b, _) ?_
  rw [chainsO_split cs i hi, hc', chainO_mid]
  exact List.mem_append.2 (.inr (List.mem_append.2 (.inl (List.mem_append.2 (.inr (List.mem_cons_self ..))))))
theorem link_cell {w : World} {t : Nat} {cs : List (List E)} {i : Nat} {pre post : List E} (h : Tab w t cs) (hc : cs[i]? = some (pre ++ post)) : w.cell? (linkA t i pre) = some (hp post) := by
  obtain ⟨hi, hc'⟩ := List.getElem?_eq_some_iff.1 hc
  unfold linkA
  cases hl : pre.getLast? with
  | none =>
    have : pre = [] := by simpa using hl
    subst this
    have := row_cell h.row i hi
    rw [hc'] at this; exact this
  | some q =>
    obtain ⟨pre', rfl⟩ := List.getLast?_eq_some_iff.1 hl
    have hm := mid_at (e := q) (pre := pre') (post := post) h.chains (by rw [hc]; simp)
    have hq := h.sz _ (List.mem_of_getElem? hc) q (by simp)
    show w.cell? ⟨q.b, 2, none⟩ = _
    unfold entryObj at hm
    rw [cell_of_blk hm]
    match hv : q.val, hq with
    | [x0], _ => rfl
theorem key_cell {w : World} {cs : List (List E)} {i : Nat} {pre post : List E} {e : E} (h : Rep w (chainsO 178 cs)) (hc : cs[i]? = some (pre ++ e :: post)) : w.cell? ⟨e.b, 0, none⟩ = some (.string e.key) := by
  have hm := mid_at h hc
  unfold entryObj at hm
  rw [cell_of_blk hm]; rfl

theorem linkA_snoc (t i : Nat) (pre : List E) (e : E) : linkA t i (pre ++ [e]) = ⟨e.b, 2, none⟩ := by simp [linkA]
theorem preOf_mid (pre post : List E) (e : E) (key : ByteArray) (hp : ∀ x ∈ pre, x.key ≠ key) (he : e.key = key) : preOf (pre ++ e :: post) key = pre := by
  unfold preOf
  rw [List.takeWhile_append_of_pos (fun x hx => by simpa using hp x hx)]
  simp [he]
theorem linkV_mid (t i : Nat) (pre post : List E) (e : E) (key : ByteArray) (hp : ∀ x ∈ pre, x.key ≠ key) (he : e.key = key) : linkV t i (pre ++ e :: post) key = .pointer (some (linkA t i pre)) := by
  unfold linkV
  rw [preOf_mid pre post e key hp he, if_pos (by simp [he])]
theorem linkV_none (t i : Nat) (c : List E) (key : ByteArray) (hp : ∀ x ∈ c, x.key ≠ key) : linkV t i c key = .pointer none := by
  unfold linkV
  rw [if_neg]
  simpa using hp
set_option maxHeartbeats 400000 in
theorem link_any (w : World) (d t : Nat) (cs : List (List E)) (seed : UInt64) (key : ByteArray) (k : Nat) (hk : cs.length = 2 ^ k) (hk2 : k < 60) (hs : key.size ≤ maxLen)
    (h : w.cell? ⟨d, 0, none⟩ = some (.int .u64 (wd seed))) (ht : Tab w t cs) (c : List E) (i : Nat) (hi : slotOf seed cs.length key = i) (hc : cs[i]? = some c) :
    Calls Try.prog 183 #[.pointer (some ⟨d, 0, none⟩), .slice (some ⟨t, 0, none⟩) cs.length cs.length, .string key] w fun e w' =>
      e = .returned (linkV t i c key) ∧ w = w' := by
  have hpos : 0 < cs.length := by rw [hk]; exact Nat.two_pow_pos k
  have hne : ((cs.length : Int) == 0) = false := beq_eq_false_iff_ne.2 (by omega)
  have hsl := slot_any w d t cs seed key k hk hk2 hs h
  rw [hi] at hsl
  have HSL := Lib.hid hsl; clear hsl
  have HC := Lib.hid hc; clear hc
  have HI := Lib.hid hi; clear hi hk h
  go_enter Try.func183, Try.ntmps183
  go_wp2_with (go_at_call 184; refine (HSL.out).mono ?_; rintro e w' ⟨rfl, rfl⟩)
  go_loopg [7] c.length (fun k p wr => w = wr ∧ ∃ pre post : List E, Hid (c = pre ++ post) ∧ Hid (post.length = k) ∧ p = .pointer (some (linkA t i pre)) ∧ ∀ x ∈ pre, x.key ≠ key)
  case atStart => exact ⟨rfl, [], c, rfl, rfl, rfl, fun x hx => by cases hx⟩
  case round =>
    obtain ⟨rfl, pre, post, H1, H2, rfl, hno⟩ := hrel
    have hcc : cs[i]? = some (pre ++ post) := by rw [HC.out, H1.out]
    have hlc := link_cell ht hcc
    obtain ⟨A, hA⟩ : ∃ A, linkA t i pre = A := ⟨_, rfl⟩
    rw [hA] at hlc
    have HA := Lib.hid hA; rw [hA]; clear hA
    cases post with
    | nil =>
      have hlc' : w.cell? A = some (.pointer none) := hlc
      clear hlc
      go_wp2
      go_ret
      refine ⟨?_, rfl⟩
      rw [linkV_none t i c key (by rw [H1.out]; simpa using hno)]; rfl
    | cons e post =>
      have hlc' : w.cell? A = some (.pointer (some ⟨e.b, 0, none⟩)) := hlc
      clear hlc
      have hkc := key_cell ht.chains hcc
      by_cases he : e.key = key
      · have hb : (e.key.toList == key.toList) = true := by rw [str_beq]; simpa using he
        have HE := Lib.hid he; clear he
        go_wp2
        go_ret
        refine ⟨?_, rfl⟩
        have := linkV_mid t i pre post e key hno HE.out
        rw [← H1.out, HA.out] at this
        rw [this]; rfl
      · have hb : (e.key.toList == key.toList) = false := by rw [str_beq]; simpa using he
        have HE := Lib.hid he; clear he
        go_wp2
        go_roundg post.length
        case measure => have := H2.out; simp at this; omega
        case rel =>
          refine ⟨rfl, pre ++ [e], post, by rw [List.append_assoc]; exact H1, rfl, by rw [linkA_snoc], fun x hx => ?_⟩
          rcases List.mem_append.1 hx with hx | hx
          · exact hno x hx
          · rw [List.mem_singleton.1 hx]; exact HE.out
end Go.Proofs.Ytgomilodeaafdaa.Di
namespace Go.Proofs.Ytgomilodeaafdaa.Di
open Go.RowKit

/-- a key's entry stands in bucket i of a table, behind 'pre' -/
structure Has (seed : UInt64) (cs : List (List E)) (key : ByteArray) (i : Nat) (pre : List E) (e : E) (post : List E) : Prop where
  slot : slotOf seed cs.length key = i
  at_ : cs[i]? = some (pre ++ e :: post)
  key_ : e.key = key
  pre_ : ∀ x ∈ pre, x.key ≠ key
def Hasnt (seed : UInt64) (cs : List (List E)) (key : ByteArray) : Prop := ∀ c, cs[slotOf seed cs.length key]? = some c → ∀ x ∈ c, x.key ≠ key
theorem split_key (c : List E) (key : ByteArray) : (∀ x ∈ c, x.key ≠ key) ∨ ∃ pre e post, c = pre ++ e :: post ∧ e.key = key ∧ ∀ x ∈ pre, x.key ≠ key := by
  induction c with
  | nil => exact .inl (fun x hx => by cases hx)
  | cons a c ih =>
    by_cases ha : a.key = key
    · exact .inr ⟨[], a, c, rfl, ha, fun x hx => by cases hx⟩
    · rcases ih with h | ⟨pre, e, post, rfl, he, hp⟩
      · left; intro x hx; rcases List.mem_cons.1 hx with rfl | hx
        · exact ha
        · exact h x hx
      · right; refine ⟨a :: pre, e, post, rfl, he, fun x hx => ?_⟩
        rcases List.mem_cons.1 hx with rfl | hx
        · exact ha
        · exact hp x hx
theorem has_or (seed : UInt64) (cs : List (List E)) (key : ByteArray) : Hasnt seed cs key ∨ ∃ i pre e post, Has seed cs key i pre e post := by
  cases hc : cs[slotOf seed cs.length key]? with
  | none => exact .inl (fun c h => by rw [hc] at h; cases h)
  | some c =>
    rcases split_key c key with h | ⟨pre, e, post, rfl, he, hp⟩
    · exact .inl (fun c' h' => by rw [hc] at h'; cases h'; exact h)
    · exact .inr ⟨_, pre, e, post, rfl, hc, he, hp⟩

/-- a table in memory: none, or Tab -/
def TabN (w : World) (t : Nat) (cs : List (List E)) : Prop := cs ≠ [] → Tab w t cs ∧ ∃ k, k < 60 ∧ cs.length = 2 ^ k
theorem link_nil (w : World) (d : Nat) (key : ByteArray) :
    Calls Try.prog 183 #[.pointer (some ⟨d, 0, none⟩), .slice none 0 0, .string key] w fun e w' => e = .returned (.pointer none) ∧ w = w' := by
  go_enter Try.func183, Try.ntmps183
  go_wp2
  go_ret
  exact ⟨rfl, rfl⟩
theorem link_hasnt (w : World) (d t : Nat) (cs : List (List E)) (seed : UInt64) (key : ByteArray) (hs : key.size ≤ maxLen)
    (h : w.cell? ⟨d, 0, none⟩ = some (.int .u64 (wd seed))) (ht : TabN w t cs) (hn : Hasnt seed cs key) :
    Calls Try.prog 183 #[.pointer (some ⟨d, 0, none⟩), tv t cs, .string key] w fun e w' => e = .returned (.pointer none) ∧ w = w' := by
  by_cases hc : cs = []
  · subst hc; rw [tv_nil]; exact link_nil w d key
  · obtain ⟨htab, k, hk2, hk⟩ := ht hc
    rw [tv_of hc]
    have hlt := slotOf_lt seed cs.length key (List.length_pos_iff.2 hc)
    have hci : cs[slotOf seed cs.length key]? = some cs[slotOf seed cs.length key] := List.getElem?_eq_getElem hlt
    refine (link_any w d t cs seed key k hk hk2 hs h htab _ _ rfl hci).mono fun e w' ⟨h1, h2⟩ => ⟨?_, h2⟩
    rw [h1, linkV_none _ _ _ _ (hn _ hci)]
theorem has_ne {seed : UInt64} {cs : List (List E)} {key : ByteArray} {i : Nat} {pre : List E} {e : E} {post : List E} (h : Has seed cs key i pre e post) : cs ≠ [] := by
  intro h0; have := h.at_; rw [h0] at this; simp at this
theorem link_has (w : World) (d t : Nat) (cs : List (List E)) (seed : UInt64) (key : ByteArray) (hs : key.size ≤ maxLen)
    (h : w.cell? ⟨d, 0, none⟩ = some (.int .u64 (wd seed))) (ht : TabN w t cs) (i : Nat) (pre : List E) (e : E) (post : List E) (hh : Has seed cs key i pre e post) :
    Calls Try.prog 183 #[.pointer (some ⟨d, 0, none⟩), tv t cs, .string key] w fun x w' => x = .returned (.pointer (some (linkA t i pre))) ∧ w = w' := by
  have hc := has_ne hh
  obtain ⟨htab, k, hk2, hk⟩ := ht hc
  rw [tv_of hc]
  refine (link_any w d t cs seed key k hk hk2 hs h htab _ _ hh.slot hh.at_).mono fun e w' ⟨h1, h2⟩ => ⟨?_, h2⟩
  rw [h1, linkV_mid _ _ _ _ _ _ hh.pre_ hh.key_]

theorem find_old (w : World) (d : Nat) (M : DM) (key : ByteArray) (hs : key.size ≤ maxLen) (hf : w.heap[d]? = some (fieldsO 113 M)) (ht : TabN w M.told M.old)
    (i : Nat) (pre : List E) (e : E) (post : List E) (hh : Has M.seed M.old key i pre e post) :
    Calls Try.prog 139 #[.pointer (some ⟨d, 0, none⟩), .string key] w fun x w' => x = .returned (.pointer (some (linkA M.told i pre))) ∧ w = w' := by
  obtain ⟨h0, h1, h2, h3, h4, h5⟩ := blk_field hf
  have HC := Lib.hid (link_has w d M.told M.old M.seed key hs h0 ht i pre e post hh)
  clear hf h0 hh
  go_enter Try.func139, Try.ntmps139
  go_wp2_with (go_at_call 183; refine (HC.out).mono ?_; rintro e w' ⟨rfl, rfl⟩)
  go_ret
  exact ⟨rfl, rfl⟩
theorem find_young (w : World) (d : Nat) (M : DM) (key : ByteArray) (hs : key.size ≤ maxLen) (hf : w.heap[d]? = some (fieldsO 113 M)) (ht : TabN w M.told M.old) (hty : TabN w M.tyoung M.young)
    (hn : Hasnt M.seed M.old key) (i : Nat) (pre : List E) (e : E) (post : List E) (hh : Has M.seed M.young key i pre e post) :
    Calls Try.prog 139 #[.pointer (some ⟨d, 0, none⟩), .string key] w fun x w' => x = .returned (.pointer (some (linkA M.tyoung i pre))) ∧ w = w' := by
  obtain ⟨h0, h1, h2, h3, h4, h5⟩ := blk_field hf
  have HC := Lib.hid (link_hasnt w d M.told M.old M.seed key hs h0 ht hn)
  have HD := Lib.hid (link_has w d M.tyoung M.young M.seed key hs h0 hty i pre e post hh)
  clear hf h0 hh
  go_enter Try.func139, Try.ntmps139
  go_wp2_with fail
  refine (HC.out).mono ?_
  rintro e w' ⟨rfl, rfl⟩
  go_wp2_with fail
  refine (HD.out).mono ?_
  rintro e w' ⟨rfl, rfl⟩
  go_wp2
  go_ret
  exact ⟨rfl, rfl⟩
theorem find_none (w : World) (d : Nat) (M : DM) (key : ByteArray) (hs : key.size ≤ maxLen) (hf : w.heap[d]? = some (fieldsO 113 M)) (ht : TabN w M.told M.old) (hty : TabN w M.tyoung M.young)
    (hn : Hasnt M.seed M.old key) (hm : Hasnt M.seed M.young key) :
    Calls Try.prog 139 #[.pointer (some ⟨d, 0, none⟩), .string key] w fun x w' => x = .returned (.pointer none) ∧ w = w' := by
  obtain ⟨h0, h1, h2, h3, h4, h5⟩ := blk_field hf
  have HC := Lib.hid (link_hasnt w d M.told M.old M.seed key hs h0 ht hn)
  have HD := Lib.hid (link_hasnt w d M.tyoung M.young M.seed key hs h0 hty hm)
  clear hf h0
  go_enter Try.func139, Try.ntmps139
  go_wp2_with fail
  refine (HC.out).mono ?_
  rintro e w' ⟨rfl, rfl⟩
  go_wp2_with fail
  refine (HD.out).mono ?_
  rintro e w' ⟨rfl, rfl⟩
  go_wp2
  go_ret
  exact ⟨rfl, rfl⟩

/-- an entry is hung at the head of its bucket: two stores -/
theorem hang_any (w : World) (d t : Nat) (cs : List (List E)) (seed : UInt64) (e : E) (nx : Value) (k : Nat) (hk : cs.length = 2 ^ k) (hk2 : k < 60) (hs : e.key.size ≤ maxLen) (hz : e.val.length = 1)
    (h : w.cell? ⟨d, 0, none⟩ = some (.int .u64 (wd seed))) (hrow : w.heap[t]? = some (rowO 176 cs)) (he : w.heap[e.b]? = some (entryObj 178 e nx)) (hne : e.b ≠ t)
    (i : Nat) (hi : slotOf seed cs.length e.key = i) (c : List E) (hc : cs[i]? = some c) :
    Calls Try.prog 141 #[.pointer (some ⟨d, 0, none⟩), .slice (some ⟨t, 0, none⟩) cs.length cs.length, .pointer (some ⟨e.b, 0, none⟩)] w fun x w' =>
      x = .returned (.tuple #[]) ∧ (w.setCell ⟨e.b, 2, none⟩ (hp c)).setCell ⟨t, i, none⟩ (.pointer (some ⟨e.b, 0, none⟩)) = w' := by
  obtain ⟨hlt, hc'⟩ := List.getElem?_eq_some_iff.1 hc
  have hsl := slot_any w d t cs seed e.key k hk hk2 hs h
  rw [hi] at hsl
  have HSL := Lib.hid hsl
  have hkey : w.cell? ⟨e.b, 0, none⟩ = some (.string e.key) := cell_of_blk he 0
  have hnx : ∃ u, w.cell? ⟨e.b, 2, none⟩ = some u := by
    have h2 := cell_of_blk he 2
    match hv : e.val, hz with
    | [x0], _ => exact ⟨nx, by rw [h2, hv]; rfl⟩
  obtain ⟨u, hnx⟩ := hnx
  have hfe : w.frozen? ⟨e.b, 2, none⟩ = false := free_of_blk he 2
  have hrc : w.cell? ⟨t, i, none⟩ = some (hp c) := by rw [row_cell hrow i hlt, hc']
  have hft : w.frozen? ⟨t, i, none⟩ = false := free_of_blk hrow i
  have hp1 : (hp c).oneCell' = true := by cases c <;> rfl
  have hp2 : ∃ a, hp c = .pointer a := by cases c <;> exact ⟨_, rfl⟩
  obtain ⟨a, hpa⟩ := hp2
  rw [hpa] at hrc hp1 ⊢
  obtain ⟨b, hb⟩ : ∃ b, e.b = b := ⟨_, rfl⟩
  rw [hb] at hkey hnx hfe hne ⊢
  obtain ⟨key, hkk⟩ : ∃ key, e.key = key := ⟨_, rfl⟩
  rw [hkk] at hkey HSL
  have hrc2 : (w.setCell ⟨b, 2, none⟩ (.pointer a)).cell? ⟨t, i, none⟩ = some (.pointer a) := by
    rw [World.cell?_setCell_other _ _ _ _ (by intro e; injection e; omega)]; exact hrc
  clear hk hs hz h hrow he hi hc hc' hsl hpa hb hkk
  go_enter Try.func141, Try.ntmps141
  go_wp2_with (go_at_call 184; refine (HSL.out).mono ?_; rintro e w' ⟨rfl, rfl⟩)
  go_end0
  exact ⟨rfl, rfl⟩
end Go.Proofs.Ytgomilodeaafdaa.Di
namespace Go.Proofs.Ytgomilodeaafdaa.Di
open Go.RowKit

abbrev dictL (d : Nat) (M : DM) : Hl := dictO 178 176 113 d M
/-- a dict in memory at block d -/
structure DAt (w : World) (d : Nat) (M : DM) : Prop where
  rep : Rep w (dictL d M)
  nd : Nd (dictL d M)
  sz : ∀ e ∈ entries M, e.val.length = 1 ∧ e.key.size ≤ maxLen
  inv : Inv M
  lold : M.old.length ≤ 35184372088832
  lyoung : M.young.length ≤ 35184372088832

theorem step_still (w : World) (d : Nat) (M : DM) (h : DAt w d M) (hy : M.young = []) :
    Calls Try.prog 138 #[.pointer (some ⟨d, 0, none⟩)] w fun x w' => x = .returned (.tuple #[]) ∧ w = w' := by
  obtain ⟨f0, f1, f2, f3, f4, f5⟩ := blk_field h.rep.head
  have HM := Lib.hid (moving_any w d M.tyoung M.young (by have := h.lyoung; omega) f2)
  rw [hy] at HM
  clear f0 f1 f2 f3 f4 f5
  go_enter Try.func138, Try.ntmps138
  go_wp2_with fail
  refine HM.out.mono ?_
  rintro e w' ⟨rfl, rfl⟩
  go_wp2
  refine bodyPost_ret (results_none rfl _ _ _) rfl ?_
  exact ⟨rfl, rfl⟩

theorem dat_step {w w' : World} {d : Nat} {M : DM} (h : DAt w d M) (rep : Rep w' (dictL d (stepM M))) (nd : Nd (dictL d (stepM M))) : DAt w' d (stepM M) := by
  have hp := step_perm M h.inv
  have hl := step_lens M
  refine ⟨rep, nd, fun e he => h.sz e (hp.mem_iff.1 he), inv_step M h.inv, ?_, ?_⟩
  · have := h.lold; have := h.lyoung; omega
  · have := h.lyoung; omega
theorem nd_at {d : Nat} {M : DM} (h : Nd (dictL d M)) (a n : Nat) : Nd (dictL d { M with at_ := a, n := n }) := h
set_option maxRecDepth 100000 in
set_option maxHeartbeats 2000000 in
theorem step_moving (w : World) (d : Nat) (M : DM) (h : DAt w d M) (hy : M.young ≠ []) :
    Calls Try.prog 138 #[.pointer (some ⟨d, 0, none⟩)] w fun x w' => x = .returned (.tuple #[]) ∧ DAt w' d (stepM M) ∧ Fr (Bs (dictL d M)) w w' := by
  obtain ⟨f0, f1, f2, f3, f4, f5⟩ := blk_field h.rep.head
  have HM := Lib.hid (moving_any w d M.tyoung M.young (by have := h.lyoung; omega) f2)
  clear f0 f1 f2 f3 f4 f5
  have hd : decide (M.young ≠ []) = true := by simpa using hy
  rw [hd] at HM
  have hol : M.old ≠ [] := by intro h0; have := h.inv.moving hy; rw [h0] at this; simp at this
  have hml := h.inv.moving hy
  have hL := h.lold
  go_enter Try.func138, Try.ntmps138
  go_wp2_with fail
  refine HM.out.mono ?_
  rintro e w' ⟨rfl, rfl⟩
  go_upto_block 0 with (fail)
  go_cut [2] from 8 (fun s2 wc => ∃ a : Nat, passM M.old 10 M.at_ = a ∧ Rep wc (dictL d { M with at_ := a }) ∧ Fr (fun b => b = d) w wc)
  case first =>
    go_wp2
    go_loopw [2] (fun kk wr => ∃ k a : Nat, kk = .int .i64 k ∧ k ≤ 10 ∧ a ≤ M.old.length ∧ passM M.old (10 - k) a = passM M.old 10 M.at_ ∧ Rep wr (dictL d { M with at_ := a }) ∧ Fr (fun b => b = d) w wr) (fun kk _ => 10 - (intOf kk).toNat)
    case atStart => exact ⟨0, M.at_, rfl, by omega, by omega, rfl, h.rep, Fr.refl _ _⟩
    case round =>
      obtain ⟨k, a, rfl, hk, ha, hpass, hrep, hfr⟩ := hrel
      obtain ⟨f0, f1, f2, f3, f4, f5⟩ := blk_field hrep.head
      have HR := Lib.hid hrep
      rw [show ({ M with at_ := a } : DM).old = M.old from rfl, show ({ M with at_ := a } : DM).told = M.told from rfl, tv_of hol] at f1
      simp only at f3
      have g3 : (0 : Int) ≤ a := by omega
      have HP := Lib.hid hpass; clear hpass
      have hrow := (dict_row_old hrep hol).1
      clear hrep
      by_cases hk10 : k < 10
      case neg =>
        have g1 : decide ((k : Int) < 10) = false := by simp; omega
        go_wp2
        go_quiet (fail)
        go_wp2
        go_meet
        case rel =>
          refine ⟨a, ?_, HR.out.drewN _, hfr.thenDrewN _⟩
          rw [← HP.out, show 10 - k = 0 by omega]; rfl
      have g1 : decide ((k : Int) < 10) = true := by simp; omega
      by_cases hal : a < M.old.length
      case neg =>
        have g2 : decide (a < M.old.length) = false := by simpa using hal
        go_wp2
        go_quiet (fail)
        go_wp2
        go_meet
        case rel =>
          refine ⟨a, ?_, HR.out.drewN _, hfr.thenDrewN _⟩
          rw [← HP.out]
          obtain ⟨j, hj⟩ : ∃ j, 10 - k = j + 1 := ⟨9 - k, by omega⟩
          rw [hj]
          unfold passM
          rw [List.getElem?_eq_none (by omega)]
      have g2 : decide (a < M.old.length) = true := by simpa using hal
      have g4 : (a : Int) < M.old.length := by omega
      have hcell := row_cell hrow a hal
      cases hc : M.old[a]'hal with
      | nil =>
        rw [hc] at hcell
        have hcell' : wr.cell? ⟨M.told, a, none⟩ = some (.pointer none) := hcell
        clear hcell hrow
        have HC := Lib.hid hc; clear hc
        go_wp2
        go_quiet (fail)
        go_wp2
        go_roundw
        case rel =>
          refine ⟨k + 1, a + 1, by go_num, by omega, by omega, ?_, ?_, ?_⟩
          · rw [← HP.out]
            conv => rhs; rw [show 10 - k = (10 - (k + 1)) + 1 by omega]; unfold passM
            rw [List.getElem?_eq_getElem hal, HC.out]
          · exact dict_at (HR.out.drewN _) (nd_at h.nd a M.n) (a + 1)
          · exact (hfr.thenDrewN _).thenSet _ _ (fun _ => rfl)
        case measure => simp [intOf]; omega
      | cons e r =>
        rw [hc] at hcell
        have hcell' : wr.cell? ⟨M.told, a, none⟩ = some (.pointer (some ⟨e.b, 0, none⟩)) := hcell
        clear hcell hrow
        have HC := Lib.hid hc; clear hc
        go_wp2
        go_quiet (fail)
        go_wp2
        go_meet
        case rel =>
          refine ⟨a, ?_, HR.out.drewN _, hfr.thenDrewN _⟩
          rw [← HP.out]
          obtain ⟨j, hj⟩ : ∃ j, 10 - k = j + 1 := ⟨9 - k, by omega⟩
          rw [hj]
          unfold passM
          rw [List.getElem?_eq_getElem hal, HC.out]
  case rest =>
    obtain ⟨a, hpa, hrep, hfr⟩ := hcut
    have hal' : a ≤ M.old.length := by rw [← hpa]; exact passM_le M.old 10 M.at_ (by omega)
    obtain ⟨f0, f1, f2, f3, f4, f5⟩ := blk_field hrep.head
    have HR := Lib.hid hrep
    rw [show ({ M with at_ := a } : DM).old = M.old from rfl, show ({ M with at_ := a } : DM).told = M.told from rfl, tv_of hol] at f1
    rw [show ({ M with at_ := a } : DM).young = M.young from rfl, show ({ M with at_ := a } : DM).tyoung = M.tyoung from rfl, tv_of hy] at f2
    simp only at f3
    have g3 : (0 : Int) ≤ a := by omega
    have hrow := (dict_row_old hrep hol).1
    clear hrep
    have hst := stepM_moving M hy
    rw [hpa] at hst
    have HS := Lib.hid hst; clear hst
    have HPA := Lib.hid hpa; clear hpa
    have hnda := nd_at h.nd a M.n
    have hdom : ∀ i, i = d → Bs (dictL d M) i := fun i hi => by rw [hi]; exact Bs.cons_iff.2 (.inl rfl)
    by_cases hal : a < M.old.length
    case neg =>
      have hae : a = M.old.length := by omega
      have g2 : decide (a < M.old.length) = false := by simpa using hal
      have g5 : ((a : Int) == (M.old.length : Int)) = true := beq_iff_eq.2 (by omega)
      have hmv : moveM M a = { M with at_ := a } := by unfold moveM; rw [List.getElem?_eq_none (by omega)]
      have HMV := Lib.hid hmv; clear hmv
      have HAE := Lib.hid hae; clear hae hrow
      go_wp2
      go_quiet (fail)
      go_wp2
      go_quiet (fail)
      go_wp2
      have hst : stepM M = { M with told := M.tyoung, old := M.young, young := [], at_ := 0 } := by
        rw [HS.out, HMV.out, endM_pos _ HAE.out]
      obtain ⟨e1, e2⟩ := dict_end (HR.out.drewN _) hnda
      rw [show ({ M with at_ := a } : DM).young = M.young from rfl, show ({ M with at_ := a } : DM).tyoung = M.tyoung from rfl, tv_of hy] at e1
      go_end0
      refine ⟨rfl, ?_, ?_⟩
      · refine dat_step h ?_ ?_
        · rw [hst]; exact e1
        · rw [hst]; exact e2
      · exact ((((hfr.mono (fun i hi _ => hdom i hi)).thenDrewN _).thenSet _ _ (fun _ => hdom _ rfl)).thenSet _ _ (fun _ => hdom _ rfl)).thenSet _ _ (fun _ => hdom _ rfl)
    case pos =>
      have g2 : decide (a < M.old.length) = true := by simpa using hal
      have g4 : (a : Int) < M.old.length := by omega
      have hcell := row_cell hrow a hal
      cases hc : M.old[a]'hal with
      | nil =>
        rw [hc] at hcell
        have hcell' : wc.cell? ⟨M.told, a, none⟩ = some (.pointer none) := hcell
        have g5 : ((a : Int) == (M.old.length : Int)) = false := beq_eq_false_iff_ne.2 (by omega)
        have hmv : moveM M a = { M with at_ := a } := by unfold moveM; rw [List.getElem?_eq_getElem hal, hc]
        have HMV := Lib.hid hmv; clear hmv
        have HC := Lib.hid hc; clear hc hcell hrow
        go_wp2
        go_quiet (fail)
        go_wp2
        go_quiet (fail)
        go_wp2
        have hst : stepM M = { M with at_ := a } := by
          rw [HS.out, HMV.out, endM_neg]
          show ¬ a = M.old.length
          omega
        go_end0
        refine ⟨rfl, dat_step h ?_ ?_, ((hfr.mono (fun i hi _ => hdom i hi)).thenDrewN _).thenDrewN _⟩
        · rw [hst]; exact (HR.out.drewN _).drewN _
        · rw [hst]; exact hnda
      | cons e r0 =>
        rw [hc] at hcell
        have hcell' : wc.cell? ⟨M.told, a, none⟩ = some (.pointer (some ⟨e.b, 0, none⟩)) := hcell
        have hmv : moveM M a = { M with old := M.old.set a [], young := (e :: r0).foldl (hangM M.seed) M.young, at_ := a + 1 } := by unfold moveM; rw [List.getElem?_eq_getElem hal, hc]
        have HMV := Lib.hid hmv; clear hmv
        have HC := Lib.hid hc; clear hc hcell hrow
        go_wp2
        go_quiet (fail)
        go_wp2
        go_quiet (fail)
        go_wp2
        obtain ⟨A0, hA0⟩ : ∃ A0 : Hl, A0 = (d, fieldsO 113 { M with at_ := a }) :: (M.told, rowO 176 M.old) :: chainsO 178 (M.old.set a []) := ⟨_, rfl⟩
        have HA0 := Lib.hid hA0; clear hA0
        obtain ⟨kd, hkd2, hkd⟩ := h.inv.syoung hy
        have hkd60 : kd < 60 := by
          refine Nat.lt_of_not_le (fun hge => ?_)
          have := Nat.pow_le_pow_right (show 0 < 2 by decide) hge
          have h2 := h.lyoung
          omega
        have HKD := Lib.hid hkd; clear hkd
        have hstart : Rep wc (A0 ++ (chainO 178 (e :: r0) ++ ((M.tyoung, rowO 176 M.young) :: chainsO 178 M.young))) ∧ Nd (A0 ++ (chainO 178 (e :: r0) ++ ((M.tyoung, rowO 176 M.young) :: chainsO 178 M.young))) ∧ (dictL d { M with at_ := a }).Perm (A0 ++ (chainO 178 (e :: r0) ++ ((M.tyoung, rowO 176 M.young) :: chainsO 178 M.young))) := by
          have hp := chainsO_perm (ET := 178) M.old a hal
          rw [HC.out] at hp
          have e1 : dictL d { M with at_ := a } = (d, fieldsO 113 { M with at_ := a }) :: ((M.told, rowO 176 M.old) :: chainsO 178 M.old ++ ((M.tyoung, rowO 176 M.young) :: chainsO 178 M.young)) := by
            show dictO _ _ _ _ _ = _
            unfold dictO
            rw [tabO_of hol, tabO_of hy]
          have hperm : (dictL d { M with at_ := a }).Perm (A0 ++ (chainO 178 (e :: r0) ++ ((M.tyoung, rowO 176 M.young) :: chainsO 178 M.young))) := by
            rw [e1, HA0.out]
            simp only [List.cons_append]
            refine List.Perm.cons _ (List.Perm.cons _ ?_)
            rw [← List.append_assoc]
            refine List.Perm.append_right _ (hp.trans List.perm_append_comm)
          exact ⟨HR.out.perm hperm, Nd.perm hnda hperm, hperm⟩
        have HST := Lib.hid hstart; clear hstart
        have hszr : ∀ x ∈ e :: r0, x.val.length = 1 ∧ x.key.size ≤ maxLen := fun x hx => h.sz x (List.mem_append.2 (.inl (List.mem_flatten.2 ⟨_, List.getElem_mem hal, by rw [HC.out]; exact hx⟩)))
        have HSZ := Lib.hid hszr; clear hszr
        have hdb : ∀ i, Bs (A0 ++ (chainO 178 (e :: r0) ++ ((M.tyoung, rowO 176 M.young) :: chainsO 178 M.young))) i → Bs (dictL d M) i := fun i hi => (Bs.perm HST.out.2.2).2 hi
        have HDB := Lib.hid hdb; clear hdb
        go_loopg [3, 4] (e :: r0).length (fun k s3 s4 wr => ∃ r Y, Hid (r.length = k) ∧ s3 = hp r ∧
          Hid (Rep wr (A0 ++ (chainO 178 r ++ ((M.tyoung, rowO 176 Y) :: chainsO 178 Y))) ∧ Nd (A0 ++ (chainO 178 r ++ ((M.tyoung, rowO 176 Y) :: chainsO 178 Y)))) ∧
          Hid (Y.length = M.young.length) ∧ Hid (r.foldl (hangM M.seed) Y = (e :: r0).foldl (hangM M.seed) M.young) ∧ Hid (∀ x ∈ r, x ∈ e :: r0) ∧ Fr (Bs (dictL d M)) w wr ∧
          Hid (∀ i, Bs (A0 ++ (chainO 178 r ++ ((M.tyoung, rowO 176 Y) :: chainsO 178 Y))) i → Bs (dictL d M) i))
        case atStart =>
          exact ⟨e :: r0, M.young, rfl, rfl, ⟨(HST.out.1.drewN _).drewN _, HST.out.2.1⟩, rfl, rfl, fun x hx => hx, ((hfr.mono (fun i hi _ => hdom i hi)).thenDrewN _).thenDrewN _, HDB⟩
        case round =>
          obtain ⟨r, Y, H1, hs3, H2, H3, H4, H5, hfr2, H6⟩ := hrel
          clear f0 f1 f2 f3 f4 f5 hcell' hfr
          cases r with
          | nil =>
            have hs3' : u3 = .pointer none := hs3
            subst hs3'
            clear hs3
            have R := H2.out.1
            have e0 : chainO 178 ([] : List E) = [] := rfl
            rw [e0, List.nil_append] at R
            have N2 := H2.out.2
            rw [e0, List.nil_append] at N2
            have hf := (R.sub (M := [(d, fieldsO 113 { M with at_ := a })]) (fun y hy => by rw [List.mem_singleton.1 hy, HA0.out]; simp)).head
            have hrw := (R.sub (M := [(M.told, rowO 176 M.old)]) (fun y hy => by rw [List.mem_singleton.1 hy, HA0.out]; simp)).head
            obtain ⟨f0, f1, f2, f3, f4, f5⟩ := blk_field hf
            rw [show ({ M with at_ := a } : DM).old = M.old from rfl, show ({ M with at_ := a } : DM).told = M.told from rfl, tv_of hol] at f1
            rw [show ({ M with at_ := a } : DM).young = M.young from rfl, show ({ M with at_ := a } : DM).tyoung = M.tyoung from rfl, tv_of hy] at f2
            simp only at f3
            have hca := row_cell hrw a hal
            rw [HC.out] at hca
            have hca' : wr.cell? ⟨M.told, a, none⟩ = some (.pointer (some ⟨e.b, 0, none⟩)) := hca
            have hfa : wr.frozen? ⟨M.told, a, none⟩ = false := free_of_blk hrw a
            have hdt : ¬ M.told = d := by
              rw [HA0.out, List.cons_append, List.cons_append] at N2
              have := (Nd.cons_iff.1 N2).1
              rw [Bs.cons_iff] at this
              exact fun e => this (.inl e.symm)
            have hdt' : ¬ d = M.told := fun e => hdt e.symm
            have HRR := Lib.hid R; clear R
            have HN2 := Lib.hid N2; clear N2
            clear hca hrw hf e0
            have hend : Hid (∀ W : World, W = wr.setCell ⟨M.told, a, none⟩ (.pointer none) → Rep W (dictL d { M with old := M.old.set a [], young := Y, at_ := a }) ∧ Nd (dictL d { M with old := M.old.set a [], young := Y, at_ := a })) := by
              rintro W rfl
              have RR := HRR.out
              have NN := HN2.out
              rw [HA0.out, List.cons_append, List.cons_append] at RR NN
              exact dict_moved hol hy H3.out RR NN
            have hsame : Hid (stepM M = endM { M with old := M.old.set a [], young := Y, at_ := a + 1 }) := by
              show _ = _
              rw [HS.out, HMV.out]
              have : Y = (e :: r0).foldl (hangM M.seed) M.young := H4.out
              rw [← this]
            have hbt : Bs (dictL d M) M.told := by
              unfold dictL dictO
              rw [Bs.cons_iff, Bs.append_iff, tabO_of hol, Bs.cons_iff]
              exact .inr (.inl (.inl rfl))
            have HBT := Lib.hid hbt; clear hbt
            have hsl : Hid ((M.old.set a []).length = M.old.length) := by show _ = _; simp
            by_cases hen : a + 1 = M.old.length
            · have g5 : ((a : Int) + 1 == (M.old.length : Int)) = true := beq_iff_eq.2 (by omega)
              have HEN := Lib.hid hen; clear hen
              go_wp2
              go_region
              go_wp2
              go_quiet (fail)
              go_wp2
              obtain ⟨e1, e2⟩ := hend.out _ rfl
              have e3 := dict_at e1 e2 (a + 1)
              obtain ⟨e4, e5⟩ := dict_end (e3.drewN (1 + nq)) (nd_at (M := { M with old := M.old.set a [], young := Y, at_ := a }) e2 (a + 1) M.n)
              have hst := hsame.out
              rw [endM_pos _ (by show a + 1 = (M.old.set a []).length; rw [hsl.out]; exact HEN.out)] at hst
              have etv : tv M.tyoung Y = .slice (some ⟨M.tyoung, 0, none⟩) M.young.length M.young.length := by rw [tv_len M.tyoung Y M.young H3.out, tv_of hy]
              rw [show ({ M with old := M.old.set a [], young := Y, at_ := a + 1 } : DM).young = Y from rfl, show ({ M with old := M.old.set a [], young := Y, at_ := a + 1 } : DM).tyoung = M.tyoung from rfl, etv] at e4
              go_end0
              refine ⟨rfl, dat_step h ?_ ?_, ?_⟩
              · rw [hst]; exact e4
              · rw [hst]; exact e5
              · exact (((((hfr2.thenSet _ _ (fun _ => HBT.out)).thenSet _ _ (fun _ => hdom _ rfl)).thenDrewN _).thenSet _ _ (fun _ => hdom _ rfl)).thenSet _ _ (fun _ => hdom _ rfl)).thenSet _ _ (fun _ => hdom _ rfl)
            · have g5 : ((a : Int) + 1 == (M.old.length : Int)) = false := beq_eq_false_iff_ne.2 (by omega)
              have HEN := Lib.hid hen; clear hen
              go_wp2
              go_region
              go_wp2
              go_quiet (fail)
              go_wp2
              obtain ⟨e1, e2⟩ := hend.out _ rfl
              have e3 := dict_at e1 e2 (a + 1)
              have hst := hsame.out
              rw [endM_neg _ (by show ¬ a + 1 = (M.old.set a []).length; rw [hsl.out]; exact HEN.out)] at hst
              go_end0
              refine ⟨rfl, dat_step h ?_ ?_, ?_⟩
              · rw [hst]; exact e3.drew.drewN _
              · rw [hst]; exact e2
              · exact (((hfr2.thenSet _ _ (fun _ => HBT.out)).thenSet _ _ (fun _ => hdom _ rfl)).thenDrew).thenDrewN _
          | cons x r =>
            have hs3' : u3 = .pointer (some ⟨x.b, 0, none⟩) := hs3
            subst hs3'
            clear hs3
            have R := H2.out.1
            have hf := (R.sub (M := [(d, fieldsO 113 { M with at_ := a })]) (fun y hy => by rw [List.mem_singleton.1 hy, HA0.out]; simp)).head
            obtain ⟨f0, f1, f2, f3, f4, f5⟩ := blk_field hf
            rw [show ({ M with at_ := a } : DM).young = M.young from rfl, show ({ M with at_ := a } : DM).tyoung = M.tyoung from rfl, tv_of hy] at f2
            simp only at f0
            have hxe : wr.heap[x.b]? = some (entryObj 178 x (hp r)) := R (x.b, _) (List.mem_append.2 (.inr (List.mem_append.2 (.inl (List.mem_cons_self ..)))))
            have hrowY : wr.heap[M.tyoung]? = some (rowO 176 Y) := R (M.tyoung, _) (List.mem_append.2 (.inr (List.mem_append.2 (.inr (List.mem_cons_self ..)))))
            have hlt := slotOf_lt M.seed Y.length x.key (by rw [H3.out]; exact List.length_pos_iff.2 hy)
            obtain ⟨c, hc⟩ : ∃ c, Y[slotOf M.seed Y.length x.key]? = some c := ⟨_, List.getElem?_eq_getElem hlt⟩
            have hme := hangM_eq M.seed Y x _ hc
            obtain ⟨si, hsi⟩ : ∃ si, slotOf M.seed Y.length x.key = si := ⟨_, rfl⟩
            rw [hsi] at hc hlt hme
            have hz := HSZ.out x (H5.out x (by simp))
            have hperm : (A0 ++ (chainO 178 (x :: r) ++ ((M.tyoung, rowO 176 Y) :: chainsO 178 Y))).Perm ((A0 ++ chainO 178 r) ++ ((x.b, entryObj 178 x (hp r)) :: (M.tyoung, rowO 176 Y) :: chainsO 178 Y)) := by
              rw [List.append_assoc]
              refine List.Perm.append_left _ ?_
              exact (List.perm_middle (a := (x.b, entryObj 178 x (hp r))) (l₁ := chainO 178 r)).symm
            obtain ⟨hr1, hr2, hr3⟩ := hang_rep (R.perm hperm) (H2.out.2.perm hperm) hc
            rw [← hme, List.append_assoc] at hr1 hr2
            rw [← hme, List.append_assoc A0 _ ((M.tyoung, _) :: _)] at hr3
            have hneb : x.b ≠ M.tyoung := by
              have := (H2.out.2.perm hperm).perm (perm3 _ _ _ _)
              rw [Nd.cons_iff, Bs.cons_iff] at this
              exact fun e => this.1 (.inl e)
            have hh := hang_any wr d M.tyoung Y M.seed x (hp r) kd (by rw [H3.out]; exact HKD.out) hkd60 hz.2 hz.1 f0 hrowY hxe hneb si hsi c hc
            rw [H3.out] at hh
            have HH := Lib.hid hh; clear hh
            rw [hz.1] at hr1
            have HR1 := Lib.hid hr1; clear hr1
            have HR2 := Lib.hid hr2; clear hr2
            have HR3 := Lib.hid hr3; clear hr3
            have hnx : wr.cell? ⟨x.b, 2, none⟩ = some (hp r) := by
              have h2 := cell_of_blk hxe 2
              match hv : x.val, hz.1 with
              | [x0], _ => rw [h2, hv]; rfl
            obtain ⟨pr, hpr⟩ : ∃ pr, hp r = .pointer pr := by cases r <;> exact ⟨_, rfl⟩
            rw [hpr] at hnx
            have HPR := Lib.hid hpr; clear hpr
            have HXE := Lib.hid hxe; clear hxe
            have HRY := Lib.hid hrowY; clear hrowY
            have HF := Lib.hid hf; clear hf
            have HHP := Lib.hid hperm; clear hperm
            clear hc hlt R f1 f3 f4 hme hsi
            go_wp2_with fail
            refine HH.out.mono ?_
            rintro e' w2 ⟨rfl, rfl⟩
            go_wp2
            go_roundg r.length
            case measure => have := H1.out; simp at this; omega
            case rel =>
              refine ⟨r, hangM M.seed Y x, rfl, HPR.out.symm, ⟨HR1.out, HR2.out⟩, ?_, H4, fun y hy => H5.out y (by simp [hy]), ?_, fun i hi => H6.out i ((Bs.perm HHP.out).2 ((HR3.out i).1 hi))⟩
              · show _ = _
                rw [hangM_length]; exact H3.out
              · refine (hfr2.thenSet _ _ (fun _ => H6.out _ ?_)).thenSet _ _ (fun _ => H6.out _ ?_)
                · rw [Bs.perm HHP.out, Bs.append_iff, Bs.cons_iff]; exact .inr (.inl rfl)
                · rw [Bs.perm HHP.out, Bs.append_iff, Bs.cons_iff, Bs.cons_iff]; exact .inr (.inr (.inl rfl))
end Go.Proofs.Ytgomilodeaafdaa.Di
namespace Go.Proofs.Ytgomilodeaafdaa.Di
open Go.RowKit

theorem dat_nil {w : World} {d : Nat} {M : DM} (h : DAt w d M) : M.old.length ≤ 35184372088832 ∧ M.young.length ≤ 35184372088832 := ⟨h.lold, h.lyoung⟩
theorem pow_lt60 {k n : Nat} (h : n = 2 ^ k) (hn : n ≤ 35184372088832) : k < 60 := by
  refine Nat.lt_of_not_le (fun hge => ?_)
  have := Nat.pow_le_pow_right (show 0 < 2 by decide) hge
  omega
theorem tab_old {w : World} {d : Nat} {M : DM} (h : DAt w d M) : TabN w M.told M.old := by
  intro hne
  obtain ⟨hr, hc⟩ := dict_row_old h.rep hne
  obtain ⟨k, _, hk⟩ := h.inv.sold hne
  exact ⟨⟨hr, hc, fun c hcc e he => (h.sz e (List.mem_append.2 (.inl (List.mem_flatten.2 ⟨c, hcc, he⟩)))).1⟩, k, pow_lt60 hk h.lold, hk⟩
theorem tab_young {w : World} {d : Nat} {M : DM} (h : DAt w d M) : TabN w M.tyoung M.young := by
  intro hne
  obtain ⟨hr, hc⟩ := dict_row_young h.rep hne
  obtain ⟨k, _, hk⟩ := h.inv.syoung hne
  exact ⟨⟨hr, hc, fun c hcc e he => (h.sz e (List.mem_append.2 (.inr (List.mem_flatten.2 ⟨c, hcc, he⟩)))).1⟩, k, pow_lt60 hk h.lyoung, hk⟩
theorem step_any (w : World) (d : Nat) (M : DM) (h : DAt w d M) :
    Calls Try.prog 138 #[.pointer (some ⟨d, 0, none⟩)] w fun x w' => x = .returned (.tuple #[]) ∧ DAt w' d (stepM M) ∧ Fr (Bs (dictL d M)) w w' := by
  by_cases hy : M.young = []
  · refine (step_still w d M h hy).mono fun e w' ⟨h1, h2⟩ => ⟨h1, ?_, ?_⟩
    · rw [stepM_still M hy, ← h2]; exact h
    · rw [← h2]; exact Fr.refl _ _
  · exact step_moving w d M h hy

/-- where find says that a key's entry hangs -/
def findA (M : DM) (key : ByteArray) : Option Addr := match locT M.seed M.old key with
  | some x => some (linkA M.told x.1 x.2.1)
  | none => (locT M.seed M.young key).map fun x => linkA M.tyoung x.1 x.2.1
theorem find_any (w : World) (d : Nat) (M : DM) (key : ByteArray) (hs : key.size ≤ maxLen) (h : DAt w d M) :
    Calls Try.prog 139 #[.pointer (some ⟨d, 0, none⟩), .string key] w fun x w' => x = .returned (.pointer (findA M key)) ∧ w = w' := by
  unfold findA
  cases h1 : locT M.seed M.old key with
  | some x =>
    obtain ⟨i, pre, e, post⟩ := x
    obtain ⟨g1, g2, g3, g4⟩ := locT_some h1
    exact find_old w d M key hs h.rep.head (tab_old h) i pre e post ⟨g1, g2, g3, g4⟩
  | none =>
    cases h2 : locT M.seed M.young key with
    | some x =>
      obtain ⟨i, pre, e, post⟩ := x
      obtain ⟨g1, g2, g3, g4⟩ := locT_some h2
      exact find_young w d M key hs h.rep.head (tab_old h) (tab_young h) (locT_none h1) i pre e post ⟨g1, g2, g3, g4⟩
    | none => exact find_none w d M key hs h.rep.head (tab_old h) (tab_young h) (locT_none h1) (locT_none h2)
theorem linkA_at (t i : Nat) (pre : List E) (h : ∀ x ∈ pre, x.val.length = 1) : linkA t i pre = linkAt t i pre := by
  unfold linkA linkAt
  cases hl : pre.getLast? with
  | none => rfl
  | some q =>
    have := h q (List.mem_of_getLast? hl)
    simp only [this]
theorem fields_len (M N : DM) (h1 : N.seed = M.seed) (h2 : N.told = M.told) (h3 : N.old.length = M.old.length) (h4 : N.tyoung = M.tyoung) (h5 : N.young.length = M.young.length) (h6 : N.at_ = M.at_) (h7 : N.n = M.n) :
    fieldsO 113 N = fieldsO 113 M := by
  unfold fieldsO
  rw [h1, h2, h4, h6, h7, tv_len M.told N.old M.old h3, tv_len M.tyoung N.young M.young h5]
theorem dictL_old (d : Nat) (M : DM) (h : M.old ≠ []) : (dictL d M).Perm (((d, fieldsO 113 M) :: tabO 178 176 M.tyoung M.young) ++ ((M.told, rowO 176 M.old) :: chainsO 178 M.old)) := by
  unfold dictL dictO
  rw [tabO_of h, List.cons_append]
  exact List.Perm.cons _ (List.perm_append_comm (l₁ := (M.told, rowO 176 M.old) :: chainsO 178 M.old))
theorem dictL_young (d : Nat) (M : DM) (h : M.young ≠ []) : dictL d M = ((d, fieldsO 113 M) :: tabO 178 176 M.told M.old) ++ ((M.tyoung, rowO 176 M.young) :: chainsO 178 M.young) := by
  unfold dictL dictO
  rw [tabO_of h]; rfl
/-- what lies at the address that find tells -/
theorem loc_cells {w : World} {d t : Nat} {seed : UInt64} {cs : List (List E)} {key : ByteArray} (ht : TabN w t cs) {i : Nat} {pre post : List E} {e : E} (h : locT seed cs key = some (i, pre, e, post)) :
    w.cell? (linkA t i pre) = some (.pointer (some ⟨e.b, 0, none⟩)) ∧ w.heap[e.b]? = some (entryObj 178 e (hp post)) ∧ (∀ x ∈ pre, x.val.length = 1) ∧ cs ≠ [] := by
  obtain ⟨g1, g2, g3, g4⟩ := locT_some h
  have hne : cs ≠ [] := by intro h0; rw [h0] at g2; simp at g2
  obtain ⟨ht, _⟩ := ht hne
  exact ⟨link_cell ht g2, mid_at ht.chains g2, fun x hx => ht.sz _ (List.mem_of_getElem? g2) x (by simp [hx]), hne⟩

theorem find_cells {w : World} {d : Nat} {M : DM} (h : DAt w d M) (key : ByteArray) :
    (findA M key = none ∧ getM M key = none) ∨ ∃ A e nx, findA M key = some A ∧ getM M key = some e.val ∧ e ∈ entries M ∧ e.key = key ∧ w.cell? A = some (.pointer (some ⟨e.b, 0, none⟩)) ∧ w.heap[e.b]? = some (entryObj 178 e nx) ∧ Bs (dictL d M) e.b ∧ Bs (dictL d M) A.block := by
  cases h1 : locT M.seed M.old key with
  | some x =>
    right
    obtain ⟨i, pre, e, post⟩ := x
    obtain ⟨c1, c2, c3, c4⟩ := loc_cells (d := d) (tab_old h) h1
    obtain ⟨g1, g2, g3, g4⟩ := locT_some h1
    have hmem : e ∈ entries M := (entries_old M key i pre post e h1).1.mem_iff.2 (by simp)
    have hd := tab_del (h.rep.perm (dictL_old d M c4)) (h.nd.perm (dictL_old d M c4)) g2
    have hb := (Bs.perm (dictL_old d M c4)).2 hd.2.2.2
    rw [← linkA_at _ _ _ c3] at hb
    refine ⟨linkA M.told i pre, e, hp post, by unfold findA; rw [h1], by unfold getM; rw [h1], hmem, g3, c1, c2, ?_, hb⟩
    rw [Bs.perm (dictL_old d M c4), Bs.append_iff]
    refine .inr (Bs.cons_iff.2 (.inr ?_))
    rw [Bs.perm (chains_entry M.old i pre post e g2)]
    exact Bs.cons_iff.2 (.inl rfl)
  | none =>
    cases h2 : locT M.seed M.young key with
    | none => exact .inl ⟨by unfold findA; rw [h1, h2]; rfl, by unfold getM; rw [h1, h2]; rfl⟩
    | some x =>
      right
      obtain ⟨i, pre, e, post⟩ := x
      obtain ⟨c1, c2, c3, c4⟩ := loc_cells (d := d) (tab_young h) h2
      obtain ⟨g1, g2, g3, g4⟩ := locT_some h2
      have hmem : e ∈ entries M := (entries_young M key i pre post e h2).1.mem_iff.2 (by simp)
      have hr := h.rep
      have hn := h.nd
      rw [dictL_young d M c4] at hr hn
      have hd := tab_del hr hn g2
      have hb := hd.2.2.2
      rw [← linkA_at _ _ _ c3] at hb
      refine ⟨linkA M.tyoung i pre, e, hp post, by unfold findA; rw [h1, h2]; rfl, by unfold getM; rw [h1, h2]; rfl, hmem, g3, c1, c2, ?_, by rw [dictL_young d M c4]; exact hb⟩
      rw [dictL_young d M c4, Bs.append_iff]
      refine .inr (Bs.cons_iff.2 (.inr ?_))
      rw [Bs.perm (chains_entry M.young i pre post e g2)]
      exact Bs.cons_iff.2 (.inl rfl)
theorem len_any (w : World) (d : Nat) (M : DM) (h : DAt w d M) (hn : M.n < 9223372036854775808) :
    Calls Try.prog 78 #[.pointer (some ⟨d, 0, none⟩)] w fun x w' => x = .returned (.int .i64 M.n) ∧ w = w' := by
  obtain ⟨f0, f1, f2, f3, f4, f5⟩ := blk_field h.rep.head
  clear h f0 f1 f2 f3 f5
  go_enter Try.func78, Try.ntmps78
  go_wp2
  go_ret
  exact ⟨rfl, rfl⟩
theorem len_tv (w : World) (t : Nat) (cs : List (List E)) : ∃ a, tv t cs = .slice a cs.length cs.length := by
  by_cases hc : cs = []
  · subst hc; exact ⟨none, tv_nil⟩
  · exact ⟨_, tv_of hc⟩
theorem sizes_any (w : World) (d : Nat) (M : DM) (h : DAt w d M) :
    Calls Try.prog 90 #[.pointer (some ⟨d, 0, none⟩)] w fun x w' => x = .returned (.tuple #[.int .i64 M.old.length, .int .i64 M.young.length, .int .i64 M.at_]) ∧ ∃ m, w' = w.drewN m := by
  obtain ⟨f0, f1, f2, f3, f4, f5⟩ := blk_field h.rep.head
  obtain ⟨a1, e1⟩ := len_tv w M.told M.old
  obtain ⟨a2, e2⟩ := len_tv w M.tyoung M.young
  rw [e1] at f1
  rw [e2] at f2
  have h1 := h.lold
  have h2 := h.lyoung
  clear h f0 f4 f5 e1 e2
  go_enter Try.func90, Try.ntmps90
  go_wp2
  go_quiet (fail)
  go_wp2
  go_ret3
  exact ⟨rfl, nq, rfl⟩

/-- a value as the program hands it on -/
def vOf (l : List Value) : Value := l.headD undef
def zV : Value := .int .i64 0
def gotV (o : Option (List Value)) : Value := .tuple #[match o with | some l => vOf l | none => zV, .bool o.isSome]
theorem get_any (w : World) (d : Nat) (M : DM) (key : ByteArray) (hs : key.size ≤ maxLen) (h : DAt w d M) :
    Calls Try.prog 73 #[.pointer (some ⟨d, 0, none⟩), .string key] w fun x w' =>
      x = .returned (gotV (getM (stepM M) key)) ∧ DAt w' d (stepM M) ∧ Fr (Bs (dictL d M)) w w' := by
  have HS := Lib.hid (step_any w d M h)
  clear h
  obtain ⟨g, hg⟩ : ∃ g, getM (stepM M) key = g := ⟨_, rfl⟩
  rw [hg]
  have HG := Lib.hid hg; clear hg
  go_enter Try.func73, Try.ntmps73
  go_wp2_with fail
  refine HS.out.mono ?_
  rintro e w1 ⟨rfl, h1, hfr⟩
  have HF := find_any w1 d (stepM M) key hs h1
  rcases find_cells h1 key with ⟨k1, k2⟩ | ⟨A, e, nx, k1, k2, k3, k4, k5, k6, k7, k8⟩
  · rw [k1] at HF
    have HF2 := Lib.hid HF; clear HF
    have hg : g = none := HG.out.symm.trans k2
    subst hg
    have H1 := Lib.hid h1; clear h1
    go_wp2_with fail
    refine HF2.out.mono ?_
    rintro e w' ⟨rfl, rfl⟩
    go_wp2
    go_ret2
    exact ⟨rfl, H1.out, hfr⟩
  · rw [k1] at HF
    have HF2 := Lib.hid HF; clear HF
    have hg : g = some e.val := HG.out.symm.trans k2
    subst hg
    have hz := (h1.sz e k3).1
    have hv := cell_of_blk k6
    have H1 := Lib.hid h1; clear h1
    clear k1 k2 k3 k4 k7 k8 k6
    match hev : e.val, hz with
    | [x0], _ =>
      have hc : w1.cell? ⟨e.b, 1, none⟩ = some x0 := by rw [hv 1, hev]; rfl
      go_wp2_with fail
      refine HF2.out.mono ?_
      rintro e w' ⟨rfl, rfl⟩
      go_wp2
      go_ret2
      exact ⟨by rw [hev]; rfl, H1.out, hfr⟩
end Go.Proofs.Ytgomilodeaafdaa.Di
namespace Go.Proofs.Ytgomilodeaafdaa.Di
open Go.RowKit

theorem put_dat {w : World} {d : Nat} {M : DM} (h : DAt w d M) (key : ByteArray) :
    (findA M key = none ∧ ∀ v, putM M key v = none) ∨ ∃ A e nx, findA M key = some A ∧ w.cell? A = some (.pointer (some ⟨e.b, 0, none⟩)) ∧ w.heap[e.b]? = some (entryObj 178 e nx) ∧ e.val.length = 1 ∧ Bs (dictL d M) e.b ∧
      ∀ x, ∃ N, putM M key (e.val.set 0 x) = some N ∧ DAt (w.setCell ⟨e.b, 1, none⟩ x) d N := by
  cases h1 : locT M.seed M.old key with
  | some y =>
    right
    obtain ⟨i, pre, e, post⟩ := y
    obtain ⟨c1, c2, c3, c4⟩ := loc_cells (d := d) (tab_old h) h1
    obtain ⟨g1, g2, g3, g4⟩ := locT_some h1
    obtain ⟨hpe, hqe⟩ := entries_old M key i pre post e h1
    have hmem : e ∈ entries M := hpe.mem_iff.2 (by simp)
    have hz := h.sz e hmem
    refine ⟨linkA M.told i pre, e, hp post, by unfold findA; rw [h1], c1, c2, hz.1, ?_, fun x => ?_⟩
    · rw [dict_bs]; exact .inr (.inr (.inr (List.mem_map_of_mem hmem)))
    · have hN : putM M key (e.val.set 0 x) = some { M with old := putT M.old i pre e post (e.val.set 0 x) } := by unfold putM; rw [h1]
      refine ⟨_, hN, ?_⟩
      obtain ⟨i1, i2, i3, i4, i5, i6, i7, i8, i9, i10⟩ := inv_put h.inv key _ hN
      have hne : ({ M with old := putT M.old i pre e post (e.val.set 0 x) } : DM).old ≠ [] := len_ne i4.symm c4
      obtain ⟨r1, r2⟩ := tab_val (h.rep.perm (dictL_old d M c4)) (h.nd.perm (dictL_old d M c4)) g2 0 x (by omega)
      have hf := fields_len M { M with old := putT M.old i pre e post (e.val.set 0 x) } i6 i9 i4 i10 i5 i8 i7
      have hL := dictL_old d { M with old := putT M.old i pre e post (e.val.set 0 x) } hne
      rw [hf] at hL
      refine ⟨r1.perm hL.symm, r2.perm hL.symm, fun z hz' => ?_, i1, by rw [i4]; exact h.lold, by rw [i5]; exact h.lyoung⟩
      rcases List.mem_cons.1 ((hqe _).mem_iff.1 hz') with rfl | hz'
      · exact ⟨by simp only [List.length_set]; exact hz.1, hz.2⟩
      · exact h.sz z (hpe.mem_iff.2 (by simp [hz']))
  | none =>
    cases h2 : locT M.seed M.young key with
    | none => exact .inl ⟨by unfold findA; rw [h1, h2]; rfl, fun v => by unfold putM; rw [h1, h2]⟩
    | some y =>
      right
      obtain ⟨i, pre, e, post⟩ := y
      obtain ⟨c1, c2, c3, c4⟩ := loc_cells (d := d) (tab_young h) h2
      obtain ⟨g1, g2, g3, g4⟩ := locT_some h2
      obtain ⟨hpe, hqe⟩ := entries_young M key i pre post e h2
      have hmem : e ∈ entries M := hpe.mem_iff.2 (by simp)
      have hz := h.sz e hmem
      refine ⟨linkA M.tyoung i pre, e, hp post, by unfold findA; rw [h1, h2]; rfl, c1, c2, hz.1, ?_, fun x => ?_⟩
      · rw [dict_bs]; exact .inr (.inr (.inr (List.mem_map_of_mem hmem)))
      · have hN : putM M key (e.val.set 0 x) = some { M with young := putT M.young i pre e post (e.val.set 0 x) } := by unfold putM; rw [h1, h2]
        refine ⟨_, hN, ?_⟩
        obtain ⟨i1, i2, i3, i4, i5, i6, i7, i8, i9, i10⟩ := inv_put h.inv key _ hN
        have hne : ({ M with young := putT M.young i pre e post (e.val.set 0 x) } : DM).young ≠ [] := len_ne i5.symm c4
        have hr := h.rep
        have hn := h.nd
        rw [dictL_young d M c4] at hr hn
        obtain ⟨r1, r2⟩ := tab_val hr hn g2 0 x (by omega)
        have hf := fields_len M { M with young := putT M.young i pre e post (e.val.set 0 x) } i6 i9 i4 i10 i5 i8 i7
        have hL := dictL_young d { M with young := putT M.young i pre e post (e.val.set 0 x) } hne
        rw [hf] at hL
        refine ⟨by rw [hL]; exact r1, by rw [hL]; exact r2, fun z hz' => ?_, i1, by rw [i4]; exact h.lold, by rw [i5]; exact h.lyoung⟩
        rcases List.mem_cons.1 ((hqe _).mem_iff.1 hz') with rfl | hz'
        · exact ⟨by simp only [List.length_set]; exact hz.1, hz.2⟩
        · exact h.sz z (hpe.mem_iff.2 (by simp [hz']))
/-- what a call on a dict makes of memory: the dict is another one, in its own blocks and new ones -/
structure Turn (w : World) (d : Nat) (M : DM) (w' : World) (M' : DM) : Prop where
  at_ : DAt w' d M'
  fr : Fr (Bs (dictL d M)) w w'
  bs : ∀ k, Bs (dictL d M') k → Bs (dictL d M) k ∨ w.heap.size ≤ k
theorem Turn.trans {a b c : World} {d : Nat} {M N K : DM} (h : Turn a d M b N) (k : Turn b d N c K) : Turn a d M c K :=
  ⟨k.at_, h.fr.wide k.fr h.bs, fun i hi => (k.bs i hi).elim (h.bs i) (fun hl => .inr (Nat.le_trans h.fr.size hl))⟩
theorem Turn.refl {w : World} {d : Nat} {M : DM} (h : DAt w d M) : Turn w d M w M := ⟨h, Fr.refl _ _, fun _ h => .inl h⟩
theorem DAt.fr {w w' : World} {S : Nat → Prop} {d : Nat} {M : DM} (h : DAt w d M) (hf : Fr S w w') (hd : ∀ k, Bs (dictL d M) k → ¬ S k) : DAt w' d M :=
  ⟨h.rep.fr hf hd, h.nd, h.sz, h.inv, h.lold, h.lyoung⟩
theorem DAt.drewN {w : World} {d : Nat} {M : DM} (h : DAt w d M) (n : Nat) : DAt (w.drewN n) d M := ⟨h.rep.drewN n, h.nd, h.sz, h.inv, h.lold, h.lyoung⟩
theorem DAt.drew {w : World} {d : Nat} {M : DM} (h : DAt w d M) : DAt w.drew d M := ⟨h.rep.drew, h.nd, h.sz, h.inv, h.lold, h.lyoung⟩
theorem step_turn (w : World) (d : Nat) (M : DM) (h : DAt w d M) :
    Calls Try.prog 138 #[.pointer (some ⟨d, 0, none⟩)] w fun x w' => x = .returned (.tuple #[]) ∧ Turn w d M w' (stepM M) :=
  (step_any w d M h).mono fun _ _ ⟨h1, h2, h3⟩ => ⟨h1, h2, h3, fun k hk => .inl (step_bs d M h.inv k hk)⟩
theorem get_turn (w : World) (d : Nat) (M : DM) (key : ByteArray) (hs : key.size ≤ maxLen) (h : DAt w d M) :
    Calls Try.prog 73 #[.pointer (some ⟨d, 0, none⟩), .string key] w fun x w' =>
      x = .returned (gotV (getM (stepM M) key)) ∧ Turn w d M w' (stepM M) :=
  (get_any w d M key hs h).mono fun _ _ ⟨h1, h2, h3⟩ => ⟨h1, h2, h3, fun k hk => .inl (step_bs d M h.inv k hk)⟩
/-- memory in which a dict's second half of Set begins: it has buckets, and the key is not there -/
theorem grow_dat {w w' : World} {d : Nat} {M : DM} (h : DAt w d M) (hn : M.n < 17592186044416) (t : Nat)
    (rep : Rep w' (dictL d (growM M t))) (nd : Nd (dictL d (growM M t))) : DAt w' d (growM M t) := by
  obtain ⟨g1, g2, g3, g4, g5⟩ := grow_inv h.inv t
  refine ⟨rep, nd, fun e he => h.sz e (by rw [g2] at he; exact he), g1, ?_, ?_⟩
  · unfold growM
    split
    · simp
    · split
      · exact h.lold
      · exact h.lold
  · unfold growM
    split
    · exact h.lyoung
    · split
      · simp only [List.length_replicate]; omega
      · exact h.lyoung
theorem moving_q (w : World) (n d t : Nat) (cs : List (List E)) (b : Bool) (hb : decide (cs ≠ []) = b) (hl : cs.length ≤ 9223372036854775807) (h : w.cell? ⟨d, 2, none⟩ = some (tv t cs)) :
    Calls Try.prog 140 #[.pointer (some ⟨d, 0, none⟩)] (w.drewN n) fun e w'' => e = .returned (.bool b) ∧ ∃ m, w'' = w.drewN m :=
  (moving_any (w.drewN n) d t cs hl h).mono fun _ _ ⟨h1, h2⟩ => ⟨by rw [h1, hb], n, h2.symm⟩
theorem put_bs {M N : DM} (d : Nat) (h : Inv M) (key : ByteArray) (v : List Value) (hN : putM M key v = some N) (k : Nat) (hk : Bs (dictL d N) k) : Bs (dictL d M) k := by
  obtain ⟨i1, i2, i3, i4, i5, i6, i7, i8, i9, i10⟩ := inv_put h key v hN
  rw [dict_bs] at hk ⊢
  rw [(put_blocks key v hN).mem_iff, i9, i10] at hk
  rcases hk with h1 | ⟨h1, h2⟩ | ⟨h1, h2⟩ | h1
  · exact .inl h1
  · exact .inr (.inl ⟨len_ne i4 h1, h2⟩)
  · exact .inr (.inr (.inl ⟨len_ne i5 h1, h2⟩))
  · exact .inr (.inr (.inr h1))
theorem has_put {M N : DM} (h : Inv M) (key : ByteArray) (v : List Value) (hN : putM (stepM M) key v = some N) : hasK (tb M) key = true := by
  obtain ⟨_, _, ⟨u, hu⟩, _⟩ := inv_put (inv_step M h) key v hN
  rw [← hasK_perm (tb_perm (step_perm M h))]
  simp only [hasK, List.any_eq_true, decide_eq_true_eq]
  exact ⟨_, hu, rfl⟩
theorem hasnt_of {M : DM} (h : Inv M) (key : ByteArray) (hn : ∀ e ∈ entries (stepM M), e.key ≠ key) : hasK (tb M) key = false := by
  rw [← hasK_perm (tb_perm (step_perm M h)), Bool.eq_false_iff]
  simp only [hasK, ne_eq, List.any_eq_true, decide_eq_true_eq, not_exists, not_and]
  intro x hx
  obtain ⟨e, he, rfl⟩ := List.mem_map.1 hx
  exact hn e he
/-- where the walk goes on behind growing -/
def GrowPost (w : World) (d : Nat) (M : DM) (wc : World) : Prop := ∃ t, Turn w d M wc (growM M t)
theorem grow_bs {G : DM} (h : Inv G) (d t k : Nat) (hk : Bs (dictL d (growM G t)) k) : Bs (dictL d G) k ∨ k = t := by
  obtain ⟨_, g2, _⟩ := grow_inv h t
  rw [dict_bs] at hk ⊢
  rw [g2] at hk
  unfold growM at hk
  by_cases ho : G.old = []
  · rw [if_pos ho] at hk
    rcases hk with h1 | ⟨_, h2⟩ | ⟨h1, h2⟩ | h1
    · exact .inl (.inl h1)
    · exact .inr h2
    · exact .inl (.inr (.inr (.inl ⟨h1, h2⟩)))
    · exact .inl (.inr (.inr (.inr h1)))
  · rw [if_neg ho] at hk
    by_cases hc : G.young = [] ∧ G.old.length ≤ G.n
    · rw [if_pos hc] at hk
      rcases hk with h1 | ⟨h1, h2⟩ | ⟨_, h2⟩ | h1
      · exact .inl (.inl h1)
      · exact .inl (.inr (.inl ⟨h1, h2⟩))
      · exact .inr h2
      · exact .inl (.inr (.inr (.inr h1)))
    · rw [if_neg hc] at hk; exact .inl hk
theorem in_d (d : Nat) (M : DM) : Bs (dictL d M) d := Bs.cons_iff.2 (.inl rfl)
theorem grow_turn1 {w : World} {d : Nat} {G : DM} (h : DAt w d G) (hn : G.n < 17592186044416) (ho : G.old = []) (W : World)
    (hW : W = (w.setCell ⟨d, 1, none⟩ (.slice (some ⟨w.heap.size, 0, none⟩) 4 4)).alloc (.cells #[.pointer none, .pointer none, .pointer none, .pointer none] 176)) : GrowPost w d G W := by
  rw [← World.setCell_alloc_past _ _ _ _ (h.rep.lt (in_d d G))] at hW
  have hg : growM G w.heap.size = { G with old := List.replicate 4 [], told := w.heap.size } := by unfold growM; rw [if_pos ho]
  obtain ⟨r1, r2⟩ := grow_old (n := 4) h.rep h.nd ho (by decide) rfl
  refine ⟨w.heap.size, grow_dat h hn _ ?_ ?_, ?_, fun k hk => (grow_bs h.inv d _ k hk).imp id (fun e => by rw [e]; exact Nat.le_refl _)⟩
  · rw [hg, hW]; exact r1
  · rw [hg]; exact r2
  · rw [hW]
    exact (Fr.alloc _ _ _).thenSet _ _ (fun _ => in_d d G)
theorem grow_turn2 {w : World} {d : Nat} {G : DM} (h : DAt w d G) (hn : G.n < 17592186044416) (ho : G.old ≠ []) (hy : G.young = []) (hl : G.old.length ≤ G.n) (W : World) (m : Nat)
    (hW : W = ((w.drewN m).alloc (.cells (Array.replicate (2 * G.old.length) (.pointer none)) 176)).setCell ⟨d, 2, none⟩ (.slice (some ⟨w.heap.size, 0, none⟩) (2 * G.old.length) (2 * G.old.length))) : GrowPost w d G W := by
  rw [show Array.replicate (2 * G.old.length) (Value.pointer none) = (List.replicate (2 * G.old.length) (Value.pointer none)).toArray by simp] at hW
  have hg : growM G w.heap.size = { G with young := List.replicate (2 * G.old.length) [], tyoung := w.heap.size } := by unfold growM; rw [if_neg ho, if_pos ⟨hy, hl⟩]
  have hpos := List.length_pos_iff.2 ho
  obtain ⟨r1, r2⟩ := grow_young (w := w.drewN m) (n := 2 * G.old.length) (h.rep.drewN m) h.nd hy (by omega) rfl
  refine ⟨w.heap.size, grow_dat h hn _ ?_ ?_, ?_, fun k hk => (grow_bs h.inv d _ k hk).imp id (fun e => by rw [e]; exact Nat.le_refl _)⟩
  · rw [hg, hW]; exact r1
  · rw [hg]; exact r2
  · rw [hW]
    exact (((Fr.refl _ w).thenDrewN m).thenAlloc _).thenSet _ _ (fun _ => in_d d G)
theorem grow_turn0 {w : World} {d : Nat} {G : DM} (h : DAt w d G) (ho : G.old ≠ []) (hl : ¬ (G.young = [] ∧ G.old.length ≤ G.n)) (W : World) (m : Nat) (hW : W = w.drewN m) : GrowPost w d G W := by
  have hg : growM G 0 = G := by unfold growM; rw [if_neg ho, if_neg hl]
  refine ⟨0, ?_⟩
  rw [hg, hW]
  exact ⟨h.drewN m, (Fr.refl _ w).thenDrewN m, fun k hk => .inl hk⟩
theorem add_turn {w : World} {d : Nat} {K K5 : DM} (h : DAt w d K) (hne : K.old ≠ []) (e : E) (heb : e.b = w.heap.size) (hz : e.val.length = 1 ∧ e.key.size ≤ maxLen) (hk : ∀ y ∈ entries K, y.key ≠ e.key)
    {w5 : World} (R5 : Rep w5 (dictL d K5)) (N5 : Nd (dictL d K5)) (hK5 : addM K e = { K5 with n := K.n + 1 }) (fr5 : Fr (Bs (dictL d K)) w w5) (bs5 : ∀ k, Bs (dictL d K5) k → Bs (dictL d K) k ∨ w.heap.size ≤ k)
    (W : World) (hW : W = w5.setCell ⟨d, 4, none⟩ (.int .i64 ((K.n + 1 : Nat) : Int))) : Turn w d K W (addM K e) := by
  obtain ⟨a1, a2⟩ := add_inv h.inv hne e hk
  have hl := add_lens K e
  refine ⟨⟨?_, ?_, fun y hy => ?_, a1, by rw [hl.1]; exact h.lold, by rw [hl.2.1]; exact h.lyoung⟩, ?_, ?_⟩
  · rw [hK5, hW]; exact dict_n R5 N5 (K.n + 1)
  · rw [hK5]; exact nd_at N5 K5.at_ (K.n + 1)
  · rcases List.mem_cons.1 (a2.mem_iff.1 hy) with rfl | hy
    · exact hz
    · exact h.sz y hy
  · rw [hW]; exact fr5.thenSet _ _ (fun _ => in_d d K)
  · rw [hK5]; exact bs5
end Go.Proofs.Ytgomilodeaafdaa.Di
namespace Go.Proofs.Ytgomilodeaafdaa.Di
open Go.RowKit
set_option maxRecDepth 100000 in
set_option maxHeartbeats 2000000 in
theorem set_any (w : World) (d : Nat) (M : DM) (key : ByteArray) (x : Int) (hs : key.size ≤ maxLen) (h : DAt w d M) (hn : M.n < 17592186044416) :
    Calls Try.prog 71 #[.pointer (some ⟨d, 0, none⟩), .string key, .int .i64 x] w fun e w' =>
      e = .returned (.bool (!hasK (tb M) key)) ∧ ∃ t b, Turn w d M w' (setM M key [.int .i64 x] t b) := by
  have HS := Lib.hid (step_turn w d M h)
  have HI := Lib.hid h.inv
  have hnn : Hid ((stepM M).n = M.n) := (step_lens M).2.2.2
  clear h
  go_enter Try.func71, Try.ntmps71
  go_wp2_with fail
  refine HS.out.mono ?_
  rintro e w1 ⟨rfl, T1⟩
  have h1 := T1.at_
  have HF := find_any w1 d (stepM M) key hs h1
  rcases put_dat h1 key with ⟨k1, k2⟩ | ⟨A, e, nx, k1, k3, k4, k5, k6, k7⟩
  · rw [k1] at HF
    have HF2 := Lib.hid HF; clear HF
    obtain ⟨hno, hl1, hl2⟩ := put_none h1.inv key [.int .i64 x] (k2 _)
    have hhas := hasnt_of HI.out key hno
    have HH := Lib.hid hhas; clear hhas
    have H1 := Lib.hid h1
    have HK2 := Lib.hid k2
    have HNO := Lib.hid hno
    clear k1 k2 hl1 hl2 hno
    obtain ⟨G, hG⟩ : ∃ G, stepM M = G := ⟨_, rfl⟩
    rw [hG] at H1 HK2 HNO T1 hnn h1
    have HGG := Lib.hid hG; clear hG
    have hn1 : G.n < 17592186044416 := by have := hnn.out; omega
    have T1' := Lib.hid T1; clear T1
    go_wp2_with fail
    refine HF2.out.mono ?_
    rintro e w' ⟨rfl, rfl⟩
    go_upto_block 0 with (fail)
    obtain ⟨f0, f1, f2, f3, f4, f5⟩ := blk_field h1.rep.head
    have hlo := h1.lold
    have hly := h1.lyoung
    have fz1 := f5 1
    have fz2 := f5 2
    have hd1 := h1.rep.lt (k := d) (Bs.cons_iff.2 (.inl rfl))
    have fzq : ∀ n o, ((w1.drewN n).alloc o).frozen? ⟨d, 2, none⟩ = false := fun n o => (World.frozen?_alloc_past (w := w1.drewN n) o d 2 hd1).trans fz2
    have f2q : ∀ n o, ((w1.drewN n).alloc o).cell? ⟨d, 2, none⟩ = some (tv G.tyoung G.young) := fun n o => (Fr.alloc (fun _ => False) (w1.drewN n) o).cell f2 (fun h => h)
    clear f0 f3 f5 h1
    go_cut [] from 7 to 100 (fun wc => GrowPost w1 d G wc)
    case first =>
      by_cases ho : G.old = []
      · have hy : G.young = [] := by
          cases hy : G.young with
          | nil => rfl
          | cons a l => exact absurd ho (old_of_young H1.out.inv (by rw [hy]; simp))
        rw [ho, tv_nil] at f1
        rw [hy, tv_nil] at f2
        have HO := Lib.hid ho; clear ho
        have HY := Lib.hid hy; clear hy
        have hmk : ∀ w : World, (Instr.makeSlice 111 (.int .i64 4) (.int .i64 4)).run Try.prog w = .ok (.slice (some ⟨w.heap.size, 0, none⟩) 4 4) (w.alloc (.cells #[.pointer none, .pointer none, .pointer none, .pointer none] 176)) :=
          fun w => mk_any (P := Try.prog) 111 176 _ _ (.pointer none) (by kernel_rfl) rfl rfl rfl rfl rfl 4 (by decide) w
        go_wp2_with fail
        go_meet
        case rel =>
          exact grow_turn1 H1.out hn1 HO.out _ rfl
      · have HO := Lib.hid ho
        have hlt : 0 < G.old.length := List.length_pos_iff.2 ho
        have hne0 : ((G.old.length : Int) == 0) = false := beq_eq_false_iff_ne.2 (by omega)
        rw [tv_of ho] at f1
        by_cases hy : G.young = []
        · have hmv := fun m => moving_q w1 m d G.tyoung G.young false (by simp [hy]) (by omega) f2
          have HMV := Lib.hid hmv; clear hmv
          rw [hy, tv_nil] at f2 f2q
          have HY := Lib.hid hy; clear hy ho
          by_cases hg : G.old.length ≤ G.n
          · have hg1 : decide (G.old.length ≤ G.n) = true := by simpa using hg
            have HG := Lib.hid hg
            have hmk : ∀ w : World, (Instr.makeSlice 111 (.int .i64 (2 * (G.old.length : Int))) (.int .i64 (2 * (G.old.length : Int)))).run Try.prog w = .ok (.slice (some ⟨w.heap.size, 0, none⟩) (2 * G.old.length) (2 * G.old.length)) (w.alloc (.cells (List.replicate (2 * G.old.length) (.pointer none)).toArray 176)) :=
              fun w => by
                have := mk_any (P := Try.prog) 111 176 _ _ (.pointer none) (by kernel_rfl) rfl rfl rfl rfl rfl (2 * G.old.length) (by omega) w
                rw [Int.natCast_mul] at this
                exact this
            clear hg
            go_wp2_with fail
            go_quiet ((go_at_call 140; exact HMV.out _))
            go_wp2_with fail
            go_meet
            case rel =>
              exact grow_turn2 H1.out hn1 HO.out HY.out HG.out _ _ rfl
          · have hg1 : decide (G.old.length ≤ G.n) = false := by simpa using hg
            have HG := Lib.hid hg; clear hg
            go_wp2_with fail
            go_quiet ((go_at_call 140; exact HMV.out _))
            go_wp2_with fail
            go_meet
            case rel =>
              exact grow_turn0 H1.out HO.out (fun e => HG.out e.2) _ _ rfl
        · have hmv := fun m => moving_q w1 m d G.tyoung G.young true (by simp [hy]) (by omega) f2
          have HMV := Lib.hid hmv; clear hmv
          have HY := Lib.hid hy; clear hy ho f2
          go_wp2_with fail
          go_quiet ((go_at_call 140; exact HMV.out _))
          go_wp2_with fail
          go_meet
          case rel =>
            exact grow_turn0 H1.out HO.out (fun e => HY.out e.1) _ _ rfl
    case rest =>
      obtain ⟨t, T2⟩ := hcut
      obtain ⟨g1, g2, g3, g4, g5⟩ := grow_inv H1.out.inv t
      obtain ⟨K, hK⟩ : ∃ K, growM G t = K := ⟨_, rfl⟩
      rw [hK] at T2 g1 g2 g3 g4 g5
      have hk : ∀ y ∈ entries K, y.key ≠ key := by rw [g2]; exact HNO.out
      have HKN := Lib.hid hk; clear hk
      have HK := Lib.hid hK; clear hK
      have h2 := T2.at_
      have hKn : K.n < 17592186044416 := by omega
      have HG3 := Lib.hid g3
      have H2 := Lib.hid h2
      have T2 := Lib.hid T2
      clear g1 g2 g4 g5 f1 f2 f4 f2q fzq fz1 fz2 hn1
      obtain ⟨q0, q1, q2, q3, q4, q5⟩ := blk_field h2.rep.head
      by_cases hy : K.young = []
      ·
        have hM := moving_any wc d K.tyoung K.young (by have := h2.lyoung; omega) q2
        rw [show decide (K.young ≠ []) = false by simp [hy]] at hM
        have HM := Lib.hid hM; clear hM
        have hlt := slotOf_lt K.seed K.old.length key (List.length_pos_iff.2 g3)
        obtain ⟨c, hc⟩ : ∃ c, K.old[slotOf K.seed K.old.length key]? = some c := ⟨_, List.getElem?_eq_getElem hlt⟩
        have R2 : Rep (wc.alloc (entryObj 178 ⟨wc.heap.size, key, [.int .i64 x]⟩ (.pointer none))) ((wc.heap.size, entryObj 178 ⟨wc.heap.size, key, [.int .i64 x]⟩ (.pointer none)) :: dictL d K) := Rep.cons (alloc_at _ _) (h2.rep.alloc _)
        have N2 : Nd ((wc.heap.size, entryObj 178 ⟨wc.heap.size, key, [.int .i64 x]⟩ (.pointer none)) :: dictL d K) := Nd.cons_iff.2 ⟨fun hb => Nat.lt_irrefl _ (h2.rep.lt hb), h2.nd⟩
        have hrowK := (dict_row_old R2.tail g3).1
        have hltt : K.told < wc.heap.size := h2.rep.lt (by rw [dict_bs]; exact .inr (.inl ⟨g3, rfl⟩))
        obtain ⟨r1, r2, r3⟩ := hang_old (e := ⟨wc.heap.size, key, [.int .i64 x]⟩) R2 N2 g3 hc
        obtain ⟨kk, _, hkk⟩ := h2.inv.sold g3
        have hh := hang_any (wc.alloc (entryObj 178 ⟨wc.heap.size, key, [.int .i64 x]⟩ (.pointer none))) d K.told K.old K.seed ⟨wc.heap.size, key, [.int .i64 x]⟩ (.pointer none) kk hkk (pow_lt60 hkk h2.lold) hs rfl
          ((Fr.alloc (fun _ => False) wc _).cell q0 (fun h => h)) hrowK (alloc_at _ _) (by show ¬ wc.heap.size = K.told; omega) _ rfl c hc
        have HH2 := Lib.hid hh; clear hh
        have HR1 := Lib.hid r1; clear r1
        have HR2 := Lib.hid r2; clear r2
        have HR3 := Lib.hid r3; clear r3
        have HMem : Hid (Bs (dictL d K) K.told) := by show Bs _ _; rw [dict_bs]; exact .inr (.inl ⟨g3, rfl⟩)
        have HY := Lib.hid hy
        rw [tv_of g3] at q1
        skip
        clear hc R2 N2 hrowK hlt hkk q0 q3 q4 q5 hy
        go_wp2_with fail
        refine HM.out.mono ?_
        rintro e' w' ⟨rfl, rfl⟩
        go_wp2_with fail
        refine HH2.out.mono ?_
        rintro e' w5 ⟨rfl, hw5⟩
        have R5 : Rep w5 (dictL d { K with old := hangM K.seed K.old ⟨wc.heap.size, key, [.int .i64 x]⟩ }) := by rw [← hw5]; exact HR1.out
        have F5 : Fr (Bs (dictL d K)) wc w5 := by
          rw [← hw5]
          exact ((Fr.alloc _ _ _).thenSet _ _ (fun h => absurd h (Nat.lt_irrefl _))).thenSet _ _ (fun _ => HMem.out)
        have HR5 := Lib.hid R5
        have HF5 := Lib.hid F5
        obtain ⟨q0, q1, q2, q3, q4, q5⟩ := blk_field R5.head
        simp only at q4
        have fz4 := q5 4
        clear hw5 R5 F5 q0 q1 q2 q3 q5
        go_wp2
        go_ret
        refine ⟨by rw [HH.out]; rfl, t, wc.heap.size, ?_⟩
        have hset : setM M key [.int .i64 x] t wc.heap.size = addM K ⟨wc.heap.size, key, [.int .i64 x]⟩ := by unfold setM; rw [HGG.out, HK2.out, HK.out]
        rw [hset]
        exact (T1'.out.trans T2.out).trans (add_turn H2.out HG3.out ⟨wc.heap.size, key, [.int .i64 x]⟩ rfl ⟨rfl, hs⟩ HKN.out HR5.out HR2.out (by rw [addM_old _ _ HY.out]) HF5.out
          (fun k hk => ((Bs.cons_iff.1 ((HR3.out k).1 hk)).imp (fun e => Nat.le_of_eq e.symm) id).symm) _ rfl)
      ·
        have hM := moving_any wc d K.tyoung K.young (by have := h2.lyoung; omega) q2
        rw [show decide (K.young ≠ []) = true by simp [hy]] at hM
        have HM := Lib.hid hM; clear hM
        have hlt := slotOf_lt K.seed K.young.length key (List.length_pos_iff.2 hy)
        obtain ⟨c, hc⟩ : ∃ c, K.young[slotOf K.seed K.young.length key]? = some c := ⟨_, List.getElem?_eq_getElem hlt⟩
        have R2 : Rep (wc.alloc (entryObj 178 ⟨wc.heap.size, key, [.int .i64 x]⟩ (.pointer none))) ((wc.heap.size, entryObj 178 ⟨wc.heap.size, key, [.int .i64 x]⟩ (.pointer none)) :: dictL d K) := Rep.cons (alloc_at _ _) (h2.rep.alloc _)
        have N2 : Nd ((wc.heap.size, entryObj 178 ⟨wc.heap.size, key, [.int .i64 x]⟩ (.pointer none)) :: dictL d K) := Nd.cons_iff.2 ⟨fun hb => Nat.lt_irrefl _ (h2.rep.lt hb), h2.nd⟩
        have hrowK := (dict_row_young R2.tail hy).1
        have hltt : K.tyoung < wc.heap.size := h2.rep.lt (by rw [dict_bs]; exact .inr (.inr (.inl ⟨hy, rfl⟩)))
        obtain ⟨r1, r2, r3⟩ := hang_young (e := ⟨wc.heap.size, key, [.int .i64 x]⟩) R2 N2 hy hc
        obtain ⟨kk, _, hkk⟩ := h2.inv.syoung hy
        have hh := hang_any (wc.alloc (entryObj 178 ⟨wc.heap.size, key, [.int .i64 x]⟩ (.pointer none))) d K.tyoung K.young K.seed ⟨wc.heap.size, key, [.int .i64 x]⟩ (.pointer none) kk hkk (pow_lt60 hkk h2.lyoung) hs rfl
          ((Fr.alloc (fun _ => False) wc _).cell q0 (fun h => h)) hrowK (alloc_at _ _) (by show ¬ wc.heap.size = K.tyoung; omega) _ rfl c hc
        have HH2 := Lib.hid hh; clear hh
        have HR1 := Lib.hid r1; clear r1
        have HR2 := Lib.hid r2; clear r2
        have HR3 := Lib.hid r3; clear r3
        have HMem : Hid (Bs (dictL d K) K.tyoung) := by show Bs _ _; rw [dict_bs]; exact .inr (.inr (.inl ⟨hy, rfl⟩))
        have HY := Lib.hid hy
        rw [tv_of g3] at q1
        rw [tv_of hy] at q2
        clear hc R2 N2 hrowK hlt hkk q0 q3 q4 q5 hy
        go_wp2_with fail
        refine HM.out.mono ?_
        rintro e' w' ⟨rfl, rfl⟩
        go_wp2_with fail
        refine HH2.out.mono ?_
        rintro e' w5 ⟨rfl, hw5⟩
        have R5 : Rep w5 (dictL d { K with young := hangM K.seed K.young ⟨wc.heap.size, key, [.int .i64 x]⟩ }) := by rw [← hw5]; exact HR1.out
        have F5 : Fr (Bs (dictL d K)) wc w5 := by
          rw [← hw5]
          exact ((Fr.alloc _ _ _).thenSet _ _ (fun h => absurd h (Nat.lt_irrefl _))).thenSet _ _ (fun _ => HMem.out)
        have HR5 := Lib.hid R5
        have HF5 := Lib.hid F5
        obtain ⟨q0, q1, q2, q3, q4, q5⟩ := blk_field R5.head
        simp only at q4
        have fz4 := q5 4
        clear hw5 R5 F5 q0 q1 q2 q3 q5
        go_wp2
        go_ret
        refine ⟨by rw [HH.out]; rfl, t, wc.heap.size, ?_⟩
        have hset : setM M key [.int .i64 x] t wc.heap.size = addM K ⟨wc.heap.size, key, [.int .i64 x]⟩ := by unfold setM; rw [HGG.out, HK2.out, HK.out]
        rw [hset]
        exact (T1'.out.trans T2.out).trans (add_turn H2.out HG3.out ⟨wc.heap.size, key, [.int .i64 x]⟩ rfl ⟨rfl, hs⟩ HKN.out HR5.out HR2.out (by rw [addM_young _ _ HY.out]) HF5.out
          (fun k hk => ((Bs.cons_iff.1 ((HR3.out k).1 hk)).imp (fun e => Nat.le_of_eq e.symm) id).symm) _ rfl)
  · rw [k1] at HF
    have HF2 := Lib.hid HF; clear HF
    obtain ⟨N, hN, hdat⟩ := k7 (.int .i64 x)
    obtain ⟨v0, hv0⟩ : ∃ v0, e.val = [v0] := List.length_eq_one_iff.1 k5
    have hc0 : w1.cell? ⟨e.b, 1, none⟩ = some v0 := by rw [cell_of_blk k4, hv0]; rfl
    have hfz : w1.frozen? ⟨e.b, 1, none⟩ = false := free_of_blk k4 1
    rw [hv0] at hN
    have hN' : putM (stepM M) key [.int .i64 x] = some N := hN
    have T3 : Turn w1 d (stepM M) (w1.setCell ⟨e.b, 1, none⟩ (.int .i64 x)) N :=
      ⟨hdat, (Fr.refl _ w1).thenSet _ _ (fun _ => k6), fun k hk => .inl (put_bs d h1.inv key _ hN' k hk)⟩
    have HT3 := Lib.hid (T1.trans T3)
    have hhas := has_put HI.out key _ hN'
    have HH := Lib.hid hhas; clear hhas
    have HN := Lib.hid hN'
    clear T3 T1 h1 hN hN' hdat hv0 k1 k4 k5 k6 k7
    go_wp2_with fail
    refine HF2.out.mono ?_
    rintro e' w' ⟨rfl, rfl⟩
    go_wp2
    go_ret
    refine ⟨by rw [HH.out]; rfl, 0, 0, ?_⟩
    have hset : setM M key [.int .i64 x] 0 0 = N := by unfold setM; rw [HN.out]
    rw [hset]
    exact HT3.out
end Go.Proofs.Ytgomilodeaafdaa.Di
namespace Go.Proofs.Ytgomilodeaafdaa.Di
open Go.RowKit

def DropMid (w : World) (d : Nat) (G N : DM) (wc : World) : Prop :=
  Rep wc (dictL d { N with n := G.n }) ∧ Nd (dictL d { N with n := G.n }) ∧ Fr (Bs (dictL d G)) w wc
theorem nx_ptr (c : List E) : ∃ p, hp c = .pointer p := by cases c <;> exact ⟨_, rfl⟩
theorem drop_bs {M N : DM} (d : Nat) (h : Inv M) (key : ByteArray) (hN : dropM M key = some N) (k : Nat) (hk : Bs (dictL d N) k) : Bs (dictL d M) k := by
  obtain ⟨i1, i2, i3, i4, i5, i6, i7, i8, i9, i10⟩ := inv_drop h key hN
  have hb : ∀ k, k ∈ (entries N).map E.b → k ∈ (entries M).map E.b := by
    unfold dropM at hN
    cases h1 : locT M.seed M.old key with
    | some x =>
      obtain ⟨i, pre, e, post⟩ := x
      rw [h1] at hN
      simp only [Option.some.injEq] at hN
      subst hN
      have hp := ((entries_old M key i pre post e h1).1.map E.b)
      exact fun k hk => hp.mem_iff.2 (by rw [List.map_cons]; exact List.mem_cons_of_mem _ hk)
    | none =>
      rw [h1] at hN
      simp only at hN
      cases h2 : locT M.seed M.young key with
      | none => rw [h2] at hN; cases hN
      | some x =>
        obtain ⟨i, pre, e, post⟩ := x
        rw [h2] at hN
        simp only [Option.some.injEq] at hN
        subst hN
        have hp := ((entries_young M key i pre post e h2).1.map E.b)
        exact fun k hk => hp.mem_iff.2 (by rw [List.map_cons]; exact List.mem_cons_of_mem _ hk)
  rw [dict_bs] at hk ⊢
  rw [i9, i10] at hk
  rcases hk with h1 | ⟨h1, h2⟩ | ⟨h1, h2⟩ | h1
  · exact .inl h1
  · exact .inr (.inl ⟨len_ne i4 h1, h2⟩)
  · exact .inr (.inr (.inl ⟨len_ne i5 h1, h2⟩))
  · exact .inr (.inr (.inr (hb k h1)))
theorem frozen_linkA {w : World} {t : Nat} {cs : List (List E)} {i : Nat} {pre post : List E} (h : Tab w t cs) (hc : cs[i]? = some (pre ++ post)) : w.frozen? (linkA t i pre) = false := by
  unfold linkA
  cases hl : pre.getLast? with
  | none => exact free_of_blk h.row i
  | some q =>
    obtain ⟨pre', rfl⟩ := List.getLast?_eq_some_iff.1 hl
    have hm := mid_at (e := q) (pre := pre') (post := post) h.chains (by rw [hc]; simp)
    exact free_of_blk hm 2
theorem linkA_spot (t i : Nat) (pre : List E) : ∃ b o, linkA t i pre = ⟨b, o, none⟩ := by
  unfold linkA
  split <;> exact ⟨_, _, rfl⟩
theorem del_dat {w : World} {d : Nat} {M : DM} (h : DAt w d M) (key : ByteArray) :
    (findA M key = none ∧ dropM M key = none) ∨ ∃ b o e p N, findA M key = some ⟨b, o, none⟩ ∧ w.cell? ⟨b, o, none⟩ = some (.pointer (some ⟨e, 0, none⟩)) ∧ w.frozen? ⟨b, o, none⟩ = false ∧ w.cell? ⟨e, 2, none⟩ = some (.pointer p) ∧
      dropM M key = some N ∧ ∀ W, W = w.setCell ⟨b, o, none⟩ (.pointer p) → DropMid w d M N W := by
  cases h1 : locT M.seed M.old key with
  | some y =>
    right
    obtain ⟨i, pre, e, post⟩ := y
    obtain ⟨c1, c2, c3, c4⟩ := loc_cells (d := d) (tab_old h) h1
    obtain ⟨g1, g2, g3, g4⟩ := locT_some h1
    obtain ⟨b, o, hA⟩ := linkA_spot M.told i pre
    obtain ⟨p, hp'⟩ := nx_ptr post
    have hmem : e ∈ entries M := (entries_old M key i pre post e h1).1.mem_iff.2 (by simp)
    have hz := h.sz e hmem
    have hfz := frozen_linkA (tab_old h c4).1 g2
    obtain ⟨r1, r2, r3, r4⟩ := drop_old h.rep h.nd g2
    rw [← linkA_at _ _ _ c3, hA, hp'] at r1
    rw [← linkA_at _ _ _ c3, hA] at r4
    refine ⟨b, o, e.b, p, { M with old := delT M.old i pre post, n := M.n - 1 }, by unfold findA; rw [h1, ← hA], by rw [← hA]; exact c1, by rw [← hA]; exact hfz, ?_, by unfold dropM; rw [h1], ?_⟩
    · rw [cell_of_blk c2, hp']
      match hv : e.val, hz.1 with
      | [x0], _ => rfl
    · rintro W rfl
      exact ⟨r1, r2, (Fr.refl _ w).thenSet _ _ (fun _ => r4)⟩
  | none =>
    cases h2 : locT M.seed M.young key with
    | none => exact .inl ⟨by unfold findA; rw [h1, h2]; rfl, by unfold dropM; rw [h1, h2]⟩
    | some y =>
      right
      obtain ⟨i, pre, e, post⟩ := y
      obtain ⟨c1, c2, c3, c4⟩ := loc_cells (d := d) (tab_young h) h2
      obtain ⟨g1, g2, g3, g4⟩ := locT_some h2
      obtain ⟨b, o, hA⟩ := linkA_spot M.tyoung i pre
      obtain ⟨p, hp'⟩ := nx_ptr post
      have hmem : e ∈ entries M := (entries_young M key i pre post e h2).1.mem_iff.2 (by simp)
      have hz := h.sz e hmem
      have hfz := frozen_linkA (tab_young h c4).1 g2
      obtain ⟨r1, r2, r3, r4⟩ := drop_young h.rep h.nd g2
      rw [← linkA_at _ _ _ c3, hA, hp'] at r1
      rw [← linkA_at _ _ _ c3, hA] at r4
      refine ⟨b, o, e.b, p, { M with young := delT M.young i pre post, n := M.n - 1 }, by unfold findA; rw [h1, h2, ← hA]; rfl, by rw [← hA]; exact c1, by rw [← hA]; exact hfz, ?_, by unfold dropM; rw [h1, h2], ?_⟩
      · rw [cell_of_blk c2, hp']
        match hv : e.val, hz.1 with
        | [x0], _ => rfl
      · rintro W rfl
        exact ⟨r1, r2, (Fr.refl _ w).thenSet _ _ (fun _ => r4)⟩
theorem drop_sz {w : World} {d : Nat} {M N : DM} (h : DAt w d M) (key : ByteArray) (hN : dropM M key = some N) : ∀ e ∈ entries N, e ∈ entries M := by
  unfold dropM at hN
  cases h1 : locT M.seed M.old key with
  | some x =>
    obtain ⟨i, pre, e, post⟩ := x
    rw [h1] at hN
    simp only [Option.some.injEq] at hN
    subst hN
    have hp := (entries_old M key i pre post e h1).1
    exact fun k hk => hp.mem_iff.2 (List.mem_cons_of_mem _ hk)
  | none =>
    rw [h1] at hN
    simp only at hN
    cases h2 : locT M.seed M.young key with
    | none => rw [h2] at hN; cases hN
    | some x =>
      obtain ⟨i, pre, e, post⟩ := x
      rw [h2] at hN
      simp only [Option.some.injEq] at hN
      subst hN
      have hp := (entries_young M key i pre post e h2).1
      exact fun k hk => hp.mem_iff.2 (List.mem_cons_of_mem _ hk)
theorem drop_turn {w wc : World} {d : Nat} {M N : DM} (h : DAt w d M) (key : ByteArray) (hN : dropM M key = some N) (hm : DropMid w d M N wc) (W : World) (hW : W = wc.setCell ⟨d, 4, none⟩ (.int .i64 (N.n : Int))) : Turn w d M W N := by
  obtain ⟨i1, i2, i3, i4, i5, i6, i7, i8, i9, i10⟩ := inv_drop h.inv key hN
  obtain ⟨m1, m2, m3⟩ := hm
  refine ⟨⟨?_, nd_at m2 N.at_ N.n, fun e he => h.sz e (drop_sz h key hN e he), i1, by rw [i4]; exact h.lold, by rw [i5]; exact h.lyoung⟩, ?_, fun k hk => .inl (drop_bs d h.inv key hN k hk)⟩
  · rw [hW]
    exact dict_n m1 m2 N.n
  · rw [hW]; exact m3.thenSet _ _ (fun _ => in_d d M)
theorem shrink_turn {w : World} {d : Nat} {N : DM} (h : DAt w d N) (hn : N.n < 17592186044416) (hc : N.young = [] ∧ 4 < N.old.length ∧ 8 * N.n ≤ N.old.length) (s : Nat) (hs : fitM N.n 64 4 = s) (W : World) (m : Nat)
    (hW : W = ((w.drewN m).alloc (.cells (Array.replicate s (.pointer none)) 176)).setCell ⟨d, 2, none⟩ (.slice (some ⟨w.heap.size, 0, none⟩) s s)) : Turn w d N W (shrinkM N w.heap.size) := by
  have hg : shrinkM N w.heap.size = { N with young := List.replicate s [], tyoung := w.heap.size } := by unfold shrinkM; rw [if_pos hc, hs]
  obtain ⟨i, hi, he⟩ := fitM_pow N.n 64 4 2 rfl (by decide)
  have hpos : 0 < s := by rw [← hs, he]; exact Nat.two_pow_pos i
  have hle : s ≤ max 4 (2 * N.n) := by rw [← hs]; exact fitM_le N.n 64 4 (by omega)
  rw [show Array.replicate s (Value.pointer none) = (List.replicate s (Value.pointer none)).toArray by simp] at hW
  obtain ⟨r1, r2⟩ := grow_young (w := w.drewN m) (n := s) (h.rep.drewN m) h.nd hc.1 hpos rfl
  obtain ⟨s1, s2⟩ := shrink_inv h.inv w.heap.size
  refine ⟨⟨by rw [hg, hW]; exact r1, by rw [hg]; exact r2, fun e he => h.sz e (by rw [s2] at he; exact he), s1, by rw [hg]; exact h.lold, ?_⟩, ?_, fun k hk => ?_⟩
  · rw [hg]; simp only [List.length_replicate]; omega
  · rw [hW]
    exact (((Fr.refl _ w).thenDrewN m).thenAlloc _).thenSet _ _ (fun _ => in_d d N)
  · rw [dict_bs, s2, hg] at hk
    rw [dict_bs]
    rcases hk with h1 | ⟨h1, h2⟩ | ⟨_, h2⟩ | h1
    · exact .inl (.inl h1)
    · exact .inl (.inr (.inl ⟨h1, h2⟩))
    · exact .inr (Nat.le_of_eq h2.symm)
    · exact .inl (.inr (.inr (.inr h1)))
theorem shrink_not {N : DM} (t : Nat) (hc : ¬ (N.young = [] ∧ 4 < N.old.length ∧ 8 * N.n ≤ N.old.length)) : shrinkM N t = N := by unfold shrinkM; rw [if_neg hc]
set_option maxRecDepth 100000 in
set_option maxHeartbeats 2000000 in
theorem del_any (w : World) (d : Nat) (M : DM) (key : ByteArray) (hs : key.size ≤ maxLen) (h : DAt w d M) (hn : M.n < 17592186044416) :
    Calls Try.prog 75 #[.pointer (some ⟨d, 0, none⟩), .string key] w fun e w' =>
      e = .returned (.bool (hasK (tb M) key)) ∧ ∃ t, Turn w d M w' (delM M key t) := by
  have HS := Lib.hid (step_turn w d M h)
  have HI := Lib.hid h.inv
  have hnn : Hid ((stepM M).n = M.n) := (step_lens M).2.2.2
  clear h
  go_enter Try.func75, Try.ntmps75
  go_wp2_with fail
  refine HS.out.mono ?_
  rintro e w1 ⟨rfl, T1⟩
  have h1 := T1.at_
  have HF := find_any w1 d (stepM M) key hs h1
  obtain ⟨G, hG⟩ : ∃ G, stepM M = G := ⟨_, rfl⟩
  rcases del_dat h1 key with ⟨k1, k2⟩ | ⟨b, o, e, p, N, k1, k3, k4, k5, k6, k7⟩
  · rw [k1] at HF
    have HF2 := Lib.hid HF; clear HF
    have hhas := hasnt_of HI.out key (drop_none h1.inv key k2).1
    have HH := Lib.hid hhas; clear hhas
    have HT := Lib.hid T1
    have HK := Lib.hid k2
    clear h1 k1 k2 hG T1
    go_wp2_with fail
    refine HF2.out.mono ?_
    rintro e w' ⟨rfl, rfl⟩
    go_wp2
    go_ret
    refine ⟨by rw [HH.out]; rfl, 0, ?_⟩
    have : delM M key 0 = stepM M := by unfold delM; rw [HK.out]
    rw [this]; exact HT.out
  · rw [k1] at HF
    have HF2 := Lib.hid HF; clear HF
    obtain ⟨i1, i2, i3, i4, i5, i6, i7, i8, i9, i10⟩ := inv_drop h1.inv key k6
    have hhas : hasK (tb M) key = true := by
      rw [← hasK_perm (tb_perm (step_perm M HI.out))]
      obtain ⟨u, hu⟩ := i3
      simp only [hasK, List.any_eq_true, decide_eq_true_eq]
      exact ⟨_, hu, rfl⟩
    have HH := Lib.hid hhas; clear hhas
    have HN7 : Hid (N.n + 1 = (stepM M).n) := i7
    have hNn : N.n < 17592186044416 := by have := hnn.out; omega
    clear i1 i2 i3 i4 i5 i6 i7 i8 i9 i10 k1
    rw [hG] at h1 T1 k6 k7 hnn HN7
    have HGG := Lib.hid hG; clear hG
    have H1 := Lib.hid h1
    have HT := Lib.hid T1
    have HK6 := Lib.hid k6
    have HK7 := Lib.hid k7
    clear T1 k6 k7 h1
    go_wp2_with fail
    refine HF2.out.mono ?_
    rintro e' w' ⟨rfl, rfl⟩
    go_upto_region 7 with (fail)
    go_cut [] from 5 to 200 (fun wc => DropMid w1 d G N wc)
    case first =>
      go_wp2
      go_meet
      case rel => exact HK7.out _ rfl
    case rest =>
      have HD := Lib.hid hcut
      obtain ⟨f0, f1, f2, f3, f4, f5⟩ := blk_field hcut.1.head
      simp only at f4
      have fz4 := f5 4
      have hpos : (1 : Int) ≤ G.n := by have := HN7.out; omega
      have hle : (G.n : Int) < 17592186044416 := by have := HN7.out; have := hnn.out; omega
      clear k3 k4 k5 hcut f0 f1 f2 f3 f5
      go_upto_region 8 with (fail)
      go_cut [] from 5 to 200 (fun we => Turn w1 d G we N)
      case first =>
        go_wp2
        go_meet
        case rel => exact drop_turn H1.out key HK6.out HD.out _ (by have := HN7.out; rw [show ((N.n : Nat) : Int) = (G.n : Int) - 1 by omega])
      case rest =>
        obtain ⟨we, rfl⟩ : ∃ we, we = wc := ⟨_, rfl⟩
        obtain ⟨f0, f1, f2, f3, f4, f5⟩ := blk_field hcut.at_.rep.head
        have HM := fun b hb m => moving_q we m d N.tyoung N.young b hb (by have := hcut.at_.lyoung; omega) f2
        have hlo := hcut.at_.lold
        have HTD := Lib.hid hcut
        obtain ⟨a1, e1⟩ := len_tv we N.told N.old
        rw [e1] at f1
        have e1' := Lib.hid e1
        clear f0 f3 f5 fz4 hpos hle hcut e1
        have hend : ∀ t W, Turn we d N W (shrinkM N t) → Turn w d M W (delM M key t) := fun t W hT => by
          have : delM M key t = shrinkM N t := by unfold delM; rw [HGG.out, HK6.out]
          rw [this]
          exact (HT.out.trans HTD.out).trans hT
        have HE := Lib.hid hend; clear hend
        go_upto_region 9 with (fail)
        by_cases hy : N.young = []
        case neg =>
          have HMV := Lib.hid (HM true (by simp [hy]))
          have HX : Hid (∀ m, Turn we d N (we.drewN m) (shrinkM N 0)) := fun m => by
            rw [shrink_not 0 (fun h => hy h.1)]
            exact ⟨HTD.out.at_.drewN m, (Fr.refl _ we).thenDrewN m, fun k h => .inl h⟩
          clear HM hy f1 f2 f4
          go_quiet ((go_at_call 140; exact HMV.out _))
          go_wp2_with fail
          go_ret
          exact ⟨by rw [HH.out]; rfl, 0, HE.out 0 _ (HX.out _)⟩
        case pos =>
          have HMV := Lib.hid (HM false (by simp [hy]))
          have f2' : Hid (we.cell? ⟨d, 2, none⟩ = some (tv N.tyoung N.young)) := f2
          have HY := Lib.hid hy
          clear HM hy f2
          by_cases h4 : 4 < N.old.length
          case neg =>
            have HX : Hid (∀ m, Turn we d N (we.drewN m) (shrinkM N 0)) := fun m => by
              rw [shrink_not 0 (fun h => h4 h.2.1)]
              exact ⟨HTD.out.at_.drewN m, (Fr.refl _ we).thenDrewN m, fun k h => .inl h⟩
            have g4 : decide ((4 : Int) < N.old.length) = false := by simp; omega
            clear h4 f4
            go_quiet ((go_at_call 140; exact HMV.out _))
            go_wp2_with fail
            go_ret
            exact ⟨by rw [HH.out]; rfl, 0, HE.out 0 _ (HX.out _)⟩
          case pos =>
            have g4 : decide ((4 : Int) < N.old.length) = true := by simp; omega
            have w8 : IntKind.i64.wrap (8 * (N.n : Int)) = 8 * (N.n : Int) := by rw [IntKind.wrap_i64]; omega
            by_cases h8 : 8 * N.n ≤ N.old.length
            case neg =>
              have HX : Hid (∀ m, Turn we d N (we.drewN m) (shrinkM N 0)) := fun m => by
                rw [shrink_not 0 (fun h => h8 h.2.2)]
                exact ⟨HTD.out.at_.drewN m, (Fr.refl _ we).thenDrewN m, fun k h => .inl h⟩
              have g8 : decide (8 * (N.n : Int) ≤ N.old.length) = false := by simp; omega
              clear h4 h8
              go_quiet ((go_at_call 140; exact HMV.out _))
              go_wp2_with fail
              go_ret
              exact ⟨by rw [HH.out]; rfl, 0, HE.out 0 _ (HX.out _)⟩
            case pos =>
              have HC : Hid (N.young = [] ∧ 4 < N.old.length ∧ 8 * N.n ≤ N.old.length) := ⟨HY.out, h4, h8⟩
              have g8 : decide (8 * (N.n : Int) ≤ N.old.length) = true := by simp; omega
              clear h4 h8
              go_quiet ((go_at_call 140; exact HMV.out _))
              clear g4 g8 w8
              go_wp2_with fail
              go_loopw [6] (fun s wr => wr = we.drewN nq ∧ ∃ k f : Nat, s = .int .i64 ((2 ^ (k + 2) : Nat) : Int) ∧ k + f = 64 ∧ k < 62 ∧ Hid (fitM N.n f (2 ^ (k + 2)) = fitM N.n 64 4)) (fun s _ => N.n - (intOf s).toNat)
              case atStart => exact ⟨rfl, 0, 64, rfl, rfl, by omega, rfl⟩
              case round =>
                obtain ⟨rfl, k, f, rfl, hkf, hk62, HF⟩ := hrel
                obtain ⟨s, hs⟩ : ∃ s, s = 2 ^ (k + 2) := ⟨_, rfl⟩
                rw [← hs] at HF ⊢
                have HSS := Lib.hid hs
                have hspos : 0 < s := by rw [hs]; exact Nat.two_pow_pos _
                by_cases hlt : s < N.n
                · have hk2 : k < 44 := by
                    refine Nat.lt_of_not_le fun hge => ?_
                    have := Nat.pow_le_pow_right (show 0 < 2 by decide) (show 44 ≤ k + 2 by omega)
                    rw [← hs] at this
                    omega
                  clear hs
                  go_wp2
                  go_roundw
                  case rel =>
                    refine ⟨trivial, k + 1, f - 1, ?_, by omega, by omega, ?_⟩
                    · have e : s * 2 = 2 ^ (k + 1 + 2) := by rw [HSS.out]; rw [Nat.pow_succ 2 (k + 2)]
                      rw [← e, Int.natCast_mul]; rfl
                    · show _ = _
                      rw [← HF.out]
                      conv => rhs; rw [show f = (f - 1) + 1 by omega]; unfold fitM
                      rw [if_pos hlt, HSS.out, Nat.pow_succ 2 (k + 2), Nat.mul_comm]
                  case measure => simp [intOf]; omega
                · have hfit : fitM N.n f s = s := by
                    cases f with
                    | zero => rfl
                    | succ f => unfold fitM; rw [if_neg hlt]
                  rw [hfit] at HF
                  have hsle : s ≤ 35184372088832 := by
                    have h1 := HF.out
                    have h2 := fitM_le N.n 64 4 (by omega)
                    omega
                  have hmk : ∀ w : World, (Instr.makeSlice 111 (.int .i64 (s : Int)) (.int .i64 (s : Int))).run Try.prog w = .ok (.slice (some ⟨w.heap.size, 0, none⟩) s s) (w.alloc (.cells (List.replicate s (.pointer none)).toArray 176)) :=
                    fun w => mk_any (P := Try.prog) 111 176 _ _ (.pointer none) (by kernel_rfl) rfl rfl rfl rfl rfl s hsle w
                  have f2 := f2'.out
                  rw [HY.out, tv_nil] at f2
                  have hd1 : d < we.heap.size := HTD.out.at_.rep.lt (in_d d N)
                  have fz2 : we.frozen? ⟨d, 2, none⟩ = false := free_of_blk HTD.out.at_.rep.head 2
                  have fzq : ∀ n o, ((we.drewN n).alloc o).frozen? ⟨d, 2, none⟩ = false := fun n o => (World.frozen?_alloc_past (w := we.drewN n) o d 2 hd1).trans fz2
                  have f2q : ∀ n o, ((we.drewN n).alloc o).cell? ⟨d, 2, none⟩ = some (.slice none 0 0) := fun n o => (Fr.alloc (fun _ => False) (we.drewN n) o).cell f2 (fun h => h)
                  clear hs hfit hkf
                  go_wp2
                  go_ret
                  exact ⟨by rw [HH.out]; rfl, we.heap.size, HE.out _ _ (shrink_turn HTD.out.at_ hNn HC.out s HF.out.symm _ nq rfl)⟩
end Go.Proofs.Ytgomilodeaafdaa.Di
namespace Go.Proofs.Ytgomilodeaafdaa.Di
open Go.RowKit

theorem Fr.setCells (b : Nat) : ∀ (vs : List Value) (o : Nat) (w : World), Fr (fun k => k = b) w (w.setCells b o vs) := by
  intro vs
  induction vs with
  | nil => intro o w; exact Fr.refl _ w
  | cons v vs ih => intro o w; exact (Fr.setCell w ⟨b, o, none⟩ v).trans (ih (o + 1) (w.setCell ⟨b, o, none⟩ v)) (fun i hi _ => hi)
def clearM (M : DM) : DM := { M with old := [], young := [], at_ := 0, n := 0 }
theorem clear_inv (M : DM) : Inv (clearM M) ∧ tb (clearM M) = [] :=
  ⟨⟨Placed.nil _, Placed.nil _, List.nodup_nil, fun h => absurd rfl h, fun h => absurd rfl h, fun h => absurd rfl h, fun _ => rfl, fun i hi => absurd hi (Nat.not_lt_zero i), rfl⟩, rfl⟩
theorem clear_run (w : World) (t : Nat) (cs : List (List E)) (hne : cs ≠ []) (ht : w.heap[t]? = some (rowO 176 cs)) (ty : TypeId) :
    (Builtin.clear_ #[111] ty #[.slice (some ⟨t, 0, none⟩) cs.length cs.length]).run Try.prog w = .ok (.tuple #[]) (w.setCells t 0 (List.replicate cs.length (.pointer none))) :=
  Lib.run_clear_slice w 111 176 ty (.pointer none) Try.underlying111 (fun _ => by kernel_rfl) rfl rfl t 0 cs.length cs.length (List.length_pos_iff.2 hne)
    (fun j hj => by rw [Nat.zero_add, cell_of_blk ht]; simp [hj]) (fun j hj => by rw [Nat.zero_add]; exact free_of_blk ht j)
def ClearMid1 (w : World) (d : Nat) (M : DM) (wc : World) : Prop :=
  wc.heap[d]? = some (fieldsO 113 M) ∧ (M.young ≠ [] → wc.heap[M.tyoung]? = some (rowO 176 M.young)) ∧ Fr (Bs (dictL d M)) w wc
def ClearMid2 (w : World) (d : Nat) (M : DM) (wc : World) : Prop :=
  wc.heap[d]? = some (fieldsO 113 M) ∧ Fr (Bs (dictL d M)) w wc
theorem told_ne {w : World} {d : Nat} {M : DM} (h : DAt w d M) (ho : M.old ≠ []) : M.told ≠ d ∧ (M.young ≠ [] → M.tyoung ≠ M.told ∧ M.tyoung ≠ d) := by
  have hn := h.nd
  unfold dictL dictO at hn
  rw [tabO_of ho] at hn
  obtain ⟨h1, h2⟩ := Nd.cons_iff.1 hn
  refine ⟨fun e => h1 (by rw [e]; exact Bs.append_iff.2 (.inl (Bs.cons_iff.2 (.inl rfl)))), fun hy => ⟨fun e => ?_, fun e => ?_⟩⟩
  · obtain ⟨_, _, h3⟩ := Nd.append_iff.1 h2
    refine h3 M.told (Bs.cons_iff.2 (.inl rfl)) ?_
    rw [tabO_of hy, Bs.cons_iff]; exact .inl e.symm
  · exact h1 (by rw [tabO_of hy, ← e]; exact Bs.append_iff.2 (.inr (Bs.cons_iff.2 (.inl rfl))))
theorem tyoung_ne {w : World} {d : Nat} {M : DM} (h : DAt w d M) (hy : M.young ≠ []) : M.tyoung ≠ d := by
  have hn := h.nd
  unfold dictL dictO at hn
  rw [tabO_of hy] at hn
  obtain ⟨h1, h2⟩ := Nd.cons_iff.1 hn
  exact fun e => h1 (by rw [e]; exact Bs.append_iff.2 (.inr (Bs.cons_iff.2 (.inl rfl))))
theorem clear_mid1 {w : World} {d : Nat} {M : DM} (h : DAt w d M) (ho : M.old ≠ []) (W : World) (hW : W = w.setCells M.told 0 (List.replicate M.old.length (.pointer none))) : ClearMid1 w d M W := by
  have hf := Fr.setCells M.told (List.replicate M.old.length (.pointer none)) 0 w
  rw [← hW] at hf
  obtain ⟨n1, n2⟩ := told_ne h ho
  refine ⟨(hf.block d (h.rep.lt (in_d d M)) (fun e => n1 e.symm)).trans h.rep.head, fun hy => ?_, hf.mono (fun i hi _ => by subst hi; rw [dict_bs]; exact .inr (.inl ⟨ho, rfl⟩))⟩
  have hr := (dict_row_young h.rep hy).1
  exact (hf.block M.tyoung (Array.getElem?_eq_some_iff.1 hr).1 (n2 hy).1).trans hr
theorem clear_mid0 {w : World} {d : Nat} {M : DM} (h : DAt w d M) : ClearMid1 w d M w := ⟨h.rep.head, fun hy => (dict_row_young h.rep hy).1, Fr.refl _ _⟩
theorem clear_mid2 {w wc : World} {d : Nat} {M : DM} (h : DAt w d M) (hm : ClearMid1 w d M wc) (hy : M.young ≠ []) (W : World) (hW : W = wc.setCells M.tyoung 0 (List.replicate M.young.length (.pointer none))) : ClearMid2 w d M W := by
  have hf := Fr.setCells M.tyoung (List.replicate M.young.length (.pointer none)) 0 wc
  rw [← hW] at hf
  have hl : d < wc.heap.size := (Array.getElem?_eq_some_iff.1 hm.1).1
  exact ⟨(hf.block d hl (fun e => tyoung_ne h hy e.symm)).trans hm.1, hm.2.2.trans hf (fun i hi _ => by subst hi; rw [dict_bs]; exact .inr (.inr (.inl ⟨hy, rfl⟩)))⟩
theorem clear_end {w wc : World} {d : Nat} {M : DM} (h : DAt w d M) (hm : ClearMid2 w d M wc) (W : World)
    (hW : W = (((wc.setCell ⟨d, 1, none⟩ (.slice none 0 0)).setCell ⟨d, 2, none⟩ (.slice none 0 0)).setCell ⟨d, 3, none⟩ (.int .i64 0)).setCell ⟨d, 4, none⟩ (.int .i64 0)) : Turn w d M W (clearM M) := by
  have e1 : dictL d (clearM M) = [(d, fieldsO 113 (clearM M))] := by unfold dictL dictO; show _ :: (tabO _ _ _ [] ++ tabO _ _ _ []) = _; rw [tabO_nil, tabO_nil]; rfl
  have r0 : Rep wc [(d, fieldsO 113 M)] := Rep.cons hm.1 (Rep.nil _)
  have hnb : ¬ Bs ([] : Hl) d := fun hb => Bs.nil_iff.1 hb
  have h1 := Rep.setHead (cs := #[.int .u64 (wd M.seed), tv M.told M.old, tv M.tyoung M.young, .int .i64 M.at_, .int .i64 M.n]) r0 1 (.slice none 0 0) hnb
  have h2 := Rep.setHead h1 2 (.slice none 0 0) hnb
  have h3 := Rep.setHead h2 3 (.int .i64 0) hnb
  have h4 := Rep.setHead h3 4 (.int .i64 0) hnb
  refine ⟨⟨?_, ?_, (fun e he => by cases he), (clear_inv M).1, Nat.zero_le _, Nat.zero_le _⟩, ?_, fun k hk => ?_⟩
  · rw [e1, hW]
    refine Rep.cons ?_ (Rep.nil _)
    rw [h4.head]
    unfold fieldsO clearM
    simp [tv_nil]
  · rw [e1]; exact Nd.cons_iff.2 ⟨hnb, List.nodup_nil⟩
  · rw [hW]
    exact (((hm.2.thenSet _ _ (fun _ => in_d d M)).thenSet _ _ (fun _ => in_d d M)).thenSet _ _ (fun _ => in_d d M)).thenSet _ _ (fun _ => in_d d M)
  · rw [e1, Bs.cons_iff] at hk
    rcases hk with rfl | hk
    · exact .inl (in_d _ _)
    · exact absurd hk (fun hb => Bs.nil_iff.1 hb)
set_option maxRecDepth 100000 in
set_option maxHeartbeats 1000000 in
theorem clear_any (w : World) (d : Nat) (M : DM) (h : DAt w d M) :
    Calls Try.prog 77 #[.pointer (some ⟨d, 0, none⟩)] w fun e w' => e = .returned (.tuple #[]) ∧ Turn w d M w' (clearM M) := by
  have hnil : ∀ ty w, (Builtin.clear_ #[111] ty #[.slice none 0 0]).run Try.prog w = .ok (.tuple #[]) w := fun _ _ => by kernel_rfl
  have H := Lib.hid h
  clear h
  go_enter Try.func77, Try.ntmps77
  go_upto_region 1 with (fail)
  go_cut [] from 1 to 100 (fun wc => ClearMid1 w d M wc)
  case first =>
    obtain ⟨f0, f1, f2, f3, f4, f5⟩ := blk_field H.out.rep.head
    clear f0 f2 f3 f4 f5
    by_cases ho : M.old = []
    · rw [ho, tv_nil] at f1
      clear ho
      go_wp2
      go_meet
      case rel => exact clear_mid0 H.out
    · have hrun := fun ty => clear_run w M.told M.old ho (dict_row_old H.out.rep ho).1 ty
      rw [tv_of ho] at f1
      have HO := Lib.hid ho; clear ho
      go_wp2
      go_meet
      case rel => exact clear_mid1 H.out HO.out _ rfl
  case rest =>
    obtain ⟨we, rfl⟩ : ∃ we, we = wc := ⟨_, rfl⟩
    have HC := Lib.hid hcut
    clear hcut
    go_upto_region 2 with (fail)
    go_cut [] from 1 to 100 (fun wc => ClearMid2 w d M wc)
    case first =>
      obtain ⟨f0, f1, f2, f3, f4, f5⟩ := blk_field HC.out.1
      clear f0 f1 f3 f4 f5
      by_cases ho : M.young = []
      · rw [ho, tv_nil] at f2
        clear ho
        go_wp2
        go_meet
        case rel => exact ⟨HC.out.1, HC.out.2.2⟩
      · have hrun := fun ty => clear_run we M.tyoung M.young ho (HC.out.2.1 ho) ty
        rw [tv_of ho] at f2
        have HO := Lib.hid ho; clear ho
        go_wp2
        go_meet
        case rel => exact clear_mid2 H.out HC.out HO.out _ rfl
    case rest =>
      have HD := Lib.hid hcut
      obtain ⟨f0, f1, f2, f3, f4, f5⟩ := blk_field hcut.1
      clear hcut f0 HC
      go_wp2
      go_end0
      exact ⟨rfl, clear_end H.out HD.out _ rfl⟩
end Go.Proofs.Ytgomilodeaafdaa.Di
namespace Go.Proofs.Ytgomilodeaafdaa.Di
open Go.RowKit

theorem infoStr : (Try.prog.info? 9).map (fun i => (i.zero, i.size, i.bytes)) = some (some (.string ⟨#[]⟩), 1, 16) := by kernel_rfl
theorem bel_cell {w w' : World} (hb : Below w.heap.size w w') {a : Addr} {v : Value} (hc : w.cell? a = some v) : w'.cell? a = some v := (hb.cell (World.block_lt_of_cell? w a hc)).trans hc
/-- a chain in memory: each entry's key, and where it leads -/
def ChainAt (w : World) (c : List E) : Prop := ∀ pre x post, c = pre ++ x :: post → w.cell? ⟨x.b, 0, none⟩ = some (.string x.key) ∧ w.cell? ⟨x.b, 2, none⟩ = some (hp post)
theorem chain_of {w : World} {cs : List (List E)} {i : Nat} {c : List E} (h : Rep w (chainsO 178 cs)) (hc : cs[i]? = some c) (hz : ∀ e ∈ c, e.val.length = 1) : ChainAt w c := by
  intro pre x post he
  subst he
  have hm := mid_at h hc
  refine ⟨key_cell h hc, ?_⟩
  rw [cell_of_blk hm]
  match hv : x.val, hz x (by simp) with
  | [x0], _ => rfl
theorem ChainAt.below {w w' : World} {c : List E} (h : ChainAt w c) (hb : Below w.heap.size w w') : ChainAt w' c := fun pre x post he => ⟨bel_cell hb (h pre x post he).1, bel_cell hb (h pre x post he).2⟩
theorem one_str (l : List ByteArray) : ∀ u ∈ l.map Value.string, u.oneCell' = true := by
  intro u hu; obtain ⟨x, _, rfl⟩ := List.mem_map.1 hu; rfl
set_option maxRecDepth 100000 in
set_option maxHeartbeats 1000000 in
theorem bucket_any (w : World) (d : Nat) (M : DM) (table i : Int) (h : DAt w d M) (hn : M.n ≤ 4398046511104) :
    Calls Try.prog 92 #[.pointer (some ⟨d, 0, none⟩), .int .i64 table, .int .i64 i] w (SomeTexts w (bucketK M table i)) := by
  obtain ⟨i0, hi, hz0, hz1, hz2⟩ := info_parts infoStr
  have hnone : bucketK M table i = [] → SomeTexts w (bucketK M table i) (.returned (.slice none 0 0)) w := fun e => by
    rw [e]; exact ⟨_, rfl, World.ownsRow_nil _ _ _ _, Below.refl _ _⟩
  have HN := Lib.hid hnone; clear hnone
  by_cases ht : table = 0 ∨ table = 1
  case neg =>
    have g0 : (table == 0) = false := beq_eq_false_iff_ne.2 (fun e => ht (.inl e))
    have g1 : (table == 1) = false := beq_eq_false_iff_ne.2 (fun e => ht (.inr e))
    have g2 : (table != 0) = true := by rw [bne_iff_ne]; exact fun e => ht (.inl e)
    have g3 : (table != 1) = true := by rw [bne_iff_ne]; exact fun e => ht (.inr e)
    have g4 : ¬ table = 0 := fun e => ht (.inl e)
    have g5 : ¬ table = 1 := fun e => ht (.inr e)
    have hb : Hid (bucketK M table i = []) := by show _ = _; unfold bucketK; rw [if_neg (fun e => ht e.1)]
    clear h ht
    go_enter Try.func92, Try.ntmps92
    go_wp2
    go_ret
    exact HN.out hb.out
  case pos =>
    have g1 : (table == 1) = decide (table = 1) := by rw [Bool.eq_iff_iff]; simp
    have hpick : (if table = 0 then false else decide (table ≠ 1)) = false := by rcases ht with rfl | rfl <;> rfl
    obtain ⟨tb, htb⟩ : ∃ tb, tb = if table = 1 then M.tyoung else M.told := ⟨_, rfl⟩
    obtain ⟨cs, hcs⟩ : ∃ cs, cs = tabOf M table := ⟨_, rfl⟩
    have htab : TabN w tb cs := by
      rw [htb, hcs]; unfold tabOf
      split
      · exact tab_young h
      · exact tab_old h
    have hlen : cs.length ≤ 35184372088832 := by
      rw [hcs]; unfold tabOf
      split
      · exact h.lyoung
      · exact h.lold
    have hsz : ∀ c ∈ cs, c.length ≤ M.n ∧ ∀ e ∈ c, e.val.length = 1 := by
      intro c hc
      have hsub : ∀ e ∈ c, e ∈ entries M := by
        intro e he
        rw [hcs] at hc; unfold tabOf at hc
        split at hc
        · exact List.mem_append.2 (.inr (List.mem_flatten.2 ⟨c, hc, he⟩))
        · exact List.mem_append.2 (.inl (List.mem_flatten.2 ⟨c, hc, he⟩))
      refine ⟨?_, fun e he => (h.sz e (hsub e he)).1⟩
      rw [h.inv.count]
      unfold entries
      rw [List.length_append]
      rw [hcs] at hc; unfold tabOf at hc
      split at hc
      · have := (List.sublist_flatten_of_mem hc).length_le; omega
      · have := (List.sublist_flatten_of_mem hc).length_le; omega
    obtain ⟨f0, f1, f2, f3, f4, f5⟩ := blk_field h.rep.head
    have HSZ := Lib.hid hsz; clear hsz
    have HTAB := Lib.hid htab; clear htab
    have HTB := Lib.hid htb; clear htb
    have HCS := Lib.hid hcs; clear hcs
    have HT := Lib.hid ht
    have g4 : table = 0 ∨ table = 1 := ht
    clear f0 f3 f4 f5 h ht
    obtain ⟨a1, e1⟩ := len_tv w M.told M.old
    obtain ⟨a2, e2⟩ := len_tv w M.tyoung M.young
    rw [e1] at f1
    rw [e2] at f2
    have E1 := Lib.hid e1; clear e1
    have E2 := Lib.hid e2; clear e2
    have hsel : (table = 0 ∧ Hid (cs = M.old ∧ tb = M.told)) ∨ (table = 1 ∧ Hid (cs = M.young ∧ tb = M.tyoung)) := by
      rcases g4 with rfl | rfl
      · exact .inl ⟨rfl, by rw [HCS.out, HTB.out]; exact ⟨rfl, rfl⟩⟩
      · exact .inr ⟨rfl, by rw [HCS.out, HTB.out]; exact ⟨rfl, rfl⟩⟩
    clear g4 hpick g1
    by_cases hin : 0 ≤ i ∧ i < cs.length
    case neg =>
      have hb : Hid (bucketK M table i = []) := by
        show _ = _
        unfold bucketK
        by_cases h0 : 0 ≤ i
        · rw [← HCS.out, List.getElem?_eq_none (by omega)]; simp
        · rw [if_neg (fun e => h0 e.2)]
      have hor : i < 0 ∨ (0 ≤ i ∧ (cs.length : Int) ≤ i) := by omega
      clear hin
      rcases hsel with ⟨rfl, HS⟩ | ⟨rfl, HS⟩
      all_goals
        have hl := congrArg List.length HS.out.1
        rcases hor with h1 | ⟨h1, h2⟩
        all_goals
          try rw [hl] at h2
          clear hl
          go_enter Try.func92, Try.ntmps92
          go_wp2
          go_ret
          exact HN.out hb.out
    case pos =>
      obtain ⟨h0, h1⟩ := hin
      obtain ⟨k, rfl⟩ := Int.eq_ofNat_of_zero_le h0
      have hk : k < cs.length := by omega
      have hne : cs ≠ [] := by intro e; rw [e] at hk; simp at hk
      obtain ⟨c, hc⟩ : ∃ c, cs[k]? = some c := ⟨_, List.getElem?_eq_getElem hk⟩
      have htab2 := (HTAB.out hne).1
      have hrc := row_cell htab2.row k hk
      have hcc : cs[k] = c := by rw [List.getElem?_eq_getElem hk] at hc; exact Option.some.inj hc
      rw [hcc] at hrc
      have hch := chain_of htab2.chains hc (HSZ.out c (List.mem_of_getElem? hc)).2
      have hcl := (HSZ.out c (List.mem_of_getElem? hc)).1
      have hb : Hid (bucketK M table k = c.map E.key) := by
        show _ = _
        unfold bucketK
        rw [if_pos ⟨HT.out, h0⟩, ← HCS.out, Int.toNat_natCast, hc]; rfl
      have HCH := Lib.hid hch; clear hch
      have HC := Lib.hid hc; clear hc hcc
      have e1 := E1.out
      have e2 := E2.out
      clear htab2
      rcases hsel with ⟨rfl, HS⟩ | ⟨rfl, HS⟩
      all_goals
        obtain ⟨rfl, rfl⟩ := HS.out
        first
          | (rw [tv_of hne] at e1; cases e1)
          | (rw [tv_of hne] at e2; cases e2)
        clear HS hne
        go_enter Try.func92, Try.ntmps92
        go_wp2
        go_loopg [8, 9] c.length (fun n l e wr => ∃ pre post : List E, Hid (c = pre ++ post) ∧ Hid (post.length = n) ∧ e = hp post ∧ Hid (wr.ownsRow w.heap.size 9 1 l pre.length (pre.map fun x => .string x.key)) ∧ Hid (Below w.heap.size w wr))
        case atStart => exact ⟨[], c, rfl, rfl, rfl, World.ownsRow_nil _ _ _ _, Below.refl _ _⟩
        case round =>
          obtain ⟨pre, post, H1, H2, he, H3, H4⟩ := hrel
          cases post with
          | nil =>
            have he' : u9 = .pointer none := he
            subst he'
            clear he
            go_wp2
            go_ret
            refine ⟨_, rfl, ?_, H4.out⟩
            rw [hb.out, H1.out, List.append_nil, List.map_map, List.length_map]
            exact H3.out
          | cons x post =>
            have he' : u9 = .pointer (some ⟨x.b, 0, none⟩) := he
            subst he'
            clear he
            obtain ⟨g1, g2⟩ := HCH.out.below H4.out pre x post H1.out
            have hpl : pre.length + 1 ≤ M.n := by
              have := congrArg List.length H1.out
              simp at this
              omega
            obtain ⟨pr, hpr⟩ := nx_ptr post
            rw [hpr] at g2
            have HPR := Lib.hid hpr; clear hpr
            go_wp2_with (at_builtin; refine wpl_append rfl (.tmp 48) (.tmp 53) 39 rfl w.heap.size 9 i0 (.string ⟨#[]⟩) 1 16 Try.underlying39 hi hz0 hz1 hz2 rfl (by decide) _ pre.length _ rfl (H3.out.alloc _) _ 1 [.string x.key] rfl (RdC.of_owns (World.ownsRow_lit (e := 9) wr #[.string x.key] 1 (Nat.le_refl _) (by decide) rfl)) (by simp [Value.oneCell']) (by unfold maxLen; omega) (by omega) (by have := H4.out.size; simp; omega) ?_; intro v' w1 hown hgrow; have hbel1 : Below w.heap.size w w1 := (H4.out.alloc H4.out.size _).grown hgrow (by have := H4.out.size; simp; omega) (fun k e => (H3.out.lt k e).1); obtain ⟨g1, g2⟩ := HCH.out.below hbel1 pre x post H1.out; rw [HPR.out] at g2; have HO := Lib.hid hown; have HB := Lib.hid hbel1; clear hown hgrow hbel1)
            go_wp2
            go_roundg post.length
            case measure => have := H2.out; simp at this; omega
            case rel =>
              refine ⟨pre ++ [x], post, ?_, rfl, HPR.out.symm, ?_, HB⟩
              · show _ = _
                rw [H1.out]; simp
              · have := HO.out
                show World.ownsRow _ _ _ _ _ _ _
                simpa using this
end Go.Proofs.Ytgomilodeaafdaa.Di
namespace Go.Proofs.Ytgomilodeaafdaa.Di
open Go.RowKit

def sampV (M : DM) (r : Nat) : Value := if M.n = 0 then .tuple #[.string ⟨#[]⟩, .bool false] else .tuple #[.string (drawM M r), .bool true]
theorem sample_none (w : World) (d : Nat) (M : DM) (r : Int) (h : DAt w d M) (hn : M.n = 0) :
    Calls Try.prog 81 #[.pointer (some ⟨d, 0, none⟩), .int .u64 r] w fun e w' => e = .returned (.tuple #[.string ⟨#[]⟩, .bool false]) ∧ w = w' := by
  obtain ⟨f0, f1, f2, f3, f4, f5⟩ := blk_field h.rep.head
  rw [hn] at f4
  have f4' : w.cell? ⟨d, 4, none⟩ = some (.int .i64 0) := f4
  clear f0 f1 f2 f3 f4 f5 h hn
  go_enter Try.func81, Try.ntmps81
  go_wp2
  go_ret2
  exact ⟨rfl, rfl⟩
theorem old_of_n {M : DM} (h : Inv M) (hn : M.n ≠ 0) : M.old ≠ [] := by
  intro ho
  have hy : M.young = [] := by
    cases hy : M.young with
    | nil => rfl
    | cons a l => exact absurd ho (old_of_young h (by rw [hy]; simp))
  rw [h.count] at hn
  unfold entries at hn
  rw [ho, hy] at hn
  exact hn rfl
theorem opn_len (M : DM) : (opn M).length = M.old.length - M.at_ + M.young.length := by simp [opn]
theorem opn_old (M : DM) (i : Nat) (h : i < M.old.length - M.at_) : (opn M)[i]? = M.old[M.at_ + i]? := by
  unfold opn
  rw [List.getElem?_append_left (by simp; omega), List.getElem?_drop]
theorem opn_young (M : DM) (i : Nat) (h : ¬ i < M.old.length - M.at_) : (opn M)[i]? = M.young[i - (M.old.length - M.at_)]? := by
  unfold opn
  rw [List.getElem?_append_right (by simp; omega)]
  simp
theorem quot_rem (r T P : Nat) (hr : r < 18446744073709551616) : Value.int .u64 ((IntKind.u64.wrap ((r : Int) / (T : Int))).tmod P) = Value.int .u64 ((r / T % P : Nat) : Int) := by
  have h : r / T < 18446744073709551616 := Nat.lt_of_le_of_lt (Nat.div_le_self _ _) hr
  have e : ((r : Int) / (T : Int)) = ((r / T : Nat) : Int) := by rw [Int.natCast_ediv]
  rw [e]
  generalize r / T = q at *
  rw [IntKind.wrap_u64, Int.emod_eq_of_lt (by omega) (by omega)]
  rfl
set_option maxRecDepth 100000 in
set_option maxHeartbeats 2000000 in
theorem sample_some (w : World) (d : Nat) (M : DM) (r : Nat) (hr : r < 18446744073709551616) (h : DAt w d M) (hn : M.n ≠ 0) (hn2 : M.n ≤ 4398046511104) :
    Calls Try.prog 81 #[.pointer (some ⟨d, 0, none⟩), .int .u64 (r : Int)] w fun e w' => e = .returned (.tuple #[.string (drawM M r), .bool true]) ∧ ∃ m, w' = w.drewN m := by
  obtain ⟨f0, f1, f2, f3, f4, f5⟩ := blk_field h.rep.head
  have ho := old_of_n h.inv hn
  have hat : M.at_ < M.old.length := by
    by_cases hy : M.young = []
    · rw [h.inv.still hy]; exact List.length_pos_iff.2 ho
    · exact h.inv.moving hy
  have hlo := h.lold
  have hly := h.lyoung
  have hT := opn_len M
  obtain ⟨T, hTe⟩ : ∃ T, (opn M).length = T := ⟨_, rfl⟩
  rw [hTe] at hT
  have hTpos : 0 < T := by omega
  rw [tv_of ho] at f1
  obtain ⟨a2, e2⟩ := len_tv w M.tyoung M.young
  rw [e2] at f2
  have E2 := Lib.hid e2; clear e2
  have hn0 : ((M.n : Int) == 0) = false := beq_eq_false_iff_ne.2 (by omega)
  have hpick := pick_some (opn M) (r % T) (by rw [hTe]; exact Nat.mod_lt _ hTpos) (opn_some h.inv hn)
  rw [hTe] at hpick
  obtain ⟨B, hB⟩ : ∃ B, pick (opn M) T (r % T) = B := ⟨_, rfl⟩
  rw [hB] at hpick
  have hdraw : drawM M r = match B[r / T % B.length]? with | some e => e.key | none => ⟨#[]⟩ := by
    unfold drawM
    simp only
    rw [hTe, hB]
    rfl
  have hch : ∀ (i : Nat) (c : List E), (opn M)[i]? = some c → ChainAt w c ∧ c.length ≤ M.n := by
    intro i c hc
    have hsub : ∀ e ∈ c, e ∈ entries M := fun e he => by rw [← opn_flatten h.inv]; exact List.mem_flatten.2 ⟨c, List.mem_of_getElem? hc, he⟩
    have hz : ∀ e ∈ c, e.val.length = 1 := fun e he => (h.sz e (hsub e he)).1
    refine ⟨?_, ?_⟩
    · by_cases hi : i < M.old.length - M.at_
      · rw [opn_old M i hi] at hc
        exact chain_of (tab_old h ho).1.chains hc hz
      · rw [opn_young M i hi] at hc
        have hy : M.young ≠ [] := by intro e; rw [e] at hc; simp at hc
        exact chain_of (tab_young h hy).1.chains hc hz
    · rw [h.inv.count, ← opn_flatten h.inv]
      exact (List.sublist_flatten_of_mem (List.mem_of_getElem? hc)).length_le
  have hold : ∀ (i : Nat) (c : List E), i < M.old.length - M.at_ → (opn M)[i]? = some c → w.cell? ⟨M.told, M.at_ + i, none⟩ = some (hp c) := by
    intro i c hi hc
    rw [opn_old M i hi] at hc
    obtain ⟨hl, hcc⟩ := List.getElem?_eq_some_iff.1 hc
    rw [row_cell (tab_old h ho).1.row (M.at_ + i) hl, hcc]
  have hyng : ∀ (i : Nat) (c : List E), ¬ i < M.old.length - M.at_ → (opn M)[i]? = some c → a2 = some ⟨M.tyoung, 0, none⟩ ∧ w.cell? ⟨M.tyoung, i - (M.old.length - M.at_), none⟩ = some (hp c) := by
    intro i c hi hc
    rw [opn_young M i hi] at hc
    obtain ⟨hl, hcc⟩ := List.getElem?_eq_some_iff.1 hc
    have hy : M.young ≠ [] := by intro e; rw [e] at hl; simp at hl
    refine ⟨?_, by rw [row_cell (tab_young h hy).1.row _ hl, hcc]⟩
    have := E2.out
    rw [tv_of hy] at this
    cases this; rfl
  have HCH := Lib.hid hch; clear hch
  have HO := Lib.hid hold; clear hold
  have HY := Lib.hid hyng; clear hyng
  have HD := Lib.hid hdraw; clear hdraw
  have HB := Lib.hid hB; clear hB
  have HTe := Lib.hid hTe; clear hTe
  have g0 : (0 : Int) ≤ M.at_ := by omega
  have g1 : (M.at_ : Int) ≤ M.old.length := by omega
  have g2 : (M.at_ : Int) < M.old.length := by omega
  have g3 : (0 : Int) ≤ r := by omega
  have g4 : (r : Int) < 18446744073709551616 := by omega
  have HR := Lib.hid hr
  clear f0 f5 h
  go_enter Try.func81, Try.ntmps81
  go_wp2
  go_quiet (fail)
  go_wp2
  obtain ⟨L1, hL1⟩ : ∃ L1, M.old.length - M.at_ = L1 := ⟨_, rfl⟩
  have hs8 : ((r : Int) % ((L1 : Nat) + (M.young.length : Int))) = ((r % T : Nat) : Int) := by
    rw [hT, hL1, Int.natCast_emod, Int.natCast_add]
  have hs7 : ((L1 : Nat) : Int) + (M.young.length : Int) = (T : Int) := by omega
  rw [hL1] at HO HY hT ⊢
  rw [hs8, hs7]
  have hTle : T ≤ 70368744177664 := by omega
  have hL1T : L1 ≤ T := by omega
  have hL1o : M.at_ + L1 = M.old.length := by omega
  have HL1 := Lib.hid hL1
  have HTT := Lib.hid hT
  clear hL1 hT hs8 hs7 hr g4
  go_loopg [8] T (fun n i wr => wr = w.drewN nq ∧ ∃ k ii : Nat, Hid (k = n) ∧ i = .int .u64 ii ∧ ii < T ∧ Hid (pick (opn M) k ii = B))
  case atStart => exact ⟨rfl, T, r % T, rfl, rfl, Nat.mod_lt _ hTpos, HB⟩
  case round =>
    obtain ⟨rfl, k, ii, HK, rfl, hii, HP⟩ := hrel
    cases k with
    | zero => exact absurd HP.out (fun e => hpick e.symm)
    | succ k =>
      obtain ⟨c, hc⟩ : ∃ c, (opn M)[ii]? = some c := ⟨_, List.getElem?_eq_getElem (by rw [HTe.out]; exact hii)⟩
      obtain ⟨hcc, hcn⟩ := HCH.out ii c hc
      have HC := Lib.hid hc
      have HCC := Lib.hid hcc
      clear hcc
      by_cases hi : ii < L1
      ·
        have hcell := HO.out ii c hi hc
        clear hc
        cases c with
        | nil =>
          have hcell' : w.cell? ⟨M.told, M.at_ + ii, none⟩ = some (.pointer none) := hcell
          clear hcell
          go_wp2
          go_roundg k
          case measure => have := HK.out; omega
          case rel =>
            refine ⟨rfl, k, (ii + 1) % T, rfl, ?_, Nat.mod_lt _ hTpos, ?_⟩
            · rw [Int.natCast_emod, Int.natCast_add]; rfl
            · show _ = _
              rw [← HP.out]
              conv => rhs; unfold pick
              rw [HC.out, HTe.out]
        | cons e c =>
          have hcell' : w.cell? ⟨M.told, M.at_ + ii, none⟩ = some (.pointer (some ⟨e.b, 0, none⟩)) := hcell
          clear hcell
          have hBc : e :: c = B := by
            rw [← HP.out]
            unfold pick
            rw [HC.out]
          clear hpick
          subst hBc
          have hlen : c.length + 1 ≤ M.n := hcn
          go_wp2
          go_loopg [10, 11] (c.length + 1) (fun n l p wr => wr = w.drewN nq ∧ ∃ pre post : List E, Hid (e :: c = pre ++ post) ∧ Hid (post.length = n) ∧ l = .int .u64 pre.length ∧ p = hp post)
          case atStart => exact ⟨rfl, [], e :: c, rfl, rfl, rfl, rfl⟩
          case round =>
            obtain ⟨rfl, pre, post, H1, H2, rfl, hpp⟩ := hrel
            have hpl : pre.length + post.length = c.length + 1 := by have := congrArg List.length H1.out; simp at this; omega
            cases post with
            | nil =>
              have hpp' : u11 = .pointer none := hpp
              subst hpp'
              clear hpp
              obtain ⟨P, hP⟩ : ∃ P, pre.length = P := ⟨_, rfl⟩
              rw [hP] at hpl ⊢
              have hPc : P = c.length + 1 := by simpa using hpl
              have HPC := Lib.hid hPc
              have hPpos : 0 < P := by omega
              have hP1 : (1 : Int) ≤ P := by omega
              have hT1 : (1 : Int) ≤ T := by omega
              clear hP hPc hpl H1 H2
              go_wp2
              go_loopg [9, 12] (r / T % P) (fun n h q wr => wr = w.drewN nq ∧ ∃ (kk : Nat) (pre : List E) (x : E) (post : List E), Hid (kk = n) ∧ q = .int .u64 kk ∧ h = .pointer (some ⟨x.b, 0, none⟩) ∧ Hid (e :: c = pre ++ x :: post) ∧ Hid (pre.length + kk = r / T % P))
              case atStart => exact ⟨rfl, r / T % P, [], e, c, rfl, quot_rem r T P HR.out, rfl, rfl, by show _ = _; simp⟩
              case round =>
                obtain ⟨rfl, kk, pre2, x, post2, G1, rfl, rfl, G2, G3⟩ := hrel
                obtain ⟨q1, q2⟩ := HCC.out pre2 x post2 G2.out
                cases kk with
                | zero =>
                  clear q2
                  go_wp2
                  go_ret2
                  refine ⟨?_, nq, rfl⟩
                  have hB : (e :: c)[r / T % (e :: c).length]? = some x := by
                    have e1 : r / T % (e :: c).length = pre2.length := by
                      have := G3.out
                      rw [HPC.out] at this
                      simp only [List.length_cons]
                      omega
                    rw [e1, G2.out, List.getElem?_append_right (Nat.le_refl _), Nat.sub_self]; rfl
                  rw [HD.out, hB]
                  rfl
                | succ kk =>
                  have hlt : r / T % P < P := Nat.mod_lt _ hPpos
                  have hl2 : pre2.length + (post2.length + 1) = c.length + 1 := by have := congrArg List.length G2.out; simp at this; omega
                  cases post2 with
                  | nil => exfalso; have := G3.out; have := HPC.out; simp at hl2; omega
                  | cons y post2 =>
                    have q2' : w.cell? ⟨x.b, 2, none⟩ = some (.pointer (some ⟨y.b, 0, none⟩)) := q2
                    have hkb : (kk : Int) < 17592186044416 := by have := G3.out; have := HPC.out; omega
                    clear q2 hl2 hlt
                    go_wp2
                    go_roundg kk
                    case measure => have := G1.out; omega
                    case rel =>
                      refine ⟨rfl, kk, pre2 ++ [x], y, post2, rfl, by go_num, rfl, ?_, ?_⟩
                      · show _ = _
                        rw [G2.out]; simp
                      · show _ = _
                        have := G3.out
                        simp; omega
            | cons x post =>
              have hpp' : u11 = .pointer (some ⟨x.b, 0, none⟩) := hpp
              subst hpp'
              clear hpp
              obtain ⟨q1, q2⟩ := HCC.out pre x post H1.out
              obtain ⟨pr, hpr⟩ := nx_ptr post
              rw [hpr] at q2
              have HPR := Lib.hid hpr; clear hpr
              have hple : (pre.length : Int) < 17592186044416 := by simp at hpl; omega
              clear hpl
              go_wp2
              go_roundg post.length
              case measure => have := H2.out; simp at this; omega
              case rel =>
                refine ⟨rfl, pre ++ [x], post, ?_, rfl, by first | rfl | simp | go_num, HPR.out.symm⟩
                show _ = _
                rw [H1.out]; simp
      ·
        obtain ⟨ha2, hcell⟩ := HY.out ii c hi hc
        subst ha2
        obtain ⟨j, hj⟩ : ∃ j, ii - L1 = j := ⟨_, rfl⟩
        rw [hj] at hcell
        have hsub : (ii : Int) - (L1 : Int) = (j : Int) := by omega
        have hjl : j < M.young.length := by
          have := HTT.out
          omega
        have hjl' : (j : Int) < M.young.length := by omega
        have hge : (L1 : Int) ≤ ii := by omega
        have hdi : decide (ii < L1) = false := by simpa using hi
        have HJ := Lib.hid hj
        clear hj hi
        clear hc
        cases c with
        | nil =>
          have hcell' : w.cell? ⟨M.tyoung, j, none⟩ = some (.pointer none) := hcell
          clear hcell
          go_wp2
          go_roundg k
          case measure => have := HK.out; omega
          case rel =>
            refine ⟨rfl, k, (ii + 1) % T, rfl, ?_, Nat.mod_lt _ hTpos, ?_⟩
            · rw [Int.natCast_emod, Int.natCast_add]; rfl
            · show _ = _
              rw [← HP.out]
              conv => rhs; unfold pick
              rw [HC.out, HTe.out]
        | cons e c =>
          have hcell' : w.cell? ⟨M.tyoung, j, none⟩ = some (.pointer (some ⟨e.b, 0, none⟩)) := hcell
          clear hcell
          have hBc : e :: c = B := by
            rw [← HP.out]
            unfold pick
            rw [HC.out]
          clear hpick
          subst hBc
          have hlen : c.length + 1 ≤ M.n := hcn
          go_wp2
          go_loopg [10, 11] (c.length + 1) (fun n l p wr => wr = w.drewN nq ∧ ∃ pre post : List E, Hid (e :: c = pre ++ post) ∧ Hid (post.length = n) ∧ l = .int .u64 pre.length ∧ p = hp post)
          case atStart => exact ⟨rfl, [], e :: c, rfl, rfl, rfl, rfl⟩
          case round =>
            obtain ⟨rfl, pre, post, H1, H2, rfl, hpp⟩ := hrel
            have hpl : pre.length + post.length = c.length + 1 := by have := congrArg List.length H1.out; simp at this; omega
            cases post with
            | nil =>
              have hpp' : u11 = .pointer none := hpp
              subst hpp'
              clear hpp
              obtain ⟨P, hP⟩ : ∃ P, pre.length = P := ⟨_, rfl⟩
              rw [hP] at hpl ⊢
              have hPc : P = c.length + 1 := by simpa using hpl
              have HPC := Lib.hid hPc
              have hPpos : 0 < P := by omega
              have hP1 : (1 : Int) ≤ P := by omega
              have hT1 : (1 : Int) ≤ T := by omega
              clear hP hPc hpl H1 H2
              go_wp2
              go_loopg [9, 12] (r / T % P) (fun n h q wr => wr = w.drewN nq ∧ ∃ (kk : Nat) (pre : List E) (x : E) (post : List E), Hid (kk = n) ∧ q = .int .u64 kk ∧ h = .pointer (some ⟨x.b, 0, none⟩) ∧ Hid (e :: c = pre ++ x :: post) ∧ Hid (pre.length + kk = r / T % P))
              case atStart => exact ⟨rfl, r / T % P, [], e, c, rfl, quot_rem r T P HR.out, rfl, rfl, by show _ = _; simp⟩
              case round =>
                obtain ⟨rfl, kk, pre2, x, post2, G1, rfl, rfl, G2, G3⟩ := hrel
                obtain ⟨q1, q2⟩ := HCC.out pre2 x post2 G2.out
                cases kk with
                | zero =>
                  clear q2
                  go_wp2
                  go_ret2
                  refine ⟨?_, nq, rfl⟩
                  have hB : (e :: c)[r / T % (e :: c).length]? = some x := by
                    have e1 : r / T % (e :: c).length = pre2.length := by
                      have := G3.out
                      rw [HPC.out] at this
                      simp only [List.length_cons]
                      omega
                    rw [e1, G2.out, List.getElem?_append_right (Nat.le_refl _), Nat.sub_self]; rfl
                  rw [HD.out, hB]
                  rfl
                | succ kk =>
                  have hlt : r / T % P < P := Nat.mod_lt _ hPpos
                  have hl2 : pre2.length + (post2.length + 1) = c.length + 1 := by have := congrArg List.length G2.out; simp at this; omega
                  cases post2 with
                  | nil => exfalso; have := G3.out; have := HPC.out; simp at hl2; omega
                  | cons y post2 =>
                    have q2' : w.cell? ⟨x.b, 2, none⟩ = some (.pointer (some ⟨y.b, 0, none⟩)) := q2
                    have hkb : (kk : Int) < 17592186044416 := by have := G3.out; have := HPC.out; omega
                    clear q2 hl2 hlt
                    go_wp2
                    go_roundg kk
                    case measure => have := G1.out; omega
                    case rel =>
                      refine ⟨rfl, kk, pre2 ++ [x], y, post2, rfl, by go_num, rfl, ?_, ?_⟩
                      · show _ = _
                        rw [G2.out]; simp
                      · show _ = _
                        have := G3.out
                        simp; omega
            | cons x post =>
              have hpp' : u11 = .pointer (some ⟨x.b, 0, none⟩) := hpp
              subst hpp'
              clear hpp
              obtain ⟨q1, q2⟩ := HCC.out pre x post H1.out
              obtain ⟨pr, hpr⟩ := nx_ptr post
              rw [hpr] at q2
              have HPR := Lib.hid hpr; clear hpr
              have hple : (pre.length : Int) < 17592186044416 := by simp at hpl; omega
              clear hpl
              go_wp2
              go_roundg post.length
              case measure => have := H2.out; simp at this; omega
              case rel =>
                refine ⟨rfl, pre ++ [x], post, ?_, rfl, by first | rfl | simp | go_num, HPR.out.symm⟩
                show _ = _
                rw [H1.out]; simp
theorem sample_any (w : World) (d : Nat) (M : DM) (r : Nat) (hr : r < 18446744073709551616) (h : DAt w d M) (hn2 : M.n ≤ 4398046511104) :
    Calls Try.prog 81 #[.pointer (some ⟨d, 0, none⟩), .int .u64 (r : Int)] w fun e w' => e = .returned (sampV M r) ∧ ∃ m, w' = w.drewN m := by
  unfold sampV
  by_cases hn : M.n = 0
  · rw [if_pos hn]
    exact (sample_none w d M r h hn).mono fun _ _ ⟨h1, h2⟩ => ⟨h1, 0, h2 ▸ rfl⟩
  · rw [if_neg hn]
    exact sample_some w d M r hr h hn hn2
end Go.Proofs.Ytgomilodeaafdaa.Di
namespace Go.Proofs.Ytgomilodeaafdaa.Di
open Go.RowKit
def vl (x : Int) : List Value := [.int .i64 x]
abbrev Ls := List (ByteArray × Int)
theorem new_dat (w : World) (seed : UInt64) : DAt (w.alloc (fieldsO 113 ⟨seed, 0, [], 0, [], 0, 0⟩)) w.heap.size ⟨seed, 0, [], 0, [], 0, 0⟩ ∧
    ∀ k, Bs (dictL w.heap.size ⟨seed, 0, [], 0, [], 0, 0⟩) k → k = w.heap.size := by
  have e1 : dictL w.heap.size ⟨seed, 0, [], 0, [], 0, 0⟩ = [(w.heap.size, fieldsO 113 ⟨seed, 0, [], 0, [], 0, 0⟩)] := by unfold dictL dictO; rw [tabO_nil]; rfl
  refine ⟨⟨?_, ?_, (fun e he => by cases he), inv_new seed, Nat.zero_le _, Nat.zero_le _⟩, fun k hk => ?_⟩
  · rw [e1]; exact Rep.cons (alloc_at _ _) (Rep.nil _)
  · rw [e1]; exact Nd.cons_iff.2 ⟨fun hb => Bs.nil_iff.1 hb, List.nodup_nil⟩
  · rw [e1, Bs.cons_iff] at hk
    rcases hk with h | h
    · exact h
    · exact absurd h (fun hb => Bs.nil_iff.1 hb)
theorem new_G (w : World) (seed : UInt64) : Calls Try.prog 15 #[.int .u64 (wd seed)] w fun e w' =>
    e = .returned (.pointer (some ⟨w.heap.size, 0, none⟩)) ∧ DAt w' w.heap.size ⟨seed, 0, [], 0, [], 0, 0⟩ ∧ (∀ k, Bs (dictL w.heap.size ⟨seed, 0, [], 0, [], 0, 0⟩) k → k = w.heap.size) ∧ w' = w.alloc (fieldsO 113 ⟨seed, 0, [], 0, [], 0, 0⟩) := by
  obtain ⟨D0, B0⟩ := new_dat w seed
  refine (new_any seed w).mono fun e w' ⟨h1, h2⟩ => ?_
  subst h2
  exact ⟨h1, D0, B0, rfl⟩
variable (w : World) (d : Nat) (M : DM) (L : Ls) (key : ByteArray)
theorem set_G (x : Int) (hs : key.size ≤ maxLen) (h : DAt w d M) (hl : LikeG vl M L) (hn : L.length < 17592186044416) :
    Calls Try.prog 71 #[.pointer (some ⟨d, 0, none⟩), .string key, .int .i64 x] w fun e w' => e = .returned (.bool (fdG key L).isNone) ∧ ∃ t b, Turn w d M w' (setM M key (vl x) t b) ∧ LikeG vl (setM M key (vl x) t b) (setG L key x) := by
  refine (set_any w d M key x hs h (by rw [hl.count]; exact hn)).mono fun e w' ⟨h1, t, b, h2⟩ => ⟨?_, t, b, h2, hl.set key x t b⟩
  rw [h1, hl.has]
  cases fdG key L <;> rfl
theorem del_G (hs : key.size ≤ maxLen) (h : DAt w d M) (hl : LikeG vl M L) (hn : L.length < 17592186044416) :
    Calls Try.prog 75 #[.pointer (some ⟨d, 0, none⟩), .string key] w fun e w' => e = .returned (.bool (fdG key L).isSome) ∧ ∃ t, Turn w d M w' (delM M key t) ∧ LikeG vl (delM M key t) (delG L key) :=
  (del_any w d M key hs h (by rw [hl.count]; exact hn)).mono fun e w' ⟨h1, t, h2⟩ => ⟨by rw [h1, hl.has], t, h2, hl.delete key t⟩
/-- what lies under a key -/
def valG (L : Ls) (key : ByteArray) : Value := match fdG key L with
  | some i => match L[i]? with
    | some y => (fun x : Int => .int .i64 x) y.2
    | none => zV
  | none => zV
theorem got_G {M : DM} {L : Ls} (hl : LikeG vl M L) (key : ByteArray) : gotV (getM (stepM M) key) = .tuple #[valG L key, .bool (fdG key L).isSome] := by
  unfold valG
  cases ha : fdG key L with
  | none => rw [hl.step.get_none ha]; rfl
  | some i =>
    obtain ⟨x, hx⟩ := fdG_some ha
    rw [hl.step.get_some hx]
    simp only [hx]
    rfl
theorem get_G (hs : key.size ≤ maxLen) (h : DAt w d M) (hl : LikeG vl M L) :
    Calls Try.prog 73 #[.pointer (some ⟨d, 0, none⟩), .string key] w fun e w' => e = .returned (.tuple #[valG L key, .bool (fdG key L).isSome]) ∧ Turn w d M w' (stepM M) ∧ LikeG vl (stepM M) L :=
  (get_turn w d M key hs h).mono fun e w' ⟨h1, h2⟩ => ⟨by rw [h1, got_G hl], h2, hl.step⟩
theorem len_G (n : Int) (h : DAt w d M) (hl : LikeG vl M L) (hn : L.length < 17592186044416) (he : (L.length : Int) = n) :
    Calls Try.prog 78 #[.pointer (some ⟨d, 0, none⟩)] w fun e w' => e = .returned (.int .i64 n) ∧ w = w' :=
  (len_any w d M h (by rw [hl.count]; omega)).mono fun e w' ⟨h1, h2⟩ => ⟨by rw [h1, hl.count, he], h2⟩
theorem Turn.seed_step {M : DM} : (stepM M).seed = M.seed := (step_lens M).2.2.1
end Go.Proofs.Ytgomilodeaafdaa.Di
namespace Go.Proofs.Ytgomilodeaafdaa.Di
open Go.RowKit Go.Shelf
attribute [local go_sem] Oper.semAt_some
theorem DAt.keep {A B : World} {d : Nat} {M : DM} (h : DAt A d M) (hk : Keep (fun k _ => Bs (dictL d M) k) A B) : DAt B d M :=
  ⟨rep_keep h.rep hk, h.nd, h.sz, h.inv, h.lold, h.lyoung⟩
def bkE (c : List E) : Array Value := #[hp c]
set_option maxRecDepth 100000 in
theorem all_in (F : Fence) (n : Nat) (hF : F.fn 152) (hro : F.round = none) (d : Nat) (w : World) :
    CallsIn F n Try.prog 152 #[.pointer (some ⟨d, 0, none⟩)] w fun e w' => e = .returned (.func (.func 187) #[] #[.pointer (some ⟨w.heap.size, 0, none⟩)]) ∧ w' = w.alloc (.cells #[.pointer (some ⟨d, 0, none⟩)] 24) := by
  refine callsIn_of_wp Try.func152 rfl hF ?_ hro
  simp only [Try.ntmps152, List.size_toArray, List.length_cons, List.length_nil, Nat.reduceAdd, Nat.reduceSub, Array.replicate_succ, Array.replicate_zero, List.push_toArray, List.append_toArray, List.nil_append, List.cons_append]
  gi_wp2
  go_ret
  exact ⟨rfl, rfl⟩
/-- what the iterator keeps in sight -/
structure Al (d Bd : Nat) (M : DM) (W : World) : Prop where
  dat : DAt W d M
  box : W.heap[Bd]? = some (.cells #[ptr d] 24 (0, 0))
theorem Al.keep {A B : World} {d Bd : Nat} {M : DM} (h : Al d Bd M A) (hk : Keep (fun k _ => k = Bd ∨ Bs (dictL d M) k) A B) : Al d Bd M B :=
  ⟨h.dat.keep (hk.mono fun _ _ h => .inr h), hk Bd _ _ _ (.inl rfl) h.box⟩
set_option maxRecDepth 100000 in
set_option maxHeartbeats 4000000 in
theorem all1_in (F : Fence) (n : Nat) (hF : F.fn 187) (hro : F.round = none) (hn : 1 ≤ n) (l Bd d : Nat) (M : DM) (Kp : World → World → Prop)
    (hKp : ∀ A B, Kp A B → Keep (fun k _ => k = Bd ∨ Bs (dictL d M) k) A B) (J Jx : List (List E) → World → Prop)
    (hdr : ∀ pre W m, J pre W → J pre (W.drewN m))
    (hY : ∀ pre x W, J pre W → pre ++ [x] <+: opn M → YieldAt F (n - 1) Try.prog l (bkE x) W fun e W' =>
      (e = .returned (.bool true) ∧ J (pre ++ [x]) W' ∧ Kp W W') ∨ (e = .returned (.bool false) ∧ Jx (pre ++ [x]) W' ∧ Late 0 W W'))
    (W : World) (hA : Al d Bd M W) (h0 : J [] W) :
    CallsIn F n Try.prog 187 #[.func (.yield l) #[] #[], .pointer (some ⟨Bd, 0, none⟩)] W fun e W' => (∃ v, e = .returned v) ∧
      ((∃ xs, xs = opn M ∧ J xs W') ∨ (∃ pre, pre <+: opn M ∧ Jx pre W')) := by
  have HA := Lib.hid hA
  cases F
  dsimp only at hro
  subst hro
  obtain ⟨f0, f1, f2, f3, f4, f5⟩ := blk_field hA.dat.rep.head
  have hcb : W.cell? ⟨Bd, 0, none⟩ = some (.pointer (some ⟨d, 0, none⟩)) := by rw [cell_of_blk hA.box]; rfl
  have hlo := hA.dat.lold
  have hly := hA.dat.lyoung
  by_cases ho : M.old = []
  · have hy : M.young = [] := by
      by_cases hy : M.young = []
      · exact hy
      · have := hA.dat.inv.moving hy
        rw [ho] at this; simp at this
    have hat := hA.dat.inv.still hy
    have hop : opn M = [] := by unfold opn; rw [ho, hy]; simp
    rw [ho, tv_nil] at f1
    rw [hy, tv_nil] at f2
    rw [hat] at f3
    have f3' : W.cell? ⟨d, 3, none⟩ = some (.int .i64 0) := f3
    have HOP := Lib.hid hop
    have HDR := Lib.hid hdr
    have HJ0 := Lib.hid h0
    clear f0 f3 f4 f5 hA hKp hdr h0 ho hy hat hop
    refine callsIn_of_wp Try.func187 rfl hF ?_ rfl
    simp only [Try.ntmps187, List.size_toArray, List.length_cons, List.length_nil, Nat.reduceAdd, Nat.reduceSub, Array.replicate_succ, Array.replicate_zero, List.push_toArray, List.append_toArray, List.nil_append, List.cons_append]
    gi_wp2
    gi_quiet (fail)
    gi_wp2
    gi_loopw [17] (fun i wr => i = .int .i64 0 ∧ Hid (wr = W.drewN nq)) (fun _ _ => 0)
    case atStart => exact ⟨rfl, (show _ = _ from rfl)⟩
    case round =>
      obtain ⟨rfl, HW⟩ := hrel
      have c1 : wr.cell? ⟨Bd, 0, none⟩ = some (.pointer (some ⟨d, 0, none⟩)) := by rw [HW.out]; exact hcb
      have c2 : wr.cell? ⟨d, 2, none⟩ = some (.slice none 0 0) := by rw [HW.out]; exact f2
      gi_wp2
      gi_loopw [31] (fun i wq => i = .int .i64 0 ∧ Hid (wq = W.drewN nq)) (fun _ _ => 0)
      case atStart => exact ⟨rfl, HW⟩
      case round =>
        obtain ⟨rfl, HW2⟩ := hrel
        gi_wp2
        go_end0
        exact ⟨⟨_, rfl⟩, .inl ⟨[], HOP.out.symm, by rw [HW2.out]; exact HDR.out _ _ _ HJ0.out⟩⟩
  · have hat : M.at_ < M.old.length := by
      by_cases hy : M.young = []
      · rw [hA.dat.inv.still hy]; exact List.length_pos_iff.2 ho
      · exact hA.dat.inv.moving hy
    rw [tv_of ho] at f1
    have HKP := Lib.hid hKp
    have HDR := Lib.hid hdr
    have HO := Lib.hid ho
    have HF5 := Lib.hid f5
    have HJ0 := Lib.hid h0
    have g0 : (0 : Int) ≤ M.at_ := by omega
    have g1 : (M.at_ : Int) ≤ M.old.length := by omega
    have g2 : (M.at_ : Int) < M.old.length := by omega
    clear f0 f4 f5 hA hKp hdr h0 ho
    refine callsIn_of_wp Try.func187 rfl hF ?_ rfl
    simp only [Try.ntmps187, List.size_toArray, List.length_cons, List.length_nil, Nat.reduceAdd, Nat.reduceSub, Array.replicate_succ, Array.replicate_zero, List.push_toArray, List.append_toArray, List.nil_append, List.cons_append]
    gi_wp2
    gi_quiet (fail)
    gi_wp2
    have HJ1 := Lib.hid (HDR.out _ _ nq HJ0.out)
    have HA1 : Hid (Al d Bd M (W.drewN nq)) := HA.out.keep (fun _ _ _ _ _ h => h)
    have hlen := opn_len M
    obtain ⟨L1, hL1⟩ : ∃ L1, M.old.length - M.at_ = L1 := ⟨_, rfl⟩
    rw [hL1] at hlen ⊢
    have hL1' : M.at_ + L1 = M.old.length := by omega
    have hL1b : L1 ≤ 35184372088832 := by omega
    have HL1 := Lib.hid hL1
    have HL1' := Lib.hid hL1'
    have HLEN := Lib.hid hlen
    clear hL1 hL1' hlen
    have HCO : Hid (∀ (V : World) (k : Nat) (hk : k < L1), Al d Bd M V → ∃ c : List E, V.cell? ⟨M.told, M.at_ + k, none⟩ = some (hp c) ∧ (opn M)[k]? = some c) := by
      intro V k hk hv
      have hc := opn_old M k (by rw [HL1.out]; exact hk)
      have hlt : M.at_ + k < M.old.length := by have := HL1'.out; omega
      rw [List.getElem?_eq_getElem hlt] at hc
      refine ⟨M.old[M.at_ + k], ?_, hc⟩
      exact row_cell (tab_old hv.dat HO.out).1.row (M.at_ + k) hlt
    have HYO := Lib.hid hY
    clear HJ0 HA f1 f2 f3 hcb hY
    gi_loopw [4, 17] (fun _ i wr => ∃ (k : Nat) (pre : List (List E)), i = .int .i64 k ∧ k ≤ L1 ∧ Hid (pre = (opn M).take k) ∧ Hid (Al d Bd M wr) ∧ Hid (J pre wr)) (fun _ i _ => L1 - (intOf i).toNat)
    case atStart => exact ⟨0, [], rfl, by omega, (show _ = _ from rfl), HA1.out, HJ1.out⟩
    case round =>
      obtain ⟨k, pre, rfl, hk, HPR, HA2, HJ2⟩ := hrel
      clear HA1 HJ1
      by_cases hlt : k < L1
      · obtain ⟨x, hc, hx⟩ := HCO.out wr k hlt HA2.out
        have HPR2 : Hid (pre ++ [x] = (opn M).take (k + 1)) := by
          show _ = _
          rw [HPR.out, List.take_add_one, hx]
          rfl
        obtain ⟨fn, tmps, assign, body, hy, hR⟩ := HYO.out pre x wr HJ2.out (by rw [HPR2.out]; exact List.take_prefix _ _)
        dsimp only [bkE] at hy
        obtain ⟨v, hv⟩ : ∃ v, hp x = v := ⟨_, rfl⟩
        rw [hv] at hc hy
        have HR := Lib.hid hR
        have b0 : (0 : Int) ≤ (k : Int) := by omega
        have b1 : (k : Int) < (L1 : Int) := by omega
        clear hR hv hx
        gi_wp2
        refine HR.out.mono ?_
        rintro e W3 (⟨rfl, hJ3, hk3⟩ | ⟨rfl, hJx3, -⟩)
        · have HA3 := Lib.hid (HA2.out.keep (HKP.out _ _ hk3))
          have HJ3 := Lib.hid hJ3
          clear hJ3 hk3
          gi_wp2
          go_roundw
          case rel => exact ⟨k + 1, pre ++ [x], by go_num, by omega, HPR2, HA3, HJ3⟩
          case measure => simp [intOf]; omega
        · have HJ3 := Lib.hid hJx3
          clear hJx3
          gi_wp2
          refine bodyPost_ret (results_none rfl _ _ _) rfl ?_
          exact ⟨⟨_, rfl⟩, .inr ⟨pre ++ [x], by rw [HPR2.out]; exact List.take_prefix _ _, HJ3.out⟩⟩
      · obtain rfl : k = L1 := by omega
        obtain ⟨wo, rfl⟩ : ∃ wo, wo = wr := ⟨_, rfl⟩
        obtain ⟨f0, f1, f2, f3, f4, f5⟩ := blk_field HA2.out.dat.rep.head
        have hcb : wo.cell? ⟨Bd, 0, none⟩ = some (.pointer (some ⟨d, 0, none⟩)) := by rw [cell_of_blk HA2.out.box]; rfl
        obtain ⟨a2, e2⟩ := len_tv wo M.tyoung M.young
        rw [e2] at f2
        have HYC : Hid (∀ (V : World) (j : Nat) (hj : j < M.young.length), Al d Bd M V → ∃ c : List E, a2 = some ⟨M.tyoung, 0, none⟩ ∧ V.cell? ⟨M.tyoung, j, none⟩ = some (hp c) ∧ (opn M)[k + j]? = some c) := by
          intro V j hj hv
          have hy : M.young ≠ [] := by intro e; rw [e] at hj; simp at hj
          have hc := opn_young M (k + j) (by rw [HL1.out]; omega)
          rw [HL1.out, Nat.add_sub_cancel_left, List.getElem?_eq_getElem hj] at hc
          refine ⟨M.young[j], ?_, row_cell (tab_young hv.dat hy).1.row j hj, hc⟩
          rw [tv_of hy] at e2
          cases e2; rfl
        clear f0 f1 f3 f4 f5 e2
        gi_wp2
        clear hcb f2
        gi_loopw [6, 31] (fun _ i wr => ∃ (j : Nat) (pre : List (List E)), i = .int .i64 j ∧ j ≤ M.young.length ∧ Hid (pre = (opn M).take (k + j)) ∧ Hid (Al d Bd M wr) ∧ Hid (J pre wr)) (fun _ i _ => M.young.length - (intOf i).toNat)
        case atStart => exact ⟨0, pre, rfl, by omega, HPR.out, HA2.out, HJ2.out⟩
        case round =>
          obtain ⟨j, pre2, rfl, hj, HPR3, HA3, HJ3⟩ := hrel
          clear HPR HA2 HJ2
          by_cases hlt2 : j < M.young.length
          · obtain ⟨x, rfl, hc, hx⟩ := HYC.out wr j hlt2 HA3.out
            have HPR4 : Hid (pre2 ++ [x] = (opn M).take (k + (j + 1))) := by
              show _ = _
              rw [HPR3.out, ← Nat.add_assoc, List.take_add_one, hx]
              rfl
            obtain ⟨fn, tmps, assign, body, hy, hR⟩ := HYO.out pre2 x wr HJ3.out (by rw [HPR4.out]; exact List.take_prefix _ _)
            dsimp only [bkE] at hy
            obtain ⟨v, hv⟩ : ∃ v, hp x = v := ⟨_, rfl⟩
            rw [hv] at hc hy
            have HR := Lib.hid hR
            have b0 : (0 : Int) ≤ (j : Int) := by omega
            have b1 : (j : Int) < (M.young.length : Int) := by omega
            clear hR hv hx
            gi_wp2
            refine HR.out.mono ?_
            rintro e W3 (⟨rfl, hJ4, hk4⟩ | ⟨rfl, hJx4, -⟩)
            · have HA4 := Lib.hid (HA3.out.keep (HKP.out _ _ hk4))
              have HJ4 := Lib.hid hJ4
              clear hJ4 hk4
              gi_wp2
              go_roundw
              case rel => exact ⟨j + 1, pre2 ++ [x], by go_num, by omega, HPR4, HA4, HJ4⟩
              case measure => simp [intOf]; omega
            · have HJ4 := Lib.hid hJx4
              clear hJx4
              gi_wp2
              refine bodyPost_ret (results_none rfl _ _ _) rfl ?_
              exact ⟨⟨_, rfl⟩, .inr ⟨pre2 ++ [x], by rw [HPR4.out]; exact List.take_prefix _ _, HJ4.out⟩⟩
          · obtain rfl : j = M.young.length := by omega
            gi_wp2
            go_end0
            exact ⟨⟨_, rfl⟩, .inl ⟨pre2, by rw [HPR3.out, List.take_of_length_le (by rw [HLEN.out]; exact Nat.le_refl _)], HJ3.out⟩⟩
theorem all1_stops (F : Fence) (n : Nat) (hF : F.fn 187) (hro : F.round = none) (hn : 1 ≤ n) (Bd d : Nat) (M : DM) (Kp : World → World → Prop)
    (hKp : ∀ A B, Kp A B → Keep (fun k _ => k = Bd ∨ Bs (dictL d M) k) A B) (w : World) (hA : Al d Bd M w) :
    SeqV F n Try.prog 187 #[.pointer (some ⟨Bd, 0, none⟩)] bkE Kp (fun pre => pre <+: opn M) (fun xs => xs = opn M) (fun pre => pre <+: opn M) w := fun l J Jx W hW hJ _ hY h0 =>
  all1_in F n hF hro hn l Bd d M Kp hKp J Jx (fun pre A m h => hJ pre A _ none h ⟨rfl, rfl, rfl, Nat.le_refl _, fun _ _ _ => rfl⟩ (fun r e => by cases e)) hY W
    (hA.keep fun k cs t m hk h => (hW.block k (Array.getElem?_eq_some_iff.1 h).1).trans h) h0
end Go.Proofs.Ytgomilodeaafdaa.Di
namespace Go.Proofs.Ytgomilodeaafdaa.Di
open Go.RowKit Go.Shelf
attribute [local go_sem] Oper.semAt_some
def etE (e : E) : Array Value := #[.string e.key, (fun l : List Value => l.headD undef) e.val]
/-- the iterator's own memory: keys and values gathered so far -/
structure Eb (W0 : World) (v1 v2 : Value) (ks : List ByteArray) (es : List E) (W : World) : Prop where
  b1 : Boxed W W0.heap.size 39 v1
  b2 : Boxed W (W0.heap.size + 1) 106 v2
  r1 : W.ownsRow W0.heap.size 9 1 v1 ks.length (ks.map .string)
  r2 : W.ownsRow W0.heap.size 3 1 v2 es.length (es.flatMap E.val)
  ap : ∀ g, v1.ownBlock = some g → v2.ownBlock ≠ some g
  fr : Fr (fun _ => False) W0 W
theorem own_blk {W : World} {B0 : Nat} {e : TypeId} {size : Nat} {v : Value} {n : Nat} {xs : List Value} (h : W.ownsRow B0 e size v n xs) {g : Nat} (hg : v.ownBlock = some g) : B0 ≤ g ∧ g < W.heap.size ∧ ∃ cs, W.heap[g]? = some (.cells cs e (0, 0)) := by
  rcases h with ⟨h1, ⟨rfl, _⟩ | ⟨g', cap, cur, rfl, hb, hgg, hnc, hcm, hcs, htake⟩⟩
  · cases hg
  · cases hg
    exact ⟨hb, (Array.getElem?_eq_some_iff.1 hgg).1, _, hgg⟩
theorem own_same {A B : World} {B0 : Nat} {e : TypeId} {size : Nat} {v : Value} {n : Nat} {xs : List Value} (h : A.ownsRow B0 e size v n xs) (hk : ∀ g, v.ownBlock = some g → B.heap[g]? = A.heap[g]?) : B.ownsRow B0 e size v n xs := by
  rcases h with ⟨h1, h2 | ⟨g, cap, cur, rfl, hb, hgg, hnc, hcm, hcs, htake⟩⟩
  · exact ⟨h1, .inl h2⟩
  · exact ⟨h1, .inr ⟨g, cap, cur, rfl, hb, (hk g rfl).trans hgg, hnc, hcm, hcs, htake⟩⟩
theorem Eb.turn {W0 A B : World} {v1 v2 : Value} {ks : List ByteArray} {es : List E} (h : Eb W0 v1 v2 ks es A) {row : Option Nat} (hg : A.grownBy B row) (hr : ∀ r, row = some r → W0.heap.size ≤ r ∧ ∃ o : Obj, A.heap[r]? = some o ∧ o.isCells = false) : Eb W0 v1 v2 ks es B := by
  have hne : ∀ k cs t m, A.heap[k]? = some (.cells cs t m) → some k ≠ row := by
    intro k cs t m hk e
    obtain ⟨_, o, ho, hc⟩ := hr k e.symm
    rw [hk] at ho
    cases ho
    cases hc
  have own : ∀ {e : TypeId} {size : Nat} {v : Value} {n : Nat} {xs : List Value}, A.ownsRow W0.heap.size e size v n xs → B.ownsRow W0.heap.size e size v n xs := by
    intro e size v n xs h
    refine own_same h fun g hgv => ?_
    obtain ⟨_, hl, cs, hc⟩ := own_blk h hgv
    exact hg.block g hl (hne g _ _ _ hc)
  exact ⟨h.b1.kept hg (hne _ _ _ _ h.b1), h.b2.kept hg (hne _ _ _ _ h.b2), own h.r1, own h.r2, h.ap, h.fr.wide (Fr.of_grownBy hg) (fun i hi => .inr (hr i hi).1)⟩
theorem Eb.quiet {W0 A B : World} {v1 v2 : Value} {ks : List ByteArray} {es : List E} (h : Eb W0 v1 v2 ks es A) (hf : Fr (fun _ => False) A B) : Eb W0 v1 v2 ks es B :=
  h.turn (row := none) ⟨hf.os, hf.tape, hf.output, hf.size, fun k hk _ => hf.block k hk (fun h => h)⟩ (fun r e => by cases e)
/-- what gathering may write -/
def Wr (W0 : World) (v1 v2 : Value) (k : Nat) : Prop := k = W0.heap.size ∨ k = W0.heap.size + 1 ∨ v1.ownBlock = some k ∨ v2.ownBlock = some k
theorem Eb.app1 {W0 A A1 w' : World} {v1 v2 v' : Value} {ks : List ByteArray} {es : List E} {key : ByteArray} (h : Eb W0 v1 v2 ks es A) (hA : Fr (fun _ => False) A A1)
    (hr : w'.ownsRow W0.heap.size 9 1 v' (ks.length + 1) (ks.map .string ++ [.string key])) (hg : A1.grownBy w' v1.ownBlock) (ho : v'.ownBlock = v1.ownBlock ∨ v'.ownBlock = some A1.heap.size) :
    Eb W0 v' v2 (ks ++ [key]) es (w'.setCell ⟨W0.heap.size, 0, none⟩ v') ∧ Fr (Wr W0 v1 v2) A (w'.setCell ⟨W0.heap.size, 0, none⟩ v') ∧ w'.cell? ⟨W0.heap.size, 0, none⟩ = some v1 ∧ w'.frozen? ⟨W0.heap.size, 0, none⟩ = false := by
  have h1 := h.quiet hA
  have hb1 : Boxed w' W0.heap.size 39 v1 := h1.b1.kept hg (h1.b1.not_row (by decide) h1.r1)
  have hb2 : Boxed w' (W0.heap.size + 1) 106 v2 := h1.b2.kept hg (h1.b2.not_row (by decide) h1.r1)
  have hgf := Fr.of_grownBy hg
  have hr2 : w'.ownsRow W0.heap.size 3 1 v2 es.length (es.flatMap E.val) := by
    refine own_same h1.r2 fun g hgv => hg.block g (own_blk h1.r2 hgv).2.1 (fun e => ?_)
    exact h.ap g e.symm hgv
  have hset := Fr.setCell w' ⟨W0.heap.size, 0, none⟩ v'
  have hne : ∀ {e : TypeId} {size : Nat} {v : Value} {n : Nat} {xs : List Value}, w'.ownsRow W0.heap.size e size v n xs → 39 ≠ e → ∀ g, v.ownBlock = some g → g ≠ W0.heap.size := fun hrow hte g hgv e => hb1.not_row hte hrow (by rw [← e]; exact hgv.symm)
  have hsz : W0.heap.size + 1 < A1.heap.size := h1.b2.lt
  refine ⟨⟨hb1.set v', ?_, ?_, own_same hr2 fun g hgv => hset.block g (own_blk hr2 hgv).2.1 (fun e => hne hr2 (by decide) g hgv e), ?_, ?_⟩, ?_, hb1.cell, hb1.frozen⟩
  · exact (hset.block _ hb2.lt (by dsimp only; omega)).trans hb2
  · rw [List.length_append, List.map_append]
    exact own_same hr fun g hgv => hset.block g (own_blk hr hgv).2.1 (fun e => hne hr (by decide) g hgv e)
  · intro g hgv
    rcases ho with ho | ho
    · rw [ho] at hgv; exact h.ap g hgv
    · rw [ho] at hgv
      cases hgv
      intro e
      have := (own_blk h1.r2 e).2.1
      omega
  · exact ((h1.fr.wide hgf (fun i hi => .inr (own_blk h1.r1 hi).1)).wide hset (fun i hi => .inr (by dsimp only at hi; omega)))
  · exact ((hA.mono (T := Wr W0 v1 v2) (fun _ h => h.elim)).wide hgf (fun i hi => .inl (.inr (.inr (.inl hi))))).wide hset (fun i hi => .inl (.inl hi))
theorem Eb.app2 {W0 A A1 w' : World} {v1 v2 v' : Value} {ks : List ByteArray} {es : List E} {e0 : E} (h : Eb W0 v1 v2 ks es A) (hA : Fr (fun _ => False) A A1)
    (hr : w'.ownsRow W0.heap.size 3 1 v' (es.length + 1) (es.flatMap E.val ++ e0.val)) (hg : A1.grownBy w' v2.ownBlock) (ho : v'.ownBlock = v2.ownBlock ∨ v'.ownBlock = some A1.heap.size) :
    Eb W0 v1 v' ks (es ++ [e0]) (w'.setCell ⟨W0.heap.size + 1, 0, none⟩ v') ∧ Fr (Wr W0 v1 v2) A (w'.setCell ⟨W0.heap.size + 1, 0, none⟩ v') ∧ w'.cell? ⟨W0.heap.size + 1, 0, none⟩ = some v2 ∧ w'.frozen? ⟨W0.heap.size + 1, 0, none⟩ = false := by
  have h1 := h.quiet hA
  have hb1 : Boxed w' W0.heap.size 39 v1 := h1.b1.kept hg (h1.b1.not_row (by decide) h1.r2)
  have hb2 : Boxed w' (W0.heap.size + 1) 106 v2 := h1.b2.kept hg (h1.b2.not_row (by decide) h1.r2)
  have hgf := Fr.of_grownBy hg
  have hr1 : w'.ownsRow W0.heap.size 9 1 v1 ks.length (ks.map .string) := by
    refine own_same h1.r1 fun g hgv => hg.block g (own_blk h1.r1 hgv).2.1 (fun e => ?_)
    exact h.ap g hgv e.symm
  have hset := Fr.setCell w' ⟨W0.heap.size + 1, 0, none⟩ v'
  have hne : ∀ {e : TypeId} {size : Nat} {v : Value} {n : Nat} {xs : List Value}, w'.ownsRow W0.heap.size e size v n xs → 106 ≠ e → ∀ g, v.ownBlock = some g → g ≠ W0.heap.size + 1 := fun hrow hte g hgv e => hb2.not_row hte hrow (by rw [← e]; exact hgv.symm)
  have hsz : W0.heap.size + 1 < A1.heap.size := h1.b2.lt
  refine ⟨⟨?_, hb2.set v', own_same hr1 fun g hgv => hset.block g (own_blk hr1 hgv).2.1 (fun e => hne hr1 (by decide) g hgv e), ?_, ?_, ?_⟩, ?_, hb2.cell, hb2.frozen⟩
  · exact (hset.block _ hb1.lt (by dsimp only; omega)).trans hb1
  · rw [List.length_append, List.flatMap_append, List.flatMap_singleton]
    exact own_same hr fun g hgv => hset.block g (own_blk hr hgv).2.1 (fun e => hne hr (by decide) g hgv e)
  · intro g hgv
    rcases ho with ho | ho
    · rw [ho]; exact h.ap g hgv
    · rw [ho]
      intro e
      cases e
      have := (own_blk h1.r1 hgv).2.1
      omega
  · exact ((h1.fr.wide hgf (fun i hi => .inr (own_blk h1.r2 hi).1)).wide hset (fun i hi => .inr (by dsimp only at hi; omega)))
  · exact ((hA.mono (T := Wr W0 v1 v2) (fun _ h => h.elim)).wide hgf (fun i hi => .inl (.inr (.inr (.inr hi))))).wide hset (fun i hi => .inl (.inr (.inl hi)))
/-- gathering leaves all but its own memory alone -/
theorem Eb.others {W0 A B : World} {v1 v2 : Value} {ks : List ByteArray} {es : List E} (h : Eb W0 v1 v2 ks es A) (hf : Fr (Wr W0 v1 v2) A B) : KeepsOthers A B := by
  refine ⟨hf.size, fun k o hk hc => (hf.block k (Array.getElem?_eq_some_iff.1 hk).1 (fun hw => ?_)).trans hk⟩
  have hcell : ∃ cs t m, A.heap[k]? = some (.cells cs t m) := by
    rcases hw with rfl | rfl | hw | hw
    · exact ⟨_, _, _, h.b1⟩
    · exact ⟨_, _, _, h.b2⟩
    · obtain ⟨_, _, cs, hb⟩ := own_blk h.r1 hw; exact ⟨_, _, _, hb⟩
    · obtain ⟨_, _, cs, hb⟩ := own_blk h.r2 hw; exact ⟨_, _, _, hb⟩
  obtain ⟨cs, t, m, hb⟩ := hcell
  rw [hk] at hb
  cases hb
  cases hc
theorem Eb.keep {W0 A B : World} {v1 v2 : Value} {ks : List ByteArray} {es : List E} (h : Eb W0 v1 v2 ks es A) (hf : Fr (Wr W0 v1 v2) A B) {d : Nat} {M : DM} (hd : DAt W0 d M) {v : Value} (hb : Boxed A (W0.heap.size + 1 + 1) 24 v) : Keep (fun k _ => k = W0.heap.size + 1 + 1 ∨ Bs (dictL d M) k) A B := by
  refine Keep.of_fr hf fun k cs t m hs hk hw => ?_
  rcases hs with rfl | hs
  · rcases hw with hw | hw | hw | hw
    · omega
    · omega
    · exact hb.not_row (by decide) h.r1 hw.symm
    · exact hb.not_row (by decide) h.r2 hw.symm
  · have := hd.rep.lt hs
    rcases hw with hw | hw | hw | hw
    · omega
    · omega
    · have := (own_blk h.r1 hw).1; omega
    · have := (own_blk h.r2 hw).1; omega
/-- append of one element, as one step of a region that draws its order, inside a fence -/
theorem step_append_in {F : Fence} {n : Nat} {P : Program} {ops : Array Oper} {o : Oper} {a : Act} {w : World} {K : Act → World → Prop} {Q : Exit → Act → World → Prop} {E : Prop} (hgd : o.guard = none) (s x : Operand) (t : TypeId)
    (ho : o.op = .call { callee := .builtin .append, args := #[s, x], argTypes := #[t, t] })
    (base : Nat) (e : TypeId) (i : TypeInfo) (z : Value) (size bytes : Nat) (ht : P.underlying t = some (.slice e)) (hi : P.info? e = some i) (hz : i.zero = some z)
    (hsize : i.size = size) (hby : i.bytes = bytes) (hzs : z.cells.size = size) (hsz : 0 < size)
    (v : Value) (k : Nat) (xs : List Value) (hs : a.eval s = v)
    (ad : Addr) (m c : Nat) (news : List Value) (hx : a.eval x = .slice (some ad) m c) (hl : news.length = m * size) (h1 : ∀ u ∈ news, u.oneCell' = true)
    (h63 : k + m ≤ maxLen) (hbytes : (k + m) * bytes ≤ 140737488355328)
    (hown : w.ownsRow base e size v k xs) (hnews : ∀ j u, news[j]? = some u → w.cell? (ad.add j) = some u) (hbase : base ≤ w.heap.size)
    (h : ∀ v' w', w'.ownsRow base e size v' (k + m) (xs ++ news) → w.grownBy w' v.ownBlock → (v'.ownBlock = v.ownBlock ∨ v'.ownBlock = some w.heap.size) → K (a.put o.dst v') w') :
    if Region.wanted o (yielded ops a.tmps) = true then Oper.wpIn F n P o a w K Q else E := by
  have hw : Region.wanted o (yielded ops a.tmps) = true := by simp [Region.wanted, hgd]
  rw [if_pos hw]
  obtain ⟨v', w', hr, h2, h3, h4, h5⟩ := run_append_own_at (P := P) w base t o.type e i z size bytes ht hi hz hsize hby hzs hsz v k xs hown ad m c news hl hnews h1 h63 hbytes hbase
  unfold Oper.wpIn
  refine ⟨by simp [Oper.about, ho, resolve, Target.leads, Sem.run_pure], ?_⟩
  rw [Oper.semAt_plain F _ _ (by rw [ho]; intro c hc'; cases hc')]
  simp [execOp, ho, resolve, invoke, builtin, hs, hx, hr, Result.andThen]
  exact h v' w' h2 h3 h5
theorem opn_mid {w : World} {d : Nat} {M : DM} (h : DAt w d M) {c pre post : List E} {e : E} (hc : c ∈ opn M) (hs : c = pre ++ e :: post) : w.heap[e.b]? = some (entryObj 178 e (hp post)) ∧ e.val.length = 1 := by
  obtain ⟨i, hi, rfl⟩ := List.getElem_of_mem hc
  have hin : e ∈ entries M := by rw [← opn_flatten h.inv]; exact List.mem_flatten.2 ⟨_, hc, by rw [hs]; simp⟩
  refine ⟨?_, (h.sz e hin).1⟩
  have hg : (opn M)[i]? = some (pre ++ e :: post) := by rw [List.getElem?_eq_getElem hi, hs]
  by_cases hlt : i < M.old.length - M.at_
  · rw [opn_old M i hlt] at hg
    have ho : M.old ≠ [] := by intro e; rw [e] at hg; simp at hg
    exact mid_at (tab_old h ho).1.chains hg
  · rw [opn_young M i hlt] at hg
    have hy : M.young ≠ [] := by intro e; rw [e] at hg; simp at hg
    exact mid_at (tab_young h hy).1.chains hg
theorem opn_le {M : DM} (h : Inv M) {l : List (List E)} {c c1 c2 : List E} (hl : l ++ [c] <+: opn M) (hc : c = c1 ++ c2) : (l.flatten ++ c1).length + c2.length ≤ M.n := by
  obtain ⟨r, hr⟩ := hl
  rw [h.count, ← opn_flatten h, ← hr, hc]
  simp
  omega
theorem flat_mem {α : Type} (f : α → List Value) (n : Nat) (l : List α) (hf : ∀ x ∈ l, (f x).length = n) (k j : Nat) (hk : k < l.length) (hj : j < n) : (l.flatMap f)[k * n + j]? = (f l[k])[j]? := by
  induction l generalizing k with
  | nil => simp at hk
  | cons x l ih =>
    have hx : (f x).length = n := hf x (by simp)
    rw [List.flatMap_cons]
    cases k with
    | zero =>
      rw [Nat.zero_mul, Nat.zero_add, List.getElem?_append_left (by rw [hx]; exact hj)]
      rfl
    | succ k =>
      have := ih (fun y hy => hf y (by simp [hy])) k (by simpa using hk)
      rw [List.getElem?_append_right (by rw [hx, Nat.succ_mul]; omega), hx, show (k + 1) * n + j - n = k * n + j by rw [Nat.succ_mul]; omega]
      exact this
theorem own_at {w : World} {B : Nat} {e : TypeId} {size : Nat} {v : Value} {n : Nat} {xs : List Value} (h : w.ownsRow B e size v n xs) (hx : 0 < xs.length) :
    ∃ g cap, v = .slice (some ⟨g, 0, none⟩) n cap ∧ B ≤ g ∧ ∀ (i : Nat) (u : Value), xs[i]? = some u → w.cell? ⟨g, i, none⟩ = some u := by
  have h0 := h
  rcases h with ⟨h1, ⟨_, hz⟩ | ⟨g, cap, cur, rfl, hb, hg, hnc, hcm, hcs, htake⟩⟩
  · subst hz; simp at h1; rw [List.length_eq_zero_iff.2 h1] at hx; omega
  · refine ⟨g, cap, rfl, hb, fun i u hu => ?_⟩
    have := h0.cells rfl i u hu
    rwa [Addr.add_lit, Nat.zero_add] at this
theorem own_keep {S : Nat → TypeId → Prop} {A B : World} {B0 : Nat} {e : TypeId} {size : Nat} {v : Value} {n : Nat} {xs : List Value} (h : A.ownsRow B0 e size v n xs) (hk : Keep S A B) (hs : ∀ k, B0 ≤ k → S k e) : B.ownsRow B0 e size v n xs :=
  own_same h fun g hg => by
    obtain ⟨hb, _, cs, hc⟩ := own_blk h hg
    rw [hc]
    exact hk g cs _ _ (hs g hb) hc
theorem info_string : (Try.prog.info? 9).map (fun i => (i.zero, i.size, i.bytes)) = some (some (.string ⟨#[]⟩), 1, 16) := by kernel_rfl
theorem info_value : (Try.prog.info? 3).map (fun i => (i.zero, i.size, i.bytes)) = some (some (.int .i64 0), 1, 8) := by kernel_rfl
set_option maxRecDepth 100000 in
set_option maxHeartbeats 4000000 in
theorem each1_in (F : Fence) (n : Nat) (hF : F.fn 151) (hFa : F.fn 152) (hFb : F.fn 187) (hro : F.round = none) (hn : 4 ≤ n) (l Bd d : Nat) (M : DM) (n0 : Nat) (Kp : World → World → Prop)
    (hKp : ∀ A B, Kp A B → Keep (fun k t => n0 ≤ k ∧ (t = 9 ∨ t = 3 ∨ t = 39 ∨ t = 106)) A B ∧ Late n0 A B) (J Jx : List E → World → Prop)
    (W : World) (hn0 : n0 ≤ W.heap.size) (hJ : OwnFrom W.heap.size J) (hJx : OwnFrom W.heap.size Jx)
    (hY : ∀ pre x W, J pre W → pre ++ [x] <+: (opn M).flatten → YieldAt F (n - 1) Try.prog l (etE x) W fun e W' =>
      (e = .returned (.bool true) ∧ J (pre ++ [x]) W' ∧ Kp W W') ∨ (e = .returned (.bool false) ∧ Jx (pre ++ [x]) W' ∧ Late 0 W W'))
    (hA : Al d Bd M W) (hval : ∀ e ∈ (opn M).flatten, ∃ xx : Int, e.val = [.int .i64 xx]) (hMn : M.n ≤ 8796093022000) (h0 : J [] W) :
    CallsIn F n Try.prog 151 #[.func (.yield l) #[] #[], .pointer (some ⟨Bd, 0, none⟩)] W fun e W' => (∃ v, e = .returned v) ∧
      ((∃ xs, xs = (opn M).flatten ∧ J xs W') ∨ (∃ pre, pre <+: (opn M).flatten ∧ Jx pre W')) := by
  have HA := Lib.hid hA
  have hcb : W.cell? ⟨Bd, 0, none⟩ = some (.pointer (some ⟨d, 0, none⟩)) := by rw [cell_of_blk hA.box]; rfl
  have hlt : Bd < W.heap.size := (Array.getElem?_eq_some_iff.1 hA.box).1
  have HY := Lib.hid hY
  have HKP := Lib.hid hKp
  have HJ := Lib.hid hJ
  have HJX := Lib.hid hJx
  have H0 := Lib.hid h0
  have HVAL := Lib.hid hval
  have h1 : 1 ≤ n := by omega
  obtain ⟨i0, hi, hz0, hz1, hz2⟩ := info_parts info_string
  obtain ⟨j0, hj, hy0, hy1, hy2⟩ := info_parts info_value
  have HI := Lib.hid hi
  have HZ0 := Lib.hid hz0
  have HZ1 := Lib.hid hz1
  have HZ2 := Lib.hid hz2
  have HJ0 := Lib.hid hj
  have HY0 := Lib.hid hy0
  have HY1 := Lib.hid hy1
  have HY2 := Lib.hid hy2
  clear hA hval hY hKp hJ hJx h0 hi hz0 hz1 hz2 hj hy0 hy1 hy2
  refine callsIn_of_wp_marks Try.func151 rfl hF ?_ hro
  simp only [Try.ntmps151, List.size_toArray, List.length_cons, List.length_nil, Nat.reduceAdd, Nat.reduceSub, Array.replicate_succ, Array.replicate_zero, List.push_toArray, List.append_toArray, List.nil_append, List.cons_append]
  gi_wp2_with (gi_at_call 152; refine (all_in F (n - 1) hFa hro d _).mono ?_; rintro e w' ⟨rfl, rfl⟩)
  have bO := Boxed.new W 39 (.slice none 0 0)
  have bP := Boxed.new (W.alloc (.cells #[.slice none 0 0] 39)) 106 (.slice none 0 0)
  have bN := Boxed.new ((W.alloc (.cells #[.slice none 0 0] 39)).alloc (.cells #[.slice none 0 0] 106)) 24 (.pointer (some ⟨d, 0, none⟩))
  simp only [World.size_alloc] at bP bN
  obtain ⟨Wl, hWl⟩ : ∃ Wl, ((W.alloc (.cells #[.slice none 0 0] 39)).alloc (.cells #[.slice none 0 0] 106)).alloc (.cells #[.pointer (some ⟨d, 0, none⟩)] 24) = Wl := ⟨_, rfl⟩
  have hsz : W.heap.size + 3 = Wl.heap.size := by rw [← hWl]; simp
  have hE0 : Eb W (.slice none 0 0) (.slice none 0 0) [] [] Wl := by
    rw [← hWl]
    exact ⟨(bO.alloc _).alloc _, bP.alloc _, World.ownsRow_nil _ _ _ _, World.ownsRow_nil _ _ _ _, (fun g h => by cases h), ((Fr.alloc (fun _ => False) W _).thenAlloc _).thenAlloc _⟩
  rw [hWl] at bN ⊢
  have HAl : Hid (Al d (W.heap.size + 1 + 1) M Wl) := ⟨HA.out.dat.fr hE0.fr (fun _ _ h => h), bN⟩
  have HE0 := Lib.hid hE0
  have HSZ := Lib.hid hsz
  clear hE0 bO bP bN hWl hcb hsz
  refine wpIn_rangeV hro h1 (gf := 187) (lb := #[.pointer (some ⟨W.heap.size + 1 + 1, 0, none⟩)]) rfl hFb (enters_of Try.func187 (by kernel_rfl) rfl)
    (all1_stops F (n - 1) hFb hro (by omega) (W.heap.size + 1 + 1) d M (Keep (fun k _ => k = W.heap.size + 1 + 1 ∨ Bs (dictL d M) k)) (fun _ _ h => h) Wl HAl.out)
    (fun _ _ _ h k => h.trans k) (fun V l r r' _ h => Keep.putLoop _ V l r _ h) (Below.refl _ _) (fun _ => rfl)
    (fun pre V => (∃ v1 v2, Eb W v1 v2 (pre.flatten.map E.key) pre.flatten V) ∧ Boxed V (W.heap.size + 1 + 1) 24 (.pointer (some ⟨d, 0, none⟩)))
    (fun _ _ _ => False)
    ?own (fun _ _ _ _ _ hs _ _ => hs) ⟨⟨_, _, HE0.out⟩, HAl.out.box⟩
    (fun x => { tmps := #[.func (.yield l) #[] #[], .pointer (some ⟨Bd, 0, none⟩), undef, .pointer (some ⟨W.heap.size, 0, none⟩), .pointer (some ⟨W.heap.size + 1, 0, none⟩), hp x, undef, undef, .pointer (some ⟨d, 0, none⟩), .bool false, .pointer (some ⟨d, 0, none⟩), .func (.func 187) #[] #[.pointer (some ⟨W.heap.size + 1 + 1, 0, none⟩)], hp x, undef, undef, undef, undef, undef, undef, undef, undef, undef, undef, undef, undef, undef, undef, undef, undef, undef, undef, undef, undef, undef, undef, undef, undef, undef, undef, undef, undef, undef, undef, undef, undef, undef, undef, undef, undef], defers := [] }) ?assign ?body ?done ?stop
  case own =>
    rintro pre A B row ⟨⟨v1, v2, hE⟩, hb⟩ hg hr
    have hr' : ∀ r, row = some r → W.heap.size ≤ r ∧ ∃ o : Obj, A.heap[r]? = some o ∧ o.isCells = false := fun r e => ⟨by have := (hr r e).1; have := HSZ.out; omega, (hr r e).2⟩
    refine ⟨⟨v1, v2, hE.turn hg hr'⟩, hb.kept hg (fun e => ?_)⟩
    obtain ⟨_, o, ho, hc⟩ := hr _ e.symm
    rw [show A.heap[W.heap.size + 1 + 1]? = _ from hb] at ho
    cases ho
    cases hc
  case assign =>
    intro lr x V K hK
    unfold bkE
    gi_wp2
    exact hK
  case body =>
    rintro lr pre x V ⟨⟨v1, v2, hE⟩, hb⟩ hv
    have hx : x ∈ opn M := hv.subset (by simp)
    have HX := Lib.hid hx
    have HV := Lib.hid hv
    have HE := Lib.hid hE
    have HB := Lib.hid hb
    clear hE hb hv hx HE0
    gi_wp2_with fail
    gi_loopg [5] x.length (fun gh p wr => ∃ (c1 c2 : List E), p = hp c2 ∧ Hid (x = c1 ++ c2) ∧ Hid (c2.length ≤ gh) ∧ Hid (∃ v1 v2, Eb W v1 v2 ((pre.flatten ++ c1).map E.key) (pre.flatten ++ c1) wr) ∧ Hid (Boxed wr (W.heap.size + 1 + 1) 24 (.pointer (some ⟨d, 0, none⟩))) ∧ Hid (KeepsOthers V wr) ∧ Hid (Keep (fun k _ => k = W.heap.size + 1 + 1 ∨ Bs (dictL d M) k) V wr))
    case atStart => exact ⟨[], x, rfl, (show x = [] ++ x from rfl), Nat.le_refl _, ⟨v1, v2, by rw [List.append_nil]; exact HE.out⟩, HB.out, KeepsOthers.refl _, Keep.refl _ _⟩
    case round =>
      obtain ⟨c1, c2, rfl, HXC, HL, HE1, HB1, HKO, HKE⟩ := hrel
      obtain ⟨wo, rfl⟩ : ∃ x, x = wr := ⟨_, rfl⟩
      clear HE HB
      cases c2 with
      | nil =>
        have hp0 : hp ([] : List E) = .pointer none := rfl
        rw [hp0]
        gi_wp2
        obtain ⟨u1, u2, hE⟩ := HE1.out
        have hxc := HXC.out
        rw [List.append_nil] at hxc
        refine ⟨HKO.out, HKE.out, ⟨u1, u2, ?_⟩, HB1.out⟩
        have e1 : (pre ++ [x]).flatten = pre.flatten ++ c1 := by rw [hxc]; simp
        rw [e1]
        exact hE
      | cons e c2 =>
        have hp0 : hp (e :: c2) = .pointer (some ⟨e.b, 0, none⟩) := rfl
        obtain ⟨u1, u2, hE⟩ := HE1.out
        have hle := opn_le HA.out.dat.inv HV.out HXC.out
        simp only [List.length_cons] at hle
        obtain ⟨N1, hN1⟩ : ∃ N, (pre.flatten ++ c1).length = N := ⟨_, rfl⟩
        have hnk : ((pre.flatten ++ c1).map E.key).length = N1 := by rw [List.length_map]; exact hN1
        rw [hN1] at hle
        have hN2 : N1 ≤ 8796093021999 := by omega
        have hMID : Hid (∀ V : World, Fr (fun _ => False) W V → V.heap[e.b]? = some (entryObj 178 e (hp c2)) ∧ e.val.length = 1) := fun V hf => opn_mid (HA.out.dat.fr hf (fun _ _ h => h)) HX.out HXC.out
        obtain ⟨hmid, hsz⟩ := hMID.out wo hE.fr
        unfold entryObj at hmid
        have hlt2 : e.b < W.heap.size := by
          have := (opn_mid HA.out.dat HX.out HXC.out).1
          exact (Array.getElem?_eq_some_iff.1 this).1
        have hc0 : wo.cell? ⟨e.b, 0, none⟩ = some (.string e.key) := by rw [cell_of_blk hmid]; rfl
        have hcb := hE.b1.cell
        have hbl1 : W.heap.size < wo.heap.size := hE.b1.lt
        have HEo := Lib.hid hE
        have HNK := Lib.hid hnk
        have HN1 := Lib.hid hN1
        have HSZV := Lib.hid hsz
        rw [hp0]
        clear hE hmid hsz hle hnk hN1 HE1
        gi_upto_region 7 with (fail)
        gi_cut [25, 33, 34, 35, 36, 37, 38, 39, 40, 41, 42, 43, 44, 45, 46, 47, 48] from 19 (fun t25 t33 t34 t35 t36 t37 t38 t39 t40 t41 t42 t43 t44 t45 t46 t47 t48 wc => ∃ v1, t25 = v1 ∧ (t33 = undef ∧ t34 = undef ∧ t35 = undef ∧ t36 = undef ∧ t37 = undef ∧ t38 = undef ∧ t39 = undef ∧ t40 = undef ∧ t41 = undef ∧ t42 = undef ∧ t43 = undef ∧ t44 = undef ∧ t45 = undef ∧ t46 = undef ∧ t47 = undef ∧ t48 = undef) ∧ Hid (Eb W v1 u2 ((pre.flatten ++ c1).map E.key ++ [e.key]) (pre.flatten ++ c1) wc) ∧ Hid (Fr (Wr W u1 u2) wo wc))
        case first =>
          have hro1 : HEo.out.r1.1 = HEo.out.r1.1 := rfl
          clear hro1
          have HR1 : Hid (∀ V : World, Fr (fun _ => False) wo V → V.ownsRow W.heap.size 9 1 u1 N1 (((pre.flatten ++ c1).map E.key).map .string)) := fun V hf => by have h := (HEo.out.quiet hf).r1; rw [HNK.out] at h; exact h
          have HB0 : Hid (W.heap.size ≤ wo.heap.size) := HEo.out.fr.size
          have HAP : Hid (∀ (A1 w' : World) (v' : Value), Fr (fun _ => False) wo A1 → w'.ownsRow W.heap.size 9 1 v' (N1 + 1) (((pre.flatten ++ c1).map E.key).map .string ++ [.string e.key]) → A1.grownBy w' u1.ownBlock → (v'.ownBlock = u1.ownBlock ∨ v'.ownBlock = some A1.heap.size) →
              Eb W v' u2 ((pre.flatten ++ c1).map E.key ++ [e.key]) (pre.flatten ++ c1) (w'.setCell ⟨W.heap.size, 0, none⟩ v') ∧ Fr (Wr W u1 u2) wo (w'.setCell ⟨W.heap.size, 0, none⟩ v') ∧ w'.cell? ⟨W.heap.size, 0, none⟩ = some u1 ∧ w'.frozen? ⟨W.heap.size, 0, none⟩ = false) := fun A1 w' v' hf hr hg ho => HEo.out.app1 hf (by rw [HNK.out]; exact hr) hg ho
          refine wpIn_region_any (by kernel_rfl) ?_
          change wpAnyIn _ _ _ _ _ _ _ _ _ (World.drew _)
          repeat' (first
            | (refine wpAnyIn_done (by decide +kernel) ?_ _)
            | (refine wpAnyIn_ready (rs := [0, 1]) (by decide +kernel) (by simp) (AllReadyIn.cons rfl (fun K hK => ?_) (AllReadyIn.cons rfl (fun K hK => ?_) AllReadyIn.nil))) | (refine wpAnyIn_ready (rs := [0, 2]) (by decide +kernel) (by simp) (AllReadyIn.cons rfl (fun K hK => ?_) (AllReadyIn.cons rfl (fun K hK => ?_) AllReadyIn.nil))) | (refine wpAnyIn_ready (rs := [0, 3]) (by decide +kernel) (by simp) (AllReadyIn.cons rfl (fun K hK => ?_) (AllReadyIn.cons rfl (fun K hK => ?_) AllReadyIn.nil))) | (refine wpAnyIn_ready (rs := [0, 4]) (by decide +kernel) (by simp) (AllReadyIn.cons rfl (fun K hK => ?_) (AllReadyIn.cons rfl (fun K hK => ?_) AllReadyIn.nil))) | (refine wpAnyIn_ready (rs := [0, 5]) (by decide +kernel) (by simp) (AllReadyIn.cons rfl (fun K hK => ?_) (AllReadyIn.cons rfl (fun K hK => ?_) AllReadyIn.nil))) | (refine wpAnyIn_ready (rs := [0]) (by decide +kernel) (by simp) (AllReadyIn.cons rfl (fun K hK => ?_) AllReadyIn.nil)) | (refine wpAnyIn_ready (rs := [1]) (by decide +kernel) (by simp) (AllReadyIn.cons rfl (fun K hK => ?_) AllReadyIn.nil)) | (refine wpAnyIn_ready (rs := [2]) (by decide +kernel) (by simp) (AllReadyIn.cons rfl (fun K hK => ?_) AllReadyIn.nil)) | (refine wpAnyIn_ready (rs := [3]) (by decide +kernel) (by simp) (AllReadyIn.cons rfl (fun K hK => ?_) AllReadyIn.nil)) | (refine wpAnyIn_ready (rs := [4]) (by decide +kernel) (by simp) (AllReadyIn.cons rfl (fun K hK => ?_) AllReadyIn.nil)) | (refine wpAnyIn_ready (rs := [5]) (by decide +kernel) (by simp) (AllReadyIn.cons rfl (fun K hK => ?_) AllReadyIn.nil)) | (refine wpAnyIn_ready (rs := [6]) (by decide +kernel) (by simp) (AllReadyIn.cons rfl (fun K hK => ?_) AllReadyIn.nil)) | (refine wpAnyIn_ready (rs := [7]) (by decide +kernel) (by simp) (AllReadyIn.cons rfl (fun K hK => ?_) AllReadyIn.nil))
            | (refine step_append_in rfl (.tmp 19) (.tmp 24) 39 rfl W.heap.size 9 i0 (.string ⟨#[]⟩) 1 16 Try.underlying39 HI.out HZ0.out HZ1.out HZ2.out rfl (by decide) u1 N1 (((pre.flatten ++ c1).map E.key).map .string) rfl ⟨wo.heap.size, 0, none⟩ 1 1 [.string e.key] rfl rfl (by simp [Value.oneCell']) (by unfold maxLen; omega) (by omega) ?_ ?_ ?_ ?_; (refine HR1.out _ ?_; exact ((Fr.drew (fun _ => False) wo).thenAlloc _)); exact cell_one_new _ _ _; (have := HB0.out; simp; omega); (intro v' w' hr' hg' ho'; obtain ⟨q1, q2, q3, q4⟩ := HAP.out _ w' v' ((Fr.drew (fun _ => False) wo).thenAlloc _) hr' hg' ho'; have Q1 := Lib.hid q1; have Q2 := Lib.hid q2; obtain ⟨va, vc, rfl⟩ := owns_slice hr'; clear hr' hg' ho' q1 q2; refine hK _ _ ?_; clear hK K))
            | (go_simp; refine hK _ _ ?_; clear hK K))
          all_goals
            gi_wp2
            gi_meet
            case rel => exact ⟨_, rfl, ⟨rfl, rfl, rfl, rfl, rfl, rfl, rfl, rfl, rfl, rfl, rfl, rfl, rfl, rfl, rfl, rfl⟩, Q1.out, Q2.out⟩
        case rest =>
          obtain ⟨_, rfl, ⟨rfl, rfl, rfl, rfl, rfl, rfl, rfl, rfl, rfl, rfl, rfl, rfl, rfl, rfl, rfl, rfl⟩, HE2, HF2⟩ := hcut
          have HKO2 : Hid (KeepsOthers V wc) := HKO.out.trans (HEo.out.others HF2.out)
          have HKE2 : Hid (Keep (fun k _ => k = W.heap.size + 1 + 1 ∨ Bs (dictL d M) k) V wc) := HKE.out.trans (HEo.out.keep HF2.out HA.out.dat HB1.out)
          have HB2 : Hid (Boxed wc (W.heap.size + 1 + 1) 24 (.pointer (some ⟨d, 0, none⟩))) := HEo.out.keep HF2.out HA.out.dat HB1.out _ _ _ _ (.inl rfl) HB1.out
          obtain ⟨wo, rfl⟩ : ∃ x, x = wc := ⟨_, rfl⟩
          clear HKO HKE HEo HF2 HB1 hc0 hcb hbl1
          obtain ⟨hmid, hsz⟩ := hMID.out wo HE2.out.fr
          unfold entryObj at hmid
          have hcb := HE2.out.b2.cell
          have hbl2 : W.heap.size + 1 < wo.heap.size := HE2.out.b2.lt
          have hbl1 : W.heap.size < wo.heap.size := HE2.out.b1.lt
          have hnx : Hid (∀ V : World, Fr (fun _ => False) W V → V.cell? ⟨e.b, 2, none⟩ = some (hp c2)) := fun V hf => by
            obtain ⟨h1, h2⟩ := hMID.out V hf
            unfold entryObj at h1
            rw [cell_of_blk h1]
            match hv : e.val, h2 with
            | [x0], _ => rfl
          obtain ⟨xx, hv⟩ := HVAL.out e (List.mem_flatten.2 ⟨x, HX.out, by rw [HXC.out]; simp⟩)
          have hc1 : wo.cell? ⟨e.b, 1, none⟩ = some (.int .i64 xx) := by rw [cell_of_blk hmid, hv]; rfl
          have HV2 := Lib.hid hv
          clear hmid hsz hv
          gi_upto_region 8 with (fail)
          have HR1 : Hid (∀ V : World, Fr (fun _ => False) wo V → V.ownsRow W.heap.size 3 1 u2 N1 ((pre.flatten ++ c1).flatMap E.val)) := fun V hf => by have h := (HE2.out.quiet hf).r2; rw [HN1.out] at h; exact h
          have HB0 : Hid (W.heap.size ≤ wo.heap.size) := HE2.out.fr.size
          have HAP : Hid (∀ (A1 w' : World) (v' : Value), Fr (fun _ => False) wo A1 → w'.ownsRow W.heap.size 3 1 v' (N1 + 1) ((pre.flatten ++ c1).flatMap E.val ++ [.int .i64 xx]) → A1.grownBy w' u2.ownBlock → (v'.ownBlock = u2.ownBlock ∨ v'.ownBlock = some A1.heap.size) →
              Eb W u25 v' ((pre.flatten ++ c1).map E.key ++ [e.key]) ((pre.flatten ++ c1) ++ [e]) (w'.setCell ⟨W.heap.size + 1, 0, none⟩ v') ∧ Fr (Wr W u25 u2) wo (w'.setCell ⟨W.heap.size + 1, 0, none⟩ v') ∧ w'.cell? ⟨W.heap.size + 1, 0, none⟩ = some u2 ∧ w'.frozen? ⟨W.heap.size + 1, 0, none⟩ = false) := fun A1 w' v' hf hr hg ho => HE2.out.app2 hf (by rw [HN1.out, HV2.out]; exact hr) hg ho
          refine wpIn_region_any (by kernel_rfl) ?_
          change wpAnyIn _ _ _ _ _ _ _ _ _ (World.drew _)
          repeat' (first
            | (refine wpAnyIn_done (by decide +kernel) ?_ _)
            | (refine wpAnyIn_ready (rs := [0, 1]) (by decide +kernel) (by simp) (AllReadyIn.cons rfl (fun K hK => ?_) (AllReadyIn.cons rfl (fun K hK => ?_) AllReadyIn.nil))) | (refine wpAnyIn_ready (rs := [0, 2]) (by decide +kernel) (by simp) (AllReadyIn.cons rfl (fun K hK => ?_) (AllReadyIn.cons rfl (fun K hK => ?_) AllReadyIn.nil))) | (refine wpAnyIn_ready (rs := [0, 3]) (by decide +kernel) (by simp) (AllReadyIn.cons rfl (fun K hK => ?_) (AllReadyIn.cons rfl (fun K hK => ?_) AllReadyIn.nil))) | (refine wpAnyIn_ready (rs := [0, 4]) (by decide +kernel) (by simp) (AllReadyIn.cons rfl (fun K hK => ?_) (AllReadyIn.cons rfl (fun K hK => ?_) AllReadyIn.nil))) | (refine wpAnyIn_ready (rs := [0, 5]) (by decide +kernel) (by simp) (AllReadyIn.cons rfl (fun K hK => ?_) (AllReadyIn.cons rfl (fun K hK => ?_) AllReadyIn.nil))) | (refine wpAnyIn_ready (rs := [0]) (by decide +kernel) (by simp) (AllReadyIn.cons rfl (fun K hK => ?_) AllReadyIn.nil)) | (refine wpAnyIn_ready (rs := [1]) (by decide +kernel) (by simp) (AllReadyIn.cons rfl (fun K hK => ?_) AllReadyIn.nil)) | (refine wpAnyIn_ready (rs := [2]) (by decide +kernel) (by simp) (AllReadyIn.cons rfl (fun K hK => ?_) AllReadyIn.nil)) | (refine wpAnyIn_ready (rs := [3]) (by decide +kernel) (by simp) (AllReadyIn.cons rfl (fun K hK => ?_) AllReadyIn.nil)) | (refine wpAnyIn_ready (rs := [4]) (by decide +kernel) (by simp) (AllReadyIn.cons rfl (fun K hK => ?_) AllReadyIn.nil)) | (refine wpAnyIn_ready (rs := [5]) (by decide +kernel) (by simp) (AllReadyIn.cons rfl (fun K hK => ?_) AllReadyIn.nil)) | (refine wpAnyIn_ready (rs := [6]) (by decide +kernel) (by simp) (AllReadyIn.cons rfl (fun K hK => ?_) AllReadyIn.nil)) | (refine wpAnyIn_ready (rs := [7]) (by decide +kernel) (by simp) (AllReadyIn.cons rfl (fun K hK => ?_) AllReadyIn.nil))
            | (refine step_append_in rfl (.tmp 26) (.tmp 31) 106 rfl W.heap.size 3 j0 (.int .i64 0) 1 8 Try.underlying106 HJ0.out HY0.out HY1.out HY2.out rfl (by decide) u2 N1 ((pre.flatten ++ c1).flatMap E.val) rfl ⟨wo.heap.size, 0, none⟩ 1 1 [.int .i64 xx] rfl rfl (by simp [Value.oneCell']) (by unfold maxLen; omega) (by omega) ?_ ?_ ?_ ?_; (refine HR1.out _ ?_; exact ((Fr.drew (fun _ => False) wo).thenAlloc _)); exact cell_one_new _ _ _; (have := HB0.out; simp; omega); (intro v' w' hr' hg' ho'; obtain ⟨q1, q2, q3, q4⟩ := HAP.out _ w' v' ((Fr.drew (fun _ => False) wo).thenAlloc _) hr' hg' ho'; have Q1 := Lib.hid q1; have Q2 := Lib.hid q2; obtain ⟨va, vc, rfl⟩ := owns_slice hr'; clear hr' hg' ho' q1 q2; refine hK _ _ ?_; clear hK K))
            | (go_simp; refine hK _ _ ?_; clear hK K))
          all_goals
            obtain ⟨wc, hwc⟩ : ∃ wc, w'.setCell ⟨W.heap.size + 1, 0, none⟩ (.slice va (N1 + 1) vc) = wc := ⟨_, rfl⟩
            rw [hwc] at Q1 Q2 ⊢
            clear hwc
            have HKO3 : Hid (KeepsOthers V wc) := HKO2.out.trans (HE2.out.others Q2.out)
            have HKE3 : Hid (Keep (fun k _ => k = W.heap.size + 1 + 1 ∨ Bs (dictL d M) k) V wc) := HKE2.out.trans (HE2.out.keep Q2.out HA.out.dat HB2.out)
            have HB3 : Hid (Boxed wc (W.heap.size + 1 + 1) 24 (.pointer (some ⟨d, 0, none⟩))) := HE2.out.keep Q2.out HA.out.dat HB2.out _ _ _ _ (.inl rfl) HB2.out
            have hc2 := hnx.out wc Q1.out.fr
            have HXC2 : Hid (x = (c1 ++ [e]) ++ c2) := by show _ = _; rw [HXC.out, List.append_assoc]; rfl
            have HE4 : Hid (∃ v1 v2, Eb W v1 v2 ((pre.flatten ++ (c1 ++ [e])).map E.key) (pre.flatten ++ (c1 ++ [e])) wc) := ⟨u25, _, by rw [← List.append_assoc, List.map_append]; exact Q1.out⟩
            clear hc1 hcb q3 q4 hbl1 hbl2
            gi_wp2
            gi_roundg c2.length
            case measure => have := HL.out; simp only [List.length_cons] at this; omega
            case rel => exact ⟨c1 ++ [e], c2, rfl, HXC2.out, Nat.le_refl _, HE4.out, HB3.out, HKO3.out, HKE3.out⟩
  case done =>
    rintro D ys V hD rfl ⟨⟨v1, v2, hE⟩, hb⟩ hK
    have HE := Lib.hid hE
    have HK := Lib.hid hK
    have HD := Lib.hid hD
    have hN : (opn M).flatten.length = M.n := by rw [opn_flatten HA.out.dat.inv, HA.out.dat.inv.count]
    obtain ⟨N, hN2⟩ : ∃ N, (opn M).flatten.length = N := ⟨_, rfl⟩
    have hN3 : N ≤ 8796093022000 := by omega
    have hNk : ((opn M).flatten.map E.key).length = N := by rw [List.length_map]; exact hN2
    have hr1 := hE.r1
    have hr2 := hE.r2
    rw [hNk] at hr1
    rw [hN2] at hr2
    obtain ⟨a1, c1, rfl⟩ := owns_slice hr1
    obtain ⟨a2, c2, rfl⟩ := owns_slice hr2
    have HR1 := Lib.hid hr1
    have HR2 := Lib.hid hr2
    have hc1 := hE.b1.cell
    have HN2 := Lib.hid hN2
    have hsz := HSZ.out
    have HJ1 : Hid (J [] V) := HJ.out [] W V none H0.out ⟨hE.fr.os, hE.fr.tape, hE.fr.output, hE.fr.size, fun k hk _ => hE.fr.block k hk (fun h => h)⟩ (fun r e => by cases e)
    clear hE hb hK hD hN hN2 hNk hr1 hr2 HE0 HAl hsz
    gi_wp2
    gi_loopw [6, 7, 35] (fun _ _ i wr => ∃ (k : Nat) (pre : List E), i = .int .i64 k ∧ k ≤ N ∧ Hid (pre = (opn M).flatten.take k) ∧ Hid (Keep (fun k t => n0 ≤ k ∧ (t = 9 ∨ t = 3 ∨ t = 39 ∨ t = 106)) V wr) ∧ Hid (Late n0 V wr) ∧ Hid (J pre wr)) (fun _ _ i _ => N - (intOf i).toNat)
    case atStart => exact ⟨0, [], rfl, by omega, (show _ = _ from rfl), Keep.refl _ _, (fun _ _ _ h => h), HJ1.out⟩
    case round =>
      obtain ⟨k, pre, rfl, hk, HPR, HKP2, HLT, HJ2⟩ := hrel
      clear HJ1 hc1
      have HD2 : Hid (wr.heap[D]? = some (.deferred (some []))) := HLT.out D _ (by have := HD.out; have := HSZ.out; omega) HK.out
      by_cases hltk : k < N
      · obtain ⟨e, he⟩ : ∃ e, (opn M).flatten[k]? = some e := ⟨_, List.getElem?_eq_getElem (by rw [HN2.out]; exact hltk)⟩
        have hmem : e ∈ (opn M).flatten := List.mem_of_getElem? he
        obtain ⟨xx, hv⟩ := HVAL.out e hmem
        have hk1 : ((opn M).flatten.map E.key).map Value.string = (opn M).flatten.map fun e => .string e.key := by rw [List.map_map]; rfl
        obtain ⟨g1, cap1, q1, -, hcell1⟩ := own_at (own_keep HR1.out HKP2.out (fun k h => ⟨by omega, .inl rfl⟩)) (by rw [List.length_map, List.length_map, HN2.out]; omega)
        obtain ⟨g2, cap2, q2, -, hcell2⟩ := own_at (own_keep HR2.out HKP2.out (fun k h => ⟨by omega, .inr (.inl rfl)⟩)) (by have := HR2.out.1; rw [this]; omega)
        cases q1
        cases q2
        have hcx := hcell1 k (.string e.key) (by rw [hk1, List.getElem?_map, he]; rfl)
        have hcv := hcell2 (k * 1 + 0) (.int .i64 xx) (by
          obtain ⟨hk3, he3⟩ := List.getElem?_eq_some_iff.1 he
          rw [flat_mem E.val 1 _ (fun y hy => by obtain ⟨z, hz⟩ := HVAL.out y hy; rw [hz]; rfl) k 0 hk3 (by decide), he3, hv]
          rfl)
        rw [Nat.mul_one, Nat.add_zero] at hcv
        have hcb2 : wr.cell? ⟨W.heap.size + 1, 0, none⟩ = some (.slice (some ⟨g2, 0, none⟩) N c2) := (show Boxed wr (W.heap.size + 1) 106 _ from HKP2.out _ _ _ _ ⟨by omega, .inr (.inr (.inr rfl))⟩ HE.out.b2).cell
        have HPR2 : Hid (pre ++ [e] = (opn M).flatten.take (k + 1)) := by show _ = _; rw [HPR.out, List.take_add_one, he]; rfl
        obtain ⟨fn, tmps, assign, body, hy, hR⟩ := HY.out pre e wr HJ2.out (by rw [HPR2.out]; exact List.take_prefix _ _)
        dsimp only [etE] at hy
        rw [hv] at hy
        dsimp only [List.headD_cons] at hy
        have HR := Lib.hid hR
        have b0 : (0 : Int) ≤ (k : Int) := by omega
        have b1 : (k : Int) < (N : Int) := by omega
        clear hR hk1 hcell1 hcell2 he hmem hv
        gi_wp2
        refine HR.out.mono ?_
        rintro e3 W3 (⟨rfl, hJ3, hk3⟩ | ⟨rfl, hJx3, hlate⟩)
        · obtain ⟨hk4, hk5⟩ := HKP.out _ _ hk3
          have HK3 := Lib.hid (HKP2.out.trans hk4)
          have HL3 := Lib.hid (HLT.out.trans hk5)
          have HJ3 := Lib.hid hJ3
          clear hJ3 hk3 hk4 hk5
          gi_wp2
          go_roundw
          case rel => exact ⟨k + 1, pre ++ [e], by go_num, by omega, HPR2, HK3, HL3, HJ3⟩
          case measure => simp [intOf]; omega
        · have HJ3 := Lib.hid hJx3
          have HD3 : Hid (W3.heap[D]? = some (.deferred (some []))) := hlate D _ (Nat.zero_le _) HD2.out
          clear hJx3 hlate
          gi_wp2
          refine ⟨by simp, .inl ⟨_, _, rfl, run_takeDeferred HD3.out, ?_⟩⟩
          refine ⟨_, results_none rfl _ _ _, ⟨_, rfl⟩, .inr ⟨pre ++ [e], by rw [HPR2.out]; exact List.take_prefix _ _, ?_⟩⟩
          exact HJX.out.putObj _ HJ3.out (by have := HD.out; have := HSZ.out; omega) HD3.out rfl
      · obtain rfl : k = N := by omega
        gi_wp2
        refine ⟨by simp, .inl ⟨_, _, rfl, run_takeDeferred HD2.out, ?_⟩⟩
        refine ⟨_, results_none rfl _ _ _, ⟨_, rfl⟩, .inl ⟨pre, by rw [HPR.out, List.take_of_length_le (by rw [HN2.out]; exact Nat.le_refl _)], ?_⟩⟩
        exact HJ.out.putObj _ HJ2.out (by have := HD.out; have := HSZ.out; omega) HD2.out rfl
  case stop =>
    rintro D c pre V _ _ h _
    exact h.elim
end Go.Proofs.Ytgomilodeaafdaa.Di
namespace Go.Proofs.Ytgomilodeaafdaa.Di
open Go.RowKit Go.Shelf
attribute [local go_sem] Oper.semAt_some
set_option maxRecDepth 100000 in
theorem each_in (F : Fence) (n : Nat) (hF : F.fn 94) (hro : F.round = none) (p : Option Addr) (w : World) :
    CallsIn F n Try.prog 94 #[.pointer p] w fun e w' => e = .returned (.func (.func 151) #[] #[.pointer (some ⟨w.heap.size, 0, none⟩)]) ∧ w' = w.alloc (.cells #[.pointer p] 24) := by
  refine callsIn_of_wp Try.func94 rfl hF ?_ hro
  simp only [Try.ntmps94, List.size_toArray, List.length_cons, List.length_nil, Nat.reduceAdd, Nat.reduceSub, Array.replicate_succ, Array.replicate_zero, List.push_toArray, List.append_toArray, List.nil_append, List.cons_append]
  gi_wp2
  go_ret
  exact ⟨rfl, rfl⟩
/-- what a body may not turn: the iterator's own memory -/
def EachS (n0 : Nat) (k : Nat) (t : TypeId) : Prop := n0 ≤ k ∧ (t = 9 ∨ t = 3 ∨ t = 39 ∨ t = 106)
def EachK (n0 : Nat) (A B : World) : Prop := Keep (EachS n0) A B ∧ Late n0 A B
theorem EachK.trans {n0 : Nat} {A B C : World} (h : EachK n0 A B) (h' : EachK n0 B C) : EachK n0 A C := ⟨h.1.trans h'.1, h.2.trans h'.2⟩
theorem EachK.loop (n0 : Nat) (W : World) (l : Nat) (r r' : Loop) (h : W.heap[l]? = some (.loop r)) : EachK n0 W (W.putObj l (.loop r')) := ⟨Keep.putLoop _ W l r _ h, Late.putLoop n0 W l r _ h⟩
theorem each_stops (F : Fence) (n : Nat) (hF : F.fn 151) (hFa : F.fn 152) (hFb : F.fn 187) (hro : F.round = none) (hn : 4 ≤ n) (Bd d : Nat) (M : DM) (n0 : Nat) (w : World) (hn0 : n0 ≤ w.heap.size)
    (hA : Al d Bd M w) (hval : ∀ e ∈ (opn M).flatten, ∃ xx : Int, e.val = [.int .i64 xx]) (hMn : M.n ≤ 8796093022000) :
    SeqV F n Try.prog 151 #[.pointer (some ⟨Bd, 0, none⟩)] etE (EachK n0) (fun pre => pre <+: (opn M).flatten) (fun xs => xs = (opn M).flatten) (fun pre => pre <+: (opn M).flatten) w := fun l J Jx W hW hJ hJx hY h0 =>
  each1_in F n hF hFa hFb hro hn l Bd d M n0 (EachK n0) (fun _ _ h => h) J Jx W (Nat.le_trans hn0 hW.size) hJ hJx hY
    (hA.keep fun k cs t m hk h => (hW.block k (Array.getElem?_eq_some_iff.1 h).1).trans h) hval hMn h0
/-- a nil table: nothing is told -/
theorem each_none (F : Fence) (n : Nat) (hF : F.fn 151) (hro : F.round = none) (Bd : Nat) (Kp : World → World → Prop) (w : World) (hb : w.heap[Bd]? = some (.cells #[.pointer none] 24 (0, 0))) :
    SeqV F n Try.prog 151 #[.pointer (some ⟨Bd, 0, none⟩)] etE Kp (fun _ => False) (fun xs => xs = []) (fun _ => False) w := fun l J Jx W hW _ _ _ h0 => by
  have hb' : W.heap[Bd]? = some (.cells #[.pointer none] 24 (0, 0)) := (hW.block Bd (Array.getElem?_eq_some_iff.1 hb).1).trans hb
  have hcb : W.cell? ⟨Bd, 0, none⟩ = some (.pointer none) := by rw [cell_of_blk hb']; rfl
  have H0 := Lib.hid h0
  clear hb hb' hW h0
  refine callsIn_of_wp Try.func151 rfl hF ?_ hro
  simp only [Try.ntmps151, List.size_toArray, List.length_cons, List.length_nil, Nat.reduceAdd, Nat.reduceSub, Array.replicate_succ, Array.replicate_zero, List.push_toArray, List.append_toArray, List.nil_append, List.cons_append]
  gi_wp2
  refine bodyPost_ret (results_none rfl _ _ _) rfl ?_
  exact ⟨⟨_, rfl⟩, H0.out⟩
end Go.Proofs.Ytgomilodeaafdaa.Di
