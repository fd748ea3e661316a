/- The walks of package dict's find and hang at int; what a dict in memory is. -/
import Derived.Test.YtkecipdonamjaaaDiW1
namespace Go.Proofs.Ytkecipdonamjaaa.Di
open Go.RowKit

/-- a key's entry stands in bucket i of a table, behind 'pre' -/
structure Has (seed : UInt64) (cs : List (List E)) (key : ByteArray) (i : Nat) (pre : List E) (e : E) (post : List E) : Prop where
  slot : slotOf seed cs.length key = i
  at_ : cs[i]? = some (pre ++ e :: post)
  key_ : e.key = key
  pre_ : ∀ x ∈ pre, x.key ≠ key
def Hasnt (seed : UInt64) (cs : List (List E)) (key : ByteArray) : Prop := ∀ c, cs[slotOf seed cs.length key]? = some c → ∀ x ∈ c, x.key ≠ key
theorem split_key (c : List E) (key : ByteArray) : (∀ x ∈ c, x.key ≠ key) ∨ ∃ pre e post, c = pre ++ e :: post ∧ e.key = key ∧ ∀ x ∈ pre, x.key ≠ key := by
  induction c with
  | nil => exact .inl (fun x hx => by cases hx)
  | cons a c ih =>
    by_cases ha : a.key = key
    · exact .inr ⟨[], a, c, rfl, ha, fun x hx => by cases hx⟩
    · rcases ih with h | ⟨pre, e, post, rfl, he, hp⟩
      · left; intro x hx; rcases List.mem_cons.1 hx with rfl | hx
        · exact ha
        · exact h x hx
      · right; refine ⟨a :: pre, e, post, rfl, he, fun x hx => ?_⟩
        rcases List.mem_cons.1 hx with rfl | hx
        · exact ha
        · exact hp x hx
theorem has_or (seed : UInt64) (cs : List (List E)) (key : ByteArray) : Hasnt seed cs key ∨ ∃ i pre e post, Has seed cs key i pre e post := by
  cases hc : cs[slotOf seed cs.length key]? with
  | none => exact .inl (fun c h => by rw [hc] at h; cases h)
  | some c =>
    rcases split_key c key with h | ⟨pre, e, post, rfl, he, hp⟩
    · exact .inl (fun c' h' => by rw [hc] at h'; cases h'; exact h)
    · exact .inr ⟨_, pre, e, post, rfl, hc, he, hp⟩

/-- a table in memory: none, or Tab -/
def TabN (w : World) (t : Nat) (cs : List (List E)) : Prop := cs ≠ [] → Tab w t cs ∧ ∃ k, k < 60 ∧ cs.length = 2 ^ k
theorem link_nil (w : World) (d : Nat) (key : ByteArray) :
    Calls Try.prog 97 #[.pointer (some ⟨d, 0, none⟩), .slice none 0 0, .string key] w fun e w' => e = .returned (.pointer none) ∧ w = w' := by
  go_enter Try.func97, Try.ntmps97
  go_wp2
  go_ret
  exact ⟨rfl, rfl⟩
theorem link_hasnt (w : World) (d t : Nat) (cs : List (List E)) (seed : UInt64) (key : ByteArray) (hs : key.size ≤ maxLen)
    (h : w.cell? ⟨d, 0, none⟩ = some (.int .u64 (wd seed))) (ht : TabN w t cs) (hn : Hasnt seed cs key) :
    Calls Try.prog 97 #[.pointer (some ⟨d, 0, none⟩), tv t cs, .string key] w fun e w' => e = .returned (.pointer none) ∧ w = w' := by
  by_cases hc : cs = []
  · subst hc; rw [tv_nil]; exact link_nil w d key
  · obtain ⟨htab, k, hk2, hk⟩ := ht hc
    rw [tv_of hc]
    have hlt := slotOf_lt seed cs.length key (List.length_pos_iff.2 hc)
    have hci : cs[slotOf seed cs.length key]? = some cs[slotOf seed cs.length key] := List.getElem?_eq_getElem hlt
    refine (link_any w d t cs seed key k hk hk2 hs h htab _ _ rfl hci).mono fun e w' ⟨h1, h2⟩ => ⟨?_, h2⟩
    rw [h1, linkV_none _ _ _ _ (hn _ hci)]
theorem has_ne {seed : UInt64} {cs : List (List E)} {key : ByteArray} {i : Nat} {pre : List E} {e : E} {post : List E} (h : Has seed cs key i pre e post) : cs ≠ [] := by
  intro h0; have := h.at_; rw [h0] at this; simp at this
theorem link_has (w : World) (d t : Nat) (cs : List (List E)) (seed : UInt64) (key : ByteArray) (hs : key.size ≤ maxLen)
    (h : w.cell? ⟨d, 0, none⟩ = some (.int .u64 (wd seed))) (ht : TabN w t cs) (i : Nat) (pre : List E) (e : E) (post : List E) (hh : Has seed cs key i pre e post) :
    Calls Try.prog 97 #[.pointer (some ⟨d, 0, none⟩), tv t cs, .string key] w fun x w' => x = .returned (.pointer (some (linkA t i pre))) ∧ w = w' := by
  have hc := has_ne hh
  obtain ⟨htab, k, hk2, hk⟩ := ht hc
  rw [tv_of hc]
  refine (link_any w d t cs seed key k hk hk2 hs h htab _ _ hh.slot hh.at_).mono fun e w' ⟨h1, h2⟩ => ⟨?_, h2⟩
  rw [h1, linkV_mid _ _ _ _ _ _ hh.pre_ hh.key_]

theorem find_old (w : World) (d : Nat) (M : DM) (key : ByteArray) (hs : key.size ≤ maxLen) (hf : w.heap[d]? = some (fieldsO 109 M)) (ht : TabN w M.told M.old)
    (i : Nat) (pre : List E) (e : E) (post : List E) (hh : Has M.seed M.old key i pre e post) :
    Calls Try.prog 64 #[.pointer (some ⟨d, 0, none⟩), .string key] w fun x w' => x = .returned (.pointer (some (linkA M.told i pre))) ∧ w = w' := by
  obtain ⟨h0, h1, h2, h3, h4, h5⟩ := blk_field hf
  have HC := Lib.hid (link_has w d M.told M.old M.seed key hs h0 ht i pre e post hh)
  clear hf h0 hh
  go_enter Try.func64, Try.ntmps64
  go_wp2_with (go_at_call 97; refine (HC.out).mono ?_; rintro e w' ⟨rfl, rfl⟩)
  go_ret
  exact ⟨rfl, rfl⟩
theorem find_young (w : World) (d : Nat) (M : DM) (key : ByteArray) (hs : key.size ≤ maxLen) (hf : w.heap[d]? = some (fieldsO 109 M)) (ht : TabN w M.told M.old) (hty : TabN w M.tyoung M.young)
    (hn : Hasnt M.seed M.old key) (i : Nat) (pre : List E) (e : E) (post : List E) (hh : Has M.seed M.young key i pre e post) :
    Calls Try.prog 64 #[.pointer (some ⟨d, 0, none⟩), .string key] w fun x w' => x = .returned (.pointer (some (linkA M.tyoung i pre))) ∧ w = w' := by
  obtain ⟨h0, h1, h2, h3, h4, h5⟩ := blk_field hf
  have HC := Lib.hid (link_hasnt w d M.told M.old M.seed key hs h0 ht hn)
  have HD := Lib.hid (link_has w d M.tyoung M.young M.seed key hs h0 hty i pre e post hh)
  clear hf h0 hh
  go_enter Try.func64, Try.ntmps64
  go_wp2_with fail
  refine (HC.out).mono ?_
  rintro e w' ⟨rfl, rfl⟩
  go_wp2_with fail
  refine (HD.out).mono ?_
  rintro e w' ⟨rfl, rfl⟩
  go_wp2
  go_ret
  exact ⟨rfl, rfl⟩
theorem find_none (w : World) (d : Nat) (M : DM) (key : ByteArray) (hs : key.size ≤ maxLen) (hf : w.heap[d]? = some (fieldsO 109 M)) (ht : TabN w M.told M.old) (hty : TabN w M.tyoung M.young)
    (hn : Hasnt M.seed M.old key) (hm : Hasnt M.seed M.young key) :
    Calls Try.prog 64 #[.pointer (some ⟨d, 0, none⟩), .string key] w fun x w' => x = .returned (.pointer none) ∧ w = w' := by
  obtain ⟨h0, h1, h2, h3, h4, h5⟩ := blk_field hf
  have HC := Lib.hid (link_hasnt w d M.told M.old M.seed key hs h0 ht hn)
  have HD := Lib.hid (link_hasnt w d M.tyoung M.young M.seed key hs h0 hty hm)
  clear hf h0
  go_enter Try.func64, Try.ntmps64
  go_wp2_with fail
  refine (HC.out).mono ?_
  rintro e w' ⟨rfl, rfl⟩
  go_wp2_with fail
  refine (HD.out).mono ?_
  rintro e w' ⟨rfl, rfl⟩
  go_wp2
  go_ret
  exact ⟨rfl, rfl⟩

/-- an entry is hung at the head of its bucket: two stores -/
theorem hang_any (w : World) (d t : Nat) (cs : List (List E)) (seed : UInt64) (e : E) (nx : Value) (k : Nat) (hk : cs.length = 2 ^ k) (hk2 : k < 60) (hs : e.key.size ≤ maxLen) (hz : e.val.length = 1)
    (h : w.cell? ⟨d, 0, none⟩ = some (.int .u64 (wd seed))) (hrow : w.heap[t]? = some (rowO 112 cs)) (he : w.heap[e.b]? = some (entryObj 114 e nx)) (hne : e.b ≠ t)
    (i : Nat) (hi : slotOf seed cs.length e.key = i) (c : List E) (hc : cs[i]? = some c) :
    Calls Try.prog 66 #[.pointer (some ⟨d, 0, none⟩), .slice (some ⟨t, 0, none⟩) cs.length cs.length, .pointer (some ⟨e.b, 0, none⟩)] w fun x w' =>
      x = .returned (.tuple #[]) ∧ (w.setCell ⟨e.b, 2, none⟩ (hp c)).setCell ⟨t, i, none⟩ (.pointer (some ⟨e.b, 0, none⟩)) = w' := by
  obtain ⟨hlt, hc'⟩ := List.getElem?_eq_some_iff.1 hc
  have hsl := slot_any w d t cs seed e.key k hk hk2 hs h
  rw [hi] at hsl
  have HSL := Lib.hid hsl
  have hkey : w.cell? ⟨e.b, 0, none⟩ = some (.string e.key) := cell_of_blk he 0
  have hnx : ∃ u, w.cell? ⟨e.b, 2, none⟩ = some u := by
    have h2 := cell_of_blk he 2
    match hv : e.val, hz with
    | [x0], _ => exact ⟨nx, by rw [h2, hv]; rfl⟩
  obtain ⟨u, hnx⟩ := hnx
  have hfe : w.frozen? ⟨e.b, 2, none⟩ = false := free_of_blk he 2
  have hrc : w.cell? ⟨t, i, none⟩ = some (hp c) := by rw [row_cell hrow i hlt, hc']
  have hft : w.frozen? ⟨t, i, none⟩ = false := free_of_blk hrow i
  have hp1 : (hp c).oneCell' = true := by cases c <;> rfl
  have hp2 : ∃ a, hp c = .pointer a := by cases c <;> exact ⟨_, rfl⟩
  obtain ⟨a, hpa⟩ := hp2
  rw [hpa] at hrc hp1 ⊢
  obtain ⟨b, hb⟩ : ∃ b, e.b = b := ⟨_, rfl⟩
  rw [hb] at hkey hnx hfe hne ⊢
  obtain ⟨key, hkk⟩ : ∃ key, e.key = key := ⟨_, rfl⟩
  rw [hkk] at hkey HSL
  have hrc2 : (w.setCell ⟨b, 2, none⟩ (.pointer a)).cell? ⟨t, i, none⟩ = some (.pointer a) := by
    rw [World.cell?_setCell_other _ _ _ _ (by intro e; injection e; omega)]; exact hrc
  clear hk hs hz h hrow he hi hc hc' hsl hpa hb hkk
  go_enter Try.func66, Try.ntmps66
  go_wp2_with (go_at_call 98; refine (HSL.out).mono ?_; rintro e w' ⟨rfl, rfl⟩)
  go_end0
  exact ⟨rfl, rfl⟩
end Go.Proofs.Ytkecipdonamjaaa.Di
