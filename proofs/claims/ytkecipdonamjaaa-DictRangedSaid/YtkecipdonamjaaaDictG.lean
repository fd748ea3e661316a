/- Get, Set, Delete, Clear of package dict as plain functions of a table; what they keep. No condition; no program. -/
import Derived.Test.YtkecipdonamjaaaDictF
namespace Go.Proofs.Ytkecipdonamjaaa

/-- a bucket, parted at a key's entry -/
def splitK (key : ByteArray) : List E → Option (List E × E × List E)
  | [] => none
  | e :: c => if e.key = key then some ([], e, c) else (splitK key c).map fun x => (e :: x.1, x.2.1, x.2.2)
theorem splitK_none (key : ByteArray) (c : List E) : splitK key c = none ↔ ∀ x ∈ c, x.key ≠ key := by
  induction c with
  | nil => simp [splitK]
  | cons e c ih =>
    unfold splitK
    by_cases h : e.key = key
    · simp [h]
    · simp [h, ih]
theorem splitK_some (key : ByteArray) (c pre post : List E) (e : E) : splitK key c = some (pre, e, post) ↔ c = pre ++ e :: post ∧ e.key = key ∧ ∀ x ∈ pre, x.key ≠ key := by
  induction c generalizing pre with
  | nil => simp [splitK]
  | cons a c ih =>
    unfold splitK
    by_cases h : a.key = key
    · rw [if_pos h]
      constructor
      · intro e1
        simp only [Option.some.injEq, Prod.mk.injEq] at e1
        obtain ⟨rfl, rfl, rfl⟩ := e1
        exact ⟨rfl, h, fun x hx => by cases hx⟩
      · rintro ⟨h1, h2, h3⟩
        cases pre with
        | nil => simp only [List.nil_append, List.cons.injEq] at h1; obtain ⟨rfl, rfl⟩ := h1; rfl
        | cons p pre =>
          simp only [List.cons_append, List.cons.injEq] at h1
          exact absurd (h1.1 ▸ h) (h3 p (by simp))
    · rw [if_neg h]
      constructor
      · intro e1
        cases hs : splitK key c with
        | none => rw [hs] at e1; cases e1
        | some y =>
          rw [hs] at e1
          obtain ⟨p, x, q⟩ := y
          simp only [Option.map_some, Option.some.injEq, Prod.mk.injEq] at e1
          obtain ⟨rfl, rfl, rfl⟩ := e1
          obtain ⟨g1, g2, g3⟩ := (ih p).1 hs
          refine ⟨by rw [g1]; rfl, g2, fun z hz => ?_⟩
          rcases List.mem_cons.1 hz with rfl | hz
          · exact h
          · exact g3 z hz
      · rintro ⟨h1, h2, h3⟩
        cases pre with
        | nil => simp only [List.nil_append, List.cons.injEq] at h1; exact absurd (h1.1 ▸ h2) h
        | cons p pre =>
          simp only [List.cons_append, List.cons.injEq] at h1
          obtain ⟨rfl, rfl⟩ := h1
          have := (ih pre).2 ⟨rfl, h2, fun x hx => h3 x (by simp [hx])⟩
          rw [this]; rfl

/-- a key's entry in a table: its bucket, what stands before it there, itself, what stands behind -/
def locT (seed : UInt64) (cs : List (List E)) (key : ByteArray) : Option (Nat × List E × E × List E) :=
  (cs[slotOf seed cs.length key]?).bind fun c => (splitK key c).map fun x => (slotOf seed cs.length key, x)
theorem locT_some {seed : UInt64} {cs : List (List E)} {key : ByteArray} {i : Nat} {pre post : List E} {e : E} (h : locT seed cs key = some (i, pre, e, post)) :
    slotOf seed cs.length key = i ∧ cs[i]? = some (pre ++ e :: post) ∧ e.key = key ∧ ∀ x ∈ pre, x.key ≠ key := by
  unfold locT at h
  cases hc : cs[slotOf seed cs.length key]? with
  | none => rw [hc] at h; cases h
  | some c =>
    rw [hc, Option.bind_some] at h
    cases hs : splitK key c with
    | none => rw [hs] at h; cases h
    | some x =>
      rw [hs] at h
      obtain ⟨p, x, q⟩ := x
      simp only [Option.map_some, Option.some.injEq, Prod.mk.injEq] at h
      obtain ⟨rfl, rfl, rfl, rfl⟩ := h
      obtain ⟨g1, g2, g3⟩ := (splitK_some _ _ _ _ _).1 hs
      exact ⟨rfl, by rw [hc, g1], g2, g3⟩
theorem locT_none {seed : UInt64} {cs : List (List E)} {key : ByteArray} (h : locT seed cs key = none) : ∀ c, cs[slotOf seed cs.length key]? = some c → ∀ x ∈ c, x.key ≠ key := by
  intro c hc
  unfold locT at h
  rw [hc, Option.bind_some] at h
  cases hs : splitK key c with
  | none => exact (splitK_none _ _).1 hs
  | some x => rw [hs] at h; cases h
theorem placed_none {seed : UInt64} {cs : List (List E)} {key : ByteArray} (hp : Placed seed cs) (h : locT seed cs key = none) : ∀ e ∈ cs.flatten, e.key ≠ key := by
  intro e he hk
  obtain ⟨c, hc, hec⟩ := List.mem_flatten.1 he
  obtain ⟨i, hi, rfl⟩ := List.getElem_of_mem hc
  have h1 := hp i _ (List.getElem?_eq_getElem hi) e hec
  rw [hk] at h1
  exact locT_none h _ (by rw [h1]; exact List.getElem?_eq_getElem hi) e hec hk

/-- the bucket changed -/
def putT (cs : List (List E)) (i : Nat) (pre : List E) (e : E) (post : List E) (v : List Value) : List (List E) := cs.set i (pre ++ { e with val := v } :: post)
def delT (cs : List (List E)) (i : Nat) (pre post : List E) : List (List E) := cs.set i (pre ++ post)

def getM (M : DM) (key : ByteArray) : Option (List Value) := match locT M.seed M.old key with
  | some x => some x.2.2.1.val
  | none => (locT M.seed M.young key).map fun x => x.2.2.1.val
def putM (M : DM) (key : ByteArray) (v : List Value) : Option DM := match locT M.seed M.old key with
  | some (i, pre, e, post) => some { M with old := putT M.old i pre e post v }
  | none => match locT M.seed M.young key with
    | some (i, pre, e, post) => some { M with young := putT M.young i pre e post v }
    | none => none
def growM (M : DM) (t : Nat) : DM :=
  if M.old = [] then { M with old := List.replicate 4 [], told := t }
  else if M.young = [] ∧ M.old.length ≤ M.n then { M with young := List.replicate (2 * M.old.length) [], tyoung := t } else M
def addM (M : DM) (e : E) : DM := if M.young = [] then { M with old := hangM M.seed M.old e, n := M.n + 1 } else { M with young := hangM M.seed M.young e, n := M.n + 1 }
def setM (M : DM) (key : ByteArray) (v : List Value) (t b : Nat) : DM := match putM (stepM M) key v with
  | some N => N
  | none => addM (growM (stepM M) t) ⟨b, key, v⟩
/-- the number of buckets of a table that shrinks -/
def fitM (n : Nat) : Nat → Nat → Nat
  | 0, s => s
  | k + 1, s => if s < n then fitM n k (2 * s) else s
def shrinkM (M : DM) (t : Nat) : DM := if M.young = [] ∧ 4 < M.old.length ∧ 8 * M.n ≤ M.old.length then { M with young := List.replicate (fitM M.n 64 4) [], tyoung := t } else M
def dropM (M : DM) (key : ByteArray) : Option DM := match locT M.seed M.old key with
  | some (i, pre, _, post) => some { M with old := delT M.old i pre post, n := M.n - 1 }
  | none => match locT M.seed M.young key with
    | some (i, pre, _, post) => some { M with young := delT M.young i pre post, n := M.n - 1 }
    | none => none
def delM (M : DM) (key : ByteArray) (t : Nat) : DM := match dropM (stepM M) key with
  | some N => shrinkM N t
  | none => stepM M

theorem set_perm (cs : List (List E)) : ∀ i (h : i < cs.length) (c : List E), ((cs.set i c).flatten).Perm (c ++ (cs.set i []).flatten) := by
  intro i h c
  have := set_nil_perm (cs.set i c) i (by simpa using h)
  simpa using this
theorem loc_perm {seed : UInt64} {cs : List (List E)} {key : ByteArray} {i : Nat} {pre post : List E} {e : E} (h : locT seed cs key = some (i, pre, e, post)) :
    (cs.flatten).Perm (e :: (delT cs i pre post).flatten) ∧ ∀ v, ((putT cs i pre e post v).flatten).Perm ({ e with val := v } :: (delT cs i pre post).flatten) := by
  obtain ⟨h1, h2, h3, h4⟩ := locT_some h
  obtain ⟨hi, hc⟩ := List.getElem?_eq_some_iff.1 h2
  have p1 := set_nil_perm cs i hi
  rw [hc] at p1
  have p2 := set_perm cs i hi (pre ++ post)
  refine ⟨p1.trans ?_, fun v => (set_perm cs i hi _).trans ?_⟩
  · refine List.Perm.trans ?_ (p2.symm.cons e)
    rw [List.append_assoc, List.append_assoc]
    exact List.perm_middle
  · refine List.Perm.trans ?_ (p2.symm.cons _)
    rw [List.append_assoc, List.append_assoc]
    exact List.perm_middle
/-- the pairs of a table -/
abbrev Tb := List (ByteArray × List Value)
def pairOf (e : E) : ByteArray × List Value := (e.key, e.val)
def tb (M : DM) : Tb := (entries M).map pairOf
def tbDel (key : ByteArray) (T : Tb) : Tb := T.filter fun x => decide (x.1 ≠ key)
def tbSet (key : ByteArray) (v : List Value) (T : Tb) : Tb := (key, v) :: tbDel key T

theorem entries_old (M : DM) (key : ByteArray) (i : Nat) (pre post : List E) (e : E) (h : locT M.seed M.old key = some (i, pre, e, post)) :
    (entries M).Perm (e :: entries { M with old := delT M.old i pre post, n := M.n - 1 }) ∧ ∀ v, (entries { M with old := putT M.old i pre e post v }).Perm ({ e with val := v } :: entries { M with old := delT M.old i pre post, n := M.n - 1 }) := by
  obtain ⟨h1, h2⟩ := loc_perm h
  exact ⟨h1.append_right _, fun v => (h2 v).append_right _⟩
theorem entries_young (M : DM) (key : ByteArray) (i : Nat) (pre post : List E) (e : E) (h : locT M.seed M.young key = some (i, pre, e, post)) :
    (entries M).Perm (e :: entries { M with young := delT M.young i pre post, n := M.n - 1 }) ∧ ∀ v, (entries { M with young := putT M.young i pre e post v }).Perm ({ e with val := v } :: entries { M with young := delT M.young i pre post, n := M.n - 1 }) := by
  obtain ⟨h1, h2⟩ := loc_perm h
  exact ⟨(h1.append_left _).trans List.perm_middle, fun v => ((h2 v).append_left _).trans List.perm_middle⟩
theorem tbDel_perm {key : ByteArray} {v : List Value} {T R : Tb} (h : T.Perm ((key, v) :: R)) (hk : (T.map (·.1)).Nodup) : (tbDel key T).Perm R := by
  have h2 := h.filter fun x => decide (x.1 ≠ key)
  have h3 := (h.map (·.1)).nodup_iff.1 hk
  rw [List.map_cons, List.nodup_cons] at h3
  have e : ((key, v) :: R).filter (fun x => decide (x.1 ≠ key)) = R := by
    rw [List.filter_cons, if_neg (by simp), List.filter_eq_self]
    intro x hx
    simp only [ne_eq, decide_not, Bool.not_eq_eq_eq_not, Bool.not_true, decide_eq_false_iff_not]
    intro e
    have hm : x.1 ∈ R.map (·.1) := List.mem_map_of_mem (f := Prod.fst) hx
    rw [e] at hm
    exact h3.1 hm
  rw [e] at h2
  exact h2
theorem tbDel_none {key : ByteArray} {T : Tb} (h : ∀ x ∈ T, x.1 ≠ key) : tbDel key T = T := by
  unfold tbDel
  rw [List.filter_eq_self]
  intro x hx
  simpa using h x hx
theorem tb_keys (M : DM) : (tb M).map (·.1) = (entries M).map E.key := by unfold tb; rw [List.map_map]; rfl
theorem put_placed {seed : UInt64} {cs : List (List E)} {key : ByteArray} {i : Nat} {pre post : List E} {e : E} (hp : Placed seed cs) (h : locT seed cs key = some (i, pre, e, post)) (v : List Value) :
    Placed seed (putT cs i pre e post v) ∧ Placed seed (delT cs i pre post) := by
  obtain ⟨h1, h2, h3, h4⟩ := locT_some h
  constructor
  · refine set_placed seed cs i _ hp (fun x hx => ?_)
    rcases List.mem_append.1 hx with hx | hx
    · exact hp i _ h2 x (by simp [hx])
    · rcases List.mem_cons.1 hx with rfl | hx
      · show slotOf seed cs.length e.key = i
        rw [h3]; exact h1
      · exact hp i _ h2 x (by simp [hx])
  · refine set_placed seed cs i _ hp (fun x hx => ?_)
    rcases List.mem_append.1 hx with hx | hx
    · exact hp i _ h2 x (by simp [hx])
    · exact hp i _ h2 x (by simp [hx])
theorem set_passed {M : DM} {i : Nat} (h : Inv M) (hc : ∃ x, M.old[i]? = some x ∧ x ≠ []) (c' : List E) : ∀ j, j < M.at_ → (M.old.set i c')[j]? = some [] := by
  intro j hj
  obtain ⟨x, hx, hne⟩ := hc
  rw [List.getElem?_set, if_neg]
  · exact h.passed j hj
  · intro e
    subst e
    have := h.passed _ hj
    rw [hx] at this
    exact hne (Option.some.inj this)
theorem len_ne {α : Type} {a b : List α} (h : a.length = b.length) (hb : a ≠ []) : b ≠ [] := by
  intro e; rw [e] at h; exact hb (List.length_eq_zero_iff.1 h)
theorem getM_some {M : DM} (h : Inv M) (key : ByteArray) (v : List Value) : getM M key = some v ↔ (key, v) ∈ tb M := by
  have hk := h.keys
  unfold getM
  cases h1 : locT M.seed M.old key with
  | some x =>
    obtain ⟨i, pre, e, post⟩ := x
    have hp := (entries_old M key i pre post e h1).1
    obtain ⟨_, _, h3, _⟩ := locT_some h1
    have hn := (hp.map E.key).nodup_iff.1 hk
    rw [List.map_cons, List.nodup_cons] at hn
    simp only [Option.some.injEq]
    unfold tb
    rw [List.mem_map]
    constructor
    · rintro rfl; exact ⟨e, hp.mem_iff.2 (by simp), by unfold pairOf; rw [h3]⟩
    · rintro ⟨x, hx, hxe⟩
      simp only [pairOf, Prod.mk.injEq] at hxe
      rcases List.mem_cons.1 (hp.mem_iff.1 hx) with rfl | hx
      · exact hxe.2
      · exact absurd (List.mem_map_of_mem (f := E.key) hx) (by rw [hxe.1, ← h3]; exact hn.1)
  | none =>
    simp only
    cases h2 : locT M.seed M.young key with
    | some x =>
      obtain ⟨i, pre, e, post⟩ := x
      have hp := (entries_young M key i pre post e h2).1
      obtain ⟨_, _, h3, _⟩ := locT_some h2
      have hn := (hp.map E.key).nodup_iff.1 hk
      rw [List.map_cons, List.nodup_cons] at hn
      simp only [Option.map_some, Option.some.injEq]
      unfold tb
      rw [List.mem_map]
      constructor
      · rintro rfl; exact ⟨e, hp.mem_iff.2 (by simp), by unfold pairOf; rw [h3]⟩
      · rintro ⟨x, hx, hxe⟩
        simp only [pairOf, Prod.mk.injEq] at hxe
        rcases List.mem_cons.1 (hp.mem_iff.1 hx) with rfl | hx
        · exact hxe.2
        · exact absurd (List.mem_map_of_mem (f := E.key) hx) (by rw [hxe.1, ← h3]; exact hn.1)
    | none =>
      simp only [Option.map_none, reduceCtorEq, false_iff]
      unfold tb
      rw [List.mem_map]
      rintro ⟨x, hx, hxe⟩
      simp only [pairOf, Prod.mk.injEq] at hxe
      rcases List.mem_append.1 hx with hx | hx
      · exact placed_none h.pold h1 x hx hxe.1
      · exact placed_none h.pyoung h2 x hx hxe.1
theorem inv_put {M N : DM} (h : Inv M) (key : ByteArray) (v : List Value) (hN : putM M key v = some N) :
    Inv N ∧ (tb N).Perm (tbSet key v (tb M)) ∧ (∃ u, (key, u) ∈ tb M) ∧ N.old.length = M.old.length ∧ N.young.length = M.young.length ∧ N.seed = M.seed ∧ N.n = M.n ∧ N.at_ = M.at_ ∧ N.told = M.told ∧ N.tyoung = M.tyoung := by
  have hk := h.keys
  have hk2 : ((tb M).map (·.1)).Nodup := by rw [tb_keys]; exact hk
  unfold putM at hN
  cases h1 : locT M.seed M.old key with
  | some x =>
    obtain ⟨i, pre, e, post⟩ := x
    rw [h1] at hN
    simp only [Option.some.injEq] at hN
    subst hN
    obtain ⟨hp, hq⟩ := entries_old M key i pre post e h1
    obtain ⟨g1, g2, g3, g4⟩ := locT_some h1
    have hq' := hq v
    have hkeys : ((entries { M with old := putT M.old i pre e post v }).map E.key).Perm ((entries M).map E.key) := (hq'.map E.key).trans (hp.map E.key).symm
    have hl : (putT M.old i pre e post v).length = M.old.length := by simp [putT]
    have hpt := hp.map pairOf
    have hqt := hq'.map pairOf
    simp only [List.map_cons, pairOf, g3] at hpt hqt
    refine ⟨⟨(put_placed h.pold h1 v).1, h.pyoung, hkeys.nodup_iff.2 hk, ?_, h.syoung, ?_, h.still, ?_, ?_⟩, ?_, ?_, hl, rfl, rfl, rfl, rfl, rfl, rfl⟩
    · intro hne; rw [hl]; exact h.sold (len_ne hl hne)
    · intro hy; show M.at_ < (putT M.old i pre e post v).length; rw [hl]; exact h.moving hy
    · exact set_passed h ⟨_, g2, by simp⟩ _
    · rw [h.count, ← List.length_map (f := E.key), ← List.length_map (f := E.key)]; exact hkeys.length_eq.symm
    · exact hqt.trans ((tbDel_perm hpt hk2).symm.cons _)
    · exact ⟨e.val, hpt.mem_iff.2 (by simp)⟩
  | none =>
    rw [h1] at hN
    simp only at hN
    cases h2 : locT M.seed M.young key with
    | none => rw [h2] at hN; cases hN
    | some x =>
      obtain ⟨i, pre, e, post⟩ := x
      rw [h2] at hN
      simp only [Option.some.injEq] at hN
      subst hN
      obtain ⟨hp, hq⟩ := entries_young M key i pre post e h2
      obtain ⟨g1, g2, g3, g4⟩ := locT_some h2
      have hq' := hq v
      have hkeys : ((entries { M with young := putT M.young i pre e post v }).map E.key).Perm ((entries M).map E.key) := (hq'.map E.key).trans (hp.map E.key).symm
      have hl : (putT M.young i pre e post v).length = M.young.length := by simp [putT]
      have hpt := hp.map pairOf
      have hqt := hq'.map pairOf
      simp only [List.map_cons, pairOf, g3] at hpt hqt
      refine ⟨⟨h.pold, (put_placed h.pyoung h2 v).1, hkeys.nodup_iff.2 hk, h.sold, ?_, ?_, ?_, h.passed, ?_⟩, ?_, ?_, rfl, hl, rfl, rfl, rfl, rfl, rfl⟩
      · intro hne; rw [hl]; exact h.syoung (len_ne hl hne)
      · intro hy; exact h.moving (len_ne hl hy)
      · intro hy; exact h.still (List.length_eq_zero_iff.1 (by rw [← hl]; exact List.length_eq_zero_iff.2 hy))
      · rw [h.count, ← List.length_map (f := E.key), ← List.length_map (f := E.key)]; exact hkeys.length_eq.symm
      · exact hqt.trans ((tbDel_perm hpt hk2).symm.cons _)
      · exact ⟨e.val, hpt.mem_iff.2 (by simp)⟩
theorem put_none {M : DM} (h : Inv M) (key : ByteArray) (v : List Value) (hN : putM M key v = none) : (∀ e ∈ entries M, e.key ≠ key) ∧ locT M.seed M.old key = none ∧ locT M.seed M.young key = none := by
  unfold putM at hN
  cases h1 : locT M.seed M.old key with
  | some x => obtain ⟨i, pre, e, post⟩ := x; rw [h1] at hN; cases hN
  | none =>
    rw [h1] at hN
    simp only at hN
    cases h2 : locT M.seed M.young key with
    | some x => obtain ⟨i, pre, e, post⟩ := x; rw [h2] at hN; cases hN
    | none =>
      refine ⟨fun e he => ?_, rfl, rfl⟩
      rcases List.mem_append.1 he with he | he
      · exact placed_none h.pold h1 e he
      · exact placed_none h.pyoung h2 e he
theorem placed_replicate (seed : UInt64) (n : Nat) : Placed seed (List.replicate n []) := by
  intro i c hc e he
  rw [List.getElem?_replicate] at hc
  split at hc
  · cases hc; cases he
  · cases hc
theorem flatten_replicate_nil (n : Nat) : (List.replicate n ([] : List E)).flatten = [] := by
  rw [List.flatten_eq_nil_iff]
  intro c hc
  exact (List.mem_replicate.1 hc).2
theorem replicate_ne {n : Nat} (h : 0 < n) : List.replicate n ([] : List E) ≠ [] := by
  intro e
  have := congrArg List.length e
  simp at this
  omega
theorem grow_inv {M : DM} (h : Inv M) (t : Nat) : Inv (growM M t) ∧ entries (growM M t) = entries M ∧ (growM M t).old ≠ [] ∧ (growM M t).seed = M.seed ∧ (growM M t).n = M.n := by
  unfold growM
  by_cases h1 : M.old = []
  · have hy : M.young = [] := by
      cases hy : M.young with
      | nil => rfl
      | cons a l => have := h.moving (by rw [hy]; simp); rw [h1] at this; simp at this
    rw [if_pos h1]
    refine ⟨⟨placed_replicate _ _, h.pyoung, ?_, fun _ => ⟨2, by decide, by simp⟩, h.syoung, fun hne => absurd hy hne, h.still, ?_, ?_⟩, ?_, replicate_ne (by decide), rfl, rfl⟩
    · have := h.keys
      unfold entries at this ⊢
      rw [flatten_replicate_nil]; rw [h1] at this; exact this
    · intro i hi
      have := h.still hy
      simp only at hi
      omega
    · have := h.count
      unfold entries at this ⊢
      rw [flatten_replicate_nil]; rw [h1] at this; exact this
    · unfold entries
      rw [flatten_replicate_nil, h1]; rfl
  · rw [if_neg h1]
    by_cases h2 : M.young = [] ∧ M.old.length ≤ M.n
    · rw [if_pos h2]
      have hpos := List.length_pos_iff.2 h1
      have hat := h.still h2.1
      refine ⟨⟨h.pold, placed_replicate _ _, ?_, h.sold, fun _ => ?_, fun _ => by simp only; omega, fun hne => absurd hne (replicate_ne (by omega)), h.passed, ?_⟩, ?_, h1, rfl, rfl⟩
      · have := h.keys
        unfold entries at this ⊢
        rw [flatten_replicate_nil]; rw [h2.1] at this; exact this
      · obtain ⟨k, hk, hk2⟩ := h.sold h1
        exact ⟨k + 1, by omega, by simp only [List.length_replicate]; rw [hk2, Nat.pow_succ, Nat.mul_comm]⟩
      · have := h.count
        unfold entries at this ⊢
        rw [flatten_replicate_nil]; rw [h2.1] at this; exact this
      · unfold entries
        rw [flatten_replicate_nil, h2.1]; rfl
    · rw [if_neg h2]; exact ⟨h, rfl, h1, rfl, rfl⟩
theorem add_inv {M : DM} (h : Inv M) (hne : M.old ≠ []) (e : E) (hk : ∀ x ∈ entries M, x.key ≠ e.key) : Inv (addM M e) ∧ (entries (addM M e)).Perm (e :: entries M) := by
  have hkk : ((e :: entries M).map E.key).Nodup := by
    rw [List.map_cons, List.nodup_cons]
    refine ⟨?_, h.keys⟩
    intro hm
    obtain ⟨x, hx, hxe⟩ := List.mem_map.1 hm
    exact hk x hx hxe
  unfold addM
  by_cases hy : M.young = []
  · rw [if_pos hy]
    have hp : (entries { M with old := hangM M.seed M.old e, n := M.n + 1 }).Perm (e :: entries M) := (hangM_perm M.seed M.old e hne).append_right _
    have hl := hangM_length M.seed M.old e
    refine ⟨⟨hang_placed _ _ _ h.pold, h.pyoung, (hp.map E.key).nodup_iff.2 hkk, ?_, h.syoung, fun h2 => absurd hy h2, h.still, ?_, ?_⟩, hp⟩
    · intro _; rw [hl]; exact h.sold hne
    · intro i hi
      have := h.still hy
      simp only at hi
      omega
    · have := hp.length_eq
      rw [List.length_cons, ← h.count] at this
      exact this.symm
  · rw [if_neg hy]
    have hp : (entries { M with young := hangM M.seed M.young e, n := M.n + 1 }).Perm (e :: entries M) := ((hangM_perm M.seed M.young e hy).append_left _).trans List.perm_middle
    have hl := hangM_length M.seed M.young e
    refine ⟨⟨h.pold, hang_placed _ _ _ h.pyoung, (hp.map E.key).nodup_iff.2 hkk, h.sold, ?_, ?_, ?_, h.passed, ?_⟩, hp⟩
    · intro _; rw [hl]; exact h.syoung hy
    · intro _; exact h.moving hy
    · intro h2; exact h.still (List.length_eq_zero_iff.1 (by rw [← hl]; exact List.length_eq_zero_iff.2 h2))
    · have := hp.length_eq
      rw [List.length_cons, ← h.count] at this
      exact this.symm
theorem tb_perm {M N : DM} (h : (entries M).Perm (entries N)) : (tb M).Perm (tb N) := h.map pairOf
theorem tbDel_perm' {key : ByteArray} {T U : Tb} (h : T.Perm U) : (tbDel key T).Perm (tbDel key U) := h.filter _
theorem set_inv {M : DM} (h : Inv M) (key : ByteArray) (v : List Value) (t b : Nat) : Inv (setM M key v t b) ∧ (tb (setM M key v t b)).Perm (tbSet key v (tb M)) := by
  have hs := inv_step M h
  have hp := step_perm M h
  unfold setM
  cases hput : putM (stepM M) key v with
  | some N =>
    obtain ⟨h1, h2, _⟩ := inv_put hs key v hput
    exact ⟨h1, h2.trans ((tbDel_perm' (tb_perm hp)).cons _)⟩
  | none =>
    obtain ⟨h1, _, _⟩ := put_none hs key v hput
    obtain ⟨g1, g2, g3, g4, g5⟩ := grow_inv hs t
    obtain ⟨a1, a2⟩ := add_inv g1 g3 ⟨b, key, v⟩ (by rw [g2]; exact h1)
    refine ⟨a1, ?_⟩
    have e1 : (tb (addM (growM (stepM M) t) ⟨b, key, v⟩)).Perm ((key, v) :: tb (stepM M)) := by
      have := a2.map pairOf
      rw [List.map_cons, g2] at this
      exact this
    have e2 : tbDel key (tb (stepM M)) = tb (stepM M) := tbDel_none (fun x hx => by
      obtain ⟨e, he, rfl⟩ := List.mem_map.1 hx
      exact h1 e he)
    refine e1.trans (List.Perm.cons _ ?_)
    rw [← e2]
    exact tbDel_perm' (tb_perm hp)
theorem fitM_pow (n : Nat) : ∀ k s j, s = 2 ^ j → 2 ≤ j → ∃ i, 2 ≤ i ∧ fitM n k s = 2 ^ i := by
  intro k
  induction k with
  | zero => intro s j h hj; exact ⟨j, hj, h⟩
  | succ k ih =>
    intro s j h hj
    unfold fitM
    by_cases hs : s < n
    · rw [if_pos hs]; exact ih (2 * s) (j + 1) (by rw [h, Nat.pow_succ, Nat.mul_comm]) (by omega)
    · rw [if_neg hs]; exact ⟨j, hj, h⟩
theorem fitM_le (n : Nat) : ∀ k s, s ≤ max 4 (2 * n) → fitM n k s ≤ max 4 (2 * n) := by
  intro k
  induction k with
  | zero => intro s h; exact h
  | succ k ih =>
    intro s h
    unfold fitM
    by_cases hs : s < n
    · rw [if_pos hs]; exact ih (2 * s) (by omega)
    · rw [if_neg hs]; exact h
theorem shrink_inv {M : DM} (h : Inv M) (t : Nat) : Inv (shrinkM M t) ∧ entries (shrinkM M t) = entries M := by
  unfold shrinkM
  by_cases h2 : M.young = [] ∧ 4 < M.old.length ∧ 8 * M.n ≤ M.old.length
  · rw [if_pos h2]
    have hat := h.still h2.1
    obtain ⟨i, hi, he⟩ := fitM_pow M.n 64 4 2 rfl (by decide)
    have hpos : 0 < fitM M.n 64 4 := by rw [he]; exact Nat.two_pow_pos i
    refine ⟨⟨h.pold, placed_replicate _ _, ?_, h.sold, fun _ => ⟨i, hi, by simp only [List.length_replicate]; exact he⟩, fun _ => by simp only; omega, fun hne => absurd hne (replicate_ne hpos), h.passed, ?_⟩, ?_⟩
    · have := h.keys
      unfold entries at this ⊢
      rw [flatten_replicate_nil]; rw [h2.1] at this; exact this
    · have := h.count
      unfold entries at this ⊢
      rw [flatten_replicate_nil]; rw [h2.1] at this; exact this
    · unfold entries
      rw [flatten_replicate_nil, h2.1]; rfl
  · rw [if_neg h2]; exact ⟨h, rfl⟩
theorem inv_drop {M N : DM} (h : Inv M) (key : ByteArray) (hN : dropM M key = some N) :
    Inv N ∧ (tb N).Perm (tbDel key (tb M)) ∧ (∃ u, (key, u) ∈ tb M) ∧ N.old.length = M.old.length ∧ N.young.length = M.young.length ∧ N.seed = M.seed ∧ N.n + 1 = M.n ∧ N.at_ = M.at_ ∧ N.told = M.told ∧ N.tyoung = M.tyoung := by
  have hk := h.keys
  have hk2 : ((tb M).map (·.1)).Nodup := by rw [tb_keys]; exact hk
  unfold dropM at hN
  cases h1 : locT M.seed M.old key with
  | some x =>
    obtain ⟨i, pre, e, post⟩ := x
    rw [h1] at hN
    simp only [Option.some.injEq] at hN
    subst hN
    obtain ⟨hp, hq⟩ := entries_old M key i pre post e h1
    obtain ⟨g1, g2, g3, g4⟩ := locT_some h1
    have hl : (delT M.old i pre post).length = M.old.length := by simp [delT]
    have hpt := hp.map pairOf
    simp only [List.map_cons, pairOf, g3] at hpt
    have hn := (hp.map E.key).nodup_iff.1 hk
    rw [List.map_cons, List.nodup_cons] at hn
    have hlen := hp.length_eq
    rw [List.length_cons, ← h.count] at hlen
    refine ⟨⟨(put_placed h.pold h1 []).2, h.pyoung, hn.2, ?_, h.syoung, ?_, h.still, ?_, ?_⟩, ?_, ?_, hl, rfl, rfl, ?_, rfl, rfl, rfl⟩
    · intro hne; rw [hl]; exact h.sold (len_ne hl hne)
    · intro hy; show M.at_ < (delT M.old i pre post).length; rw [hl]; exact h.moving hy
    · exact set_passed h ⟨_, g2, by simp⟩ _
    · show M.n - 1 = _; omega
    · exact (tbDel_perm hpt hk2).symm
    · exact ⟨e.val, hpt.mem_iff.2 (by simp)⟩
    · show M.n - 1 + 1 = M.n; omega
  | none =>
    rw [h1] at hN
    simp only at hN
    cases h2 : locT M.seed M.young key with
    | none => rw [h2] at hN; cases hN
    | some x =>
      obtain ⟨i, pre, e, post⟩ := x
      rw [h2] at hN
      simp only [Option.some.injEq] at hN
      subst hN
      obtain ⟨hp, hq⟩ := entries_young M key i pre post e h2
      obtain ⟨g1, g2, g3, g4⟩ := locT_some h2
      have hl : (delT M.young i pre post).length = M.young.length := by simp [delT]
      have hpt := hp.map pairOf
      simp only [List.map_cons, pairOf, g3] at hpt
      have hn := (hp.map E.key).nodup_iff.1 hk
      rw [List.map_cons, List.nodup_cons] at hn
      have hlen := hp.length_eq
      rw [List.length_cons, ← h.count] at hlen
      refine ⟨⟨h.pold, (put_placed h.pyoung h2 []).2, hn.2, h.sold, ?_, ?_, ?_, h.passed, ?_⟩, ?_, ?_, rfl, hl, rfl, ?_, rfl, rfl, rfl⟩
      · intro hne; rw [hl]; exact h.syoung (len_ne hl hne)
      · intro hy; exact h.moving (len_ne hl hy)
      · intro hy; exact h.still (List.length_eq_zero_iff.1 (by rw [← hl]; exact List.length_eq_zero_iff.2 hy))
      · show M.n - 1 = _; omega
      · exact (tbDel_perm hpt hk2).symm
      · exact ⟨e.val, hpt.mem_iff.2 (by simp)⟩
      · show M.n - 1 + 1 = M.n; omega
theorem drop_none {M : DM} (h : Inv M) (key : ByteArray) (hN : dropM M key = none) : (∀ e ∈ entries M, e.key ≠ key) ∧ locT M.seed M.old key = none ∧ locT M.seed M.young key = none := by
  unfold dropM at hN
  cases h1 : locT M.seed M.old key with
  | some x => obtain ⟨i, pre, e, post⟩ := x; rw [h1] at hN; cases hN
  | none =>
    rw [h1] at hN
    simp only at hN
    cases h2 : locT M.seed M.young key with
    | some x => obtain ⟨i, pre, e, post⟩ := x; rw [h2] at hN; cases hN
    | none =>
      refine ⟨fun e he => ?_, rfl, rfl⟩
      rcases List.mem_append.1 he with he | he
      · exact placed_none h.pold h1 e he
      · exact placed_none h.pyoung h2 e he
theorem del_inv {M : DM} (h : Inv M) (key : ByteArray) (t : Nat) : Inv (delM M key t) ∧ (tb (delM M key t)).Perm (tbDel key (tb M)) := by
  have hs := inv_step M h
  have hp := step_perm M h
  unfold delM
  cases hd : dropM (stepM M) key with
  | some N =>
    obtain ⟨h1, h2, _⟩ := inv_drop hs key hd
    obtain ⟨g1, g2⟩ := shrink_inv h1 t
    refine ⟨g1, ?_⟩
    show ((entries (shrinkM N t)).map pairOf).Perm _
    rw [g2]
    exact h2.trans (tbDel_perm' (tb_perm hp))
  | none =>
    obtain ⟨h1, _, _⟩ := drop_none hs key hd
    refine ⟨hs, (tb_perm hp).trans ?_⟩
    have e2 : tbDel key (tb M) = tb M := tbDel_none (fun x hx => by
      obtain ⟨e, he, rfl⟩ := List.mem_map.1 hx
      exact h1 e (hp.mem_iff.2 he))
    rw [e2]
theorem chainsO_bs {ET : TypeId} (cs : List (List E)) (k : Nat) : Bs (chainsO ET cs) k ↔ k ∈ cs.flatten.map E.b := by
  induction cs with
  | nil => simp [chainsO, Bs]
  | cons c cs ih =>
    rw [chainsO_cons, Bs.append_iff, ih, List.flatten_cons, List.map_append, List.mem_append]
    have : Bs (chainO ET c) k ↔ k ∈ c.map E.b := by
      unfold Bs chainO
      rw [chainT_blocks]
    rw [this]
theorem tabO_bs {ET PT : TypeId} (t : Nat) (cs : List (List E)) (k : Nat) : Bs (tabO ET PT t cs) k ↔ (cs ≠ [] ∧ k = t) ∨ k ∈ cs.flatten.map E.b := by
  by_cases h : cs = []
  · subst h; simp [tabO_nil, Bs]
  · rw [tabO_of h, Bs.cons_iff, chainsO_bs]
    simp [h]
/-- the blocks of a dict -/
theorem dict_bs {ET PT DT : TypeId} (d : Nat) (M : DM) (k : Nat) : Bs (dictO ET PT DT d M) k ↔ k = d ∨ (M.old ≠ [] ∧ k = M.told) ∨ (M.young ≠ [] ∧ k = M.tyoung) ∨ k ∈ (entries M).map E.b := by
  unfold dictO entries
  rw [Bs.cons_iff, Bs.append_iff, tabO_bs, tabO_bs, List.map_append, List.mem_append]
  constructor
  · rintro (h | (h | h) | (h | h))
    · exact .inl h
    · exact .inr (.inl h)
    · exact .inr (.inr (.inr (.inl h)))
    · exact .inr (.inr (.inl h))
    · exact .inr (.inr (.inr (.inr h)))
  · rintro (h | h | h | (h | h))
    · exact .inl h
    · exact .inr (.inl (.inl h))
    · exact .inr (.inr (.inl h))
    · exact .inr (.inl (.inr h))
    · exact .inr (.inr (.inr h))
theorem step_bs {ET PT DT : TypeId} (d : Nat) (M : DM) (h : Inv M) (k : Nat) (hk : Bs (dictO ET PT DT d (stepM M)) k) : Bs (dictO ET PT DT d M) k := by
  rw [dict_bs] at hk ⊢
  have hp := (step_perm M h).map E.b
  rw [hp.mem_iff] at hk
  by_cases hy : M.young = []
  · rw [stepM_still M hy] at hk; exact hk
  · rw [stepM_moving M hy] at hk
    have hl := move_lens M (passM M.old 10 M.at_)
    have ht : (moveM M (passM M.old 10 M.at_)).told = M.told ∧ (moveM M (passM M.old 10 M.at_)).tyoung = M.tyoung := by
      rcases move_cases M (passM M.old 10 M.at_) with hc | ⟨e, r, _, hc⟩ <;> rw [hc] <;> exact ⟨rfl, rfl⟩
    generalize moveM M (passM M.old 10 M.at_) = N at hk hl ht
    by_cases he : N.at_ = N.old.length
    · rw [endM_pos N he] at hk
      rcases hk with h1 | ⟨_, h2⟩ | ⟨h3, _⟩ | h4
      · exact .inl h1
      · exact .inr (.inr (.inl ⟨hy, by rw [h2]; exact ht.2⟩))
      · exact absurd rfl h3
      · exact .inr (.inr (.inr h4))
    · rw [endM_neg N he] at hk
      rcases hk with h1 | ⟨h2, h3⟩ | ⟨_, h3⟩ | h4
      · exact .inl h1
      · exact .inr (.inl ⟨len_ne hl.1 h2, by rw [h3]; exact ht.1⟩)
      · exact .inr (.inr (.inl ⟨hy, by rw [h3]; exact ht.2⟩))
      · exact .inr (.inr (.inr h4))
theorem put_blocks {M N : DM} (key : ByteArray) (v : List Value) (hN : putM M key v = some N) : ((entries N).map E.b).Perm ((entries M).map E.b) := by
  unfold putM at hN
  cases h1 : locT M.seed M.old key with
  | some x =>
    obtain ⟨i, pre, e, post⟩ := x
    rw [h1] at hN
    simp only [Option.some.injEq] at hN
    subst hN
    obtain ⟨hp, hq⟩ := entries_old M key i pre post e h1
    exact ((hq v).map E.b).trans (hp.map E.b).symm
  | none =>
    rw [h1] at hN
    simp only at hN
    cases h2 : locT M.seed M.young key with
    | none => rw [h2] at hN; cases hN
    | some x =>
      obtain ⟨i, pre, e, post⟩ := x
      rw [h2] at hN
      simp only [Option.some.injEq] at hN
      subst hN
      obtain ⟨hp, hq⟩ := entries_young M key i pre post e h2
      exact ((hq v).map E.b).trans (hp.map E.b).symm
end Go.Proofs.Ytkecipdonamjaaa
