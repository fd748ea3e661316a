/- How far a dict moves in a call, that moving ends, what Sample draws. No condition; no program. -/
import Derived.Test.YtkecipdonamjaaaDictL
namespace Go.Proofs.Ytkecipdonamjaaa

theorem passM_stop (old : List (List E)) : ∀ k a, old[passM old k a]? = some [] → passM old k a = a + k := by
  intro k
  induction k with
  | zero => intro a _; rfl
  | succ k ih =>
    intro a h
    unfold passM at h ⊢
    split at h
    · rw [ih (a + 1) h]; omega
    · rename_i hs
      exact absurd h hs
/-- one step of a dict that moves -/
theorem step_cases {M : DM} (h : Inv M) (hy : M.young ≠ []) :
    ((stepM M).young = [] ∧ (stepM M).old.length = M.young.length ∧ (stepM M).at_ = 0) ∨
      ((stepM M).young ≠ [] ∧ (stepM M).old.length = M.old.length ∧ (stepM M).young.length = M.young.length ∧ M.at_ + 1 ≤ (stepM M).at_ ∧ (stepM M).at_ ≤ M.at_ + 11) := by
  rw [stepM_moving M hy]
  have hl := move_lens M (passM M.old 10 M.at_)
  obtain ⟨N, hN⟩ : ∃ N, N = moveM M (passM M.old 10 M.at_) := ⟨_, rfl⟩
  have hi := inv_move M h hy N hN
  have hprog : N.at_ = N.old.length ∨ M.at_ + 1 ≤ N.at_ := by
    rcases move_cases M (passM M.old 10 M.at_) with hc | ⟨e, r, hs, hc⟩
    · rw [hc] at hN
      cases hg : M.old[passM M.old 10 M.at_]? with
      | none =>
        left
        have h1 := passM_le M.old 10 M.at_ (by have := h.moving hy; omega)
        rw [List.getElem?_eq_none_iff] at hg
        rw [hN]; simp only; omega
      | some c =>
        cases c with
        | nil => right; rw [hN]; simp only; rw [passM_stop _ _ _ hg]; omega
        | cons e r =>
          exfalso
          have h2 : moveM M (passM M.old 10 M.at_) = { M with old := M.old.set (passM M.old 10 M.at_) [], young := (e :: r).foldl (hangM M.seed) M.young, at_ := passM M.old 10 M.at_ + 1 } := by unfold moveM; rw [hg]
          rw [hc] at h2
          have := congrArg DM.at_ h2
          simp at this
    · right
      rw [hc] at hN
      have := (passM_ge M.old 10 M.at_).1
      rw [hN]; simp only; omega
  rw [← hN] at hl ⊢
  have hyl : N.young ≠ [] := len_ne hl.2.1.symm hy
  by_cases he : N.at_ = N.old.length
  · rw [endM_pos N he]
    exact .inl ⟨rfl, hl.2.1, rfl⟩
  · rw [endM_neg N he]
    exact .inr ⟨hyl, hl.1, hl.2.1, hprog.resolve_left he, hi.2.2.2.2.2⟩
/-- in no call at goes on by more than 11, unless the moving ends -/
def Little (M N : DM) : Prop := (M.young ≠ [] → N.old.length = M.old.length → N.young.length = M.young.length → M.at_ ≤ N.at_ ∧ N.at_ ≤ M.at_ + 11) ∧ (M.young = [] → N.at_ = 0)
theorem little_step {M : DM} (h : Inv M) : Little M (stepM M) := by
  refine ⟨?_, fun hy => by rw [stepM_still M hy]; exact h.still hy⟩
  intro hy h1 h2
  rcases step_cases h hy with ⟨g1, _, _⟩ | ⟨_, _, _, g4, g5⟩
  · rw [g1] at h2; exact absurd (List.length_eq_zero_iff.1 h2.symm) hy
  · omega
theorem little_same {M N K : DM} (h : Little M N) (h1 : K.old.length = N.old.length) (h2 : K.young.length = N.young.length) (h3 : K.at_ = N.at_) : Little M K := by
  refine ⟨?_, fun hy => by rw [h3]; exact h.2 hy⟩
  intro hy g1 g2
  rw [h3]
  exact h.1 hy (h1 ▸ g1) (h2 ▸ g2)
theorem grow_at (M : DM) (t : Nat) : (growM M t).at_ = M.at_ := by
  unfold growM
  split
  · rfl
  · split <;> rfl
theorem old_of_young {M : DM} (h : Inv M) (hy : M.young ≠ []) : M.old ≠ [] := by
  intro h0; have := h.moving hy; rw [h0] at this; simp at this
theorem add_lens (M : DM) (e : E) : (addM M e).old.length = M.old.length ∧ (addM M e).young.length = M.young.length ∧ (addM M e).at_ = M.at_ := by
  unfold addM
  split
  · exact ⟨hangM_length _ _ _, rfl, rfl⟩
  · exact ⟨rfl, hangM_length _ _ _, rfl⟩
theorem grow_moving {M : DM} (h : Inv M) (hy : M.young ≠ []) (t : Nat) : growM M t = M := by
  unfold growM
  rw [if_neg (old_of_young h hy), if_neg (fun e => hy e.1)]
theorem little_set {M : DM} (h : Inv M) (key : ByteArray) (v : List Value) (t b : Nat) : Little M (setM M key v t b) := by
  unfold setM
  cases hput : putM (stepM M) key v with
  | some N =>
    obtain ⟨_, _, _, i4, i5, _, _, i8, _⟩ := inv_put (inv_step M h) key v hput
    exact little_same (little_step h) i4 i5 i8
  | none =>
    show Little M (addM (growM (stepM M) t) ⟨b, key, v⟩)
    have hal := add_lens (growM (stepM M) t) ⟨b, key, v⟩
    refine ⟨?_, fun hy => by rw [hal.2.2, grow_at, stepM_still M hy]; exact h.still hy⟩
    intro hy g1 g2
    rcases step_cases h hy with ⟨s1, s2, s3⟩ | ⟨s1, s2, s3, s4, s5⟩
    · exfalso
      rw [hal.1] at g1
      rw [hal.2.1] at g2
      have hpos := List.length_pos_iff.2 hy
      unfold growM at g1 g2
      by_cases ho : (stepM M).old = []
      · rw [ho] at s2; simp at s2; omega
      · rw [if_neg ho] at g1 g2
        by_cases hg : (stepM M).young = [] ∧ (stepM M).old.length ≤ (stepM M).n
        · rw [if_pos hg] at g1 g2
          simp only [List.length_replicate] at g2
          omega
        · rw [if_neg hg] at g1 g2
          rw [s1] at g2
          simp at g2
          omega
    · have hg := grow_moving (inv_step M h) s1 t
      rw [hg] at hal ⊢
      rw [hal.2.2]; omega
theorem little_del {M : DM} (h : Inv M) (key : ByteArray) (t : Nat) : Little M (delM M key t) := by
  unfold delM
  cases hd : dropM (stepM M) key with
  | none => exact little_step h
  | some N =>
    show Little M (shrinkM N t)
    obtain ⟨_, _, _, i4, i5, _, _, i8, _⟩ := inv_drop (inv_step M h) key hd
    unfold shrinkM
    by_cases hs : N.young = [] ∧ 4 < N.old.length ∧ 8 * N.n ≤ N.old.length
    · rw [if_pos hs]
      refine ⟨?_, fun hy => by show N.at_ = 0; rw [i8, stepM_still M hy]; exact h.still hy⟩
      intro hy g1 g2
      exfalso
      simp only [List.length_replicate] at g1 g2
      have hle := fitM_le N.n 64 4 (by omega)
      rcases step_cases h hy with ⟨s1, s2, s3⟩ | ⟨s1, s2, s3, s4, s5⟩
      · omega
      · rw [hs.1] at i5; simp at i5; exact s1 (List.length_eq_zero_iff.1 i5.symm)
    · rw [if_neg hs]
      exact little_same (little_step h) i4 i5 i8
/-- how a dict stands behind k steps of moving -/
def Gone (M N : DM) (k : Nat) : Prop := (M.young = [] → N.young = [] ∧ N.old.length = M.old.length) ∧
  (M.young ≠ [] → (N.young = [] ∧ N.old.length = M.young.length) ∨ (N.young ≠ [] ∧ N.old.length = M.old.length ∧ N.young.length = M.young.length ∧ M.at_ + k ≤ N.at_))
theorem gone_zero (M : DM) : Gone M M 0 := ⟨fun h => ⟨h, rfl⟩, fun h => .inr ⟨h, rfl, rfl, Nat.le_refl _⟩⟩
theorem gone_step {M N : DM} {k : Nat} (h : Gone M N k) (hN : Inv N) : Gone M (stepM N) (k + 1) := by
  refine ⟨fun hy => ?_, fun hy => ?_⟩
  · have := h.1 hy
    rw [stepM_still N this.1]; exact this
  · rcases h.2 hy with h1 | ⟨h1, h2, h3, h4⟩
    · rw [stepM_still N h1.1]; exact .inl h1
    · rcases step_cases hN h1 with ⟨s1, s2, s3⟩ | ⟨s1, s2, s3, s4, s5⟩
      · exact .inl ⟨s1, by omega⟩
      · exact .inr ⟨s1, by omega, by omega, by omega⟩
theorem gone_end {M N : DM} (h : Gone M N M.old.length) (hN : Inv N) : N.young = [] ∧ N.at_ = 0 ∧ ((M.young = [] ∧ N.old.length = M.old.length) ∨ (M.young ≠ [] ∧ N.old.length = M.young.length)) := by
  have key : N.young = [] ∧ ((M.young = [] ∧ N.old.length = M.old.length) ∨ (M.young ≠ [] ∧ N.old.length = M.young.length)) := by
    by_cases hy : M.young = []
    · have := h.1 hy; exact ⟨this.1, .inl ⟨hy, this.2⟩⟩
    · rcases h.2 hy with h1 | ⟨h1, h2, h3, h4⟩
      · exact ⟨h1.1, .inr ⟨hy, h1.2⟩⟩
      · have := hN.moving h1; omega
  exact ⟨key.1, hN.still key.1, key.2⟩

theorem set_seed {M : DM} (h : Inv M) (key : ByteArray) (v : List Value) (t b : Nat) : (setM M key v t b).seed = M.seed := by
  have hs := (step_lens M).2.2.1
  unfold setM
  cases hput : putM (stepM M) key v with
  | some N =>
    obtain ⟨_, _, _, _, _, i6, _⟩ := inv_put (inv_step M h) key v hput
    rw [← hs]; exact i6
  | none =>
    have hg := (grow_inv (inv_step M h) t).2.2.2.1
    show (addM (growM (stepM M) t) ⟨b, key, v⟩).seed = M.seed
    rw [← hs, ← hg]
    unfold addM
    split <;> rfl
theorem del_seed {M : DM} (h : Inv M) (key : ByteArray) (t : Nat) : (delM M key t).seed = M.seed := by
  have hs := (step_lens M).2.2.1
  unfold delM
  cases hd : dropM (stepM M) key with
  | none => exact hs
  | some N =>
    obtain ⟨_, _, _, _, _, i6, _⟩ := inv_drop (inv_step M h) key hd
    show (shrinkM N t).seed = M.seed
    rw [← hs, ← i6]
    unfold shrinkM
    split <;> rfl
/-- the buckets that may have keys -/
def opn (M : DM) : List (List E) := M.old.drop M.at_ ++ M.young
/-- the first bucket that has keys, from one on, round about -/
def pick (o : List (List E)) : Nat → Nat → List E
  | 0, _ => []
  | f + 1, i => match o[i]? with
    | some (e :: c) => e :: c
    | _ => pick o f ((i + 1) % o.length)
theorem pick_mem (o : List (List E)) : ∀ f i, pick o f i = [] ∨ pick o f i ∈ o := by
  intro f
  induction f with
  | zero => intro i; exact .inl rfl
  | succ f ih =>
    intro i
    unfold pick
    split
    · rename_i hs; exact .inr (List.mem_of_getElem? hs)
    · exact ih _
theorem pick_ne (o : List (List E)) (hpos : 0 < o.length) : ∀ f i j, i < o.length → j < f → (∃ c, o[(i + j) % o.length]? = some c ∧ c ≠ []) → pick o f i ≠ [] := by
  intro f
  induction f with
  | zero => intro i j _ hj; omega
  | succ f ih =>
    intro i j hi hj hc
    unfold pick
    split
    · exact List.cons_ne_nil _ _
    · rename_i hn
      cases j with
      | zero =>
        obtain ⟨c, hc1, hc2⟩ := hc
        rw [Nat.add_zero, Nat.mod_eq_of_lt hi] at hc1
        cases c with
        | nil => exact absurd rfl hc2
        | cons e c => exact absurd hc1 (hn e c)
      | succ j =>
        refine ih _ j (Nat.mod_lt _ hpos) (by omega) ?_
        rw [Nat.mod_add_mod, show i + 1 + j = i + (j + 1) by omega]
        exact hc
theorem pick_some (o : List (List E)) (i : Nat) (hi : i < o.length) (h : ∃ c ∈ o, c ≠ []) : pick o o.length i ≠ [] := by
  obtain ⟨c, hc, hne⟩ := h
  obtain ⟨m, hm, rfl⟩ := List.getElem_of_mem hc
  have hpos : 0 < o.length := by omega
  refine pick_ne o hpos o.length i ((m + o.length - i) % o.length) hi (Nat.mod_lt _ hpos) ⟨_, ?_, hne⟩
  rw [Nat.add_mod_mod, show i + (m + o.length - i) = m + o.length by omega, Nat.add_mod_right, Nat.mod_eq_of_lt hm]
  exact List.getElem?_eq_getElem hm
theorem pick_here (o : List (List E)) (f i : Nat) (e : E) (c : List E) (h : o[i]? = some (e :: c)) : pick o (f + 1) i = e :: c := by
  unfold pick; rw [h]
theorem opn_flatten {M : DM} (h : Inv M) : (opn M).flatten = entries M := by
  unfold opn entries
  rw [List.flatten_append]
  congr 1
  conv => rhs; rw [← List.take_append_drop M.at_ M.old, List.flatten_append]
  have : (M.old.take M.at_).flatten = [] := by
    rw [List.flatten_eq_nil_iff]
    intro c hc
    obtain ⟨i, hi, rfl⟩ := List.getElem_of_mem hc
    rw [List.length_take] at hi
    have := h.passed i (by omega)
    rw [List.getElem_take]
    rw [List.getElem?_eq_getElem (by omega)] at this
    exact Option.some.inj this
  rw [this, List.nil_append]
theorem opn_some {M : DM} (h : Inv M) (hn : M.n ≠ 0) : ∃ c ∈ opn M, c ≠ [] := by
  rw [h.count, ← opn_flatten h] at hn
  refine Classical.byContradiction fun hc => hn ?_
  have : (opn M).flatten = [] := by
    rw [List.flatten_eq_nil_iff]
    intro c hcm
    exact Classical.byContradiction fun hne => hc ⟨c, hcm, hne⟩
  rw [this]; rfl
/-- what is drawn for a number -/
def drawM (M : DM) (r : Nat) : ByteArray :=
  let c := pick (opn M) (opn M).length (r % (opn M).length)
  match c[r / (opn M).length % c.length]? with
  | some e => e.key
  | none => ⟨#[]⟩
theorem draw_there {M : DM} (h : Inv M) (hn : M.n ≠ 0) (r : Nat) : ∃ e ∈ entries M, drawM M r = e.key := by
  have hs := opn_some h hn
  have hpos : 0 < (opn M).length := by
    obtain ⟨c, hc, _⟩ := hs
    exact List.length_pos_of_mem hc
  have hne := pick_some (opn M) (r % (opn M).length) (Nat.mod_lt _ hpos) hs
  unfold drawM
  simp only
  generalize hc : pick (opn M) (opn M).length (r % (opn M).length) = c at *
  have hcm : c ∈ opn M := by
    rcases pick_mem (opn M) (opn M).length (r % (opn M).length) with h1 | h1
    · rw [hc] at h1; exact absurd h1 hne
    · rw [hc] at h1; exact h1
  have hcp := List.length_pos_iff.2 hne
  have hlt := Nat.mod_lt (r / (opn M).length) hcp
  rw [List.getElem?_eq_getElem hlt]
  exact ⟨_, by rw [← opn_flatten h]; exact List.mem_flatten.2 ⟨c, hcm, List.getElem_mem hlt⟩, rfl⟩
theorem draw_all {M : DM} (h : Inv M) (e : E) (he : e ∈ entries M) : ∃ r, r < (opn M).length * M.n ∧ drawM M r = e.key := by
  rw [← opn_flatten h] at he
  obtain ⟨c, hc, hec⟩ := List.mem_flatten.1 he
  obtain ⟨b, hb, rfl⟩ := List.getElem_of_mem hc
  obtain ⟨k, hk, hke⟩ := List.getElem_of_mem hec
  have hpos : 0 < (opn M).length := by omega
  refine ⟨k * (opn M).length + b, ?_, ?_⟩
  · have hkn : k + 1 ≤ M.n := by
      rw [h.count, ← opn_flatten h]
      have h1 := (List.sublist_flatten_of_mem hc).length_le
      omega
    calc k * (opn M).length + b < k * (opn M).length + (opn M).length := by omega
      _ = (opn M).length * (k + 1) := by rw [Nat.mul_add, Nat.mul_one, Nat.mul_comm]
      _ ≤ (opn M).length * M.n := Nat.mul_le_mul_left _ hkn
  · unfold drawM
    have e1 : (k * (opn M).length + b) % (opn M).length = b := by rw [Nat.mul_comm, Nat.mul_add_mod, Nat.mod_eq_of_lt hb]
    have e2 : (k * (opn M).length + b) / (opn M).length = k := by rw [Nat.mul_comm, Nat.mul_add_div hpos, Nat.div_eq_of_lt hb, Nat.add_zero]
    simp only
    rw [e1, e2]
    obtain ⟨f, hf⟩ : ∃ f, (opn M).length = f + 1 := ⟨(opn M).length - 1, by omega⟩
    obtain ⟨x, y, hxy⟩ : ∃ x y, (opn M)[b] = x :: y := by
      cases hz : (opn M)[b] with
      | nil => rw [hz] at hk; simp at hk
      | cons x y => exact ⟨x, y, rfl⟩
    have hp : pick (opn M) (opn M).length b = (opn M)[b] := by
      conv => lhs; rw [hf]
      rw [hxy]
      exact pick_here _ _ _ _ _ (by rw [List.getElem?_eq_getElem hb, hxy])
    rw [hp, Nat.mod_eq_of_lt hk, List.getElem?_eq_getElem hk]
    exact congrArg E.key hke
end Go.Proofs.Ytkecipdonamjaaa
