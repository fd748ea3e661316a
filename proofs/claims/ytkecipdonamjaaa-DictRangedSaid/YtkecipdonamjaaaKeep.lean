/- Blocks of cells that stay as they were, of a kind that is named. No condition; no program. -/
import Derived.Test.YtkecipdonamjaaaDictF
import Derived.Test.YtkecipdonamjaaaRangeV
namespace Go.Proofs.Ytkecipdonamjaaa
open Go.RowKit
def Keep (S : Nat → TypeId → Prop) (A B : World) : Prop := ∀ k cs t m, S k t → A.heap[k]? = some (.cells cs t m) → B.heap[k]? = some (.cells cs t m)
section
variable {S : Nat → TypeId → Prop} {A B C : World}
theorem Keep.refl (S : Nat → TypeId → Prop) (A : World) : Keep S A A := fun _ _ _ _ _ h => h
theorem Keep.trans (h : Keep S A B) (h' : Keep S B C) : Keep S A C := fun k cs t m hs hk => h' k cs t m hs (h k cs t m hs hk)
theorem Keep.of_fr {T : Nat → Prop} (h : Fr T A B) (hd : ∀ k cs t m, S k t → A.heap[k]? = some (.cells cs t m) → ¬ T k) : Keep S A B :=
  fun k cs t m hs hk => (h.block k (Array.getElem?_eq_some_iff.1 hk).1 (hd k cs t m hs hk)).trans hk
theorem Keep.mono {S' : Nat → TypeId → Prop} (h : Keep S A B) (hs : ∀ k t, S' k t → S k t) : Keep S' A B := fun k cs t m hk => h k cs t m (hs k t hk)
theorem Keep.put (S : Nat → TypeId → Prop) (W : World) (l : Nat) (o o' : Obj) (h : W.heap[l]? = some o) (ho : o.isCells = false) : Keep S W (W.putObj l o') := by
  intro k cs t m _ hk
  have hne : k ≠ l := by
    intro e
    subst e
    rw [h] at hk
    cases hk
    cases ho
  have hg := grownBy_putObj' W l o'
  exact (hg.block k (Array.getElem?_eq_some_iff.1 hk).1 (fun e => hne (Option.some.inj e))).trans hk
theorem Keep.putLoop (S : Nat → TypeId → Prop) (W : World) (l : Nat) (r : Loop) (o' : Obj) (h : W.heap[l]? = some (.loop r)) : Keep S W (W.putObj l o') := Keep.put S W l _ o' h rfl
theorem Late.trans {n0 : Nat} {A B C : World} (h : Late n0 A B) (h' : Late n0 B C) : Late n0 A C := fun k ds hk e => h' k ds hk (h k ds hk e)
theorem Late.of_others {A B : World} (n0 : Nat) (h : KeepsOthers A B) : Late n0 A B := fun k ds _ e => h.same k _ e rfl
theorem Late.putLoop (n0 : Nat) (W : World) (l : Nat) (r : Loop) (o' : Obj) (h : W.heap[l]? = some (.loop r)) : Late n0 W (W.putObj l o') := by
  intro k ds _ hk
  have hne : k ≠ l := by
    intro e
    subst e
    rw [h] at hk
    cases hk
  have hg := grownBy_putObj' W l o'
  exact (hg.block k (Array.getElem?_eq_some_iff.1 hk).1 (fun e => hne (Option.some.inj e))).trans hk
end
theorem chainT_cells {ET : TypeId} (c : List E) (tl : Value) : ∀ x ∈ chainT ET c tl, ∃ cs t, x.2 = .cells cs t (0, 0) := by
  induction c with
  | nil => intro x hx; cases hx
  | cons e c ih =>
    intro x hx
    rcases List.mem_cons.1 hx with rfl | hx
    · exact ⟨_, _, rfl⟩
    · exact ih x hx
theorem tabO_cells {ET PT : TypeId} (t : Nat) (cs : List (List E)) : ∀ x ∈ tabO ET PT t cs, ∃ cs t, x.2 = .cells cs t (0, 0) := by
  intro x hx
  unfold tabO at hx
  split at hx
  · cases hx
  · rcases List.mem_cons.1 hx with rfl | hx
    · exact ⟨_, _, rfl⟩
    · obtain ⟨c, _, hc⟩ := List.mem_flatMap.1 hx
      exact chainT_cells c _ x hc
theorem dictO_cells {ET PT DT : TypeId} (d : Nat) (M : DM) : ∀ x ∈ dictO ET PT DT d M, ∃ cs t, x.2 = .cells cs t (0, 0) := by
  intro x hx
  rcases List.mem_cons.1 hx with rfl | hx
  · exact ⟨_, _, rfl⟩
  · rcases List.mem_append.1 hx with hx | hx <;> exact tabO_cells _ _ x hx
theorem rep_keep {ET PT DT : TypeId} {A B : World} {d : Nat} {M : DM} (h : Rep A (dictO ET PT DT d M)) (hk : Keep (fun k _ => Bs (dictO ET PT DT d M) k) A B) : Rep B (dictO ET PT DT d M) := by
  intro x hx
  obtain ⟨cs, t, e⟩ := dictO_cells d M x hx
  have := h x hx
  rw [e] at this ⊢
  exact hk x.1 cs t _ (List.mem_map.2 ⟨x, hx, rfl⟩) this
end Go.Proofs.Ytkecipdonamjaaa
