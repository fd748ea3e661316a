/- Plain: names that are listened to are short; how many are left when one is left; a session that was dropped is told nothing. No condition; no program. -/
import Derived.Test.YtleoeccjnchclaaDoorHubAp
import Derived.Test.YtleoeccjnchclaaDoorHubP
namespace Go.Proofs.YtleoeccjnchclaaDoor
open Go.RowKit
/-- all names are short -/
def Sm (f : (Int → List ByteArray) × (Int → List ByteArray)) : Prop := (∀ s, ∀ x ∈ f.1 s, x.size ≤ 1024) ∧ ∀ s, ∀ x ∈ f.2 s, x.size ≤ 1024
theorem sm_none : Sm (fun _ => [], fun _ => []) := ⟨fun _ _ h => (by cases h), fun _ _ h => (by cases h)⟩
theorem does_small (do_ s : Int) (k : ByteArray) (f : (Int → List ByteArray) × (Int → List ByteArray)) (h : Sm f) : Sm (doesH do_ s k f) := by
  obtain ⟨h1, h2⟩ := h
  have ha : ∀ (fx fy : Int → List ByteArray), (∀ s, ∀ x ∈ fx s, x.size ≤ 1024) → ∀ s', ∀ x ∈ (lsRes fx fy s k).2.2 s', x.size ≤ 1024 := fun fx fy h s' x hx => by
    unfold lsRes at hx
    split at hx
    · exact h s' x hx
    · rename_i hk
      split at hx
      · exact h s' x hx
      · split at hx
        · exact h s' x hx
        · have hx : x ∈ addF fx s k s' := hx
          unfold addF at hx
          split at hx
          · rcases List.mem_append.1 hx with hx | hx
            · exact h s' x hx
            · rw [List.mem_singleton.1 hx]; omega
          · exact h s' x hx
  have hd : ∀ (fx : Int → List ByteArray), (∀ s, ∀ x ∈ fx s, x.size ≤ 1024) → ∀ s', ∀ x ∈ delF fx s k s', x.size ≤ 1024 := fun fx h s' x hx => by
    unfold delF at hx
    split at hx
    · exact h s' x (List.mem_filter.1 hx).1
    · exact h s' x hx
  have hc : ∀ (fx : Int → List ByteArray), (∀ s, ∀ x ∈ fx s, x.size ≤ 1024) → ∀ s', ∀ x ∈ cutF fx s s', x.size ≤ 1024 := fun fx h s' x hx => by
    unfold cutF at hx
    split at hx
    · cases hx
    · exact h s' x hx
  unfold doesH
  split
  · exact ⟨ha _ _ h1, h2⟩
  · split
    · exact ⟨h1, ha _ _ h2⟩
    · split
      · exact ⟨hd _ h1, h2⟩
      · split
        · exact ⟨h1, hd _ h2⟩
        · split
          · exact ⟨hc _ h1, hc _ h2⟩
          · exact ⟨h1, h2⟩
theorem del_len {l : List ByteArray} (hn : l.Nodup) (k : ByteArray) : (l.filter fun y => decide (y ≠ k)).length + (if k ∈ l then 1 else 0) = l.length := by
  induction l with
  | nil => simp
  | cons a l ih =>
    rw [List.nodup_cons] at hn
    have h1 := ih hn.2
    by_cases e : a = k
    · subst e
      rw [if_neg hn.1] at h1
      rw [List.filter_cons_of_neg (by simp), if_pos (List.mem_cons_self ..), List.length_cons]
      omega
    · rw [List.filter_cons_of_pos (by simpa using e), List.length_cons, List.length_cons]
      by_cases h2 : k ∈ l
      · rw [if_pos h2] at h1
        rw [if_pos (List.mem_cons_of_mem _ h2)]
        omega
      · rw [if_neg h2] at h1
        rw [if_neg (by rw [List.mem_cons]; rintro (h | h); exact e h.symm; exact h2 h)]
        omega
theorem mem_sortS (l : List ByteArray) (x : ByteArray) : x ∈ sortS l ↔ x ∈ l := (sortS_perm l).mem_iff
/-- a session that listens to nothing is told nothing -/
theorem tell_apart {fb : ByteArray → List Int} {fc fp : Int → List ByteArray} {ks : List Int} {s : Int} (ht : Tie fb fc) (hc : fc s = []) (hp : fp s = []) (k text : ByteArray) : ∀ o ∈ tellL fb ks fp k text, o.1 ≠ s := fun o ho e => by
  unfold tellL at ho
  rcases List.mem_append.1 ho with ho | ho
  · obtain ⟨x, hx, rfl⟩ := List.mem_map.1 ho
    have h1 := (ht k x).1 ((sortI_perm _).mem_iff.1 hx)
    have e : x = s := e
    rw [e, hc] at h1
    cases h1
  · obtain ⟨x, hx, ho⟩ := List.mem_flatMap.1 ho
    obtain ⟨p, hp2, rfl⟩ := List.mem_map.1 ho
    have h1 := (mem_sortS _ _).1 (List.mem_filter.1 hp2).1
    have e : x = s := e
    rw [e, hp] at h1
    cases h1
end Go.Proofs.YtleoeccjnchclaaDoor
