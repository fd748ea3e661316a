/- Plain: a step of a session leaves the others as they were, and does to the session's own rows what those rows say. No condition; no program. -/
import Derived.Test.YtleoeccjnchclaaDoorHubQ
namespace Go.Proofs.YtleoeccjnchclaaDoor
open Go.RowKit
theorem addF_ne (f : Int → List ByteArray) {s s' : Int} (k : ByteArray) (h : s' ≠ s) : addF f s k s' = f s' := by unfold addF; rw [if_neg h]
theorem delF_ne (f : Int → List ByteArray) {s s' : Int} (k : ByteArray) (h : s' ≠ s) : delF f s k s' = f s' := by unfold delF; rw [if_neg h]
theorem cutF_ne (f : Int → List ByteArray) {s s' : Int} (h : s' ≠ s) : cutF f s s' = f s' := by unfold cutF; rw [if_neg h]
theorem cutF_eq (f : Int → List ByteArray) (s : Int) : cutF f s s = [] := by unfold cutF; rw [if_pos rfl]
theorem ls_other (fx fy : Int → List ByteArray) {s s' : Int} (k : ByteArray) (h : s' ≠ s) : (lsRes fx fy s k).2.2 s' = fx s' := by
  unfold lsRes
  split
  · rfl
  · split
    · rfl
    · split
      · rfl
      · exact addF_ne fx k h
theorem ls_same {fx fy gx gy : Int → List ByteArray} {s : Int} (k : ByteArray) (hx : fx s = gx s) (hy : fy s = gy s) : (lsRes fx fy s k).2.2 s = (lsRes gx gy s k).2.2 s := by
  unfold lsRes
  rw [hx, hy]
  split
  · exact hx
  · split
    · exact hx
    · split
      · exact hx
      · exact (addF_same fx s k).trans ((by rw [hx] : fx s ++ [k] = gx s ++ [k]).trans (addF_same gx s k).symm)
theorem does_other (do_ : Int) {s s' : Int} (k : ByteArray) (f : (Int → List ByteArray) × (Int → List ByteArray)) (h : s' ≠ s) : (doesH do_ s k f).1 s' = f.1 s' ∧ (doesH do_ s k f).2 s' = f.2 s' := by
  unfold doesH
  split
  · exact ⟨ls_other _ _ k h, rfl⟩
  · split
    · exact ⟨rfl, ls_other _ _ k h⟩
    · split
      · exact ⟨delF_ne f.1 k h, rfl⟩
      · split
        · exact ⟨rfl, delF_ne f.2 k h⟩
        · split
          · exact ⟨cutF_ne f.1 h, cutF_ne f.2 h⟩
          · exact ⟨rfl, rfl⟩
theorem does_same (do_ s : Int) (k : ByteArray) {f g : (Int → List ByteArray) × (Int → List ByteArray)} (h1 : f.1 s = g.1 s) (h2 : f.2 s = g.2 s) : (doesH do_ s k f).1 s = (doesH do_ s k g).1 s ∧ (doesH do_ s k f).2 s = (doesH do_ s k g).2 s := by
  unfold doesH
  split
  · exact ⟨ls_same k h1 h2, h2⟩
  · split
    · exact ⟨h1, ls_same k h2 h1⟩
    · split
      · exact ⟨(delF_same f.1 s k).trans ((congrArg (List.filter fun y => decide (y ≠ k)) h1).trans (delF_same g.1 s k).symm), h2⟩
      · split
        · exact ⟨h1, (delF_same f.2 s k).trans ((congrArg (List.filter fun y => decide (y ≠ k)) h2).trans (delF_same g.2 s k).symm)⟩
        · split
          · exact ⟨(cutF_eq f.1 s).trans (cutF_eq g.1 s).symm, (cutF_eq f.2 s).trans (cutF_eq g.2 s).symm⟩
          · exact ⟨h1, h2⟩
/-- the names in the rows are those that were given -/
theorem does_mem (do_ s : Int) (k : ByteArray) (f : (Int → List ByteArray) × (Int → List ByteArray)) (p : ByteArray → Prop) (hk : p k) (h1 : ∀ s, ∀ x ∈ f.1 s, p x) (h2 : ∀ s, ∀ x ∈ f.2 s, p x) : (∀ s', ∀ x ∈ (doesH do_ s k f).1 s', p x) ∧ (∀ s', ∀ x ∈ (doesH do_ s k f).2 s', p x) := by
  have ha : ∀ (fx fy : Int → List ByteArray), (∀ s, ∀ x ∈ fx s, p x) → ∀ s', ∀ x ∈ (lsRes fx fy s k).2.2 s', p x := fun fx fy h s' x hx => by
    unfold lsRes at hx
    split at hx
    · exact h s' x hx
    · split at hx
      · exact h s' x hx
      · split at hx
        · exact h s' x hx
        · have hx : x ∈ addF fx s k s' := hx
          unfold addF at hx
          split at hx
          · rcases List.mem_append.1 hx with hx | hx
            · exact h s' x hx
            · rw [List.mem_singleton.1 hx]; exact hk
          · exact h s' x hx
  have hd : ∀ (fx : Int → List ByteArray), (∀ s, ∀ x ∈ fx s, p x) → ∀ s', ∀ x ∈ delF fx s k s', p x := fun fx h s' x hx => by
    unfold delF at hx
    split at hx
    · exact h s' x (List.mem_filter.1 hx).1
    · exact h s' x hx
  have hc : ∀ (fx : Int → List ByteArray), (∀ s, ∀ x ∈ fx s, p x) → ∀ s', ∀ x ∈ cutF fx s s', p x := fun fx h s' x hx => by
    unfold cutF at hx
    split at hx
    · cases hx
    · exact h s' x hx
  unfold doesH
  split
  · exact ⟨ha _ _ h1, h2⟩
  · split
    · exact ⟨h1, ha _ _ h2⟩
    · split
      · exact ⟨hd _ h1, h2⟩
      · split
        · exact ⟨h1, hd _ h2⟩
        · split
          · exact ⟨hc _ h1, hc _ h2⟩
          · exact ⟨h1, h2⟩
end Go.Proofs.YtleoeccjnchclaaDoor
