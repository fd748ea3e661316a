/- Plain: what is told does not hang on keys that stand for nothing. No condition; no program. -/
import Derived.Test.YtleoeccjnchclaaDoorHubQ
namespace Go.Proofs.YtleoeccjnchclaaDoor
open Go.RowKit
theorem flat_filter {α : Type} (f : Int → List α) (K : List Int) : (K.filter fun s => !(f s).isEmpty).flatMap f = K.flatMap f := by
  induction K with
  | nil => rfl
  | cons s K ih =>
    rw [List.filter_cons]
    by_cases h : (f s).isEmpty = true
    · rw [if_neg (by rw [h]; decide), ih, List.flatMap_cons, List.isEmpty_iff.1 h, List.nil_append]
    · rw [if_pos (by simpa using h), List.flatMap_cons, List.flatMap_cons, ih]
theorem flat_sorted {α : Type} {f : Int → List α} {K Z : List Int} (hK : K.Pairwise (· < ·)) (hZ : Z.Pairwise (· < ·)) (h : ∀ s, f s ≠ [] → (s ∈ K ↔ s ∈ Z)) : K.flatMap f = Z.flatMap f := by
  rw [← flat_filter f K, ← flat_filter f Z]
  have nk : K.Nodup := hK.imp (fun h => by omega)
  have nz : Z.Nodup := hZ.imp (fun h => by omega)
  have e : (K.filter fun s => !(f s).isEmpty) = Z.filter fun s => !(f s).isEmpty := by
    refine ltI_one ((List.perm_ext_iff_of_nodup (List.filter_sublist.nodup nk) (List.filter_sublist.nodup nz)).2 fun s => ?_) (hK.sublist List.filter_sublist) (hZ.sublist List.filter_sublist)
    rw [List.mem_filter, List.mem_filter]
    by_cases hs : f s = []
    · simp [hs]
    · have := h s hs
      simp [hs, this]
  rw [e]
/-- what is told, by any rising list that holds all who listen by patterns -/
theorem tell_by {fb : ByteArray → List Int} {ks Z : List Int} {fp : Int → List ByteArray} (hn : ks.Nodup) (hZ : Z.Pairwise (· < ·)) (h1 : ∀ s, fp s ≠ [] → s ∈ ks) (h2 : ∀ s, fp s ≠ [] → s ∈ Z) (k text : ByteArray) :
    tellL fb ks fp k text = (sortI (fb k)).map (fun s => msgL s k text) ++ Z.flatMap (patL fp k text) := by
  have e : (sortI ks).flatMap (patL fp k text) = Z.flatMap (patL fp k text) := flat_sorted (sortI_rises hn) hZ fun s hs => by
    have hne : fp s ≠ [] := fun e => hs (by unfold patL; rw [e]; simp [sortS])
    exact ⟨fun _ => h2 s hne, fun _ => (sortI_perm ks).mem_iff.2 (h1 s hne)⟩
  rw [← e]
  rfl
end Go.Proofs.YtleoeccjnchclaaDoor
