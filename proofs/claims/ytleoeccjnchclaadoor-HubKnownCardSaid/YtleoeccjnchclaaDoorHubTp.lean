/- Plain: what is told, session by session; a session's place in a rising list. No condition; no program. -/
import Derived.Test.YtleoeccjnchclaaDoorHubAq
namespace Go.Proofs.YtleoeccjnchclaaDoor
open Go.RowKit
theorem filter_one {l : List ByteArray} (hn : l.Nodup) (k : ByteArray) : (l.filter fun c => decide (c = k)) = if k ∈ l then [k] else [] := by
  induction l with
  | nil => simp
  | cons a l ih =>
    rw [List.nodup_cons] at hn
    have h1 := ih hn.2
    by_cases e : a = k
    · subst e
      rw [if_neg hn.1] at h1
      rw [List.filter_cons_of_pos (by simp), h1, if_pos (List.mem_cons_self ..)]
    · rw [List.filter_cons_of_neg (by simpa using e), h1]
      by_cases h2 : k ∈ l
      · rw [if_pos h2, if_pos (List.mem_cons_of_mem _ h2)]
      · rw [if_neg h2, if_neg (by rw [List.mem_cons]; rintro (h | h); exact e h.symm; exact h2 h)]
theorem sortS_nodup {l : List ByteArray} (h : l.Nodup) : (sortS l).Nodup := (sortS_perm l).nodup_iff.2 h
/-- what a session is told by name -/
def nameL (fc : Int → List ByteArray) (k text : ByteArray) (s : Int) : List Ot := ((sortS (fc s)).filter fun c => decide (c = k)).map fun _ => msgL s k text
theorem nameL_eq {fc : Int → List ByteArray} {s : Int} (hn : (fc s).Nodup) (k text : ByteArray) : nameL fc k text s = if k ∈ fc s then [msgL s k text] else [] := by
  unfold nameL
  rw [filter_one (sortS_nodup hn)]
  by_cases h : k ∈ fc s
  · rw [if_pos ((mem_sortS _ _).2 h), if_pos h]; rfl
  · rw [if_neg (fun h2 => h ((mem_sortS _ _).1 h2)), if_neg h]; rfl
theorem flat_if {α β : Type} (Z : List α) (p : α → Prop) [DecidablePred p] (f : α → β) : (Z.flatMap fun s => if p s then [f s] else []) = (Z.filter fun s => decide (p s)).map f := by
  induction Z with
  | nil => rfl
  | cons a Z ih =>
    rw [List.flatMap_cons, ih]
    by_cases h : p a
    · rw [if_pos h, List.filter_cons_of_pos (by simpa using h)]; rfl
    · rw [if_neg h, List.filter_cons_of_neg (by simpa using h)]; rfl
/-- those who listen by name, rising -/
theorem names_sorted {fb : ByteArray → List Int} {fc : Int → List ByteArray} {Z : List Int} (ht : Tie fb fc) (k : ByteArray) (hf : (fb k).Nodup) (hZ : Z.Pairwise (· < ·)) (h3 : ∀ s, fc s ≠ [] → s ∈ Z) : sortI (fb k) = Z.filter fun s => decide (k ∈ fc s) := by
  refine ltI_one ?_ (sortI_rises hf) (hZ.sublist List.filter_sublist)
  refine (List.perm_ext_iff_of_nodup ((sortI_perm _).nodup_iff.2 hf) (List.filter_sublist.nodup (hZ.imp fun h => by omega))).2 fun s => ?_
  rw [(sortI_perm _).mem_iff, ht k s, List.mem_filter, decide_eq_true_eq]
  exact ⟨fun h => ⟨h3 s (fun e => by rw [e] at h; cases h), h⟩, fun h => h.2⟩
theorem tell_split {fb : ByteArray → List Int} {ks Z : List Int} {fc fp : Int → List ByteArray} (ht : Tie fb fc) (k text : ByteArray) (hf : (fb k).Nodup) (hc : ∀ s, (fc s).Nodup) (hn : ks.Nodup) (hZ : Z.Pairwise (· < ·)) (h1 : ∀ s, fp s ≠ [] → s ∈ ks) (h2 : ∀ s, fp s ≠ [] → s ∈ Z) (h3 : ∀ s, fc s ≠ [] → s ∈ Z) :
    tellL fb ks fp k text = Z.flatMap (nameL fc k text) ++ Z.flatMap (patL fp k text) := by
  rw [tell_by hn hZ h1 h2, names_sorted ht k hf hZ h3]
  have e : Z.flatMap (nameL fc k text) = Z.flatMap fun s => if k ∈ fc s then [msgL s k text] else [] := congrArg (fun f => Z.flatMap f) (funext fun s => nameL_eq (hc s) k text)
  rw [e, flat_if]
theorem tell_count {fb : ByteArray → List Int} {Z : List Int} {fc : Int → List ByteArray} (ht : Tie fb fc) (k text : ByteArray) (hf : (fb k).Nodup) (hc : ∀ s, (fc s).Nodup) (hZ : Z.Pairwise (· < ·)) (h3 : ∀ s, fc s ≠ [] → s ∈ Z) :
    (Z.flatMap (nameL fc k text)).length = (fb k).length := by
  have e : Z.flatMap (nameL fc k text) = Z.flatMap fun s => if k ∈ fc s then [msgL s k text] else [] := congrArg (fun f => Z.flatMap f) (funext fun s => nameL_eq (hc s) k text)
  rw [e, flat_if, List.length_map, ← names_sorted ht k hf hZ h3, sortI_len]
/-- a session laid in its place -/
theorem ins_rises {Z : List Int} (hZ : Z.Pairwise (· < ·)) (s : Int) (at_ : Nat) (h1 : ∀ j (hj : j < Z.length), j < at_ → Z[j] < s) (h2 : ∀ (hj : at_ < Z.length), s < Z[at_]) : (Z.take at_ ++ s :: Z.drop at_).Pairwise (· < ·) := by
  have hp := List.pairwise_iff_getElem.1 hZ
  have hlo : ∀ x ∈ Z.take at_, x < s := fun x hx => by
    obtain ⟨j, hj, rfl⟩ := List.getElem_of_mem hx
    rw [List.length_take] at hj
    rw [List.getElem_take]
    exact h1 j (by omega) (by omega)
  have hhi : ∀ x ∈ Z.drop at_, s < x := fun x hx => by
    obtain ⟨j, hj, rfl⟩ := List.getElem_of_mem hx
    rw [List.length_drop] at hj
    rw [List.getElem_drop]
    have h3 := h2 (by omega)
    by_cases e : j = 0
    · subst e; simpa using h3
    · have := hp at_ (at_ + j) (by omega) (by omega) (by omega)
      omega
  refine List.pairwise_append.2 ⟨hZ.sublist (List.take_sublist _ _), List.pairwise_cons.2 ⟨hhi, hZ.sublist (List.drop_sublist _ _)⟩, fun a ha b hb => ?_⟩
  rcases List.mem_cons.1 hb with rfl | hb
  · exact hlo a ha
  · have := hlo a ha
    have := hhi b hb
    omega
theorem ins_mem (Z : List Int) (s : Int) (at_ : Nat) (x : Int) : x ∈ Z.take at_ ++ s :: Z.drop at_ ↔ x = s ∨ x ∈ Z := by
  rw [List.mem_append, List.mem_cons]
  constructor
  · rintro (h | h | h)
    · exact .inr (List.mem_of_mem_take h)
    · exact .inl h
    · exact .inr (List.mem_of_mem_drop h)
  · rintro (h | h)
    · exact .inr (.inl h)
    · rw [← List.take_append_drop at_ Z, List.mem_append] at h
      rcases h with h | h
      · exact .inl h
      · exact .inr (.inr h)
/-- all who listen to something are in a list -/
def Named (f : (Int → List ByteArray) × (Int → List ByteArray)) (Z : List Int) : Prop := (∀ s, f.1 s ≠ [] → s ∈ Z) ∧ ∀ s, f.2 s ≠ [] → s ∈ Z
theorem does_named (do_ s : Int) (k : ByteArray) {f : (Int → List ByteArray) × (Int → List ByteArray)} {Z Z' : List Int} (h : Named f Z) (hs : s ∈ Z') (hz : ∀ x ∈ Z, x ∈ Z') : Named (doesH do_ s k f) Z' :=
  ⟨fun s' h1 => by
    by_cases e : s' = s
    · rw [e]; exact hs
    · rw [(does_other do_ k f e).1] at h1; exact hz _ (h.1 s' h1),
   fun s' h1 => by
    by_cases e : s' = s
    · rw [e]; exact hs
    · rw [(does_other do_ k f e).2] at h1; exact hz _ (h.2 s' h1)⟩
/-- the next of a list, behind what has been told -/
theorem next_at {α : Type} {l P R : List α} {x : α} (h : l = P ++ x :: R) : l[P.length]? = some x := by rw [h, List.getElem?_append_right (Nat.le_refl _), Nat.sub_self]; rfl
theorem flat_split {α β : Type} (Z : List α) (f : α → List β) (j : Nat) (hj : j < Z.length) : Z.flatMap f = (Z.take j).flatMap f ++ (f Z[j] ++ (Z.drop (j + 1)).flatMap f) := by
  conv => lhs; rw [← List.take_append_drop j Z, List.drop_eq_getElem_cons hj]
  rw [List.flatMap_append, List.flatMap_cons]
theorem filter_split {α : Type} (C : List α) (p : α → Bool) (q : Nat) (hq : q < C.length) (h : p C[q] = true) : C.filter p = (C.take q).filter p ++ C[q] :: (C.drop (q + 1)).filter p := by
  conv => lhs; rw [← List.take_append_drop q C, List.drop_eq_getElem_cons hq]
  rw [List.filter_append, List.filter_cons_of_pos h]
/-- how many have been told, in the midst -/
theorem take_filter_succ {α : Type} (C : List α) (p : α → Bool) (q : Nat) (hq : q < C.length) : ((C.take (q + 1)).filter p).length = ((C.take q).filter p).length + if p C[q] then 1 else 0 := by
  rw [List.take_succ_eq_append_getElem hq, List.filter_append, List.length_append]
  congr 1
  cases h : p C[q] <;> simp [h]
theorem flat_next {α β γ : Type} {O A R : List β} {Z : List α} {f : α → List β} {j : Nat} {hj : j < Z.length} {C : List γ} {p : γ → Bool} {g : γ → β} {q : Nat} (hq : q < C.length) (hO : O = A ++ Z.flatMap f ++ R) (hf : f Z[j] = (C.filter p).map g) (hp : p C[q] = true) :
    O[A.length + ((Z.take j).flatMap f).length + ((C.take q).filter p).length]? = some (g C[q]) := by
  have e : O = (A ++ (Z.take j).flatMap f ++ ((C.take q).filter p).map g) ++ g C[q] :: (((C.drop (q + 1)).filter p).map g ++ (Z.drop (j + 1)).flatMap f ++ R) := by
    rw [hO, flat_split Z f j hj, hf, filter_split C p q hq hp]
    simp [List.append_assoc]
  have h := next_at e
  rw [List.length_append, List.length_append, List.length_map] at h
  exact h
end Go.Proofs.YtleoeccjnchclaaDoor
