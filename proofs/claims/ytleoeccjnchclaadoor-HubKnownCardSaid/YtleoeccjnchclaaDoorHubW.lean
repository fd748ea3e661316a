/- A hub, one of its tables turned. No condition. -/
import Derived.Test.YtleoeccjnchclaaDoorHub
namespace Go.Proofs.YtleoeccjnchclaaDoor
open Go.RowKit
/-- a footprint that has grown -/
def Grew (F : Nat → Prop) (w w' : World) (k : Nat) : Prop := F k ∨ w.heap.size ≤ k ∧ k < w'.heap.size
theorem grew_lt {F : Nat → Prop} {B : Nat} {w w' : World} (h : ∀ k, F k → B ≤ k ∧ k < w.heap.size) (hb : B ≤ w.heap.size) (hs : w.heap.size ≤ w'.heap.size) : ∀ k, Grew F w w' k → B ≤ k ∧ k < w'.heap.size := fun k hk =>
  hk.elim (fun hk => ⟨(h k hk).1, Nat.lt_of_lt_of_le (h k hk).2 hs⟩) (fun hk => ⟨Nat.le_trans hb hk.1, hk.2⟩)
section
variable {w w' : World} {B N N' h : Nat} {F T : Nat → Prop} {X : HX} {fb fb' : ByteArray → List Int} {fc fp fc' fp' : Int → List ByteArray}
theorem HubX.withC (H : HubX w B F N h X fb fc fp) (hB : B ≤ w.heap.size) (hf : Fr T w w') (hT : ∀ i, T i → BlkT X.mc X.ch i) {L : List (Int × Nat)} (ht : TL kI eN kS w' X.mc L fc') (hb : ∀ i, BlkT X.mc L i → BlkT X.mc X.ch i ∨ w.heap.size ≤ i) (hN : N ≤ N') (hl : L.length ≤ N')
    (hfew : ∀ s, (fc' s).length + (fp s).length ≤ 1024) : HubX w' B (Grew F w w') N' h { X with ch := L } fb fc' fp ∧ Fr F w w' := by
  have hF : Fr F w w' := hf.mono (fun i hi _ => H.Fc i (hT i hi))
  have l := H.lens
  refine ⟨⟨(hf.block h (H.lt h H.fh).2 (fun e => H.hc (hT h e))).trans H.blk, H.b.fr hf (fun i hi e => H.dbc i hi (hT i e)), ht, H.p.fr hf (fun i hi e => H.dcp i (hT i e) hi), fun i h1 h2 => ?_, H.dbp, fun i h1 h2 => ?_, H.hb, fun h1 => ?_, H.hp, .inl H.fh, fun i hi => .inl (H.Fb i hi), fun i hi => ?_, fun i hi => .inl (H.Fp i hi), grew_lt H.lt hB hf.size, ⟨by dsimp only; omega, hl, by dsimp only; omega⟩, fun k => by have := H.told k; dsimp only; omega, hfew⟩, hF⟩
  · rcases hb i h2 with h3 | h3
    · exact H.dbc i h1 h3
    · have := H.b.lt i h1; omega
  · rcases hb i h1 with h3 | h3
    · exact H.dcp i h3 h2
    · have := H.p.lt i h2; omega
  · rcases hb h h1 with h3 | h3
    · exact H.hc h3
    · have := (H.lt h H.fh).2; omega
  · rcases hb i hi with h3 | h3
    · exact .inl (H.Fc i h3)
    · exact .inr ⟨h3, ht.lt i hi⟩
theorem HubX.withP (H : HubX w B F N h X fb fc fp) (hB : B ≤ w.heap.size) (hf : Fr T w w') (hT : ∀ i, T i → BlkT X.mp X.pt i) {L : List (Int × Nat)} (ht : TL kI eN kS w' X.mp L fp') (hb : ∀ i, BlkT X.mp L i → BlkT X.mp X.pt i ∨ w.heap.size ≤ i) (hN : N ≤ N') (hl : L.length ≤ N')
    (htold : ∀ k, (fb k).length + tot L fp' ≤ N') (hfew : ∀ s, (fc s).length + (fp' s).length ≤ 1024) : HubX w' B (Grew F w w') N' h { X with pt := L } fb fc fp' ∧ Fr F w w' := by
  have hF : Fr F w w' := hf.mono (fun i hi _ => H.Fp i (hT i hi))
  have l := H.lens
  refine ⟨⟨(hf.block h (H.lt h H.fh).2 (fun e => H.hp (hT h e))).trans H.blk, H.b.fr hf (fun i hi e => H.dbp i hi (hT i e)), H.c.fr hf (fun i hi e => H.dcp i hi (hT i e)), ht, H.dbc, fun i h1 h2 => ?_, fun i h1 h2 => ?_, H.hb, H.hc, fun h1 => ?_, .inl H.fh, fun i hi => .inl (H.Fb i hi), fun i hi => .inl (H.Fc i hi), fun i hi => ?_, grew_lt H.lt hB hf.size, ⟨by dsimp only; omega, by dsimp only; omega, hl⟩, htold, hfew⟩, hF⟩
  · rcases hb i h2 with h3 | h3
    · exact H.dbp i h1 h3
    · have := H.b.lt i h1; omega
  · rcases hb i h2 with h3 | h3
    · exact H.dcp i h1 h3
    · have := H.c.lt i h1; omega
  · rcases hb h h1 with h3 | h3
    · exact H.hp h3
    · have := (H.lt h H.fh).2; omega
  · rcases hb i hi with h3 | h3
    · exact .inl (H.Fp i h3)
    · exact .inr ⟨h3, ht.lt i hi⟩
theorem HubX.withB (H : HubX w B F N h X fb fc fp) (hB : B ≤ w.heap.size) (hf : Fr T w w') (hT : ∀ i, T i → BlkT X.mb X.by_ i) {L : List (ByteArray × Nat)} (ht : TL kS eM kI w' X.mb L fb') (hb : ∀ i, BlkT X.mb L i → BlkT X.mb X.by_ i ∨ w.heap.size ≤ i) (hN : N ≤ N') (hl : L.length ≤ N')
    (htold : ∀ k, (fb' k).length + tot X.pt fp ≤ N') : HubX w' B (Grew F w w') N' h { X with by_ := L } fb' fc fp ∧ Fr F w w' := by
  have hF : Fr F w w' := hf.mono (fun i hi _ => H.Fb i (hT i hi))
  have l := H.lens
  refine ⟨⟨(hf.block h (H.lt h H.fh).2 (fun e => H.hb (hT h e))).trans H.blk, ht, H.c.fr hf (fun i hi e => H.dbc i (hT i e) hi), H.p.fr hf (fun i hi e => H.dbp i (hT i e) hi), fun i h1 h2 => ?_, fun i h1 h2 => ?_, H.dcp, fun h1 => ?_, H.hc, H.hp, .inl H.fh, fun i hi => ?_, fun i hi => .inl (H.Fc i hi), fun i hi => .inl (H.Fp i hi), grew_lt H.lt hB hf.size, ⟨hl, by dsimp only; omega, by dsimp only; omega⟩, htold, H.few⟩, hF⟩
  · rcases hb i h1 with h3 | h3
    · exact H.dbc i h3 h2
    · have := H.c.lt i h2; omega
  · rcases hb i h1 with h3 | h3
    · exact H.dbp i h3 h2
    · have := H.p.lt i h2; omega
  · rcases hb h h1 with h3 | h3
    · exact H.hb h3
    · have := (H.lt h H.fh).2; omega
  · rcases hb i hi with h3 | h3
    · exact .inl (H.Fb i h3)
    · exact .inr ⟨h3, ht.lt i hi⟩
end
/-! how many patterns there are, when one is added, or taken away -/
theorem tot_le {L : List (Int × Nat)} {f g : Int → List ByteArray} (h : ∀ s, (g s).length ≤ (f s).length) : tot L g ≤ tot L f := by
  unfold tot
  induction L with
  | nil => exact Nat.le_refl _
  | cons x L ih => simp only [List.map_cons, List.sum_cons]; have := h x.1; omega
theorem tot_snoc (L : List (Int × Nat)) (f : Int → List ByteArray) (x : Int × Nat) : tot (L ++ [x]) f = tot L f + (f x.1).length := by unfold tot; simp
theorem tot_filter (L : List (Int × Nat)) (f : Int → List ByteArray) (p : Int × Nat → Bool) : tot (L.filter p) f ≤ tot L f := by
  unfold tot
  induction L with
  | nil => exact Nat.le_refl _
  | cons x L ih =>
    by_cases hp : p x = true
    · rw [List.filter_cons, if_pos hp]; simp only [List.map_cons, List.sum_cons]; omega
    · rw [List.filter_cons, if_neg hp]; simp only [List.map_cons, List.sum_cons]; omega
theorem tot_no {L : List (Int × Nat)} {f : Int → List ByteArray} {s : Int} (k : ByteArray) (h : ∀ x ∈ L, x.1 ≠ s) : tot L (addF f s k) = tot L f := by
  unfold tot
  refine congrArg _ (List.map_congr_left fun x hx => ?_)
  unfold addF
  rw [if_neg (h x hx)]
theorem tot_add {L : List (Int × Nat)} {f : Int → List ByteArray} {s : Int} (k : ByteArray) (hn : (L.map (·.1)).Nodup) : tot L (addF f s k) ≤ tot L f + 1 := by
  induction L with
  | nil => exact Nat.zero_le _
  | cons x L ih =>
    rw [List.map_cons, List.nodup_cons] at hn
    by_cases e : x.1 = s
    · have h1 := tot_no (f := f) (s := s) k (L := L) (fun y hy e2 => hn.1 (by rw [e, ← e2]; exact List.mem_map.2 ⟨y, hy, rfl⟩))
      unfold tot at h1 ⊢
      simp only [List.map_cons, List.sum_cons, h1]
      have h2 : (addF f s k x.1).length = (f x.1).length + 1 := by unfold addF; rw [if_pos e, List.length_append]; rfl
      omega
    · have h1 := ih hn.2
      unfold tot at h1 ⊢
      simp only [List.map_cons, List.sum_cons]
      have h2 : (addF f s k x.1).length = (f x.1).length := by unfold addF; rw [if_neg e]
      omega
theorem addF_len {κ κ2 : Type} [DecidableEq κ] (f : κ → List κ2) (k k' : κ) (x : κ2) : (addF f k x k').length ≤ (f k').length + 1 := by
  unfold addF; split
  · rw [List.length_append]; exact Nat.le_refl _
  · omega
theorem delF_len {κ κ2 : Type} [DecidableEq κ] [DecidableEq κ2] (f : κ → List κ2) (k k' : κ) (x : κ2) : (delF f k x k').length ≤ (f k').length := by
  unfold delF; split
  · exact List.length_filter_le _ _
  · exact Nat.le_refl _
theorem cutF_len {κ κ2 : Type} [DecidableEq κ] (f : κ → List κ2) (k k' : κ) : (cutF f k k').length ≤ (f k').length := by
  unfold cutF; split
  · exact Nat.zero_le _
  · exact Nat.le_refl _
theorem blk_snoc {κ : Type} {m : Nat} {L : List (κ × Nat)} {k : κ} {b : Nat} {n : Nat} (hb : n ≤ b) : ∀ i, BlkT m (L ++ [(k, b)]) i → BlkT m L i ∨ n ≤ i := by
  rintro i (rfl | ⟨x, hx, rfl⟩)
  · exact .inl (.inl rfl)
  · rcases List.mem_append.1 hx with hx | hx
    · exact .inl (.inr ⟨x, hx, rfl⟩)
    · rw [List.mem_singleton] at hx; subst hx; exact .inr hb
theorem blk_filter {κ : Type} {m n : Nat} {L : List (κ × Nat)} {p : κ × Nat → Bool} : ∀ i, BlkT m (L.filter p) i → BlkT m L i ∨ n ≤ i := by
  rintro i (rfl | ⟨x, hx, rfl⟩)
  · exact .inl (.inl rfl)
  · exact .inl (.inr ⟨x, (List.mem_filter.1 hx).1, rfl⟩)
end Go.Proofs.YtleoeccjnchclaaDoor
