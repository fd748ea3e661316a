/- A hub in memory; New, size; A hub, one of its tables turned; hub's listen at channels; hub's listen at byPattern; A hub's Listen and ListenLike. No condition but sizes. -/
import Derived.Test.YtleoeccjnchclaaGreatDoorZam
import Derived.Deep.Cut
import Derived.BigQuiet
import Derived.BigRegion
import Derived.WalkSpells
namespace Go.Proofs.YtleoeccjnchclaaGreatDoor
open Go.RowKit
theorem alloc_at (w : World) (o : Obj) : (w.alloc o).heap[w.heap.size]? = some o := (MapKept.heap_alloc w o).1
theorem Fr.drewN (S : Nat → Prop) (w : World) (n : Nat) : Fr S w (w.drewN n) := ⟨rfl, rfl, rfl, Nat.le_refl _, fun _ _ _ => rfl⟩
/-- where a hub's maps lie -/
structure HX where
  mb : Nat
  mc : Nat
  mp : Nat
  by_ : List (ByteArray × Nat)
  ch : List (Int × Nat)
  pt : List (Int × Nat)
/-- how many patterns there are -/
def tot (L : List (Int × Nat)) (f : Int → List ByteArray) : Nat := (L.map fun x => (f x.1).length).sum
/-- a hub whose blocks are of F: fb: who listens to a channel; fc, fp: a session's channels, and patterns -/
structure HubX (w : World) (B : Nat) (F : Nat → Prop) (N h : Nat) (X : HX) (fb : ByteArray → List Int) (fc fp : Int → List ByteArray) : Prop where
  blk : w.heap[h]? = some (.cells #[.map (some X.mb), .map (some X.mc), .map (some X.mp)] 34 (0, 0))
  b : TL kS eM kI w X.mb X.by_ fb
  c : TL kI eN kS w X.mc X.ch fc
  p : TL kI eN kS w X.mp X.pt fp
  dbc : ∀ i, BlkT X.mb X.by_ i → ¬ BlkT X.mc X.ch i
  dbp : ∀ i, BlkT X.mb X.by_ i → ¬ BlkT X.mp X.pt i
  dcp : ∀ i, BlkT X.mc X.ch i → ¬ BlkT X.mp X.pt i
  hb : ¬ BlkT X.mb X.by_ h
  hc : ¬ BlkT X.mc X.ch h
  hp : ¬ BlkT X.mp X.pt h
  fh : F h
  Fb : ∀ i, BlkT X.mb X.by_ i → F i
  Fc : ∀ i, BlkT X.mc X.ch i → F i
  Fp : ∀ i, BlkT X.mp X.pt i → F i
  lt : ∀ k, F k → B ≤ k ∧ k < w.heap.size
  lens : X.by_.length ≤ N ∧ X.ch.length ≤ N ∧ X.pt.length ≤ N
  told : ∀ k, (fb k).length + tot X.pt fp ≤ N
  few : ∀ s, (fc s).length + (fp s).length ≤ 1024
section
variable {w w' : World} {B B' N h : Nat} {F F' T : Nat → Prop} {X : HX} {fb : ByteArray → List Int} {fc fp : Int → List ByteArray}
theorem HubX.other (H : HubX w B F N h X fb fc fp) (hf : Fr T w w') (hd : ∀ k, F k → ¬ T k) : HubX w' B F N h X fb fc fp :=
  ⟨(hf.block h (H.lt h H.fh).2 (hd h H.fh)).trans H.blk, H.b.fr hf (fun i hi => hd i (H.Fb i hi)), H.c.fr hf (fun i hi => hd i (H.Fc i hi)), H.p.fr hf (fun i hi => hd i (H.Fp i hi)), H.dbc, H.dbp, H.dcp, H.hb, H.hc, H.hp, H.fh, H.Fb, H.Fc, H.Fp, fun k hk => ⟨(H.lt k hk).1, Nat.lt_of_lt_of_le (H.lt k hk).2 hf.size⟩, H.lens, H.told, H.few⟩
theorem HubX.quiet (H : HubX w B F N h X fb fc fp) (hf : Fr (fun _ => False) w w') : HubX w' B F N h X fb fc fp := H.other hf (fun _ _ h => h)
theorem HubX.cell0 (H : HubX w B F N h X fb fc fp) : w.cell? ⟨h, 0, none⟩ = some (.map (some X.mb)) := by rw [cell_of_blk H.blk]; rfl
theorem HubX.cell1 (H : HubX w B F N h X fb fc fp) : w.cell? ⟨h, 1, none⟩ = some (.map (some X.mc)) := by rw [cell_of_blk H.blk]; rfl
theorem HubX.cell2 (H : HubX w B F N h X fb fc fp) : w.cell? ⟨h, 2, none⟩ = some (.map (some X.mp)) := by rw [cell_of_blk H.blk]; rfl
theorem HubX.upN {N' : Nat} (H : HubX w B F N h X fb fc fp) (hN : N ≤ N') : HubX w B F N' h X fb fc fp :=
  ⟨H.blk, H.b, H.c, H.p, H.dbc, H.dbp, H.dcp, H.hb, H.hc, H.hp, H.fh, H.Fb, H.Fc, H.Fp, H.lt, ⟨by have := H.lens; omega, by have := H.lens; omega, by have := H.lens; omega⟩, fun k => by have := H.told k; omega, H.few⟩
theorem HubX.wide (H : HubX w B F N h X fb fc fp) (hF : ∀ k, F k → F' k) (hl : ∀ k, F' k → B ≤ k ∧ k < w.heap.size) : HubX w B F' N h X fb fc fp :=
  ⟨H.blk, H.b, H.c, H.p, H.dbc, H.dbp, H.dcp, H.hb, H.hc, H.hp, hF _ H.fh, fun i hi => hF i (H.Fb i hi), fun i hi => hF i (H.Fc i hi), fun i hi => hF i (H.Fp i hi), hl, H.lens, H.told, H.few⟩
end
theorem tl_made {κ κ2 : Type} [DecidableEq κ] [DecidableEq κ2] {K : KK κ} {E : EK Nat} {K2 : KK κ2} {w : World} {m : Nat} (h : MAt K E w m []) : TL K E K2 w m [] (fun _ => []) :=
  ⟨h, fun x hx => (by cases hx), fun _ _ => rfl, (by simp), fun x hx => (by cases hx)⟩
theorem blk_nil {m i : Nat} {κ : Type} (h : BlkT (κ := κ) m [] i) : i = m := h.elim id (fun ⟨x, hx, _⟩ => by cases hx)
/-- what New hands back -/
theorem hubNew_any (w : World) : Calls Tryz.prog 4 #[] w fun e w' => ∃ h X, e = .returned (.pointer (some ⟨h, 0, none⟩)) ∧ HubX w' w.heap.size (fun k => w.heap.size ≤ k ∧ k < w'.heap.size) 0 h X (fun _ => []) (fun _ => []) (fun _ => []) ∧ Below w.heap.size w w' := by
  have hmm := @run_makeMap Tryz.prog
  go_enter Tryz.func4, Tryz.ntmps4
  go_wp2
  go_ret
  have a1 : MAt kS eM (w.alloc (.map #[] 0)) w.heap.size [] := mAt_made w
  have a2 : MAt kI eN ((w.alloc (.map #[] 0)).alloc (.map #[] 0)) (w.heap.size + 1) [] := by have := mAt_made (K := kI) (E := eN) (w.alloc (.map #[] 0)); rwa [World.size_alloc] at this
  have a3 : MAt kI eN (((w.alloc (.map #[] 0)).alloc (.map #[] 0)).alloc (.map #[] 0)) (w.heap.size + 1 + 1) [] := by have := mAt_made (K := kI) (E := eN) ((w.alloc (.map #[] 0)).alloc (.map #[] 0)); rwa [World.size_alloc, World.size_alloc] at this
  have al : ∀ (w : World) (o : Obj), Fr (fun _ => False) w (w.alloc o) := fun w o => Fr.alloc _ _ _
  refine ⟨w.heap.size + 1 + 1 + 1, ⟨w.heap.size, w.heap.size + 1, w.heap.size + 1 + 1, [], [], []⟩, rfl, ⟨?_, tl_made (((a1.fr (al _ _) (fun h => h)).fr (al _ _) (fun h => h)).fr (al _ _) (fun h => h)), tl_made ((a2.fr (al _ _) (fun h => h)).fr (al _ _) (fun h => h)), tl_made (a3.fr (al _ _) (fun h => h)),
    fun i h1 h2 => by have := blk_nil h1; have := blk_nil h2; dsimp only at *; omega, fun i h1 h2 => by have := blk_nil h1; have := blk_nil h2; dsimp only at *; omega, fun i h1 h2 => by have := blk_nil h1; have := blk_nil h2; dsimp only at *; omega,
    fun h1 => by have := blk_nil h1; dsimp only at *; omega, fun h1 => by have := blk_nil h1; dsimp only at *; omega, fun h1 => by have := blk_nil h1; dsimp only at *; omega,
    ⟨by omega, by simp⟩, fun i h1 => by have := blk_nil h1; subst this; exact ⟨by simp, by simp; omega⟩, fun i h1 => by have := blk_nil h1; subst this; exact ⟨by simp, by simp⟩, fun i h1 => by have := blk_nil h1; subst this; exact ⟨by simp; omega, by simp⟩,
    fun k hk => hk, ⟨Nat.le_refl _, Nat.le_refl _, Nat.le_refl _⟩, fun k => Nat.le_refl _, fun s => Nat.zero_le _⟩, ?_⟩
  · have h := alloc_at (((w.alloc (.map #[] 0)).alloc (.map #[] 0)).alloc (.map #[] 0)) (.cells #[.map (some w.heap.size), .map (some (w.heap.size + 1)), .map (some (w.heap.size + 1 + 1))] 34)
    simp only [World.size_alloc] at h
    exact h
  · exact (((((Fr.alloc (fun _ => False) w _).thenAlloc _).thenAlloc _).thenAlloc _)).below (Nat.le_refl _) (fun _ h => h.elim)
section
variable {w : World} {B N h : Nat} {F : Nat → Prop} {X : HX} {fb : ByteArray → List Int} {fc fp : Int → List ByteArray}
theorem HubX.lookC (H : HubX w B F N h X fb fc fp) (s : Int) (hs : kI.ok s) : (Instr.lookup 32 (.map (some X.mc)) (.int .i64 s) false).run Tryz.prog w = .ok (lookV eN s X.ch) w := H.c.top.look kI_ok eN_ok tIN s hs
theorem HubX.lookP (H : HubX w B F N h X fb fc fp) (s : Int) (hs : kI.ok s) : (Instr.lookup 32 (.map (some X.mp)) (.int .i64 s) false).run Tryz.prog w = .ok (lookV eN s X.pt) w := H.p.top.look kI_ok eN_ok tIN s hs
theorem HubX.lookB (H : HubX w B F N h X fb fc fp) (k : ByteArray) (hk : k.size ≤ maxLen) : (Instr.lookup 31 (.map (some X.mb)) (.string k) false).run Tryz.prog w = .ok (lookV eM k X.by_) w := H.b.top.look kS_ok eM_ok tSM k hk
theorem hubSize_any (H : HubX w B F N h X fb fc fp) (s : Int) (hs : kI.ok s) : Calls Tryz.prog 31 #[.pointer (some ⟨h, 0, none⟩), .int .i64 s] w fun e w' => e = .returned (.int .i64 ((fc s).length + (fp s).length : Nat)) ∧ ∃ m, w' = w.drewN m := by
  have c1 := H.cell1
  have c2 := H.cell2
  have l1 := H.lookC s hs
  have l2 := H.lookP s hs
  have n1 := fun ty => H.c.setLen tN rfl rfl s ty
  have n2 := fun ty => H.p.setLen tN rfl rfl s ty
  have hfw := H.few s
  obtain ⟨v1, hv1⟩ : ∃ v, lookV eN s X.ch = v := ⟨_, rfl⟩
  obtain ⟨v2, hv2⟩ : ∃ v, lookV eN s X.pt = v := ⟨_, rfl⟩
  obtain ⟨a, ha⟩ : ∃ a, (fc s).length = a := ⟨_, rfl⟩
  obtain ⟨b, hb⟩ : ∃ b, (fp s).length = b := ⟨_, rfl⟩
  rw [hv1] at l1 n1
  rw [hv2] at l2 n2
  rw [ha] at n1 hfw ⊢
  rw [hb] at n2 hfw ⊢
  have L1 : ∀ n, (Instr.lookup 32 (.map (some X.mc)) (.int .i64 s) false).run Tryz.prog (w.drewN n) = .ok v1 (w.drewN n) := fun n => by
    rw [← hv1]; exact (H.quiet (Fr.drewN (fun _ => False) w n)).lookC s hs
  have L2 : ∀ n, (Instr.lookup 32 (.map (some X.mp)) (.int .i64 s) false).run Tryz.prog (w.drewN n) = .ok v2 (w.drewN n) := fun n => by
    rw [← hv2]; exact (H.quiet (Fr.drewN (fun _ => False) w n)).lookP s hs
  have M1 : ∀ n ty, (Builtin.len_ #[65] ty #[v1]).run Tryz.prog (w.drewN n) = .ok (.int .i64 a) (w.drewN n) := fun n ty => by
    rw [← hv1, ← ha]; exact (H.quiet (Fr.drewN (fun _ => False) w n)).c.setLen tN rfl rfl s ty
  have M2 : ∀ n ty, (Builtin.len_ #[65] ty #[v2]).run Tryz.prog (w.drewN n) = .ok (.int .i64 b) (w.drewN n) := fun n ty => by
    rw [← hv2, ← hb]; exact (H.quiet (Fr.drewN (fun _ => False) w n)).p.setLen tN rfl rfl s ty
  clear H hv1 hv2 ha hb l1 l2 n1 n2
  go_enter Tryz.func31, Tryz.ntmps31
  go_wp2
  go_quiet (fail)
  go_wp2
  go_ret
  exact ⟨rfl, nq, rfl⟩
end
end Go.Proofs.YtleoeccjnchclaaGreatDoor
namespace Go.Proofs.YtleoeccjnchclaaGreatDoor
open Go.RowKit
/-- a footprint that has grown -/
def Grew (F : Nat → Prop) (w w' : World) (k : Nat) : Prop := F k ∨ w.heap.size ≤ k ∧ k < w'.heap.size
theorem grew_lt {F : Nat → Prop} {B : Nat} {w w' : World} (h : ∀ k, F k → B ≤ k ∧ k < w.heap.size) (hb : B ≤ w.heap.size) (hs : w.heap.size ≤ w'.heap.size) : ∀ k, Grew F w w' k → B ≤ k ∧ k < w'.heap.size := fun k hk =>
  hk.elim (fun hk => ⟨(h k hk).1, Nat.lt_of_lt_of_le (h k hk).2 hs⟩) (fun hk => ⟨Nat.le_trans hb hk.1, hk.2⟩)
section
variable {w w' : World} {B N N' h : Nat} {F T : Nat → Prop} {X : HX} {fb fb' : ByteArray → List Int} {fc fp fc' fp' : Int → List ByteArray}
theorem HubX.withC (H : HubX w B F N h X fb fc fp) (hB : B ≤ w.heap.size) (hf : Fr T w w') (hT : ∀ i, T i → BlkT X.mc X.ch i) {L : List (Int × Nat)} (ht : TL kI eN kS w' X.mc L fc') (hb : ∀ i, BlkT X.mc L i → BlkT X.mc X.ch i ∨ w.heap.size ≤ i) (hN : N ≤ N') (hl : L.length ≤ N')
    (hfew : ∀ s, (fc' s).length + (fp s).length ≤ 1024) : HubX w' B (Grew F w w') N' h { X with ch := L } fb fc' fp ∧ Fr F w w' := by
  have hF : Fr F w w' := hf.mono (fun i hi _ => H.Fc i (hT i hi))
  have l := H.lens
  refine ⟨⟨(hf.block h (H.lt h H.fh).2 (fun e => H.hc (hT h e))).trans H.blk, H.b.fr hf (fun i hi e => H.dbc i hi (hT i e)), ht, H.p.fr hf (fun i hi e => H.dcp i (hT i e) hi), fun i h1 h2 => ?_, H.dbp, fun i h1 h2 => ?_, H.hb, fun h1 => ?_, H.hp, .inl H.fh, fun i hi => .inl (H.Fb i hi), fun i hi => ?_, fun i hi => .inl (H.Fp i hi), grew_lt H.lt hB hf.size, ⟨by dsimp only; omega, hl, by dsimp only; omega⟩, fun k => by have := H.told k; dsimp only; omega, hfew⟩, hF⟩
  · rcases hb i h2 with h3 | h3
    · exact H.dbc i h1 h3
    · have := H.b.lt i h1; omega
  · rcases hb i h1 with h3 | h3
    · exact H.dcp i h3 h2
    · have := H.p.lt i h2; omega
  · rcases hb h h1 with h3 | h3
    · exact H.hc h3
    · have := (H.lt h H.fh).2; omega
  · rcases hb i hi with h3 | h3
    · exact .inl (H.Fc i h3)
    · exact .inr ⟨h3, ht.lt i hi⟩
theorem HubX.withP (H : HubX w B F N h X fb fc fp) (hB : B ≤ w.heap.size) (hf : Fr T w w') (hT : ∀ i, T i → BlkT X.mp X.pt i) {L : List (Int × Nat)} (ht : TL kI eN kS w' X.mp L fp') (hb : ∀ i, BlkT X.mp L i → BlkT X.mp X.pt i ∨ w.heap.size ≤ i) (hN : N ≤ N') (hl : L.length ≤ N')
    (htold : ∀ k, (fb k).length + tot L fp' ≤ N') (hfew : ∀ s, (fc s).length + (fp' s).length ≤ 1024) : HubX w' B (Grew F w w') N' h { X with pt := L } fb fc fp' ∧ Fr F w w' := by
  have hF : Fr F w w' := hf.mono (fun i hi _ => H.Fp i (hT i hi))
  have l := H.lens
  refine ⟨⟨(hf.block h (H.lt h H.fh).2 (fun e => H.hp (hT h e))).trans H.blk, H.b.fr hf (fun i hi e => H.dbp i hi (hT i e)), H.c.fr hf (fun i hi e => H.dcp i hi (hT i e)), ht, H.dbc, fun i h1 h2 => ?_, fun i h1 h2 => ?_, H.hb, H.hc, fun h1 => ?_, .inl H.fh, fun i hi => .inl (H.Fb i hi), fun i hi => .inl (H.Fc i hi), fun i hi => ?_, grew_lt H.lt hB hf.size, ⟨by dsimp only; omega, by dsimp only; omega, hl⟩, htold, hfew⟩, hF⟩
  · rcases hb i h2 with h3 | h3
    · exact H.dbp i h1 h3
    · have := H.b.lt i h1; omega
  · rcases hb i h2 with h3 | h3
    · exact H.dcp i h1 h3
    · have := H.c.lt i h1; omega
  · rcases hb h h1 with h3 | h3
    · exact H.hp h3
    · have := (H.lt h H.fh).2; omega
  · rcases hb i hi with h3 | h3
    · exact .inl (H.Fp i h3)
    · exact .inr ⟨h3, ht.lt i hi⟩
theorem HubX.withB (H : HubX w B F N h X fb fc fp) (hB : B ≤ w.heap.size) (hf : Fr T w w') (hT : ∀ i, T i → BlkT X.mb X.by_ i) {L : List (ByteArray × Nat)} (ht : TL kS eM kI w' X.mb L fb') (hb : ∀ i, BlkT X.mb L i → BlkT X.mb X.by_ i ∨ w.heap.size ≤ i) (hN : N ≤ N') (hl : L.length ≤ N')
    (htold : ∀ k, (fb' k).length + tot X.pt fp ≤ N') : HubX w' B (Grew F w w') N' h { X with by_ := L } fb' fc fp ∧ Fr F w w' := by
  have hF : Fr F w w' := hf.mono (fun i hi _ => H.Fb i (hT i hi))
  have l := H.lens
  refine ⟨⟨(hf.block h (H.lt h H.fh).2 (fun e => H.hb (hT h e))).trans H.blk, ht, H.c.fr hf (fun i hi e => H.dbc i (hT i e) hi), H.p.fr hf (fun i hi e => H.dbp i (hT i e) hi), fun i h1 h2 => ?_, fun i h1 h2 => ?_, H.dcp, fun h1 => ?_, H.hc, H.hp, .inl H.fh, fun i hi => ?_, fun i hi => .inl (H.Fc i hi), fun i hi => .inl (H.Fp i hi), grew_lt H.lt hB hf.size, ⟨hl, by dsimp only; omega, by dsimp only; omega⟩, htold, H.few⟩, hF⟩
  · rcases hb i h1 with h3 | h3
    · exact H.dbc i h3 h2
    · have := H.c.lt i h2; omega
  · rcases hb i h1 with h3 | h3
    · exact H.dbp i h3 h2
    · have := H.p.lt i h2; omega
  · rcases hb h h1 with h3 | h3
    · exact H.hb h3
    · have := (H.lt h H.fh).2; omega
  · rcases hb i hi with h3 | h3
    · exact .inl (H.Fb i h3)
    · exact .inr ⟨h3, ht.lt i hi⟩
end
/-! how many patterns there are, when one is added, or taken away -/
theorem tot_le {L : List (Int × Nat)} {f g : Int → List ByteArray} (h : ∀ s, (g s).length ≤ (f s).length) : tot L g ≤ tot L f := by
  unfold tot
  induction L with
  | nil => exact Nat.le_refl _
  | cons x L ih => simp only [List.map_cons, List.sum_cons]; have := h x.1; omega
theorem tot_snoc (L : List (Int × Nat)) (f : Int → List ByteArray) (x : Int × Nat) : tot (L ++ [x]) f = tot L f + (f x.1).length := by unfold tot; simp
theorem tot_filter (L : List (Int × Nat)) (f : Int → List ByteArray) (p : Int × Nat → Bool) : tot (L.filter p) f ≤ tot L f := by
  unfold tot
  induction L with
  | nil => exact Nat.le_refl _
  | cons x L ih =>
    by_cases hp : p x = true
    · rw [List.filter_cons, if_pos hp]; simp only [List.map_cons, List.sum_cons]; omega
    · rw [List.filter_cons, if_neg hp]; simp only [List.map_cons, List.sum_cons]; omega
theorem tot_no {L : List (Int × Nat)} {f : Int → List ByteArray} {s : Int} (k : ByteArray) (h : ∀ x ∈ L, x.1 ≠ s) : tot L (addF f s k) = tot L f := by
  unfold tot
  refine congrArg _ (List.map_congr_left fun x hx => ?_)
  unfold addF
  rw [if_neg (h x hx)]
theorem tot_add {L : List (Int × Nat)} {f : Int → List ByteArray} {s : Int} (k : ByteArray) (hn : (L.map (·.1)).Nodup) : tot L (addF f s k) ≤ tot L f + 1 := by
  induction L with
  | nil => exact Nat.zero_le _
  | cons x L ih =>
    rw [List.map_cons, List.nodup_cons] at hn
    by_cases e : x.1 = s
    · have h1 := tot_no (f := f) (s := s) k (L := L) (fun y hy e2 => hn.1 (by rw [e, ← e2]; exact List.mem_map.2 ⟨y, hy, rfl⟩))
      unfold tot at h1 ⊢
      simp only [List.map_cons, List.sum_cons, h1]
      have h2 : (addF f s k x.1).length = (f x.1).length + 1 := by unfold addF; rw [if_pos e, List.length_append]; rfl
      omega
    · have h1 := ih hn.2
      unfold tot at h1 ⊢
      simp only [List.map_cons, List.sum_cons]
      have h2 : (addF f s k x.1).length = (f x.1).length := by unfold addF; rw [if_neg e]
      omega
theorem addF_len {κ κ2 : Type} [DecidableEq κ] (f : κ → List κ2) (k k' : κ) (x : κ2) : (addF f k x k').length ≤ (f k').length + 1 := by
  unfold addF; split
  · rw [List.length_append]; exact Nat.le_refl _
  · omega
theorem delF_len {κ κ2 : Type} [DecidableEq κ] [DecidableEq κ2] (f : κ → List κ2) (k k' : κ) (x : κ2) : (delF f k x k').length ≤ (f k').length := by
  unfold delF; split
  · exact List.length_filter_le _ _
  · exact Nat.le_refl _
theorem cutF_len {κ κ2 : Type} [DecidableEq κ] (f : κ → List κ2) (k k' : κ) : (cutF f k k').length ≤ (f k').length := by
  unfold cutF; split
  · exact Nat.zero_le _
  · exact Nat.le_refl _
theorem blk_snoc {κ : Type} {m : Nat} {L : List (κ × Nat)} {k : κ} {b : Nat} {n : Nat} (hb : n ≤ b) : ∀ i, BlkT m (L ++ [(k, b)]) i → BlkT m L i ∨ n ≤ i := by
  rintro i (rfl | ⟨x, hx, rfl⟩)
  · exact .inl (.inl rfl)
  · rcases List.mem_append.1 hx with hx | hx
    · exact .inl (.inr ⟨x, hx, rfl⟩)
    · rw [List.mem_singleton] at hx; subst hx; exact .inr hb
theorem blk_filter {κ : Type} {m n : Nat} {L : List (κ × Nat)} {p : κ × Nat → Bool} : ∀ i, BlkT m (L.filter p) i → BlkT m L i ∨ n ≤ i := by
  rintro i (rfl | ⟨x, hx, rfl⟩)
  · exact .inl (.inl rfl)
  · exact .inl (.inr ⟨x, (List.mem_filter.1 hx).1, rfl⟩)
end Go.Proofs.YtleoeccjnchclaaGreatDoor
namespace Go.Proofs.YtleoeccjnchclaaGreatDoor
open Go.RowKit
instance decMem (k : ByteArray) (l : List ByteArray) : Decidable (k ∈ l) := @List.instDecidableMemOfLawfulBEq _ instBEqOfDecidableEq _ k l
theorem HubX.still {w w' : World} {B N h : Nat} {F : Nat → Prop} {X : HX} {fb : ByteArray → List Int} {fc fp : Int → List ByteArray} (H : HubX w B F N h X fb fc fp) (hB : B ≤ w.heap.size) (hq : Fr (fun _ => False) w w') : HubX w' B (Grew F w w') (N + 1) h X fb fc fp :=
  ((H.quiet hq).wide (fun _ hk => .inl hk) (grew_lt H.lt hB hq.size)).upN (Nat.le_succ N)
/-- what listen tells, and what is listened to behind it -/
def lsRes (fx fy : Int → List ByteArray) (s : Int) (k : ByteArray) : Nat × Nat × (Int → List ByteArray) :=
  if 1024 < k.size then (0, 2, fx) else if k ∈ fx s then ((fx s).length + (fy s).length, 0, fx) else if 1024 ≤ (fx s).length + (fy s).length then (0, 4, fx) else ((fx s).length + (fy s).length + 1, 0, addF fx s k)
theorem addF_same {κ κ2 : Type} [DecidableEq κ] (f : κ → List κ2) (k : κ) (x : κ2) : addF f k x k = f k ++ [x] := by unfold addF; rw [if_pos rfl]
theorem few_add {f g : Int → List ByteArray} {s : Int} {k : ByteArray} (h : ∀ s, (f s).length + (g s).length ≤ 1024) (hs : (f s).length + (g s).length < 1024) : ∀ s', (addF f s k s').length + (g s').length ≤ 1024 := fun s' => by
  unfold addF
  split
  · rename_i e
    rw [List.length_append, e]
    simp only [List.length_singleton]
    omega
  · exact h s'
theorem eqNames (r : Option Nat) (w : World) : (binOp .eql 65 (.map r) (.map none)).run Tryz.prog w = .ok (.bool r.isNone) w := run_eql_map_nil w _ _ _ r Tryz.underlying65
theorem few_addP {f g : Int → List ByteArray} {s : Int} {k : ByteArray} (h : ∀ s, (g s).length + (f s).length ≤ 1024) (hs : (g s).length + (f s).length < 1024) : ∀ s', (g s').length + (addF f s k s').length ≤ 1024 := fun s' => by
  unfold addF
  split
  · rename_i e
    rw [List.length_append, e]
    simp only [List.length_singleton]
    omega
  · exact h s'
/-- what listen leaves at channels -/
def LsC (w : World) (B : Nat) (F : Nat → Prop) (N h : Nat) (X : HX) (fb : ByteArray → List Int) (fc fp : Int → List ByteArray) (s : Int) (k : ByteArray) (e : Ending) (w' : World) : Prop :=
  e = .returned (.tuple #[.int .i64 (lsRes fc fp s k).1, .int .i64 (lsRes fc fp s k).2.1]) ∧ Fr F w w' ∧ ∃ L, HubX w' B (Grew F w w') (N + 1) h { X with ch := L } fb (lsRes fc fp s k).2.2 fp
set_option maxRecDepth 100000 in
set_option maxHeartbeats 2000000 in
theorem listenC_any {w : World} {B N h : Nat} {F : Nat → Prop} {X : HX} {fb : ByteArray → List Int} {fc fp : Int → List ByteArray} (H : HubX w B F N h X fb fc fp) (hB : B ≤ w.heap.size) (hN : N ≤ 4398046511104) (s : Int) (k : ByteArray) (hs : kI.ok s) (hk : k.size ≤ maxLen) :
    Calls Tryz.prog 29 #[.pointer (some ⟨h, 0, none⟩), .map (some X.mc), .int .i64 s, .string k] w (LsC w B F N h X fb fc fp s k) := by
  unfold LsC
  by_cases hlong : 1024 < k.size
  · have e : lsRes fc fp s k = (0, 2, fc) := by unfold lsRes; rw [if_pos hlong]
    rw [e]
    have g1 : decide ((1024 : Int) < (k.size : Int)) = true := decide_eq_true (by omega)
    have g2 : (1024 : Int) < (k.size : Int) := by omega
    have HS := Lib.hid (H.still hB (Fr.refl (fun _ => False) w))
    clear H e
    go_enter Tryz.func29, Tryz.ntmps29
    go_wp2
    go_ret2
    exact ⟨rfl, Fr.refl _ _, X.ch, HS.out⟩
  have g1 : decide ((1024 : Int) < (k.size : Int)) = false := decide_eq_false (by omega)
  have g2 : ¬ (1024 : Int) < (k.size : Int) := by omega
  have l1 := H.lookC s hs
  have n1 := H.c.setHas kS_ok tN rfl rfl s k hk
  obtain ⟨v1, hv1⟩ : ∃ v, lookV eN s X.ch = v := ⟨_, rfl⟩
  rw [hv1] at l1 n1
  obtain ⟨w1, hw1⟩ : ∃ x, w.alloc (.cells #[] 62) = x := ⟨_, rfl⟩
  have hq1 : Fr (fun _ => False) w w1 := by rw [← hw1]; exact Fr.alloc _ _ _
  have H1 := H.quiet hq1
  have HH := Lib.hid H1
  have HQ1 := Lib.hid hq1
  have HV1 := Lib.hid hv1
  have HSZ := Lib.hid (hubSize_any H1 s hs)
  have hfew := H.few s
  have HB := Lib.hid (Nat.le_trans hB hq1.size)
  have HLT := Lib.hid H.lt
  have HN := Lib.hid hN
  have HST : Hid (∀ w', Fr (fun _ => False) w w' → HubX w' B (Grew F w w') (N + 1) h X fb fc fp) := fun w' hq => H.still hB hq
  have hlen : ((fc s).length + (fp s).length : Nat) = (fc s).length + (fp s).length := by omega
  have n1' : (Instr.lookup 65 v1 (.string k) true).run Tryz.prog w = .ok (.tuple #[.agg #[], .bool (decide (k ∈ fc s))]) w := n1
  clear H H1 hq1 hv1 n1
  by_cases hin : k ∈ fc s
  · have e : lsRes fc fp s k = ((fc s).length + (fp s).length, 0, fc) := by unfold lsRes; rw [if_neg hlong, if_pos hin, hlen]
    rw [e]
    rw [decide_eq_true hin] at n1'
    obtain ⟨sz, hsz⟩ : ∃ n, (fc s).length + (fp s).length = n := ⟨_, rfl⟩
    rw [hsz] at HSZ ⊢
    clear e hin hsz hlen hfew hlong
    go_enter Tryz.func29, Tryz.ntmps29
    go_wp2_with fail
    refine HSZ.out.mono ?_
    rintro e w2 ⟨rfl, m2, hm2⟩
    have HQ2 : Hid (Fr (fun _ => False) w w2) := HQ1.out.trans (S := fun _ => False) (T := fun _ => False) (by rw [hm2]; exact Fr.drewN (fun _ => False) w1 m2) (fun _ h _ => h)
    clear hm2
    go_wp2_with fail
    go_ret2
    exact ⟨rfl, HQ2.out.mono (fun _ h _ => h.elim), X.ch, HST.out w2 HQ2.out⟩
  rw [decide_eq_false hin] at n1'
  by_cases hfull : 1024 ≤ (fc s).length + (fp s).length
  · have e : lsRes fc fp s k = (0, 4, fc) := by unfold lsRes; rw [if_neg hlong, if_neg hin, hlen, if_pos hfull]
    rw [e]
    obtain ⟨sz, hsz⟩ : ∃ n, (fc s).length + (fp s).length = n := ⟨_, rfl⟩
    rw [hsz] at HSZ hfull
    have g3 : decide ((1024 : Int) ≤ (sz : Int)) = true := decide_eq_true (by omega)
    have g4 : (1024 : Int) ≤ (sz : Int) := by omega
    clear e hin hsz hlen hfew hlong
    go_enter Tryz.func29, Tryz.ntmps29
    go_wp2_with fail
    refine HSZ.out.mono ?_
    rintro e w2 ⟨rfl, m2, hm2⟩
    have HQ2 : Hid (Fr (fun _ => False) w w2) := HQ1.out.trans (S := fun _ => False) (T := fun _ => False) (by rw [hm2]; exact Fr.drewN (fun _ => False) w1 m2) (fun _ h _ => h)
    clear hm2
    go_wp2_with fail
    go_ret2
    exact ⟨rfl, HQ2.out.mono (fun _ h _ => h.elim), X.ch, HST.out w2 HQ2.out⟩
  · have e : lsRes fc fp s k = ((fc s).length + (fp s).length + 1, 0, addF fc s k) := by unfold lsRes; rw [if_neg hlong, if_neg hin, hlen, if_neg hfull]
    rw [e]
    obtain ⟨sz, hsz⟩ : ∃ n, (fc s).length + (fp s).length = n := ⟨_, rfl⟩
    rw [hsz] at HSZ hfull ⊢
    have g3 : decide ((1024 : Int) ≤ (sz : Int)) = false := decide_eq_false (by omega)
    have g4 : ¬ (1024 : Int) ≤ (sz : Int) := by omega
    have HIN := Lib.hid hin
    have HSS := Lib.hid hsz
    have HSF := Lib.hid hfull
    clear e hin hsz hlen hfew hlong hfull
    go_enter Tryz.func29, Tryz.ntmps29
    go_wp2_with fail
    refine HSZ.out.mono ?_
    rintro e w2 ⟨rfl, m2, hm2⟩
    have hq2 : Fr (fun _ => False) w1 w2 := by rw [hm2]; exact Fr.drewN (fun _ => False) w1 m2
    have H2 := HH.out.quiet hq2
    have hq02 : Fr (fun _ => False) w w2 := HQ1.out.trans hq2 (fun _ h _ => h)
    have hB2 : B ≤ w2.heap.size := Nat.le_trans HB.out hq2.size
    have hn4 := HN.out
    have hll := H2.lens
    have hsf := HSF.out
    have hss := HSS.out
    have l2 := H2.lookC s hs
    clear hm2 l1 n1' HSZ
    cases hk0 : lkp s X.ch with
    | none =>
      have hv2 : lookV eN s X.ch = .map none := by unfold lookV; rw [hk0]; rfl
      rw [hv2] at l2
      have hq0 := eqNames none w2
      have hmm := @run_makeMap Tryz.prog
      obtain ⟨w3, hrun3, ht3, hf3⟩ := H2.c.new_ kI_ok eN_ok tIN hk0 hs (by unfold maxLen; omega)
      have r3 : (Instr.mapUpdate 32 (.map (some X.mc)) (.int .i64 s) (.map (some w2.heap.size))).run Tryz.prog (w2.alloc (.map #[] 0)) = .ok () w3 := hrun3
      obtain ⟨H3, hF3⟩ := H2.withC hB2 hf3 (fun i hi => .inl hi) ht3 (blk_snoc (Nat.le_refl _)) (Nat.le_succ N) (by rw [List.length_append]; show _ + 1 ≤ _; omega) H2.few
      have hk3 : lkp s (X.ch ++ [(s, w2.heap.size)]) = some w2.heap.size := by rw [look_snoc hk0, if_pos rfl]
      have l3 := H3.lookC s hs
      rw [show lookV eN s (X.ch ++ [(s, w2.heap.size)]) = .map (some w2.heap.size) from by unfold lookV; rw [hk3]; rfl] at l3
      obtain ⟨w4, hrun4, ht4, hf4⟩ := H3.c.add kS_ok tN hk3 k hk HIN.out (by unfold maxLen; omega)
      have r4 : (Instr.mapUpdate 65 (.map (some w2.heap.size)) (.string k) (.agg #[])).run Tryz.prog w3 = .ok () w4 := hrun4
      obtain ⟨H4, hF4⟩ := H3.withC (Nat.le_trans hB2 hf3.size) hf4 (fun i hi => .inr ⟨_, look_mem hk3, hi.symm⟩) ht4 (fun i hi => .inl hi) (Nat.le_refl _) (by rw [List.length_append]; show _ + 1 ≤ _; omega) (few_add H2.few (by omega))
      have hs4 := hubSize_any H4 s hs
      rw [show (addF fc s k s).length + (fp s).length = sz + 1 from by rw [addF_same, List.length_append]; show _ = _; simp only [List.length_singleton]; omega] at hs4
      have HS4 := Lib.hid hs4
      have HF4 : Hid (Fr F w w4) := (hq02.mono (T := F) (fun _ h _ => h.elim)).trans (hF3.trans hF4 (fun i hi hl => hi.elim id (fun q => absurd q.1 (by omega)))) (fun _ h _ => h)
      have HH4 : Hid (HubX w4 B (Grew F w w4) (N + 1) h { X with ch := X.ch ++ [(s, w2.heap.size)] } fb (addF fc s k) fp) := H4.wide (fun i hi => by
        have z1 := hq02.size
        have z3 := hf3.size
        have z4 := hf4.size
        rcases hi with (hi | hi) | hi
        · exact .inl hi
        · exact .inr ⟨by omega, by omega⟩
        · exact .inr ⟨by omega, by omega⟩) (grew_lt HLT.out (by have := hq02.size; exact hB) HF4.out.size)
      clear hrun3 ht3 hf3 H3 hF3 hk3 hrun4 ht4 hf4 H4 hF4 hs4 hq2 H2 hq02 hB2 hll hk0 hv2 hsf hss
      go_wp2_with fail
      refine HS4.out.mono ?_
      rintro e w5 ⟨rfl, m5, hm5⟩
      have hq5 : Fr (fun _ => False) w4 w5 := by rw [hm5]; exact Fr.drewN (fun _ => False) w4 m5
      have HF5 : Hid (Fr F w w5) := HF4.out.trans (hq5.mono (T := F) (fun _ h _ => h.elim)) (fun _ h _ => h)
      have HH5 := Lib.hid ((HH4.out.quiet hq5).wide (F' := Grew F w w5) (fun i hi => hi.imp id (fun q => ⟨q.1, Nat.lt_of_lt_of_le q.2 hq5.size⟩)) (grew_lt HLT.out hB HF5.out.size))
      clear hm5 hq5
      go_wp2_with fail
      go_ret2
      exact ⟨rfl, HF5.out, _, HH5.out⟩
    | some b =>
      have hv2 : lookV eN s X.ch = .map (some b) := by unfold lookV; rw [hk0]; rfl
      rw [hv2] at l2
      have hq0 := eqNames (some b) w2
      obtain ⟨w4, hrun4, ht4, hf4⟩ := H2.c.add kS_ok tN hk0 k hk HIN.out (by unfold maxLen; omega)
      have r4 : (Instr.mapUpdate 65 (.map (some b)) (.string k) (.agg #[])).run Tryz.prog w2 = .ok () w4 := hrun4
      obtain ⟨H4, hF4⟩ := H2.withC hB2 hf4 (fun i hi => .inr ⟨_, look_mem hk0, hi.symm⟩) ht4 (fun i hi => .inl hi) (Nat.le_succ N) (by omega) (few_add H2.few (by omega))
      have hs4 := hubSize_any H4 s hs
      rw [show (addF fc s k s).length + (fp s).length = sz + 1 from by rw [addF_same, List.length_append]; show _ = _; simp only [List.length_singleton]; omega] at hs4
      have HS4 := Lib.hid hs4
      have HF4 : Hid (Fr F w w4) := (hq02.mono (T := F) (fun _ h _ => h.elim)).trans hF4 (fun _ h _ => h)
      have HH4 : Hid (HubX w4 B (Grew F w w4) (N + 1) h { X with ch := X.ch } fb (addF fc s k) fp) := H4.wide (fun i hi => by
        have z1 := hq02.size
        have z4 := hf4.size
        rcases hi with hi | hi
        · exact .inl hi
        · exact .inr ⟨by omega, by omega⟩) (grew_lt HLT.out (by have := hq02.size; exact hB) HF4.out.size)
      clear hrun4 ht4 hf4 H4 hF4 hs4 hq2 H2 hq02 hB2 hll hk0 hv2 hsf hss
      go_wp2_with fail
      refine HS4.out.mono ?_
      rintro e w5 ⟨rfl, m5, hm5⟩
      have hq5 : Fr (fun _ => False) w4 w5 := by rw [hm5]; exact Fr.drewN (fun _ => False) w4 m5
      have HF5 : Hid (Fr F w w5) := HF4.out.trans (hq5.mono (T := F) (fun _ h _ => h.elim)) (fun _ h _ => h)
      have HH5 := Lib.hid ((HH4.out.quiet hq5).wide (F' := Grew F w w5) (fun i hi => hi.imp id (fun q => ⟨q.1, Nat.lt_of_lt_of_le q.2 hq5.size⟩)) (grew_lt HLT.out hB HF5.out.size))
      clear hm5 hq5
      go_wp2_with fail
      go_ret2
      exact ⟨rfl, HF5.out, _, HH5.out⟩
end Go.Proofs.YtleoeccjnchclaaGreatDoor
namespace Go.Proofs.YtleoeccjnchclaaGreatDoor
open Go.RowKit
/-- what listen leaves at byPattern -/
def LsP (w : World) (B : Nat) (F : Nat → Prop) (N h : Nat) (X : HX) (fb : ByteArray → List Int) (fc fp : Int → List ByteArray) (s : Int) (k : ByteArray) (e : Ending) (w' : World) : Prop :=
  e = .returned (.tuple #[.int .i64 (lsRes fp fc s k).1, .int .i64 (lsRes fp fc s k).2.1]) ∧ Fr F w w' ∧ ∃ L, HubX w' B (Grew F w w') (N + 1) h { X with pt := L } fb fc (lsRes fp fc s k).2.2
set_option maxRecDepth 100000 in
set_option maxHeartbeats 2000000 in
theorem listenP_any {w : World} {B N h : Nat} {F : Nat → Prop} {X : HX} {fb : ByteArray → List Int} {fc fp : Int → List ByteArray} (H : HubX w B F N h X fb fc fp) (hB : B ≤ w.heap.size) (hN : N ≤ 4398046511104) (s : Int) (k : ByteArray) (hs : kI.ok s) (hk : k.size ≤ maxLen) :
    Calls Tryz.prog 29 #[.pointer (some ⟨h, 0, none⟩), .map (some X.mp), .int .i64 s, .string k] w (LsP w B F N h X fb fc fp s k) := by
  unfold LsP
  by_cases hlong : 1024 < k.size
  · have e : lsRes fp fc s k = (0, 2, fp) := by unfold lsRes; rw [if_pos hlong]
    rw [e]
    have g1 : decide ((1024 : Int) < (k.size : Int)) = true := decide_eq_true (by omega)
    have g2 : (1024 : Int) < (k.size : Int) := by omega
    have HS := Lib.hid (H.still hB (Fr.refl (fun _ => False) w))
    clear H e
    go_enter Tryz.func29, Tryz.ntmps29
    go_wp2
    go_ret2
    exact ⟨rfl, Fr.refl _ _, X.pt, HS.out⟩
  have g1 : decide ((1024 : Int) < (k.size : Int)) = false := decide_eq_false (by omega)
  have g2 : ¬ (1024 : Int) < (k.size : Int) := by omega
  have l1 := H.lookP s hs
  have n1 := H.p.setHas kS_ok tN rfl rfl s k hk
  obtain ⟨v1, hv1⟩ : ∃ v, lookV eN s X.pt = v := ⟨_, rfl⟩
  rw [hv1] at l1 n1
  obtain ⟨w1, hw1⟩ : ∃ x, w.alloc (.cells #[] 62) = x := ⟨_, rfl⟩
  have hq1 : Fr (fun _ => False) w w1 := by rw [← hw1]; exact Fr.alloc _ _ _
  have H1 := H.quiet hq1
  have HH := Lib.hid H1
  have HQ1 := Lib.hid hq1
  have HV1 := Lib.hid hv1
  have HSZ := Lib.hid (hubSize_any H1 s hs)
  have hfew := H.few s
  have HB := Lib.hid (Nat.le_trans hB hq1.size)
  have HLT := Lib.hid H.lt
  have HN := Lib.hid hN
  have HST : Hid (∀ w', Fr (fun _ => False) w w' → HubX w' B (Grew F w w') (N + 1) h X fb fc fp) := fun w' hq => H.still hB hq
  have hlen : ((fp s).length + (fc s).length : Nat) = (fc s).length + (fp s).length := by omega
  have n1' : (Instr.lookup 65 v1 (.string k) true).run Tryz.prog w = .ok (.tuple #[.agg #[], .bool (decide (k ∈ fp s))]) w := n1
  clear H H1 hq1 hv1 n1
  by_cases hin : k ∈ fp s
  · have e : lsRes fp fc s k = ((fc s).length + (fp s).length, 0, fp) := by unfold lsRes; rw [if_neg hlong, if_pos hin, hlen]
    rw [e]
    rw [decide_eq_true hin] at n1'
    obtain ⟨sz, hsz⟩ : ∃ n, (fc s).length + (fp s).length = n := ⟨_, rfl⟩
    rw [hsz] at HSZ ⊢
    clear e hin hsz hlen hfew hlong
    go_enter Tryz.func29, Tryz.ntmps29
    go_wp2_with fail
    refine HSZ.out.mono ?_
    rintro e w2 ⟨rfl, m2, hm2⟩
    have HQ2 : Hid (Fr (fun _ => False) w w2) := HQ1.out.trans (S := fun _ => False) (T := fun _ => False) (by rw [hm2]; exact Fr.drewN (fun _ => False) w1 m2) (fun _ h _ => h)
    clear hm2
    go_wp2_with fail
    go_ret2
    exact ⟨rfl, HQ2.out.mono (fun _ h _ => h.elim), X.pt, HST.out w2 HQ2.out⟩
  rw [decide_eq_false hin] at n1'
  by_cases hfull : 1024 ≤ (fc s).length + (fp s).length
  · have e : lsRes fp fc s k = (0, 4, fp) := by unfold lsRes; rw [if_neg hlong, if_neg hin, hlen, if_pos hfull]
    rw [e]
    obtain ⟨sz, hsz⟩ : ∃ n, (fc s).length + (fp s).length = n := ⟨_, rfl⟩
    rw [hsz] at HSZ hfull
    have g3 : decide ((1024 : Int) ≤ (sz : Int)) = true := decide_eq_true (by omega)
    have g4 : (1024 : Int) ≤ (sz : Int) := by omega
    clear e hin hsz hlen hfew hlong
    go_enter Tryz.func29, Tryz.ntmps29
    go_wp2_with fail
    refine HSZ.out.mono ?_
    rintro e w2 ⟨rfl, m2, hm2⟩
    have HQ2 : Hid (Fr (fun _ => False) w w2) := HQ1.out.trans (S := fun _ => False) (T := fun _ => False) (by rw [hm2]; exact Fr.drewN (fun _ => False) w1 m2) (fun _ h _ => h)
    clear hm2
    go_wp2_with fail
    go_ret2
    exact ⟨rfl, HQ2.out.mono (fun _ h _ => h.elim), X.pt, HST.out w2 HQ2.out⟩
  · have e : lsRes fp fc s k = ((fc s).length + (fp s).length + 1, 0, addF fp s k) := by unfold lsRes; rw [if_neg hlong, if_neg hin, hlen, if_neg hfull]
    rw [e]
    obtain ⟨sz, hsz⟩ : ∃ n, (fc s).length + (fp s).length = n := ⟨_, rfl⟩
    rw [hsz] at HSZ hfull ⊢
    have g3 : decide ((1024 : Int) ≤ (sz : Int)) = false := decide_eq_false (by omega)
    have g4 : ¬ (1024 : Int) ≤ (sz : Int) := by omega
    have HIN := Lib.hid hin
    have HSS := Lib.hid hsz
    have HSF := Lib.hid hfull
    clear e hin hsz hlen hfew hlong hfull
    go_enter Tryz.func29, Tryz.ntmps29
    go_wp2_with fail
    refine HSZ.out.mono ?_
    rintro e w2 ⟨rfl, m2, hm2⟩
    have hq2 : Fr (fun _ => False) w1 w2 := by rw [hm2]; exact Fr.drewN (fun _ => False) w1 m2
    have H2 := HH.out.quiet hq2
    have hq02 : Fr (fun _ => False) w w2 := HQ1.out.trans hq2 (fun _ h _ => h)
    have hB2 : B ≤ w2.heap.size := Nat.le_trans HB.out hq2.size
    have hn4 := HN.out
    have hll := H2.lens
    have hsf := HSF.out
    have hss := HSS.out
    have l2 := H2.lookP s hs
    clear hm2 l1 n1' HSZ
    cases hk0 : lkp s X.pt with
    | none =>
      have hv2 : lookV eN s X.pt = .map none := by unfold lookV; rw [hk0]; rfl
      rw [hv2] at l2
      have hq0 := eqNames none w2
      have hmm := @run_makeMap Tryz.prog
      obtain ⟨w3, hrun3, ht3, hf3⟩ := H2.p.new_ kI_ok eN_ok tIN hk0 hs (by unfold maxLen; omega)
      have r3 : (Instr.mapUpdate 32 (.map (some X.mp)) (.int .i64 s) (.map (some w2.heap.size))).run Tryz.prog (w2.alloc (.map #[] 0)) = .ok () w3 := hrun3
      obtain ⟨H3, hF3⟩ := H2.withP hB2 hf3 (fun i hi => .inl hi) ht3 (blk_snoc (Nat.le_refl _)) (Nat.le_succ N) (by rw [List.length_append]; show _ + 1 ≤ _; omega) (fun k' => by rw [tot_snoc, H2.p.no s hk0]; have := H2.told k'; show _ + (_ + 0) ≤ _; omega) H2.few
      have hk3 : lkp s (X.pt ++ [(s, w2.heap.size)]) = some w2.heap.size := by rw [look_snoc hk0, if_pos rfl]
      have l3 := H3.lookP s hs
      rw [show lookV eN s (X.pt ++ [(s, w2.heap.size)]) = .map (some w2.heap.size) from by unfold lookV; rw [hk3]; rfl] at l3
      obtain ⟨w4, hrun4, ht4, hf4⟩ := H3.p.add kS_ok tN hk3 k hk HIN.out (by unfold maxLen; omega)
      have r4 : (Instr.mapUpdate 65 (.map (some w2.heap.size)) (.string k) (.agg #[])).run Tryz.prog w3 = .ok () w4 := hrun4
      obtain ⟨H4, hF4⟩ := H3.withP (Nat.le_trans hB2 hf3.size) hf4 (fun i hi => .inr ⟨_, look_mem hk3, hi.symm⟩) ht4 (fun i hi => .inl hi) (Nat.le_refl _) (by rw [List.length_append]; show _ + 1 ≤ _; omega) (fun k' => by have h1 := H3.told k'; have h2 := tot_add (f := fp) (s := s) k H3.p.top.nodup; have h3 := H2.told k'; have h4 := tot_snoc X.pt fp (s, w2.heap.size); rw [H2.p.no s hk0] at h4; dsimp only at h1 h2 h4 ⊢; simp only [List.length_nil] at h4; omega) (few_addP H2.few (by omega))
      have hs4 := hubSize_any H4 s hs
      rw [show (fc s).length + (addF fp s k s).length = sz + 1 from by rw [addF_same, List.length_append]; show _ = _; simp only [List.length_singleton]; omega] at hs4
      have HS4 := Lib.hid hs4
      have HF4 : Hid (Fr F w w4) := (hq02.mono (T := F) (fun _ h _ => h.elim)).trans (hF3.trans hF4 (fun i hi hl => hi.elim id (fun q => absurd q.1 (by omega)))) (fun _ h _ => h)
      have HH4 : Hid (HubX w4 B (Grew F w w4) (N + 1) h { X with pt := X.pt ++ [(s, w2.heap.size)] } fb fc (addF fp s k)) := H4.wide (fun i hi => by
        have z1 := hq02.size
        have z3 := hf3.size
        have z4 := hf4.size
        rcases hi with (hi | hi) | hi
        · exact .inl hi
        · exact .inr ⟨by omega, by omega⟩
        · exact .inr ⟨by omega, by omega⟩) (grew_lt HLT.out (by have := hq02.size; exact hB) HF4.out.size)
      clear hrun3 ht3 hf3 H3 hF3 hk3 hrun4 ht4 hf4 H4 hF4 hs4 hq2 H2 hq02 hB2 hll hk0 hv2 hsf hss
      go_wp2_with fail
      refine HS4.out.mono ?_
      rintro e w5 ⟨rfl, m5, hm5⟩
      have hq5 : Fr (fun _ => False) w4 w5 := by rw [hm5]; exact Fr.drewN (fun _ => False) w4 m5
      have HF5 : Hid (Fr F w w5) := HF4.out.trans (hq5.mono (T := F) (fun _ h _ => h.elim)) (fun _ h _ => h)
      have HH5 := Lib.hid ((HH4.out.quiet hq5).wide (F' := Grew F w w5) (fun i hi => hi.imp id (fun q => ⟨q.1, Nat.lt_of_lt_of_le q.2 hq5.size⟩)) (grew_lt HLT.out hB HF5.out.size))
      clear hm5 hq5
      go_wp2_with fail
      go_ret2
      exact ⟨rfl, HF5.out, _, HH5.out⟩
    | some b =>
      have hv2 : lookV eN s X.pt = .map (some b) := by unfold lookV; rw [hk0]; rfl
      rw [hv2] at l2
      have hq0 := eqNames (some b) w2
      obtain ⟨w4, hrun4, ht4, hf4⟩ := H2.p.add kS_ok tN hk0 k hk HIN.out (by unfold maxLen; omega)
      have r4 : (Instr.mapUpdate 65 (.map (some b)) (.string k) (.agg #[])).run Tryz.prog w2 = .ok () w4 := hrun4
      obtain ⟨H4, hF4⟩ := H2.withP hB2 hf4 (fun i hi => .inr ⟨_, look_mem hk0, hi.symm⟩) ht4 (fun i hi => .inl hi) (Nat.le_succ N) (by omega) (fun k' => by have h2 := tot_add (f := fp) (s := s) k H2.p.top.nodup; have h3 := H2.told k'; omega) (few_addP H2.few (by omega))
      have hs4 := hubSize_any H4 s hs
      rw [show (fc s).length + (addF fp s k s).length = sz + 1 from by rw [addF_same, List.length_append]; show _ = _; simp only [List.length_singleton]; omega] at hs4
      have HS4 := Lib.hid hs4
      have HF4 : Hid (Fr F w w4) := (hq02.mono (T := F) (fun _ h _ => h.elim)).trans hF4 (fun _ h _ => h)
      have HH4 : Hid (HubX w4 B (Grew F w w4) (N + 1) h { X with pt := X.pt } fb fc (addF fp s k)) := H4.wide (fun i hi => by
        have z1 := hq02.size
        have z4 := hf4.size
        rcases hi with hi | hi
        · exact .inl hi
        · exact .inr ⟨by omega, by omega⟩) (grew_lt HLT.out (by have := hq02.size; exact hB) HF4.out.size)
      clear hrun4 ht4 hf4 H4 hF4 hs4 hq2 H2 hq02 hB2 hll hk0 hv2 hsf hss
      go_wp2_with fail
      refine HS4.out.mono ?_
      rintro e w5 ⟨rfl, m5, hm5⟩
      have hq5 : Fr (fun _ => False) w4 w5 := by rw [hm5]; exact Fr.drewN (fun _ => False) w4 m5
      have HF5 : Hid (Fr F w w5) := HF4.out.trans (hq5.mono (T := F) (fun _ h _ => h.elim)) (fun _ h _ => h)
      have HH5 := Lib.hid ((HH4.out.quiet hq5).wide (F' := Grew F w w5) (fun i hi => hi.imp id (fun q => ⟨q.1, Nat.lt_of_lt_of_le q.2 hq5.size⟩)) (grew_lt HLT.out hB HF5.out.size))
      clear hm5 hq5
      go_wp2_with fail
      go_ret2
      exact ⟨rfl, HF5.out, _, HH5.out⟩
end Go.Proofs.YtleoeccjnchclaaGreatDoor
namespace Go.Proofs.YtleoeccjnchclaaGreatDoor
open Go.RowKit
/-- who listens to a channel, and a session's channels, say the same -/
def Tie (fb : ByteArray → List Int) (fc : Int → List ByteArray) : Prop := ∀ k s, s ∈ fb k ↔ k ∈ fc s
/-- a hub -/
def HubT (w : World) (B : Nat) (F : Nat → Prop) (N h : Nat) (fc fp : Int → List ByteArray) : Prop := ∃ X fb, HubX w B F N h X fb fc fp ∧ Tie fb fc
theorem tie_add {fb : ByteArray → List Int} {fc : Int → List ByteArray} (h : Tie fb fc) (k : ByteArray) (s : Int) : Tie (addF fb k s) (addF fc s k) := fun k' s' => by
  unfold addF
  by_cases e1 : k' = k
  · by_cases e2 : s' = s
    · subst e1 e2; simp
    · rw [if_pos e1, if_neg e2, List.mem_append, List.mem_singleton]
      rw [← h k' s']
      simp [e2]
  · by_cases e2 : s' = s
    · rw [if_neg e1, if_pos e2, List.mem_append, List.mem_singleton, ← h k' s']
      simp [e1]
    · rw [if_neg e1, if_neg e2]; exact h k' s'
theorem eqSess (r : Option Nat) (w : World) : (binOp .eql 61 (.map r) (.map none)).run Tryz.prog w = .ok (.bool r.isNone) w := run_eql_map_nil w _ _ _ r Tryz.underlying61
theorem HubX.grow {w w2 w3 : World} {B N h : Nat} {F : Nat → Prop} {X : HX} {fb : ByteArray → List Int} {fc fp : Int → List ByteArray} (H : HubX w3 B (Grew (Grew F w w2) w2 w3) N h X fb fc fp) (hl : ∀ k, F k → B ≤ k ∧ k < w.heap.size) (hB : B ≤ w.heap.size) (h2 : w.heap.size ≤ w2.heap.size) (h3 : w2.heap.size ≤ w3.heap.size) : HubX w3 B (Grew F w w3) N h X fb fc fp :=
  H.wide (fun i hi => by
    rcases hi with (hi | hi) | hi
    · exact .inl hi
    · exact .inr ⟨hi.1, by omega⟩
    · exact .inr ⟨by omega, hi.2⟩) (grew_lt hl hB (by omega))
theorem fr_grow {F : Nat → Prop} {w w2 w3 : World} (h2 : Fr F w w2) (h3 : Fr (Grew F w w2) w2 w3) : Fr F w w3 :=
  h2.trans h3 (fun i hi hl => hi.elim id (fun q => absurd q.1 (by omega)))
set_option maxRecDepth 100000 in
set_option maxHeartbeats 2000000 in
theorem hubListen_any {w : World} {B N h : Nat} {F : Nat → Prop} {fc fp : Int → List ByteArray} (H0 : HubT w B F N h fc fp) (hB : B ≤ w.heap.size) (hN : N ≤ 4398046511104) (s : Int) (k : ByteArray) (hs : kI.ok s) (hk : k.size ≤ maxLen) :
    Calls Tryz.prog 9 #[.pointer (some ⟨h, 0, none⟩), .int .i64 s, .string k] w fun e w' =>
      e = .returned (.tuple #[.int .i64 (lsRes fc fp s k).1, .int .i64 (lsRes fc fp s k).2.1]) ∧ Fr F w w' ∧ HubT w' B (Grew F w w') (N + 1) h (lsRes fc fp s k).2.2 fp := by
  obtain ⟨X, fb, H, ht⟩ := H0
  have c1 := H.cell1
  have HL := Lib.hid (listenC_any H hB hN s k hs hk)
  have HLT := Lib.hid H.lt
  have HLN := Lib.hid H.lens
  have HTL := Lib.hid H.told
  have HTI := Lib.hid ht
  unfold LsC at HL
  obtain ⟨rn, hrn⟩ : ∃ x, (lsRes fc fp s k).1 = x := ⟨_, rfl⟩
  obtain ⟨rc, hrc⟩ : ∃ x, (lsRes fc fp s k).2.1 = x := ⟨_, rfl⟩
  obtain ⟨rf, hrf⟩ : ∃ x, (lsRes fc fp s k).2.2 = x := ⟨_, rfl⟩
  have hsame : rc = 0 → (k ∈ fc s ∧ rf = fc) ∨ (k ∉ fc s ∧ rf = addF fc s k) := fun e => by
    rw [← hrf]; rw [← hrc] at e
    unfold lsRes at e ⊢
    split at e
    · cases e
    · split at e
      · rename_i h1 h2; rw [if_neg h1, if_pos h2]; exact .inl ⟨h2, rfl⟩
      · split at e
        · cases e
        · rename_i h1 h2 h3; rw [if_neg h1, if_neg h2, if_neg h3]; exact .inr ⟨h2, rfl⟩
  have hother : rc ≠ 0 → rf = fc := fun e => by
    rw [← hrf]; rw [← hrc] at e
    unfold lsRes at e ⊢
    split
    · rfl
    · split
      · rfl
      · split
        · rfl
        · rename_i h1 h2 h3; rw [if_neg h1, if_neg h2, if_neg h3] at e; exact absurd rfl e
  rw [hrn, hrc, hrf] at HL
  rw [hrn, hrc, hrf]
  have HSA := Lib.hid hsame
  have HOT := Lib.hid hother
  clear H hrn hrc hrf hsame hother ht
  go_enter Tryz.func9, Tryz.ntmps9
  go_wp2_with fail
  refine HL.out.mono ?_
  rintro e w2 ⟨rfl, hf2, L, H2⟩
  by_cases h0 : rc = 0
  · subst h0
    have HF2 := Lib.hid hf2
    have HH2 := Lib.hid H2
    have b0 := H2.cell0
    dsimp only at b0
    have lb := H2.lookB k hk
    have hB2 : B ≤ w2.heap.size := Nat.le_trans hB hf2.size
    have hln := HLN.out
    have hn4 := hN
    have hkey : ∃ X' fb', ∃ w3, True := ⟨X, fb, w, trivial⟩
    cases hk0 : lkp k X.by_ with
    | none =>
      have hnb : fb k = [] := H2.b.no k hk0
      have hnin : k ∉ fc s := fun hm => by have := (HTI.out k s).2 hm; rw [hnb] at this; cases this
      have hrf : rf = addF fc s k := (HSA.out rfl).elim (fun q => absurd q.1 hnin) (fun q => q.2)
      rw [show lookV eM k X.by_ = .map none from by unfold lookV; rw [hk0]; rfl] at lb
      have hq0 := eqSess none w2
      have hmm := @run_makeMap Tryz.prog
      obtain ⟨w3, hrun3, ht3, hf3⟩ := H2.b.new_ kS_ok eM_ok tSM hk0 hk (by unfold maxLen; dsimp only; omega)
      have r3 : (Instr.mapUpdate 31 (.map (some X.mb)) (.string k) (.map (some w2.heap.size))).run Tryz.prog (w2.alloc (.map #[] 0)) = .ok () w3 := hrun3
      obtain ⟨H3, hF3⟩ := H2.withB hB2 hf3 (fun i hi => .inl hi) ht3 (blk_snoc (Nat.le_refl _)) (Nat.le_refl (N + 1)) (by rw [List.length_append]; show _ + 1 ≤ _; dsimp only; omega) (fun k' => by have := HTL.out k'; dsimp only; omega)
      have hk3 : lkp k (X.by_ ++ [(k, w2.heap.size)]) = some w2.heap.size := by rw [look_snoc hk0, if_pos rfl]
      have b3 := H3.cell0
      dsimp only at b3
      have l3 := H3.lookB k hk
      rw [show lookV eM k (X.by_ ++ [(k, w2.heap.size)]) = .map (some w2.heap.size) from by unfold lookV; rw [hk3]; rfl] at l3
      obtain ⟨w4, hrun4, ht4, hf4⟩ := H3.b.add kI_ok tIU hk3 s hs (by rw [hnb]; exact List.not_mem_nil) (by rw [hnb]; decide)
      have r4 : (Instr.mapUpdate 61 (.map (some w2.heap.size)) (.int .i64 s) (.agg #[])).run Tryz.prog w3 = .ok () w4 := hrun4
      obtain ⟨H4, hF4⟩ := H3.withB (Nat.le_trans hB2 hf3.size) hf4 (fun i hi => .inr ⟨_, look_mem hk3, hi.symm⟩) ht4 (fun i hi => .inl hi) (Nat.le_refl (N + 1)) (by rw [List.length_append]; show _ + 1 ≤ _; dsimp only; omega) (fun k' => by have := HTL.out k'; have := addF_len fb k k' s; dsimp only; omega)
      have HG : Hid (HubT w4 B (Grew F w w4) (N + 1) h rf fp ∧ Fr F w w4) := by
        have z2 := hf2.size
        have z3 := hf3.size
        have z4 := hf4.size
        refine ⟨⟨_, _, (H4.grow (grew_lt HLT.out hB z2 |> fun q => q) hB2 z3 z4).wide (fun i hi => ?_) (grew_lt HLT.out hB (by omega)), by rw [hrf]; exact tie_add HTI.out k s⟩, fr_grow hf2 (fr_grow hF3 hF4)⟩
        rcases hi with (hi | hi) | hi
        · exact .inl hi
        · exact .inr ⟨hi.1, by omega⟩
        · exact .inr ⟨by omega, hi.2⟩
      clear H2 hf2 hrun3 ht3 hf3 H3 hF3 hk3 hrun4 ht4 hf4 H4 hF4 hB2 hln hk0 hnb hnin hkey
      go_wp2_with fail
      go_ret2
      exact ⟨rfl, HG.out.2, HG.out.1⟩
    | some b =>
      rw [show lookV eM k X.by_ = .map (some b) from by unfold lookV; rw [hk0]; rfl] at lb
      have hq0 := eqSess (some b) w2
      have hlen : (fb k).length < maxLen := by have := HTL.out k; unfold maxLen; omega
      have hG : ∃ w4, (Instr.mapUpdate 61 (.map (some b)) (.int .i64 s) (.agg #[])).run Tryz.prog w2 = .ok () w4 ∧ HubT w4 B (Grew F w w4) (N + 1) h rf fp ∧ Fr F w w4 := by
        have z2 := hf2.size
        rcases HSA.out rfl with ⟨hin, hrf⟩ | ⟨hnin, hrf⟩
        · obtain ⟨w4, hrun4, ht4, hf4⟩ := H2.b.addSame kI_ok tIU hk0 s hs ((HTI.out k s).2 hin) hlen
          obtain ⟨H4, hF4⟩ := H2.withB hB2 hf4 (fun i hi => .inr ⟨_, look_mem hk0, hi.symm⟩) ht4 (fun i hi => .inl hi) (Nat.le_refl (N + 1)) (by dsimp only; omega) (fun k' => by have := HTL.out k'; dsimp only; omega)
          exact ⟨w4, hrun4, ⟨_, _, H4.grow HLT.out hB z2 hf4.size, by rw [hrf]; exact HTI.out⟩, fr_grow hf2 hF4⟩
        · obtain ⟨w4, hrun4, ht4, hf4⟩ := H2.b.add kI_ok tIU hk0 s hs (fun hm => hnin ((HTI.out k s).1 hm)) hlen
          obtain ⟨H4, hF4⟩ := H2.withB hB2 hf4 (fun i hi => .inr ⟨_, look_mem hk0, hi.symm⟩) ht4 (fun i hi => .inl hi) (Nat.le_refl (N + 1)) (by dsimp only; omega) (fun k' => by have := HTL.out k'; have := addF_len fb k k' s; dsimp only; omega)
          exact ⟨w4, hrun4, ⟨_, _, H4.grow HLT.out hB z2 hf4.size, by rw [hrf]; exact tie_add HTI.out k s⟩, fr_grow hf2 hF4⟩
      obtain ⟨w4, r4, hG⟩ := hG
      have HG := Lib.hid hG
      clear H2 hf2 hB2 hln hk0 hkey hG hlen
      go_wp2_with fail
      go_ret2
      exact ⟨rfl, HG.out.2, HG.out.1⟩
  · have hrf := HOT.out h0
    have HG : Hid (HubT w2 B (Grew F w w2) (N + 1) h rf fp ∧ Fr F w w2) := ⟨⟨_, _, H2, by rw [hrf]; exact HTI.out⟩, hf2⟩
    have g0 : ¬ (rc : Int) = 0 := by omega
    clear H2 hf2 hrf
    go_wp2_with fail
    go_ret2
    exact ⟨rfl, HG.out.2, HG.out.1⟩
theorem hubLike_any {w : World} {B N h : Nat} {F : Nat → Prop} {fc fp : Int → List ByteArray} (H0 : HubT w B F N h fc fp) (hB : B ≤ w.heap.size) (hN : N ≤ 4398046511104) (s : Int) (k : ByteArray) (hs : kI.ok s) (hk : k.size ≤ maxLen) :
    Calls Tryz.prog 11 #[.pointer (some ⟨h, 0, none⟩), .int .i64 s, .string k] w fun e w' =>
      e = .returned (.tuple #[.int .i64 (lsRes fp fc s k).1, .int .i64 (lsRes fp fc s k).2.1]) ∧ Fr F w w' ∧ HubT w' B (Grew F w w') (N + 1) h fc (lsRes fp fc s k).2.2 := by
  obtain ⟨X, fb, H, ht⟩ := H0
  have c2 := H.cell2
  have HL := Lib.hid (listenP_any H hB hN s k hs hk)
  have HTI := Lib.hid ht
  unfold LsP at HL
  clear H ht
  go_enter Tryz.func11, Tryz.ntmps11
  go_wp2_with fail
  refine HL.out.mono ?_
  rintro e w2 ⟨rfl, hf2, L, H2⟩
  have HG : Hid (Fr F w w2 ∧ HubT w2 B (Grew F w w2) (N + 1) h fc (lsRes fp fc s k).2.2) := ⟨hf2, _, _, H2, HTI.out⟩
  clear hf2 H2
  go_wp2_with fail
  go_ret2
  exact ⟨rfl, HG.out.1, HG.out.2⟩
end Go.Proofs.YtleoeccjnchclaaGreatDoor
