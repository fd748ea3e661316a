/- A hub in memory; New, size. No condition. -/
import Derived.Test.YtleoeccjnchclaaDoorTwoL
import Derived.Deep.Cut
import Derived.BigQuiet
import Derived.BigRegion
namespace Go.Proofs.YtleoeccjnchclaaDoor
open Go.RowKit
theorem alloc_at (w : World) (o : Obj) : (w.alloc o).heap[w.heap.size]? = some o := (MapKept.heap_alloc w o).1
theorem Fr.drewN (S : Nat → Prop) (w : World) (n : Nat) : Fr S w (w.drewN n) := ⟨rfl, rfl, rfl, Nat.le_refl _, fun _ _ _ => rfl⟩
/-- where a hub's maps lie -/
structure HX where
  mb : Nat
  mc : Nat
  mp : Nat
  by_ : List (ByteArray × Nat)
  ch : List (Int × Nat)
  pt : List (Int × Nat)
/-- how many patterns there are -/
def tot (L : List (Int × Nat)) (f : Int → List ByteArray) : Nat := (L.map fun x => (f x.1).length).sum
/-- a hub whose blocks are of F: fb: who listens to a channel; fc, fp: a session's channels, and patterns -/
structure HubX (w : World) (B : Nat) (F : Nat → Prop) (N h : Nat) (X : HX) (fb : ByteArray → List Int) (fc fp : Int → List ByteArray) : Prop where
  blk : w.heap[h]? = some (.cells #[.map (some X.mb), .map (some X.mc), .map (some X.mp)] 56 (0, 0))
  b : TL kS eM kI w X.mb X.by_ fb
  c : TL kI eN kS w X.mc X.ch fc
  p : TL kI eN kS w X.mp X.pt fp
  dbc : ∀ i, BlkT X.mb X.by_ i → ¬ BlkT X.mc X.ch i
  dbp : ∀ i, BlkT X.mb X.by_ i → ¬ BlkT X.mp X.pt i
  dcp : ∀ i, BlkT X.mc X.ch i → ¬ BlkT X.mp X.pt i
  hb : ¬ BlkT X.mb X.by_ h
  hc : ¬ BlkT X.mc X.ch h
  hp : ¬ BlkT X.mp X.pt h
  fh : F h
  Fb : ∀ i, BlkT X.mb X.by_ i → F i
  Fc : ∀ i, BlkT X.mc X.ch i → F i
  Fp : ∀ i, BlkT X.mp X.pt i → F i
  lt : ∀ k, F k → B ≤ k ∧ k < w.heap.size
  lens : X.by_.length ≤ N ∧ X.ch.length ≤ N ∧ X.pt.length ≤ N
  told : ∀ k, (fb k).length + tot X.pt fp ≤ N
  few : ∀ s, (fc s).length + (fp s).length ≤ 1024
section
variable {w w' : World} {B B' N h : Nat} {F F' T : Nat → Prop} {X : HX} {fb : ByteArray → List Int} {fc fp : Int → List ByteArray}
theorem HubX.other (H : HubX w B F N h X fb fc fp) (hf : Fr T w w') (hd : ∀ k, F k → ¬ T k) : HubX w' B F N h X fb fc fp :=
  ⟨(hf.block h (H.lt h H.fh).2 (hd h H.fh)).trans H.blk, H.b.fr hf (fun i hi => hd i (H.Fb i hi)), H.c.fr hf (fun i hi => hd i (H.Fc i hi)), H.p.fr hf (fun i hi => hd i (H.Fp i hi)), H.dbc, H.dbp, H.dcp, H.hb, H.hc, H.hp, H.fh, H.Fb, H.Fc, H.Fp, fun k hk => ⟨(H.lt k hk).1, Nat.lt_of_lt_of_le (H.lt k hk).2 hf.size⟩, H.lens, H.told, H.few⟩
theorem HubX.quiet (H : HubX w B F N h X fb fc fp) (hf : Fr (fun _ => False) w w') : HubX w' B F N h X fb fc fp := H.other hf (fun _ _ h => h)
theorem HubX.cell0 (H : HubX w B F N h X fb fc fp) : w.cell? ⟨h, 0, none⟩ = some (.map (some X.mb)) := by rw [cell_of_blk H.blk]; rfl
theorem HubX.cell1 (H : HubX w B F N h X fb fc fp) : w.cell? ⟨h, 1, none⟩ = some (.map (some X.mc)) := by rw [cell_of_blk H.blk]; rfl
theorem HubX.cell2 (H : HubX w B F N h X fb fc fp) : w.cell? ⟨h, 2, none⟩ = some (.map (some X.mp)) := by rw [cell_of_blk H.blk]; rfl
theorem HubX.upN {N' : Nat} (H : HubX w B F N h X fb fc fp) (hN : N ≤ N') : HubX w B F N' h X fb fc fp :=
  ⟨H.blk, H.b, H.c, H.p, H.dbc, H.dbp, H.dcp, H.hb, H.hc, H.hp, H.fh, H.Fb, H.Fc, H.Fp, H.lt, ⟨by have := H.lens; omega, by have := H.lens; omega, by have := H.lens; omega⟩, fun k => by have := H.told k; omega, H.few⟩
theorem HubX.wide (H : HubX w B F N h X fb fc fp) (hF : ∀ k, F k → F' k) (hl : ∀ k, F' k → B ≤ k ∧ k < w.heap.size) : HubX w B F' N h X fb fc fp :=
  ⟨H.blk, H.b, H.c, H.p, H.dbc, H.dbp, H.dcp, H.hb, H.hc, H.hp, hF _ H.fh, fun i hi => hF i (H.Fb i hi), fun i hi => hF i (H.Fc i hi), fun i hi => hF i (H.Fp i hi), hl, H.lens, H.told, H.few⟩
end
theorem tl_made {κ κ2 : Type} [DecidableEq κ] [DecidableEq κ2] {K : KK κ} {E : EK Nat} {K2 : KK κ2} {w : World} {m : Nat} (h : MAt K E w m []) : TL K E K2 w m [] (fun _ => []) :=
  ⟨h, fun x hx => (by cases hx), fun _ _ => rfl, (by simp), fun x hx => (by cases hx)⟩
theorem blk_nil {m i : Nat} {κ : Type} (h : BlkT (κ := κ) m [] i) : i = m := h.elim id (fun ⟨x, hx, _⟩ => by cases hx)
/-- what New hands back -/
theorem hubNew_any (w : World) : Calls Tryd.prog 7 #[] w fun e w' => ∃ h X, e = .returned (.pointer (some ⟨h, 0, none⟩)) ∧ HubX w' w.heap.size (fun k => w.heap.size ≤ k ∧ k < w'.heap.size) 0 h X (fun _ => []) (fun _ => []) (fun _ => []) ∧ Below w.heap.size w w' := by
  have hmm := @run_makeMap Tryd.prog
  go_enter Tryd.func7, Tryd.ntmps7
  go_wp2
  go_ret
  have a1 : MAt kS eM (w.alloc (.map #[] 0)) w.heap.size [] := mAt_made w
  have a2 : MAt kI eN ((w.alloc (.map #[] 0)).alloc (.map #[] 0)) (w.heap.size + 1) [] := by have := mAt_made (K := kI) (E := eN) (w.alloc (.map #[] 0)); rwa [World.size_alloc] at this
  have a3 : MAt kI eN (((w.alloc (.map #[] 0)).alloc (.map #[] 0)).alloc (.map #[] 0)) (w.heap.size + 1 + 1) [] := by have := mAt_made (K := kI) (E := eN) ((w.alloc (.map #[] 0)).alloc (.map #[] 0)); rwa [World.size_alloc, World.size_alloc] at this
  have al : ∀ (w : World) (o : Obj), Fr (fun _ => False) w (w.alloc o) := fun w o => Fr.alloc _ _ _
  refine ⟨w.heap.size + 1 + 1 + 1, ⟨w.heap.size, w.heap.size + 1, w.heap.size + 1 + 1, [], [], []⟩, rfl, ⟨?_, tl_made (((a1.fr (al _ _) (fun h => h)).fr (al _ _) (fun h => h)).fr (al _ _) (fun h => h)), tl_made ((a2.fr (al _ _) (fun h => h)).fr (al _ _) (fun h => h)), tl_made (a3.fr (al _ _) (fun h => h)),
    fun i h1 h2 => by have := blk_nil h1; have := blk_nil h2; dsimp only at *; omega, fun i h1 h2 => by have := blk_nil h1; have := blk_nil h2; dsimp only at *; omega, fun i h1 h2 => by have := blk_nil h1; have := blk_nil h2; dsimp only at *; omega,
    fun h1 => by have := blk_nil h1; dsimp only at *; omega, fun h1 => by have := blk_nil h1; dsimp only at *; omega, fun h1 => by have := blk_nil h1; dsimp only at *; omega,
    ⟨by omega, by simp⟩, fun i h1 => by have := blk_nil h1; subst this; exact ⟨by simp, by simp; omega⟩, fun i h1 => by have := blk_nil h1; subst this; exact ⟨by simp, by simp⟩, fun i h1 => by have := blk_nil h1; subst this; exact ⟨by simp; omega, by simp⟩,
    fun k hk => hk, ⟨Nat.le_refl _, Nat.le_refl _, Nat.le_refl _⟩, fun k => Nat.le_refl _, fun s => Nat.zero_le _⟩, ?_⟩
  · have h := alloc_at (((w.alloc (.map #[] 0)).alloc (.map #[] 0)).alloc (.map #[] 0)) (.cells #[.map (some w.heap.size), .map (some (w.heap.size + 1)), .map (some (w.heap.size + 1 + 1))] 56)
    simp only [World.size_alloc] at h
    exact h
  · exact (((((Fr.alloc (fun _ => False) w _).thenAlloc _).thenAlloc _).thenAlloc _)).below (Nat.le_refl _) (fun _ h => h.elim)
section
variable {w : World} {B N h : Nat} {F : Nat → Prop} {X : HX} {fb : ByteArray → List Int} {fc fp : Int → List ByteArray}
theorem HubX.lookC (H : HubX w B F N h X fb fc fp) (s : Int) (hs : kI.ok s) : (Instr.lookup 54 (.map (some X.mc)) (.int .i64 s) false).run Tryd.prog w = .ok (lookV eN s X.ch) w := H.c.top.look kI_ok eN_ok tIN s hs
theorem HubX.lookP (H : HubX w B F N h X fb fc fp) (s : Int) (hs : kI.ok s) : (Instr.lookup 54 (.map (some X.mp)) (.int .i64 s) false).run Tryd.prog w = .ok (lookV eN s X.pt) w := H.p.top.look kI_ok eN_ok tIN s hs
theorem HubX.lookB (H : HubX w B F N h X fb fc fp) (k : ByteArray) (hk : k.size ≤ maxLen) : (Instr.lookup 53 (.map (some X.mb)) (.string k) false).run Tryd.prog w = .ok (lookV eM k X.by_) w := H.b.top.look kS_ok eM_ok tSM k hk
theorem hubSize_any (H : HubX w B F N h X fb fc fp) (s : Int) (hs : kI.ok s) : Calls Tryd.prog 23 #[.pointer (some ⟨h, 0, none⟩), .int .i64 s] w fun e w' => e = .returned (.int .i64 ((fc s).length + (fp s).length : Nat)) ∧ ∃ m, w' = w.drewN m := by
  have c1 := H.cell1
  have c2 := H.cell2
  have l1 := H.lookC s hs
  have l2 := H.lookP s hs
  have n1 := fun ty => H.c.setLen tN rfl rfl s ty
  have n2 := fun ty => H.p.setLen tN rfl rfl s ty
  have hfw := H.few s
  obtain ⟨v1, hv1⟩ : ∃ v, lookV eN s X.ch = v := ⟨_, rfl⟩
  obtain ⟨v2, hv2⟩ : ∃ v, lookV eN s X.pt = v := ⟨_, rfl⟩
  obtain ⟨a, ha⟩ : ∃ a, (fc s).length = a := ⟨_, rfl⟩
  obtain ⟨b, hb⟩ : ∃ b, (fp s).length = b := ⟨_, rfl⟩
  rw [hv1] at l1 n1
  rw [hv2] at l2 n2
  rw [ha] at n1 hfw ⊢
  rw [hb] at n2 hfw ⊢
  have L1 : ∀ n, (Instr.lookup 54 (.map (some X.mc)) (.int .i64 s) false).run Tryd.prog (w.drewN n) = .ok v1 (w.drewN n) := fun n => by
    rw [← hv1]; exact (H.quiet (Fr.drewN (fun _ => False) w n)).lookC s hs
  have L2 : ∀ n, (Instr.lookup 54 (.map (some X.mp)) (.int .i64 s) false).run Tryd.prog (w.drewN n) = .ok v2 (w.drewN n) := fun n => by
    rw [← hv2]; exact (H.quiet (Fr.drewN (fun _ => False) w n)).lookP s hs
  have M1 : ∀ n ty, (Builtin.len_ #[60] ty #[v1]).run Tryd.prog (w.drewN n) = .ok (.int .i64 a) (w.drewN n) := fun n ty => by
    rw [← hv1, ← ha]; exact (H.quiet (Fr.drewN (fun _ => False) w n)).c.setLen tN rfl rfl s ty
  have M2 : ∀ n ty, (Builtin.len_ #[60] ty #[v2]).run Tryd.prog (w.drewN n) = .ok (.int .i64 b) (w.drewN n) := fun n ty => by
    rw [← hv2, ← hb]; exact (H.quiet (Fr.drewN (fun _ => False) w n)).p.setLen tN rfl rfl s ty
  clear H hv1 hv2 ha hb l1 l2 n1 n2
  go_enter Tryd.func23, Tryd.ntmps23
  go_wp2
  go_quiet (fail)
  go_wp2
  go_ret
  exact ⟨rfl, nq, rfl⟩
end
end Go.Proofs.YtleoeccjnchclaaDoor
