/- pantrylaw25's does: a step that changes who listens. No condition. -/
import Derived.Test.YtleoeccjnchclaaDoorHubQ
namespace Go.Proofs.YtleoeccjnchclaaDoor
open Go.RowKit
def DoesH (w : World) (B : Nat) (F : Nat → Prop) (N h : Nat) (fc fp : Int → List ByteArray) (do_ s : Int) (k : ByteArray) (e : Ending) (w' : World) : Prop :=
  (∃ v, e = .returned v) ∧ Fr F w w' ∧ HubT w' B (Grew F w w') (N + 1) h (doesH do_ s k (fc, fp)).1 (doesH do_ s k (fc, fp)).2
set_option maxRecDepth 100000 in
set_option maxHeartbeats 2000000 in
theorem does25_any {w : World} {B N h : Nat} {F : Nat → Prop} {fc fp : Int → List ByteArray} (H : HubT w B F N h fc fp) (hB : B ≤ w.heap.size) (hN : N ≤ 4398046511104) (who do_ s : Int) (k text : ByteArray) (big : Int) (hs : kI.ok s) (hk : k.size ≤ maxLen) (hkc : ∀ x ∈ fc s, x.size ≤ maxLen) :
    Calls Tryd.prog 8 #[.pointer (some ⟨h, 0, none⟩), .agg #[.int .i64 who, .int .i64 do_, .int .i64 s, .string k, .string text, .int .i64 big]] w (DoesH w B F N h fc fp do_ s k) := by
  obtain ⟨w1, hw1⟩ : ∃ x, w.alloc (.cells #[.int .i64 who, .int .i64 do_, .int .i64 s, .string k, .string text, .int .i64 big] 27) = x := ⟨_, rfl⟩
  have hq1 : Fr (fun _ => False) w w1 := by rw [← hw1]; exact Fr.alloc _ _ _
  have hblk : w1.heap[w.heap.size]? = some (.cells #[.int .i64 who, .int .i64 do_, .int .i64 s, .string k, .string text, .int .i64 big] 27 (0, 0)) := by rw [← hw1]; exact alloc_at w _
  have b1 : w1.cell? ⟨w.heap.size, 1, none⟩ = some (.int .i64 do_) := cell_of_blk hblk 1
  have b2 : w1.cell? ⟨w.heap.size, 2, none⟩ = some (.int .i64 s) := cell_of_blk hblk 2
  have b3 : w1.cell? ⟨w.heap.size, 3, none⟩ = some (.string k) := cell_of_blk hblk 3
  have H1 := H.quiet hq1
  have hB1 : B ≤ w1.heap.size := Nat.le_trans hB hq1.size
  have HP : Hid (∀ (w' : World) (gc gp : Int → List ByteArray), Fr F w1 w' → HubT w' B (Grew F w1 w') (N + 1) h gc gp → Fr F w w' ∧ HubT w' B (Grew F w w') (N + 1) h gc gp) := fun w' gc gp hf hh => HubT.pre H.lt hB hq1 hf hh
  have HST : Hid (HubT w1 B (Grew F w1 w1) (N + 1) h fc fp) := (H1.upN (Nat.le_succ N)).wide (fun _ h => .inl h) (grew_lt H1.lt hB1 (Nat.le_refl _))
  have HH := Lib.hid H1
  unfold DoesH
  clear H H1 hq1 hblk
  by_cases d0 : do_ = 0 ∨ do_ = 1
  · have e : doesH do_ s k (fc, fp) = ((lsRes fc fp s k).2.2, fp) := by unfold doesH; rw [if_pos d0]
    rw [e]
    have HC := Lib.hid (hubListen_any HH.out hB1 hN s k hs hk)
    clear e
    rcases d0 with d0 | d0
    all_goals
      subst d0
      go_enter Tryd.func8, Tryd.ntmps8
      go_wp2_with fail
      refine HC.out.mono ?_
      rintro e w2 ⟨rfl, hf, hh⟩
      have HG := Lib.hid (HP.out _ _ _ hf hh)
      clear hf hh
      go_wp2_with fail
      go_end0
      exact ⟨⟨_, rfl⟩, HG.out.1, HG.out.2⟩
  by_cases d2 : do_ = 2
  · subst d2
    have e : doesH 2 s k (fc, fp) = (fc, (lsRes fp fc s k).2.2) := rfl
    rw [e]
    have HC := Lib.hid (hubLike_any HH.out hB1 hN s k hs hk)
    clear e
    go_enter Tryd.func8, Tryd.ntmps8
    go_wp2_with fail
    refine HC.out.mono ?_
    rintro e w2 ⟨rfl, hf, hh⟩
    have HG := Lib.hid (HP.out _ _ _ hf hh)
    clear hf hh
    go_wp2_with fail
    go_end0
    exact ⟨⟨_, rfl⟩, HG.out.1, HG.out.2⟩
  by_cases d3 : do_ = 3
  · subst d3
    have e : doesH 3 s k (fc, fp) = (delF fc s k, fp) := rfl
    rw [e]
    have HC := Lib.hid (hubLeave_any HH.out hB1 s k hs hk)
    clear e
    go_enter Tryd.func8, Tryd.ntmps8
    go_wp2_with fail
    refine HC.out.mono ?_
    rintro e w2 ⟨rfl, hf, hh⟩
    have HG := Lib.hid (HP.out _ _ _ hf (hh.upN (Nat.le_succ N)))
    clear hf hh
    go_wp2_with fail
    go_end0
    exact ⟨⟨_, rfl⟩, HG.out.1, HG.out.2⟩
  by_cases d4 : do_ = 4
  · subst d4
    have e : doesH 4 s k (fc, fp) = (fc, delF fp s k) := rfl
    rw [e]
    have HC := Lib.hid (hubLeaveLike_any HH.out hB1 s k hs hk)
    clear e
    go_enter Tryd.func8, Tryd.ntmps8
    go_wp2_with fail
    refine HC.out.mono ?_
    rintro e w2 ⟨rfl, hf, hh⟩
    have HG := Lib.hid (HP.out _ _ _ hf (hh.upN (Nat.le_succ N)))
    clear hf hh
    go_wp2_with fail
    go_end0
    exact ⟨⟨_, rfl⟩, HG.out.1, HG.out.2⟩
  by_cases d5 : do_ = 5
  · subst d5
    have e : doesH 5 s k (fc, fp) = (cutF fc s, cutF fp s) := rfl
    rw [e]
    have HC := Lib.hid (hubDrop_any HH.out hB1 s hs hkc)
    clear e
    go_enter Tryd.func8, Tryd.ntmps8
    go_wp2_with fail
    refine HC.out.mono ?_
    rintro e w2 ⟨⟨u, rfl⟩, hf, hh⟩
    have HG := Lib.hid (HP.out _ _ _ hf (hh.upN (Nat.le_succ N)))
    clear hf hh
    go_wp2_with fail
    go_end0
    exact ⟨⟨_, rfl⟩, HG.out.1, HG.out.2⟩
  have e : doesH do_ s k (fc, fp) = (fc, fp) := by unfold doesH; rw [if_neg d0, if_neg d2, if_neg d3, if_neg d4, if_neg d5]
  rw [e]
  have HG := Lib.hid (HP.out _ _ _ (Fr.refl _ _) HST.out)
  have d0a : ¬ do_ = 0 := fun h => d0 (.inl h)
  have d0b : ¬ do_ = 1 := fun h => d0 (.inr h)
  clear e d0
  go_enter Tryd.func8, Tryd.ntmps8
  go_wp2_with fail
  go_end0
  exact ⟨⟨_, rfl⟩, HG.out.1, HG.out.2⟩
end Go.Proofs.YtleoeccjnchclaaDoor
