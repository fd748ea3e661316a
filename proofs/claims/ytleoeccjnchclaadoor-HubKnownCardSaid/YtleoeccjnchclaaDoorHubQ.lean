/- A hub with its two rows. No condition. -/
import Derived.Test.YtleoeccjnchclaaDoorTell
namespace Go.Proofs.YtleoeccjnchclaaDoor
open Go.RowKit
/-- what a step makes of the two rows -/
def doesH (do_ s : Int) (k : ByteArray) (f : (Int → List ByteArray) × (Int → List ByteArray)) : (Int → List ByteArray) × (Int → List ByteArray) :=
  if do_ = 0 ∨ do_ = 1 then ((lsRes f.1 f.2 s k).2.2, f.2) else if do_ = 2 then (f.1, (lsRes f.2 f.1 s k).2.2) else if do_ = 3 then (delF f.1 s k, f.2) else if do_ = 4 then (f.1, delF f.2 s k) else if do_ = 5 then (cutF f.1 s, cutF f.2 s) else f
theorem HubT.upN {w : World} {B N N' h : Nat} {F : Nat → Prop} {fc fp : Int → List ByteArray} (H : HubT w B F N h fc fp) (hN : N ≤ N') : HubT w B F N' h fc fp := by
  obtain ⟨X, fb, H, ht⟩ := H
  exact ⟨X, fb, H.upN hN, ht⟩
theorem HubT.quiet {w w' : World} {B N h : Nat} {F : Nat → Prop} {fc fp : Int → List ByteArray} (H : HubT w B F N h fc fp) (hf : Fr (fun _ => False) w w') : HubT w' B F N h fc fp := by
  obtain ⟨X, fb, H, ht⟩ := H
  exact ⟨X, fb, H.quiet hf, ht⟩
theorem HubT.lt {w : World} {B N h : Nat} {F : Nat → Prop} {fc fp : Int → List ByteArray} (H : HubT w B F N h fc fp) : ∀ k, F k → B ≤ k ∧ k < w.heap.size := by
  obtain ⟨X, fb, H, ht⟩ := H
  exact H.lt
theorem HubT.wide {w : World} {B N h : Nat} {F F' : Nat → Prop} {fc fp : Int → List ByteArray} (H : HubT w B F N h fc fp) (hF : ∀ k, F k → F' k) (hl : ∀ k, F' k → B ≤ k ∧ k < w.heap.size) : HubT w B F' N h fc fp := by
  obtain ⟨X, fb, H, ht⟩ := H
  exact ⟨X, fb, H.wide hF hl, ht⟩
/-- what a call leaves, seen from ahead of a quiet step -/
theorem HubT.pre {w w1 w' : World} {B N h : Nat} {F : Nat → Prop} {fc fp : Int → List ByteArray} (hl : ∀ k, F k → B ≤ k ∧ k < w.heap.size) (hB : B ≤ w.heap.size) (hq : Fr (fun _ => False) w w1) (hf : Fr F w1 w') (H : HubT w' B (Grew F w1 w') N h fc fp) : Fr F w w' ∧ HubT w' B (Grew F w w') N h fc fp :=
  ⟨(hq.mono (T := F) (fun _ h _ => h.elim)).trans hf (fun _ h _ => h), H.wide (fun i hi => hi.imp id (fun q => ⟨Nat.le_trans hq.size q.1, q.2⟩)) (grew_lt hl hB (Nat.le_trans hq.size hf.size))⟩
end Go.Proofs.YtleoeccjnchclaaDoor
