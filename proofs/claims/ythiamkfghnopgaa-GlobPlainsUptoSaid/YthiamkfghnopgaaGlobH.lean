/- A new sign of the document's own. -/
import Derived.Test.YthiamkfghnopgaaGlobK
namespace Go.Proofs.Ythiamkfghnopgaa
open Go.RowKit
theorem zeroSign : Try.t53.zero = some (.agg (signC false (fun _ => false) 0 false).toArray) := by kernel_rfl
theorem run_zeroSign (w : World) : (zeroValue 53).run Try.prog w = .ok (.agg (signC false (fun _ => false) 0 false).toArray) w := by
  simp [zeroValue, go_sem, zeroSign]
/-- a sign of the document's in a block of its own -/
def SignAt (w : World) (g : Nat) (st : Bool) (T : UInt8 → Bool) (one : UInt8) (pl : Bool) : Prop := w.heap[g]? = some (.cells (signC st T one pl).toArray 53)
theorem SignAt.tab {w : World} {g : Nat} {st : Bool} {T : UInt8 → Bool} {one : UInt8} {pl : Bool} (h : SignAt w g st T one pl) (i : Nat) (hi : i < 256) : w.cell? ⟨g, 1 + i, none⟩ = some (.bool (T (UInt8.ofNat i))) := by
  unfold SignAt at h
  unfold World.cell?
  rw [h]
  show (signC st T one pl).toArray[1 + i]? = _
  rw [List.getElem?_toArray]
  exact signC_at st T one pl i hi
theorem signC_set (st : Bool) (T T' : UInt8 → Bool) (one : UInt8) (pl : Bool) (n : Nat) (hn : n < 256) : (signC st (upd T T' n) one pl).set (1 + n) (.bool (T' (UInt8.ofNat n))) = signC st (upd T T' (n + 1)) one pl := by
  unfold signC
  rw [Nat.add_comm 1 n, List.set_cons_succ, List.set_append_left _ _ (by rw [tab_len]; exact hn), tab_set T T' n hn]
theorem SignAt.set {w : World} {g : Nat} {st : Bool} {T T' : UInt8 → Bool} {one : UInt8} {pl : Bool} {n : Nat} (h : SignAt w g st (upd T T' n) one pl) (hn : n < 256) :
    SignAt (w.setCell ⟨g, 1 + n, none⟩ (.bool (T' (UInt8.ofNat n)))) g st (upd T T' (n + 1)) one pl := by
  unfold SignAt at h ⊢
  rw [← signC_set st T T' one pl n hn]
  simp only [World.setCell, Array.getElem?_modify, if_true, h, Option.map_some]
  simp
theorem SignAt.keep {w : World} {g : Nat} {st : Bool} {T T' : UInt8 → Bool} {one : UInt8} {pl : Bool} {n : Nat} (h : SignAt w g st (upd T T' n) one pl) (hn : n < 256) (he : T' (UInt8.ofNat n) = T (UInt8.ofNat n)) :
    SignAt w g st (upd T T' (n + 1)) one pl := by
  unfold SignAt at h ⊢
  unfold signC at h ⊢
  rw [← tab_keep T T' n hn he]
  exact h
theorem SignAt.new (w : World) : SignAt (w.alloc (.cells (signC false (fun _ => false) 0 false).toArray 53)) w.heap.size false (fun _ => false) 0 false := heap_alloc_new w _
theorem SignAt.frozen {w : World} {g : Nat} {st : Bool} {T : UInt8 → Bool} {one : UInt8} {pl : Bool} (h : SignAt w g st T one pl) (i : Nat) : w.frozen? ⟨g, i, none⟩ = false := by
  unfold SignAt at h
  simp [World.frozen?, h]
end Go.Proofs.Ythiamkfghnopgaa
