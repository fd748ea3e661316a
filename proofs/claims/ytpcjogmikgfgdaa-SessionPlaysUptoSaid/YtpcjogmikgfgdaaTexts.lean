/- Lists of texts in memory. No condition; no program. -/
import Derived.Test.YtpcjogmikgfgdaaRep
namespace Go.Proofs.Ytpcjogmikgfgdaa
open Go.RowKit
theorem texts_at {w : World} {a : Option Addr} {cap : Nat} {l : List ByteArray} (h : RdC w 1 (.slice a l.length cap) l.length (l.map .string)) (k : Nat) (hk : k < l.length) :
    ∃ g off, a = some ⟨g, off, none⟩ ∧ w.cell? ⟨g, off + k, none⟩ = some (.string l[k]) := by
  obtain ⟨g, off, rfl, hc⟩ := h.at (by rw [List.length_map]; omega)
  exact ⟨g, off, rfl, hc k _ (by rw [List.getElem?_map, List.getElem?_eq_getElem hk]; rfl)⟩
theorem drewN_drewN (w : World) (m n : Nat) : (w.drewN m).drewN n = w.drewN (m + n) := by
  unfold World.drewN; simp only [Nat.add_assoc]
end Go.Proofs.Ytpcjogmikgfgdaa
