/- make of a slice of a variable length, one cell an element: the new block, written out. No condition but sizes. -/
import Derived.Test.YtleoeccjnchclaaGreatDoorZad
import Derived.Laws.MakeOwn
namespace Go.Proofs.YtleoeccjnchclaaGreatDoor

theorem madeCells_one (v : Value) (n : Nat) : madeCells #[v] n = (List.replicate n v).toArray := by
  unfold madeCells
  apply Array.ext
  · simp
  · intro i h1 h2
    simp [Nat.mod_one]
theorem mk_any {P : Program} (t e : TypeId) (i : TypeInfo) (z : Value) (v : Value) (ht : P.underlying t = some (.slice e)) (hi : P.info? e = some i) (hz : i.zero = some z) (hv : z.cells = #[v]) (hs : i.size = 1) (hb : i.bytes = 8)
    (n : Nat) (hn : n ≤ 35184372088832) (w : World) :
    (Instr.makeSlice t (.int .i64 n) (.int .i64 n)).run P w = .ok (.slice (some ⟨w.heap.size, 0, none⟩) n n) (w.alloc (.cells (List.replicate n v).toArray e)) := by
  have h := run_make (P := P) w t e i z ht hi hz .i64 .i64 n n (by omega) (Int.le_refl _) (by rw [hb]; omega) (by omega)
  rw [h, hv, hs, Nat.mul_one, Int.toNat_natCast, madeCells_one]
end Go.Proofs.YtleoeccjnchclaaGreatDoor
