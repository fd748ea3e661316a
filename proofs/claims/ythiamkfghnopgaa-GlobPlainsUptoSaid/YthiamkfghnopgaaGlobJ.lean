/- The walk of pantryref03's item. It leaves the world alone. -/
import Derived.Test.YthiamkfghnopgaaGlobE
import Derived.OwnWalk
namespace Go.Proofs.Ythiamkfghnopgaa
open Go.RowKit
/-- what item answers at a place that lies within the pattern and is no ] -/
def itemV (q : Bytes) (k : Nat) : Value := .tuple #[b8 (lit q).1, .int .i64 ((k + (lit q).2 : Nat) : Int), .bool true]
theorem item_end (s : ByteArray) (k : Nat) (w : World) (hs : s.size < 4611686018427387904) (hk : s.size ≤ k) (hk2 : k < 4611686018427387904) :
    Calls Try.prog 28 #[.string s, .int .i64 k] w fun e w' => e = .returned (.tuple #[.int .u8 0, .int .i64 k, .bool false]) ∧ w = w' := by
  have g : ((s.size : Nat) : Int) ≤ k := by omega
  go_enter Try.func28, Try.ntmps28
  go_wp2
  go_ret3
  exact ⟨rfl, rfl⟩
theorem item_shut (s : ByteArray) (k : Nat) (w : World) (hs : s.size < 4611686018427387904) (hk : k < s.size) (hb : s[k] = 93) :
    Calls Try.prog 28 #[.string s, .int .i64 k] w fun e w' => e = .returned (.tuple #[.int .u8 0, .int .i64 k, .bool false]) ∧ w = w' := by
  have g : decide (s.size ≤ k) = false := by simp; omega
  have g1 : (((s[k].toNat : Nat) : Int) == 93) = true := by rw [hb]; rfl
  clear hb
  go_enter Try.func28, Try.ntmps28
  go_wp2
  go_ret3
  exact ⟨rfl, rfl⟩
theorem item_at (s : ByteArray) (k : Nat) (w : World) (hs : s.size < 4611686018427387904) (hk : k < s.size) (h93 : s[k] ≠ 93) :
    Calls Try.prog 28 #[.string s, .int .i64 k] w fun e w' => e = .returned (itemV ((bl s).drop k) k) ∧ w = w' := by
  have g : decide (s.size ≤ k) = false := by simp; omega
  have g0 : (((s[k].toNat : Nat) : Int) == 93) = false := byte_ne _ 93 (by decide) h93
  clear h93
  by_cases hb : s[k] = 92
  · have g1 : (((s[k].toNat : Nat) : Int) == 92) = true := by rw [hb]; rfl
    rw [hb] at g0
    by_cases h1 : k + 1 < s.size
    · have hl := lit_esc s k h1 hb
      have HL := Lib.hid hl
      have HB := Lib.hid hb
      have g2 : (((s[k].toNat : Nat) : Int) == 93) = false := by rw [hb]; rfl
      clear hl hb g0
      go_enter Try.func28, Try.ntmps28
      go_wp2
      go_ret3
      refine ⟨?_, rfl⟩
      unfold itemV
      rw [HL.out]
      rfl
    · have hl := lit_one s k hk (.inr h1)
      have HL := Lib.hid hl
      have g2 : (((s[k].toNat : Nat) : Int) == 93) = false := by rw [hb]; rfl
      have g3 : decide ((k : Int) + 1 < s.size) = false := by simp; omega
      clear hl hb g0
      go_enter Try.func28, Try.ntmps28
      go_wp2
      go_ret3
      refine ⟨?_, rfl⟩
      unfold itemV
      rw [HL.out]
      rfl
  · have g1 : (((s[k].toNat : Nat) : Int) == 92) = false := byte_ne _ 92 (by decide) hb
    have hl := lit_one s k hk (.inl hb)
    have HL := Lib.hid hl
    clear hl hb
    go_enter Try.func28, Try.ntmps28
    go_wp2
    go_ret3
    refine ⟨?_, rfl⟩
    unfold itemV
    rw [HL.out]
    rfl
end Go.Proofs.Ythiamkfghnopgaa
