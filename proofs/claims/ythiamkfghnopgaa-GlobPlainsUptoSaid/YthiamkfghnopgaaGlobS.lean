/- What glob's set means at a place, as plain Lean. No condition. -/
import Derived.Test.YthiamkfghnopgaaGlobW
namespace Go.Proofs.Ythiamkfghnopgaa
open Go.RowKit

def setV (q : Bytes) (k : Nat) (x : UInt8) : Value := .tuple #[.bool ((setAt q).1 x), .int .i64 ((k + (setAt q).2 : Nat) : Int)]
theorem neg_cons (c : UInt8) (q : Bytes) : neg (c :: q) = (c == 94) := by
  by_cases h : c = 94
  · subst h; rfl
  · unfold neg
    rw [show (c == 94) = false by simpa using h]
    split
    · rename_i e; cases e; exact absurd rfl h
    · rfl
/-- what is left of the set at a place: that it means the byte, and where it ends -/
def Rest (s : ByteArray) (x : UInt8) (Q : Bool) (N : Nat) (a : Nat) (b : Bool) : Prop := (b || (its ((bl s).drop a)).1.any (within x)) = Q ∧ a + (its ((bl s).drop a)).2 = N
theorem u8_beq (a : UInt8) (n : Nat) (b : Bool) (hn : n < 256) (h : (a == UInt8.ofNat n) = b) : (((a.toNat : Nat) : Int) == (n : Int)) = b := by
  rw [← h]
  have : ((n : Nat) : Int) = (((UInt8.ofNat n).toNat : Nat) : Int) := by rw [UInt8.toNat_ofNat']; omega
  rw [this, byte_beq]
theorem rest_step {s : ByteArray} {x : UInt8} {Q : Bool} {N a : Nat} {b : Bool} (h : Rest s x Q N a b) (ha : a < s.size) (h93 : s[a] ≠ 93) :
    Rest s x Q N (a + (item ((bl s).drop a)).2) (b || within x (item ((bl s).drop a)).1) ∧ a + (item ((bl s).drop a)).2 ≤ s.size := by
  obtain ⟨h1, h2⟩ := h
  have hd := bl_drop s a ha
  have hi := its_cons s[a] ((bl s).drop (a + 1)) h93
  rw [← hd, List.drop_drop] at hi
  rw [hi] at h1 h2
  have hl := item_le ((bl s).drop a) (by rw [hd]; simp)
  rw [List.length_drop, bl_len] at hl
  refine ⟨⟨?_, ?_⟩, by omega⟩
  · rw [← h1]; simp [Bool.or_assoc]
  · rw [← h2]; simp only; omega
theorem byte_ne (a : UInt8) (n : Nat) (hn : n < 256) (h : a ≠ UInt8.ofNat n) : (((a.toNat : Nat) : Int) == (n : Int)) = false := u8_beq a n false hn (by simpa using h)
def mkS (l : Bytes) : ByteArray := ⟨l.toArray⟩
end Go.Proofs.Ythiamkfghnopgaa
