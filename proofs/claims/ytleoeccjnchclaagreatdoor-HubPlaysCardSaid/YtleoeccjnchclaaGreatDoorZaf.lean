/- The walks of package glob: literal, inSet, one. No condition but sizes. -/
import Derived.Test.YtleoeccjnchclaaGreatDoorRows
import Derived.Test.YtleoeccjnchclaaGreatDoorZaa
import Derived.WalkKit
import Derived.WalkSpells
import Derived.WalkLawsBesides
import Derived.Lib.Hide
import Derived.Deep.LoopGhost
import Derived.Deep.Cut
import Derived.Deep.CutBlock
import Derived.Outline
namespace Go.Proofs.YtleoeccjnchclaaGreatDoor
open Go.RowKit

def bl (s : ByteArray) : Bytes := s.data.toList
theorem bl_len (s : ByteArray) : (bl s).length = s.size := by simp [bl]
theorem bl_drop (s : ByteArray) (k : Nat) (h : k < s.size) : (bl s).drop k = s[k] :: (bl s).drop (k + 1) := by
  rw [List.drop_eq_getElem_cons (by rw [bl_len]; exact h)]; rfl
theorem bl_end (s : ByteArray) (k : Nat) (h : s.size ≤ k) : (bl s).drop k = [] := List.drop_eq_nil_of_le (by rw [bl_len]; exact h)
def b8 (b : UInt8) : Value := .int .u8 b.toNat
theorem byte_eq (a b : UInt8) : (((a.toNat : Nat) : Int) = ((b.toNat : Nat) : Int)) ↔ a = b :=
  ⟨fun h => UInt8.toNat_inj.1 (by omega), fun h => by rw [h]⟩
theorem byte_beq (a b : UInt8) : (((a.toNat : Nat) : Int) == ((b.toNat : Nat) : Int)) = (a == b) := by
  rw [Bool.eq_iff_iff]; simp [byte_eq]
theorem lit_esc (s : ByteArray) (k : Nat) (h : k + 1 < s.size) (hb : s[k] = 92) : lit ((bl s).drop k) = (s[k + 1], 2) := by
  rw [bl_drop s k (by omega), bl_drop s (k + 1) h]
  show (if s[k] = 92 then (s[k + 1], 2) else (s[k], 1)) = _
  rw [if_pos hb]
theorem lit_one (s : ByteArray) (k : Nat) (h : k < s.size) (hb : s[k] ≠ 92 ∨ ¬ k + 1 < s.size) : lit ((bl s).drop k) = (s[k], 1) := by
  rw [bl_drop s k h]
  by_cases h1 : k + 1 < s.size
  · rw [bl_drop s (k + 1) h1]
    show (if s[k] = 92 then (s[k + 1], 2) else (s[k], 1)) = _
    rw [if_neg (hb.resolve_right (fun e => e h1))]
  · rw [bl_end s (k + 1) (by omega)]; rfl
def litV (q : Bytes) (k : Nat) : Value := .tuple #[b8 (lit q).1, .int .i64 ((k + (lit q).2 : Nat) : Int)]
set_option maxHeartbeats 400000 in
theorem literal_any (s : ByteArray) (k : Nat) (w : World) (hs : s.size < 4611686018427387904) (hk : k < s.size) :
    Calls Tryz.prog 54 #[.string s, .int .i64 k] w fun e w' => e = .returned (litV ((bl s).drop k) k) ∧ w = w' := by
  by_cases hb : s[k] = 92
  · have g1 : (((s[k].toNat : Nat) : Int) == 92) = true := by rw [hb]; rfl
    by_cases h1 : k + 1 < s.size
    · have hl := lit_esc s k h1 hb
      have HL := Lib.hid hl
      clear hl hb
      go_enter Tryz.func54, Tryz.ntmps54
      go_wp2
      go_ret2
      refine ⟨?_, rfl⟩
      unfold litV
      rw [HL.out]
      rfl
    · have hl := lit_one s k hk (.inr h1)
      have HL := Lib.hid hl
      have g2 : decide ((k : Int) + 1 < s.size) = false := by simp; omega
      clear hl hb
      go_enter Tryz.func54, Tryz.ntmps54
      go_wp2
      go_ret2
      refine ⟨?_, rfl⟩
      unfold litV
      rw [HL.out]
      rfl
  · have g1 : (((s[k].toNat : Nat) : Int) == 92) = false := by
      rw [show (92 : Int) = (((92 : UInt8).toNat : Nat) : Int) from rfl, byte_beq]; simpa using hb
    have hl := lit_one s k hk (.inl hb)
    have HL := Lib.hid hl
    clear hl hb
    go_enter Tryz.func54, Tryz.ntmps54
    go_wp2
    go_ret2
    refine ⟨?_, rfl⟩
    unfold litV
    rw [HL.out]
    rfl
theorem min_u8 (a b : UInt8) : min ((a.toNat : Nat) : Int) ((b.toNat : Nat) : Int) = (((min a b).toNat : Nat) : Int) := by
  by_cases e : a.toNat ≤ b.toNat
  · have : min a b = a := by simp [UInt8.le_iff_toNat_le, Min.min, minOfLe, e]
    rw [this]; omega
  · have : min a b = b := by simp [UInt8.le_iff_toNat_le, Min.min, minOfLe, e]
    rw [this]; omega
theorem max_u8 (a b : UInt8) : max ((a.toNat : Nat) : Int) ((b.toNat : Nat) : Int) = (((max a b).toNat : Nat) : Int) := by
  by_cases e : a.toNat ≤ b.toNat
  · have : max a b = b := by simp [UInt8.le_iff_toNat_le, Max.max, maxOfLe, e]
    rw [this]; omega
  · have : max a b = a := by simp [UInt8.le_iff_toNat_le, Max.max, maxOfLe, e]
    rw [this]; omega
theorem within_eq (x : UInt8) (a b : UInt8) : (decide (min ((a.toNat : Nat) : Int) (b.toNat : Nat) ≤ (x.toNat : Nat)) && decide (((x.toNat : Nat) : Int) ≤ max ((a.toNat : Nat) : Int) (b.toNat : Nat))) = within x (a, b) := by
  unfold within
  rw [min_u8, max_u8, Bool.eq_iff_iff]
  simp [UInt8.le_iff_toNat_le]
theorem item_range (s : ByteArray) (k : Nat) (hk : k < s.size) (n : Nat) (hn : n = (lit ((bl s).drop k)).2) (h1 : k + n + 1 < s.size) (hd : s[k + n] = 45) (hc : s[k + n + 1] ≠ 93) :
    item ((bl s).drop k) = (((lit ((bl s).drop k)).1, (lit ((bl s).drop (k + n + 1))).1), n + 1 + (lit ((bl s).drop (k + n + 1))).2) := by
  subst hn
  unfold item
  rw [List.drop_drop, bl_drop s (k + (lit ((bl s).drop k)).2) (by omega), bl_drop s (k + (lit ((bl s).drop k)).2 + 1) h1]
  simp only
  rw [if_pos ⟨hd, hc⟩]
theorem item_one (s : ByteArray) (k : Nat) (hk : k < s.size) (n : Nat) (hn : n = (lit ((bl s).drop k)).2) (h : ¬ k + n + 1 < s.size ∨ (∃ h1 : k + n + 1 < s.size, s[k + n] ≠ 45 ∨ s[k + n + 1] = 93)) :
    item ((bl s).drop k) = (((lit ((bl s).drop k)).1, (lit ((bl s).drop k)).1), n) := by
  subst hn
  unfold item
  rw [List.drop_drop]
  rcases h with h | ⟨h1, h⟩
  · by_cases h2 : k + (lit ((bl s).drop k)).2 < s.size
    · rw [bl_drop s (k + (lit ((bl s).drop k)).2) h2, bl_end s (k + (lit ((bl s).drop k)).2 + 1) (by omega)]
    · rw [bl_end s (k + (lit ((bl s).drop k)).2) (by omega)]
  · rw [bl_drop s (k + (lit ((bl s).drop k)).2) (by omega), bl_drop s (k + (lit ((bl s).drop k)).2 + 1) h1]
    simp only
    rw [if_neg (fun e => h.elim (fun h => h e.1) (fun h => e.2 h))]
end Go.Proofs.YtleoeccjnchclaaGreatDoor
