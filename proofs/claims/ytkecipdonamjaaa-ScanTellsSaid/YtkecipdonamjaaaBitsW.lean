/- The walk of math/bits' Len and Reverse64: what each computes. -/
import Derived.Test.YtkecipdonamjaaaRows
import Derived.Test.YtkecipdonamjaaaWord
import Derived.WalkKit
import Derived.WalkSpells
import Derived.Lib.Hide
import Derived.Lib.BitFns
import Derived.Lib.Tables
import Derived.Deep.Light
namespace Go.Proofs.Ytkecipdonamjaaa
open Go.RowKit

theorem tab_size : (Lib.len8tab.size : Int) = 256 := by rw [Lib.len8tab_size]; rfl
theorem tab_get (y : Int) (h : y.toNat < Lib.len8tab.size) : ((Lib.len8tab[y.toNat]'h).toNat : Int) = Lib.len8 y := by
  unfold Lib.len8
  rw [getElem?_pos Lib.len8tab y.toNat h]
  rfl
theorem len_way (x : Nat) (k : Nat) (K : Int) (y : Int) (hK : K = k) (hk : k ≤ 56) (hx : x < 18446744073709551616) (P : Nat) (hP : P = 2 ^ k) (h0 : y = (x : Int) / (P : Int)) (h1 : y ≤ 255) (h2 : P ≤ x) :
    wrap64 (K + wrap64 (Lib.len8 y)) = (Lib.bitLen x : Int) := by
  have e0 : y = ((x / P : Nat) : Int) := by rw [h0]; rfl
  have e : y.toNat = x / 2 ^ k := by rw [e0, hP]; rfl
  have hy : 0 ≤ y := by rw [e0]; exact Int.natCast_nonneg _
  rw [Lib.len8_of y hy h1]
  have l := Lib.bitLen_le8' y hy h1
  have s := Lib.bitLen_shift k x (by rw [← hP]; exact h2) hx
  rw [e] at l ⊢
  rw [s, hK]
  generalize Lib.bitLen (x / 2 ^ k) = z at l ⊢
  clear s e0 e h0 h2
  unfold wrap64
  omega
theorem len_way0 (x : Nat) (y : Int) (h0 : y = (x : Nat)) (h1 : y ≤ 255) :
    wrap64 (wrap64 (Lib.len8 y)) = (Lib.bitLen x : Int) := by
  rw [Lib.len8_of y (by omega) h1]
  have l := Lib.bitLen_le8' y (by omega) h1
  have e : y.toNat = x := by rw [h0]; rfl
  rw [e] at l ⊢
  unfold wrap64
  omega
theorem ret_i64 {a b : Int} (h : a = b) : Ending.returned (.int .i64 a) = .returned (.int .i64 b) := by rw [h]
set_option maxRecDepth 100000 in
set_option maxHeartbeats 4000000 in
theorem len64_int (x : Int) (w : World) (h0 : 0 ≤ x) (h1 : x < 18446744073709551616) :
    Calls Try.prog 95 #[.int .u64 x] w fun e w' => e = .returned (.int .i64 (Lib.bitLen x.toNat)) ∧ w = w' := by
  go_enter Try.func95, Try.ntmps95
  go_wp2
  all_goals first
    | (go_ret; refine ⟨ret_i64 ?_, rfl⟩; go_light)
    | (exfalso; go_light; have hs := tab_size; omega)
  · rw [tab_get]; exact len_way x.toNat 56 _ _ rfl (by decide) (by omega) 72057594037927936 rfl (by omega) (by omega) (by omega)
  · rw [tab_get]; exact len_way x.toNat 48 _ _ rfl (by decide) (by omega) 281474976710656 rfl (by omega) (by omega) (by omega)
  · rw [tab_get]; exact len_way x.toNat 40 _ _ rfl (by decide) (by omega) 1099511627776 rfl (by omega) (by omega) (by omega)
  · rw [tab_get]; exact len_way x.toNat 32 _ _ rfl (by decide) (by omega) 4294967296 rfl (by omega) (by omega) (by omega)
  · rw [tab_get]; exact len_way x.toNat 24 _ _ rfl (by decide) (by omega) 16777216 rfl (by omega) (by omega) (by omega)
  · rw [tab_get]; exact len_way x.toNat 16 _ _ rfl (by decide) (by omega) 65536 rfl (by omega) (by omega) (by omega)
  · rw [tab_get]; exact len_way x.toNat 8 _ _ rfl (by decide) (by omega) 256 rfl (by omega) (by omega) (by omega)
  · rw [tab_get]; exact len_way0 x.toNat _ (by omega) (by omega)
theorem len64_any (X : Nat) (w : World) (hX : X < 18446744073709551616) :
    Calls Try.prog 95 #[.int .u64 X] w fun e w' => e = .returned (.int .i64 (Lib.bitLen X)) ∧ w = w' :=
  len64_int X w (by omega) (by omega)
theorem len_int (x : Int) (w : World) (h0 : 0 ≤ x) (h1 : x < 18446744073709551616) :
    Calls Try.prog 59 #[.int .u64 x] w fun e w' => e = .returned (.int .i64 (Lib.bitLen x.toNat)) ∧ w = w' := by
  go_enter Try.func59, Try.ntmps59
  go_wp2_with fail
  refine (len64_int x w h0 h1).mono ?_
  rintro e w' ⟨rfl, rfl⟩
  go_wp2
  go_ret
  exact ⟨rfl, rfl⟩
/-- the bytes turned round -/
def rs (n m x : UInt64) : UInt64 := ((x >>> n) &&& m) ||| ((x &&& m) <<< n)
def revb (x : UInt64) : UInt64 :=
  (rs 16 281470681808895 (rs 8 71777214294589695 x) >>> 32) ||| (rs 16 281470681808895 (rs 8 71777214294589695 x) <<< 32)
/-- the bits turned round -/
def rev (x : UInt64) : UInt64 := revb (rs 4 1085102592571150095 (rs 2 3689348814741910323 (rs 1 6148914691236517205 x)))
theorem wd_or (a b : UInt64) : bits .or .u64 (wd a) (wd b) = wd (a ||| b) := by
  unfold wd; rw [u64_or_nat _ _ a.toNat_lt b.toNat_lt, UInt64.toNat_or]
theorem wd_and (a b : UInt64) : bits .and .u64 (wd a) (wd b) = wd (a &&& b) := by
  unfold wd; rw [u64_and_nat _ _ a.toNat_lt b.toNat_lt, UInt64.toNat_and]
theorem wd_shr (a : UInt64) (n : Nat) (N : UInt64) (hn : N.toNat = n) (hl : n < 64) (P : Int) (hP : P = ((2 ^ n : Nat) : Int)) : wd a / P = wd (a >>> N) := by
  unfold wd
  rw [UInt64.toNat_shiftRight, hP, hn, Nat.mod_eq_of_lt hl, Nat.shiftRight_eq_div_pow]; rfl
theorem wd_shl (a : UInt64) (n : Nat) (N : UInt64) (hn : N.toNat = n) (hl : n < 64) (P : Int) (hP : P = ((2 ^ n : Nat) : Int)) : IntKind.u64.wrap (wd a * P) = wd (a <<< N) := by
  unfold wd
  rw [UInt64.toNat_shiftLeft, hP, hn, Nat.mod_eq_of_lt hl, Nat.shiftLeft_eq, IntKind.wrap_u64]; rfl
theorem wd_rs (x N M : UInt64) (n : Nat) (P m : Int) (hn : N.toNat = n) (hl : n < 64) (hP : P = ((2 ^ n : Nat) : Int)) (hm : m = wd M) :
    bits .or .u64 (bits .and .u64 (wd x / P) m) (IntKind.u64.wrap (bits .and .u64 (wd x) m * P)) = wd (rs N M x) := by
  rw [wd_shr x n N hn hl P hP, hm, wd_and, wd_and, wd_shl _ n N hn hl P hP, wd_or]; rfl
theorem revb_at (x : UInt64) (a : Int) (ha : a = wd x) (w : World) :
    Calls Try.prog 96 #[.int .u64 a] w fun e w' => e = .returned (.int .u64 (wd (revb x))) ∧ w = w' := by
  subst ha
  go_enter Try.func96, Try.ntmps96
  go_wp2
  go_ret
  refine ⟨ret_u64 ?_, rfl⟩
  rw [wd_rs x 8 71777214294589695 8 256 71777214294589695 rfl (by decide) rfl rfl, wd_rs _ 16 281470681808895 16 65536 281470681808895 rfl (by decide) rfl rfl,
    wd_shr _ 32 32 rfl (by decide) 4294967296 rfl, wd_shl _ 32 32 rfl (by decide) 4294967296 rfl, wd_or]
  rfl
theorem rev_at (x : UInt64) (a : Int) (ha : a = wd x) (w : World) :
    Calls Try.prog 60 #[.int .u64 a] w fun e w' => e = .returned (.int .u64 (wd (rev x))) ∧ w = w' := by
  subst ha
  go_enter Try.func60, Try.ntmps60
  go_wp2_with fail
  refine (revb_at (rs 4 1085102592571150095 (rs 2 3689348814741910323 (rs 1 6148914691236517205 x))) _ ?_ w).mono ?_
  · rw [wd_rs x 1 6148914691236517205 1 2 6148914691236517205 rfl (by decide) rfl rfl, wd_rs _ 2 3689348814741910323 2 4 3689348814741910323 rfl (by decide) rfl rfl, wd_rs _ 4 1085102592571150095 4 16 1085102592571150095 rfl (by decide) rfl rfl]
  rintro e w' ⟨rfl, rfl⟩
  go_wp2
  go_ret
  exact ⟨rfl, rfl⟩
end Go.Proofs.Ytkecipdonamjaaa
