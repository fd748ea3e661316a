/- The walks of glob's one and Match. No condition but sizes. -/
import Derived.Test.YtleoeccjnchclaaGreatDoorZag
import Derived.Shelf.Strings.Trim
namespace Go.Proofs.YtleoeccjnchclaaGreatDoor
open Go.RowKit

def oneV (q : Bytes) (k : Nat) (x : UInt8) : Value := .tuple #[.bool ((sign1 q).1 x), .int .i64 ((k + (sign1 q).2 : Nat) : Int)]
theorem sign1_any (q : Bytes) : sign1 (63 :: q) = (fun _ => true, 1) := rfl
theorem sign1_set (q : Bytes) : sign1 (91 :: q) = ((setAt q).1, 1 + (setAt q).2) := rfl
theorem sign1_lit (c : UInt8) (q : Bytes) (h1 : c ≠ 63) (h2 : c ≠ 91) : sign1 (c :: q) = (fun x => (lit (c :: q)).1 == x, (lit (c :: q)).2) := by
  unfold sign1
  split
  · rename_i e; cases e; exact absurd rfl h1
  · rename_i e; cases e; exact absurd rfl h2
  · rfl
theorem byte_ne (a : UInt8) (n : Nat) (hn : n < 256) (h : a ≠ UInt8.ofNat n) : (((a.toNat : Nat) : Int) == (n : Int)) = false := u8_beq a n false hn (by simpa using h)
set_option maxHeartbeats 400000 in
theorem one_any (s : ByteArray) (k : Nat) (x : UInt8) (w : World) (hs : s.size < 4611686018427387904) (hk : k < s.size) :
    Calls Tryz.prog 47 #[.string s, .int .i64 k, .int .u8 x.toNat] w fun e w' => e = .returned (oneV ((bl s).drop k) k x) ∧ w = w' := by
  by_cases h1 : s[k] = 63
  · have g1 : (((s[k].toNat : Nat) : Int) == 63) = true := by rw [h1]; rfl
    have e : (bl s).drop k = 63 :: (bl s).drop (k + 1) := by rw [bl_drop s k hk, h1]
    have hv : oneV ((bl s).drop k) k x = .tuple #[.bool true, .int .i64 ((k + 1 : Nat) : Int)] := by rw [e]; rfl
    have HV := Lib.hid hv
    clear h1 e hv
    go_enter Tryz.func47, Tryz.ntmps47
    go_wp2_with fail
    go_ret2
    exact ⟨by rw [HV.out]; rfl, rfl⟩
  · have g1 : (((s[k].toNat : Nat) : Int) == 63) = false := byte_ne _ 63 (by decide) h1
    by_cases h2 : s[k] = 91
    · have g2 : (((s[k].toNat : Nat) : Int) == 91) = true := by rw [h2]; rfl
      have e : (bl s).drop k = 91 :: (bl s).drop (k + 1) := by rw [bl_drop s k hk, h2]
      have hv : oneV ((bl s).drop k) k x = setV ((bl s).drop (k + 1)) (k + 1) x := by
        rw [e]; unfold oneV setV
        rw [sign1_set]
        simp only
        congr 5
        omega
      have HV := Lib.hid hv
      have HC := Lib.hid (inSet_any s (k + 1) x w hs hk)
      unfold setV at HC
      clear h1 h2 e hv
      go_enter Tryz.func47, Tryz.ntmps47
      go_wp2_with fail
      refine HC.out.mono ?_
      rintro e w' ⟨rfl, rfl⟩
      go_wp2_with fail
      go_ret2
      exact ⟨by rw [HV.out]; rfl, rfl⟩
    · have g2 : (((s[k].toNat : Nat) : Int) == 91) = false := byte_ne _ 91 (by decide) h2
      have hsg := sign1_lit s[k] ((bl s).drop (k + 1)) h1 h2
      rw [← bl_drop s k hk] at hsg
      have HC := Lib.hid (literal_any s k w hs hk)
      unfold litV b8 at HC
      obtain ⟨b, hb⟩ : ∃ b, (lit ((bl s).drop k)).1 = b := ⟨_, rfl⟩
      obtain ⟨n, hn⟩ : ∃ n, (lit ((bl s).drop k)).2 = n := ⟨_, rfl⟩
      rw [hb, hn] at HC hsg
      have hv : oneV ((bl s).drop k) k x = .tuple #[.bool (((b.toNat : Nat) : Int) == ((x.toNat : Nat) : Int)), .int .i64 ((k + n : Nat) : Int)] := by
        unfold oneV
        rw [hsg, byte_beq]
      have HV := Lib.hid hv
      clear h1 h2 hv hb hn hsg
      go_enter Tryz.func47, Tryz.ntmps47
      go_wp2_with fail
      refine HC.out.mono ?_
      rintro e w' ⟨rfl, rfl⟩
      go_wp2_with fail
      go_ret2
      exact ⟨by rw [HV.out]; rfl, rfl⟩
theorem bl_extract (s : ByteArray) (a b : Nat) : bl (s.extract a b) = ((bl s).take b).drop a := by
  unfold bl
  simp [ByteArray.data_extract, List.drop_take]
theorem trimLeft_any (s : ByteArray) (c : UInt8) (w : World) (hs : s.size < 4611686018427387904) :
    Calls Tryz.prog 55 #[.string s, .int .u8 c.toNat] w fun e w' => (∃ t : ByteArray, e = .returned (.string t) ∧ bl t = (bl s).dropWhile (· == c)) ∧ w = w' := by
  go_enter Tryz.func55, Tryz.ntmps55
  go_wp2
  go_loopg [0] s.size (fun gh v wr => w = wr ∧ ∃ t : ByteArray, v = .string t ∧ Hid (t.size = gh) ∧ t.size ≤ s.size ∧ Hid ((bl t).dropWhile (· == c) = (bl s).dropWhile (· == c)))
  case atStart => exact ⟨rfl, s, rfl, rfl, Nat.le_refl _, rfl⟩
  case round =>
    obtain ⟨rfl, t, rfl, HG, hle, HR⟩ := hrel
    by_cases h0 : 0 < t.size
    · have hd := bl_drop t 0 h0
      rw [List.drop_zero] at hd
      by_cases hc : t[0] = c
      · have g1 : (((t[0].toNat : Nat) : Int) == ((c.toNat : Nat) : Int)) = true := by rw [byte_beq]; simpa using hc
        have hr : (bl (t.extract 1 t.size)).dropWhile (· == c) = (bl s).dropWhile (· == c) := by
          rw [← HR.out, hd, bl_extract, List.take_of_length_le (by rw [bl_len]; exact Nat.le_refl _), hd]
          simp [hc]
        have HRR := Lib.hid hr
        clear hd hc hr
        go_wp2
        go_roundg (t.size - 1)
        case measure => have := HG.out; omega
        case rel => exact ⟨rfl, _, rfl, by show _ = _; simp [ByteArray.size_extract], by simp [ByteArray.size_extract]; omega, HRR⟩
      · have g1 : (((t[0].toNat : Nat) : Int) == ((c.toNat : Nat) : Int)) = false := by rw [byte_beq]; simpa using hc
        have hr : bl t = (bl s).dropWhile (· == c) := by
          rw [← HR.out, hd]
          simp [hc]
        have HRR := Lib.hid hr
        clear hd hc hr
        go_wp2
        go_ret
        exact ⟨⟨t, rfl, HRR.out⟩, rfl⟩
    · have hr : bl t = (bl s).dropWhile (· == c) := by
        rw [← HR.out]
        have : bl t = [] := by have := bl_end t 0 (by omega); rwa [List.drop_zero] at this
        rw [this]; rfl
      have HRR := Lib.hid hr
      have g1 : decide (0 < t.size) = false := by simpa using h0
      clear hr
      go_wp2
      go_ret
      exact ⟨⟨t, rfl, HRR.out⟩, rfl⟩
theorem dropEnd_snoc (l : Bytes) (x c : UInt8) (h : x = c) : ((l ++ [x]).reverse.dropWhile (· == c)).reverse = (l.reverse.dropWhile (· == c)).reverse := by
  simp [h]
theorem bl_last (s : ByteArray) (h : 0 < s.size) : bl s = (bl s).take (s.size - 1) ++ [s[s.size - 1]] := by
  conv => lhs; rw [← List.take_append_drop (s.size - 1) (bl s)]
  rw [bl_drop s (s.size - 1) (by omega), bl_end s (s.size - 1 + 1) (by omega)]
theorem trimRight_any (s : ByteArray) (c : UInt8) (w : World) (hs : s.size < 4611686018427387904) :
    Calls Tryz.prog 56 #[.string s, .int .u8 c.toNat] w fun e w' => (∃ t : ByteArray, e = .returned (.string t) ∧ t.size ≤ s.size ∧ bl t = ((bl s).reverse.dropWhile (· == c)).reverse) ∧ w = w' := by
  go_enter Tryz.func56, Tryz.ntmps56
  go_wp2
  go_loopg [0] s.size (fun gh v wr => w = wr ∧ ∃ t : ByteArray, v = .string t ∧ Hid (t.size = gh) ∧ t.size ≤ s.size ∧ Hid (((bl t).reverse.dropWhile (· == c)).reverse = ((bl s).reverse.dropWhile (· == c)).reverse))
  case atStart => exact ⟨rfl, s, rfl, rfl, Nat.le_refl _, rfl⟩
  case round =>
    obtain ⟨rfl, t, rfl, HG, hle, HR⟩ := hrel
    by_cases h0 : 0 < t.size
    · have hd := bl_last t h0
      by_cases hc : t[t.size - 1] = c
      · have g1 : (((t[t.size - 1].toNat : Nat) : Int) == ((c.toNat : Nat) : Int)) = true := by rw [byte_beq]; simpa using hc
        have hr : ((bl (t.extract 0 (t.size - 1))).reverse.dropWhile (· == c)).reverse = ((bl s).reverse.dropWhile (· == c)).reverse := by
          rw [← HR.out]
          conv => rhs; rw [hd]
          rw [dropEnd_snoc _ _ _ hc, bl_extract]
          rfl
        have HRR := Lib.hid hr
        clear hd hc hr
        go_wp2
        go_roundg (t.size - 1)
        case measure => have := HG.out; omega
        case rel => exact ⟨rfl, _, rfl, by show _ = _; simp [ByteArray.size_extract], by simp [ByteArray.size_extract]; omega, HRR⟩
      · have g1 : (((t[t.size - 1].toNat : Nat) : Int) == ((c.toNat : Nat) : Int)) = false := by rw [byte_beq]; simpa using hc
        have hr : bl t = ((bl s).reverse.dropWhile (· == c)).reverse := by
          rw [← HR.out]
          conv => rhs; rw [hd]
          simp [hc]
          exact hd
        have HRR := Lib.hid hr
        clear hd hc hr
        go_wp2
        go_ret
        exact ⟨⟨t, rfl, hle, HRR.out⟩, rfl⟩
    · have hr : bl t = ((bl s).reverse.dropWhile (· == c)).reverse := by
        rw [← HR.out]
        have : bl t = [] := by have := bl_end t 0 (by omega); rwa [List.drop_zero] at this
        rw [this]; rfl
      have HRR := Lib.hid hr
      have g1 : decide (0 < t.size) = false := by simpa using h0
      clear hr
      go_wp2
      go_ret
      exact ⟨⟨t, rfl, hle, HRR.out⟩, rfl⟩
end Go.Proofs.YtleoeccjnchclaaGreatDoor
