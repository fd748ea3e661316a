/- Plain facts on 64-bit words and on the seeded hash of a text: no program in sight. -/
namespace Go.Proofs.YtleoeccjnchclaaDoor

/-- one byte of a text goes into a hash -/
def hstep (h : UInt64) (b : UInt8) : UInt64 := (h ^^^ b.toUInt64) * 1099511628211
def hfold (h : UInt64) (l : List UInt8) : UInt64 := l.foldl hstep h
def hmid (h : UInt64) : UInt64 := (h ^^^ (h >>> 32)) * 11400714819323198485
def hfin (h : UInt64) : UInt64 := h ^^^ (h >>> 29)
/-- the hash of a text under a seed -/
def hash (seed : UInt64) (l : List UInt8) : UInt64 := hfin (hmid (hfold (14695981039346656037 ^^^ seed) l))

theorem xor_inj (a b c : UInt64) (h : a ^^^ c = b ^^^ c) : a = b := by
  have := congrArg (· ^^^ c) h
  simpa [UInt64.xor_assoc] using this
theorem xor_inj' (a b c : UInt64) (h : c ^^^ a = c ^^^ b) : a = b := by
  rw [UInt64.xor_comm c a, UInt64.xor_comm c b] at h; exact xor_inj a b c h
theorem mul_inj (a b c d : UInt64) (hcd : c * d = 1) (h : a * c = b * c) : a = b := by
  have := congrArg (· * d) h
  simpa [UInt64.mul_assoc, hcd] using this
theorem xor_swap (x y z w : UInt64) (h : x ^^^ y = z ^^^ w) : x ^^^ z = y ^^^ w := by
  have e : x ^^^ z = (x ^^^ y) ^^^ (y ^^^ z) := by rw [UInt64.xor_assoc, ← UInt64.xor_assoc y y z, UInt64.xor_self, UInt64.zero_xor]
  rw [e, h]
  have e2 : (z ^^^ w) ^^^ (y ^^^ z) = (z ^^^ z) ^^^ (y ^^^ w) := by ac_rfl
  rw [e2]; simp
theorem eq_of_xor (a b : UInt64) (h : a ^^^ b = 0) : a = b := by
  have := xor_inj a b b (by rw [h, UInt64.xor_self])
  exact this
theorem shr32_inj (a b : UInt64) (h : a ^^^ (a >>> 32) = b ^^^ (b >>> 32)) : a = b := by
  have h1 := xor_swap _ _ _ _ h
  have h2 : ((a ^^^ b).toNat) = (a ^^^ b).toNat / 4294967296 := by
    conv => lhs; rw [h1]
    simp only [UInt64.toNat_xor, UInt64.toNat_shiftRight]
    show a.toNat >>> 32 ^^^ b.toNat >>> 32 = _
    rw [← Nat.shiftRight_xor_distrib, Nat.shiftRight_eq_div_pow]
  refine eq_of_xor a b (UInt64.toNat_inj.1 ?_)
  show (a ^^^ b).toNat = 0
  omega
theorem shr29_inj (a b : UInt64) (h : a ^^^ (a >>> 29) = b ^^^ (b >>> 29)) : a = b := by
  have h1 := xor_swap _ _ _ _ h
  have h2 : ((a ^^^ b).toNat) = (a ^^^ b).toNat / 536870912 := by
    conv => lhs; rw [h1]
    simp only [UInt64.toNat_xor, UInt64.toNat_shiftRight]
    show a.toNat >>> 29 ^^^ b.toNat >>> 29 = _
    rw [← Nat.shiftRight_xor_distrib, Nat.shiftRight_eq_div_pow]
  refine eq_of_xor a b (UInt64.toNat_inj.1 ?_)
  show (a ^^^ b).toNat = 0
  omega
theorem hstep_inj (a b : UInt64) (x : UInt8) (h : hstep a x = hstep b x) : a = b :=
  xor_inj _ _ _ (mul_inj _ _ _ 14886173955864302971 (by decide) h)
theorem hstep_inj' (a : UInt64) (x y : UInt8) (h : hstep a x = hstep a y) : x = y := by
  have h1 := xor_inj' _ _ _ (mul_inj _ _ _ 14886173955864302971 (by decide) h)
  have h2 := congrArg UInt64.toNat h1
  rw [UInt8.toNat_toUInt64, UInt8.toNat_toUInt64] at h2
  exact UInt8.toNat_inj.1 h2
theorem hfold_inj (l : List UInt8) : ∀ a b : UInt64, hfold a l = hfold b l → a = b := by
  induction l with
  | nil => intro a b h; exact h
  | cons x l ih => intro a b h; exact hstep_inj a b x (ih _ _ h)
theorem hmid_inj (a b : UInt64) (h : hmid a = hmid b) : a = b :=
  shr32_inj a b (mul_inj _ _ _ 17428512612931826493 (by decide) h)
theorem hfin_inj (a b : UInt64) (h : hfin a = hfin b) : a = b := shr29_inj a b h
theorem hash_seed (s t : UInt64) (l : List UInt8) (h : hash s l = hash t l) : s = t :=
  xor_inj' _ _ _ (hfold_inj l _ _ (hmid_inj _ _ (hfin_inj _ _ h)))
theorem hfold_set (l : List UInt8) : ∀ (a : UInt64) (k : Nat) (x : UInt8) (hk : k < l.length), hfold a (l.set k x) = hfold a l → x = l[k] := by
  induction l with
  | nil => intro a k x hk; simp at hk
  | cons y l ih =>
    intro a k x hk h
    cases k with
    | zero => exact hstep_inj' a x y (hfold_inj l _ _ h)
    | succ k => exact ih (hstep a y) k x (by simpa using hk) h
theorem hash_byte (s : UInt64) (l : List UInt8) (k : Nat) (x : UInt8) (hk : k < l.length) (h : hash s (l.set k x) = hash s l) : x = l[k] :=
  hfold_set l _ k x hk (hmid_inj _ _ (hfin_inj _ _ h))
theorem hfold_snoc (h : UInt64) (l : List UInt8) (b : UInt8) : hfold h (l ++ [b]) = hstep (hfold h l) b := by
  simp [hfold, List.foldl_append]
end Go.Proofs.YtleoeccjnchclaaDoor
