/- The ground: words, memory, rows, loops over functions. No condition. -/
import Derived.WalkKit
import Derived.WalkSpells
import Derived.Lib.Hide
import Derived.Test.YtgomilodeaafdaaRows
import Derived.Carry
import Derived.Lib.ConvBytes
import Derived.Laws.IdiomStrings
import Derived.ProofKit
import Derived.OpenShut
import Derived.ShutString
import Derived.ChangeOld
import Derived.Below
import Derived.SizedLaws
import Derived.Deep.Slices
import Derived.Deep.Fields
import Derived.Lib.BitFns
import Derived.Lib.Tables
import Derived.Deep.Light
import Derived.Deep.Quiet
import Derived.Laws.MakeOwn
import Derived.Deep.DeepHandedRow
import Derived.Lib.LaidTab
import Derived.RangeFuncFrom
import Derived.RangeFuncLeaves
import Derived.Deep.RegionLaw
import Derived.Deep.AppendLies
import Derived.Outline
import Derived.Maps.AppendAt
import Derived.Laws.AppendOwn
import Derived.OwnWalkIn
import Derived.Deep.RegionHeld3
namespace Go.Proofs.Ytgomilodeaafdaa

/-- one byte of a text goes into a hash -/
def hstep (h : UInt64) (b : UInt8) : UInt64 := (h ^^^ b.toUInt64) * 1099511628211
def hfold (h : UInt64) (l : List UInt8) : UInt64 := l.foldl hstep h
def hmid (h : UInt64) : UInt64 := (h ^^^ (h >>> 32)) * 11400714819323198485
def hfin (h : UInt64) : UInt64 := h ^^^ (h >>> 29)
/-- the hash of a text under a seed -/
def hash (seed : UInt64) (l : List UInt8) : UInt64 := hfin (hmid (hfold (14695981039346656037 ^^^ seed) l))

theorem xor_inj (a b c : UInt64) (h : a ^^^ c = b ^^^ c) : a = b := by
  have := congrArg (· ^^^ c) h
  simpa [UInt64.xor_assoc] using this
theorem xor_inj' (a b c : UInt64) (h : c ^^^ a = c ^^^ b) : a = b := by
  rw [UInt64.xor_comm c a, UInt64.xor_comm c b] at h; exact xor_inj a b c h
theorem mul_inj (a b c d : UInt64) (hcd : c * d = 1) (h : a * c = b * c) : a = b := by
  have := congrArg (· * d) h
  simpa [UInt64.mul_assoc, hcd] using this
theorem xor_swap (x y z w : UInt64) (h : x ^^^ y = z ^^^ w) : x ^^^ z = y ^^^ w := by
  have e : x ^^^ z = (x ^^^ y) ^^^ (y ^^^ z) := by rw [UInt64.xor_assoc, ← UInt64.xor_assoc y y z, UInt64.xor_self, UInt64.zero_xor]
  rw [e, h]
  have e2 : (z ^^^ w) ^^^ (y ^^^ z) = (z ^^^ z) ^^^ (y ^^^ w) := by ac_rfl
  rw [e2]; simp
theorem eq_of_xor (a b : UInt64) (h : a ^^^ b = 0) : a = b := by
  have := xor_inj a b b (by rw [h, UInt64.xor_self])
  exact this
theorem shr32_inj (a b : UInt64) (h : a ^^^ (a >>> 32) = b ^^^ (b >>> 32)) : a = b := by
  have h1 := xor_swap _ _ _ _ h
  have h2 : ((a ^^^ b).toNat) = (a ^^^ b).toNat / 4294967296 := by
    conv => lhs; rw [h1]
    simp only [UInt64.toNat_xor, UInt64.toNat_shiftRight]
    show a.toNat >>> 32 ^^^ b.toNat >>> 32 = _
    rw [← Nat.shiftRight_xor_distrib, Nat.shiftRight_eq_div_pow]
  refine eq_of_xor a b (UInt64.toNat_inj.1 ?_)
  show (a ^^^ b).toNat = 0
  omega
theorem shr29_inj (a b : UInt64) (h : a ^^^ (a >>> 29) = b ^^^ (b >>> 29)) : a = b := by
  have h1 := xor_swap _ _ _ _ h
  have h2 : ((a ^^^ b).toNat) = (a ^^^ b).toNat / 536870912 := by
    conv => lhs; rw [h1]
    simp only [UInt64.toNat_xor, UInt64.toNat_shiftRight]
    show a.toNat >>> 29 ^^^ b.toNat >>> 29 = _
    rw [← Nat.shiftRight_xor_distrib, Nat.shiftRight_eq_div_pow]
  refine eq_of_xor a b (UInt64.toNat_inj.1 ?_)
  show (a ^^^ b).toNat = 0
  omega
theorem hstep_inj (a b : UInt64) (x : UInt8) (h : hstep a x = hstep b x) : a = b :=
  xor_inj _ _ _ (mul_inj _ _ _ 14886173955864302971 (by decide) h)
theorem hstep_inj' (a : UInt64) (x y : UInt8) (h : hstep a x = hstep a y) : x = y := by
  have h1 := xor_inj' _ _ _ (mul_inj _ _ _ 14886173955864302971 (by decide) h)
  have h2 := congrArg UInt64.toNat h1
  rw [UInt8.toNat_toUInt64, UInt8.toNat_toUInt64] at h2
  exact UInt8.toNat_inj.1 h2
theorem hfold_inj (l : List UInt8) : ∀ a b : UInt64, hfold a l = hfold b l → a = b := by
  induction l with
  | nil => intro a b h; exact h
  | cons x l ih => intro a b h; exact hstep_inj a b x (ih _ _ h)
theorem hmid_inj (a b : UInt64) (h : hmid a = hmid b) : a = b :=
  shr32_inj a b (mul_inj _ _ _ 17428512612931826493 (by decide) h)
theorem hfin_inj (a b : UInt64) (h : hfin a = hfin b) : a = b := shr29_inj a b h
theorem hash_seed (s t : UInt64) (l : List UInt8) (h : hash s l = hash t l) : s = t :=
  xor_inj' _ _ _ (hfold_inj l _ _ (hmid_inj _ _ (hfin_inj _ _ h)))
theorem hfold_set (l : List UInt8) : ∀ (a : UInt64) (k : Nat) (x : UInt8) (hk : k < l.length), hfold a (l.set k x) = hfold a l → x = l[k] := by
  induction l with
  | nil => intro a k x hk; simp at hk
  | cons y l ih =>
    intro a k x hk h
    cases k with
    | zero => exact hstep_inj' a x y (hfold_inj l _ _ h)
    | succ k => exact ih (hstep a y) k x (by simpa using hk) h
theorem hash_byte (s : UInt64) (l : List UInt8) (k : Nat) (x : UInt8) (hk : k < l.length) (h : hash s (l.set k x) = hash s l) : x = l[k] :=
  hfold_set l _ k x hk (hmid_inj _ _ (hfin_inj _ _ h))
theorem hfold_snoc (h : UInt64) (l : List UInt8) (b : UInt8) : hfold h (l ++ [b]) = hstep (hfold h l) b := by
  simp [hfold, List.foldl_append]
end Go.Proofs.Ytgomilodeaafdaa
namespace Go.Proofs.Ytgomilodeaafdaa
open Go.RowKit

/-- a word as Go's number -/
def wd (u : UInt64) : Int := u.toNat
def u64 (u : UInt64) : Value := .int .u64 (wd u)
theorem wd_nonneg (a : UInt64) : 0 ≤ wd a := by unfold wd; omega
theorem wd_lt (a : UInt64) : wd a < 18446744073709551616 := by unfold wd; have := a.toNat_lt; omega
theorem wd_inj {a b : UInt64} (h : wd a = wd b) : a = b := by
  unfold wd at h; exact UInt64.toNat_inj.1 (by omega)
theorem wd_eq (a b : UInt64) : (wd a = wd b) ↔ a = b := ⟨wd_inj, fun h => by rw [h]⟩
theorem wd_beq (a b : UInt64) : (wd a == wd b) = (a == b) := by
  rw [Bool.eq_iff_iff]; simp [wd_eq]
theorem wd_xor (a b : UInt64) : bits .xor .u64 (wd a) (wd b) = wd (a ^^^ b) := by
  unfold wd; rw [bits_xor_u64_nat _ _ a.toNat_lt b.toNat_lt, UInt64.toNat_xor]
theorem wd_mul (a b : UInt64) : IntKind.u64.wrap (wd a * wd b) = wd (a * b) := by
  unfold wd; rw [IntKind.wrap_u64, UInt64.toNat_mul]; rfl
theorem wd_lit (n : Nat) (h : n < 18446744073709551616) : wd (UInt64.ofNat n) = n := by
  unfold wd; rw [UInt64.toNat_ofNat']; have : n % 2 ^ 64 = n := Nat.mod_eq_of_lt h; rw [this]
theorem wd_byte (b : UInt8) : IntKind.u64.wrap (b.toNat : Int) = wd b.toUInt64 := by
  unfold wd; rw [IntKind.wrap_u64, UInt8.toNat_toUInt64]; have := b.toNat_lt; omega
theorem wd_shr32 (a : UInt64) : wd a / (4294967296 : Int) = wd (a >>> 32) := by
  unfold wd; rw [UInt64.toNat_shiftRight]; simp [Nat.shiftRight_eq_div_pow]
theorem wd_shr29 (a : UInt64) : wd a / (536870912 : Int) = wd (a >>> 29) := by
  unfold wd; rw [UInt64.toNat_shiftRight]; simp [Nat.shiftRight_eq_div_pow]
theorem val_u64 {a b : Int} (h : a = b) : Value.int .u64 a = Value.int .u64 b := by rw [h]
theorem ret_u64 {a b : Int} (h : a = b) : Ending.returned (.int .u64 a) = .returned (.int .u64 b) := by rw [h]

/-- 'h & (n-1)' at a power of two -/
theorem wd_and_mask (h : UInt64) (n k : Nat) (hn : n = 2 ^ k) (hk : k < 63) : bits .and .u64 (wd h) (IntKind.u64.wrap ((n : Int) - 1)) = ((h.toNat % n : Nat) : Int) := by
  have hpos : 0 < n := by rw [hn]; exact Nat.two_pow_pos k
  have hlt : n < 18446744073709551616 := by rw [hn]; exact Nat.lt_of_lt_of_le (Nat.pow_lt_pow_right (by decide) hk) (by decide)
  have e : IntKind.u64.wrap ((n : Int) - 1) = ((n - 1 : Nat) : Int) := by rw [IntKind.wrap_u64]; omega
  rw [e]
  unfold wd
  rw [u64_and_nat _ _ h.toNat_lt (by omega), hn, Nat.and_two_pow_sub_one_eq_mod]
end Go.Proofs.Ytgomilodeaafdaa
namespace Go.Proofs.Ytgomilodeaafdaa
open Go.RowKit

theorem h_start (seed : UInt64) : bits .xor .u64 14695981039346656037 (wd seed) = wd (14695981039346656037 ^^^ seed) := by
  rw [← wd_xor]; rfl
theorem h_mul (a : UInt64) : IntKind.u64.wrap (wd a * 1099511628211) = wd (a * 1099511628211) := by
  rw [← wd_mul]; rfl
theorem h_mul2 (a : UInt64) : IntKind.u64.wrap (wd a * 11400714819323198485) = wd (a * 11400714819323198485) := by
  rw [← wd_mul]; rfl
theorem take_snoc (s : ByteArray) (k : Nat) (h : k < s.size) : s.data.toList.take (k + 1) = s.data.toList.take k ++ [s[k]] := by
  rw [List.take_succ_eq_append_getElem (by simpa using h)]; rfl
theorem h_round (h : UInt64) (s : ByteArray) (k : Nat) (hk : k < s.size) :
    IntKind.u64.wrap (bits .xor .u64 (wd (hfold h (s.data.toList.take k))) (IntKind.u64.wrap (s[k].toNat : Int)) * 1099511628211) = wd (hfold h (s.data.toList.take (k + 1))) := by
  rw [wd_byte, wd_xor, h_mul, take_snoc s k hk, hfold_snoc, hstep]
theorem h_end (h : UInt64) : bits .xor .u64 (IntKind.u64.wrap (bits .xor .u64 (wd h) (wd h / 4294967296) * 11400714819323198485)) (IntKind.u64.wrap (bits .xor .u64 (wd h) (wd h / 4294967296) * 11400714819323198485) / 536870912) = wd (hfin (hmid h)) := by
  rw [wd_shr32, wd_xor, h_mul2, wd_shr29, wd_xor, hfin, hmid]
set_option maxHeartbeats 400000 in
theorem hash_any (seed : UInt64) (s : ByteArray) (w : World) (hs : s.size ≤ maxLen) :
    Calls Try.prog 217 #[.int .u64 (wd seed), .string s] w fun e w' => e = .returned (.int .u64 (wd (hash seed s.data.toList))) ∧ w = w' := by
  unfold maxLen at hs
  go_enter Try.func217, Try.ntmps217
  go_wp2
  go_loop [5, 11] (fun h i => ∃ k : Nat, k ≤ s.size ∧ i = .int .i64 k ∧ h = .int .u64 (wd (hfold (14695981039346656037 ^^^ seed) (s.data.toList.take k)))) (fun _ i => s.size - (intOf i).toNat)
  case atStart => exact ⟨0, Nat.zero_le _, rfl, val_u64 (h_start seed)⟩
  case round =>
    obtain ⟨k, hk, rfl, rfl⟩ := hrel
    by_cases hlt : k < s.size
    · go_wp2
      all_goals
        go_round
        case rel => exact ⟨k + 1, by omega, by go_num, val_u64 (h_round _ s k hlt)⟩
        case measure => simp [intOf]; omega
    · have hall : s.data.toList.take k = s.data.toList := List.take_of_length_le (by simp; omega)
      have HA := Lib.hid hall; clear hall
      go_wp2
      go_ret
      refine ⟨ret_u64 ?_, rfl⟩
      rw [HA.out]
      exact h_end _
end Go.Proofs.Ytgomilodeaafdaa
namespace Go.Proofs.Ytgomilodeaafdaa
open Go.RowKit

/-- Only blocks of S, and new ones, may have turned. -/
structure Fr (S : Nat → Prop) (w w' : World) : Prop where
  os : w'.os = w.os
  tape : w'.tape = w.tape
  output : w'.output = w.output
  size : w.heap.size ≤ w'.heap.size
  block : ∀ k, k < w.heap.size → ¬ S k → w'.heap[k]? = w.heap[k]?

theorem Fr.refl (S : Nat → Prop) (w : World) : Fr S w w := ⟨rfl, rfl, rfl, Nat.le_refl _, fun _ _ _ => rfl⟩
theorem Fr.trans {S T : Nat → Prop} {a b c : World} (h : Fr S a b) (k : Fr T b c) (hT : ∀ i, T i → i < a.heap.size → S i) : Fr S a c :=
  ⟨k.os.trans h.os, k.tape.trans h.tape, k.output.trans h.output, Nat.le_trans h.size k.size,
    fun i hi hn => (k.block i (Nat.lt_of_lt_of_le hi h.size) (fun ht => hn (hT i ht hi))).trans (h.block i hi hn)⟩
theorem Fr.mono {S T : Nat → Prop} {w w' : World} (h : Fr S w w') (hS : ∀ i, S i → i < w.heap.size → T i) : Fr T w w' :=
  ⟨h.os, h.tape, h.output, h.size, fun k hk hn => h.block k hk (fun hs => hn (hS k hs hk))⟩
theorem Fr.below {S : Nat → Prop} {w w' : World} (h : Fr S w w') {B : Nat} (hB : B ≤ w.heap.size) (hS : ∀ i, S i → B ≤ i) : Below B w w' :=
  ⟨h.os, h.tape, h.output, h.size, fun k hk => h.block k (by omega) (fun hs => by have := hS k hs; omega)⟩
theorem Fr.of_below {w w' : World} {B : Nat} (h : Below B w w') : Fr (fun k => B ≤ k) w w' :=
  ⟨h.os, h.tape, h.output, h.size, fun k _ hn => h.block k (by omega)⟩
theorem Fr.of_grownBy {w w' : World} {row : Option Nat} (h : w.grownBy w' row) : Fr (fun k => row = some k) w w' :=
  ⟨h.os, h.tape, h.output, h.size, fun k hk hn => h.block k hk (fun e => hn e.symm)⟩
theorem Fr.cell {S : Nat → Prop} {w w' : World} (h : Fr S w w') {a : Addr} {v : Value} (hc : w.cell? a = some v) (hS : ¬ S a.block) : w'.cell? a = some v :=
  (World.cell?_of_block (h.block a.block (World.block_lt_of_cell? w a hc) hS)).trans hc
theorem Fr.alloc (S : Nat → Prop) (w : World) (o : Obj) : Fr S w (w.alloc o) :=
  ⟨rfl, rfl, rfl, by simp, fun k hk _ => Below.heap_alloc w o k hk⟩
theorem Fr.drew (S : Nat → Prop) (w : World) : Fr S w w.drew := ⟨rfl, rfl, rfl, Nat.le_refl _, fun _ _ _ => rfl⟩
theorem Fr.setCell (w : World) (a : Addr) (u : Value) : Fr (fun k => k = a.block) w (w.setCell a u) :=
  ⟨rfl, rfl, rfl, by simp, fun k _ hn => Below.heap_setCell w a u k hn⟩

/-- A slice value of n elements, sz cells each, whose cells read xs. -/
def RdC (w : World) (sz : Nat) (v : Value) (n : Nat) (xs : List Value) : Prop :=
  xs.length = n * sz ∧ ∃ a cap, v = .slice a n cap ∧ n ≤ cap ∧ cap ≤ maxLen ∧ (a = none → n = 0 ∧ cap = 0) ∧ ∀ ad, a = some ad → ∀ j u, xs[j]? = some u → w.cell? (ad.add j) = some u

theorem RdC.nil (w : World) (sz : Nat) : RdC w sz (.slice none 0 0) 0 [] :=
  ⟨by simp, none, 0, rfl, Nat.le_refl _, Nat.zero_le _, fun _ => ⟨rfl, rfl⟩, fun ad h => by cases h⟩
theorem RdC.of_owns {w : World} {base : Nat} {e : TypeId} {sz : Nat} {v : Value} {n : Nat} {xs : List Value} (h : w.ownsRow base e sz v n xs) : RdC w sz v n xs := by
  have h0 := h
  rcases h.2 with ⟨rfl, rfl⟩ | ⟨g, cap, cur, rfl, hb, hg, hnc, hcm, hcs, htake⟩
  · have : xs = [] := by have := h.1; simp at this; exact this
    subst this
    exact RdC.nil w sz
  · refine ⟨h.1, some ⟨g, 0, none⟩, cap, rfl, hnc, hcm, (fun h => by cases h), fun ad had j u hu => ?_⟩
    cases had
    exact h0.cells rfl j u hu
theorem owns_slice {w : World} {base : Nat} {e : TypeId} {sz : Nat} {v : Value} {n : Nat} {xs : List Value} (h : w.ownsRow base e sz v n xs) : ∃ a cap, v = .slice a n cap := by
  rcases h.2 with ⟨rfl, rfl⟩ | ⟨g, cap, cur, rfl, _⟩
  · exact ⟨_, _, rfl⟩
  · exact ⟨_, _, rfl⟩
theorem RdC.fr {w w' : World} {S : Nat → Prop} {sz : Nat} {v : Value} {n : Nat} {xs : List Value} (h : RdC w sz v n xs) (hf : Fr S w w') (hS : ∀ g, v.ownBlock = some g → ¬ S g) : RdC w' sz v n xs := by
  obtain ⟨h1, a, cap, rfl, h2, h3, h4, h5⟩ := h
  refine ⟨h1, a, cap, rfl, h2, h3, h4, fun ad had j u hu => ?_⟩
  subst had
  refine hf.cell (h5 ad rfl j u hu) ?_
  have : (ad.add j).block = ad.block := by unfold Addr.add; split <;> rfl
  rw [this]
  exact hS _ rfl
theorem RdC.below {w w' : World} {sz : Nat} {v : Value} {n : Nat} {xs : List Value} (h : RdC w sz v n xs) (hf : Below w.heap.size w w') : RdC w' sz v n xs := by
  obtain ⟨h1, a, cap, rfl, h2, h3, h4, h5⟩ := h
  refine ⟨h1, a, cap, rfl, h2, h3, h4, fun ad had j u hu => ?_⟩
  have hc := h5 ad had j u hu
  exact (hf.cell (World.block_lt_of_cell? w _ hc)).trans hc
theorem RdC.len {w : World} {sz : Nat} {v : Value} {n : Nat} {xs : List Value} (h : RdC w sz v n xs) : n ≤ maxLen := by
  obtain ⟨h1, a, cap, rfl, h2, h3, h4, h5⟩ := h
  omega
/-- an element's cells, at an address as the walk spells it -/
theorem RdC.at {w : World} {sz : Nat} {a : Option Addr} {n cap : Nat} {xs : List Value} (h : RdC w sz (.slice a n cap) n xs) (hpos : 0 < xs.length) :
    ∃ g off, a = some ⟨g, off, none⟩ ∧ ∀ j u, xs[j]? = some u → w.cell? ⟨g, off + j, none⟩ = some u := by
  obtain ⟨h1, a', cap', he, h2, h3, h4, h5⟩ := h
  cases he
  cases a with
  | none => have := (h4 rfl).1; subst this; simp at h1; subst h1; simp at hpos
  | some ad =>
    obtain ⟨g, off, spot⟩ := ad
    have h0 := h5 _ rfl 0 xs[0] (by simp)
    have hsp : spot = none := by
      have := World.cell?_spot h0
      simpa [Addr.add] using this
    subst hsp
    refine ⟨g, off, rfl, fun j u hu => ?_⟩
    have := h5 _ rfl j u hu
    rwa [Addr.add_lit] at this

def u8 (b : UInt8) : Value := .int .u8 b.toNat
theorem RdC.set {w : World} {g off n cap k : Nat} {xs : List Value} (h : RdC w 1 (.slice (some ⟨g, off, none⟩) n cap) n xs) (hk : k < n) (u : Value) : RdC (w.setCell ⟨g, off + k, none⟩ u) 1 (.slice (some ⟨g, off, none⟩) n cap) n (xs.set k u) := by
  obtain ⟨h1, a', cap', he, h2, h3, h4, h5⟩ := h
  cases he
  refine ⟨by simpa using h1, some ⟨g, off, none⟩, cap, rfl, h2, h3, (fun e => by cases e), fun ad had j x hx => ?_⟩
  cases had
  rw [Addr.add_lit]
  rw [List.getElem?_set] at hx
  by_cases hjk : k = j
  · subst hjk
    rw [if_pos rfl] at hx
    have hx2 : u = x := by
      split at hx
      · exact Option.some.inj hx
      · cases hx
    subst hx2
    have hlt : k < xs.length := by omega
    have := h5 _ rfl k xs[k] (by simp)
    rw [Addr.add_lit] at this
    exact World.cell?_setCell_same _ _ _ this
  · rw [if_neg hjk] at hx
    have := h5 _ rfl j x hx
    rw [Addr.add_lit] at this
    rw [World.cell?_setCell_other _ _ _ _ (by intro e; injection e; omega)]
    exact this

/-- the slice behind its first element (one cell each) -/
theorem RdC.tail {w : World} {g off n cap : Nat} {x : Value} {xs : List Value} (h : RdC w 1 (.slice (some ⟨g, off, none⟩) (n + 1) cap) (n + 1) (x :: xs)) (a : Option Addr) (c : Nat) (hcc : c = cap - 1) (ha : a = some ⟨g, off + 1, none⟩ ∨ n = 0 ∧ a.isSome = true) : RdC w 1 (.slice a n c) n xs := by
  subst hcc
  have hc := h.at (by simp)
  obtain ⟨g', off', he, hcells⟩ := hc
  cases he
  obtain ⟨h1, a', cap', he, h2, h3, h4, h5⟩ := h
  cases he
  refine ⟨by simpa using h1, a, cap - 1, rfl, by omega, by omega, ?_, fun ad had j u hu => ?_⟩
  · intro e; subst e; rcases ha with ha | ⟨rfl, ha⟩
    · cases ha
    · cases ha
  · rcases ha with ha | ⟨rfl, _⟩
    · rw [ha] at had
      cases had
      have := hcells (j + 1) u (by simpa using hu)
      rw [Addr.add_lit]
      rw [show off + 1 + j = off + (j + 1) by omega]
      exact this
    · have : xs = [] := by simpa using h1
      subst this; simp at hu

section
variable {P : Program} {w : World} {ops : Array Oper} {rest : List Oper} {o : Oper} {a : Act} {Q : Exit → Act → World → Prop}
/-- append(s, x...) onto a slice of the call's own, from whatever slice that reads 'news'. -/
theorem wpl_append (hgd : o.guard = none) (s x : Operand) (t : TypeId) (ho : o.op = .call { callee := .builtin .append, args := #[s, x], argTypes := #[t, t] })
    (base : Nat) (e : TypeId) (i : TypeInfo) (z : Value) (size bytes : Nat) (ht : P.underlying t = some (.slice e)) (hi : P.info? e = some i) (hz : i.zero = some z)
    (hsize : i.size = size) (hby : i.bytes = bytes) (hzs : z.cells.size = size) (hsz : 0 < size)
    (v : Value) (n : Nat) (xs : List Value) (hs : a.eval s = v) (hown : w.ownsRow base e size v n xs)
    (xv : Value) (m : Nat) (news : List Value) (hx : a.eval x = xv) (hrd : RdC w size xv m news) (h1 : ∀ u ∈ news, u.oneCell' = true)
    (h63 : n + m ≤ maxLen) (hbytes : (n + m) * bytes ≤ 140737488355328) (hbase : base ≤ w.heap.size)
    (h : ∀ v' w', w'.ownsRow base e size v' (n + m) (xs ++ news) → w.grownBy w' v.ownBlock → wpList P ops Q rest (a.put o.dst v') w') : wpList P ops Q (o :: rest) a w := by
  obtain ⟨hl, ad, cap, hxv, hmc, hcm, hnil, hcells⟩ := hrd
  cases ad with
  | some ad =>
    exact wpList_append_own _ hgd s x t ho base e i z size bytes ht hi hz hsize hby hzs hsz v n xs hs hown ad m cap news (hx.trans hxv) hl (hcells ad rfl) h1 h63 hbytes hbase fun v' w' h2 h3 _ => h v' w' h2 h3
  | none =>
    obtain ⟨rfl, rfl⟩ := hnil rfl
    have hn0 : news = [] := by simpa using hl
    subst hn0
    refine wpList_plain hgd fun K hK => ?_
    have hrun := run_append_owned_none (P := P) (w := w) (base := base) t o.type e i size ht hi v n xs hown
    have hg := h v w (by simpa using hown) ⟨rfl, rfl, rfl, Nat.le_refl _, fun _ _ _ => rfl⟩
    have he : a.eval x = .slice none 0 0 := hx.trans hxv
    unfold Oper.wp
    simp [execOp, ho, resolve, invoke, builtin, hs, he, hrun, Result.andThen]
    exact hK _ _ hg

/-- one operation that computes a value -/
theorem wpl_value (hgd : o.guard = none) {v : Value} {w' : World} (hrun : (execOp a.eval o).run P w = .ok (.value v) w') (h : wpList P ops Q rest (a.put o.dst v) w') : wpList P ops Q (o :: rest) a w := by
  refine wpList_plain hgd fun K hK => ?_
  unfold Oper.wp
  rw [hrun, Oper.upon_value]
  exact hK _ _ h

/-- '[]byte(s)': a new row that holds the bytes. -/
theorem wpl_toBytes (hgd : o.guard = none) (x : Operand) (src dst e : TypeId) (ho : o.op = .convert src dst x) (s : ByteArray) (hx : a.eval x = .string s) (hsz : s.size ≤ maxLen)
    (hs : P.underlying src = some .string) (hd : P.underlying dst = some (.slice e)) (he : P.underlying e = some (.int .u8))
    (h : ∀ cap w', Hid (RdC w' 1 (.slice (some ⟨w.heap.size, 0, none⟩) s.size cap) s.size (s.data.toList.map u8)) → Hid (∀ j, j < s.size → w'.frozen? ⟨w.heap.size, j, none⟩ = false) → Fr (fun _ => False) w w' → w.heap.size < w'.heap.size →
      wpList P ops Q rest (a.put o.dst (.slice (some ⟨w.heap.size, 0, none⟩) s.size cap)) w') : wpList P ops Q (o :: rest) a w := by
  have hrun := Lib.run_convert_string_bytes (P := P) w src dst e s hs hd he
  have hlen : s.data.toList.length = s.size := by simp
  refine wpl_value hgd (v := .slice (some ⟨w.heap.size, 0, none⟩) s.size (grownCap w s.size 0 e)) (w' := Lib.bytesWorld w e s) (by simp [execOp, ho, hx, hrun, Result.andThen]) (h _ _ ?_ ?_ ?_ ?_)
  · refine ⟨by simp, some ⟨w.heap.size, 0, none⟩, _, rfl, grownCap_ge _ _ _ _, grownCap_le_maxLen _ _ _ _ hsz, (fun e => by cases e), fun ad had j u hu => ?_⟩
    cases had
    have hj : j < s.size := by have := (List.getElem?_eq_some_iff.1 hu).1; simpa using this
    rw [Addr.add_lit, Nat.zero_add, Lib.bytesWorld_cell w e s j hj]
    rw [List.getElem?_map, List.getElem?_eq_getElem (by omega)] at hu
    simp only [Option.map_some, Option.some.injEq] at hu
    rw [← hu, u8, List.getD_eq_getElem?_getD, List.getElem?_eq_getElem (by omega)]
    rfl
  · intro j hj
    have hn := Lib.bytesWorld_at_new w e s
    have hsz2 : s.size ≤ (Lib.bytesCells w e s).size := by simp [Lib.bytesCells]
    simp only [World.frozen?, hn]
    simp; omega
  · exact ⟨rfl, rfl, rfl, by rw [Lib.bytesWorld_size]; omega, fun k hk _ => Lib.bytesWorld_at_old w e s k hk⟩
  · rw [Lib.bytesWorld_size]; omega

/-- 'string(b)' -/
theorem wpl_toString (hgd : o.guard = none) (x : Operand) (src dst e : TypeId) (ho : o.op = .convert src dst x) (v : Value) (l : List UInt8) (hx : a.eval x = v)
    (hs : P.underlying src = some (.slice e)) (hd : P.underlying dst = some .string) (he : P.underlying e = some (.int .u8)) (hr : RdC w 1 v l.length (l.map u8))
    (h : wpList P ops Q rest (a.put o.dst (.string ⟨l.toArray⟩)) w) : wpList P ops Q (o :: rest) a w := by
  obtain ⟨h1, ad, cap, rfl, h2, h3, h4, h5⟩ := hr
  cases ad with
  | none =>
    have hn := (h4 rfl).1
    have : l = [] := by simpa using hn
    subst this
    have hrun := run_convert_bytes_nil (P := P) (w := w) src e hs he 0 cap dst hd
    exact wpl_value hgd (by simp [execOp, ho, hx, hrun, Result.andThen]; rfl) h
  | some ad =>
    have hrun := run_convert_bytes_back (P := P) w src dst e ad cap l hs he hd (fun j hj => h5 ad rfl j _ (by rw [List.getElem?_map, List.getElem?_eq_getElem hj]; rfl))
    exact wpl_value hgd (by simp [execOp, ho, hx, hrun, Result.andThen]) h
end
end Go.Proofs.Ytgomilodeaafdaa
namespace Go.Proofs.Ytgomilodeaafdaa
open Go.ChangeShapes Go.WideShapes Go.ChangeAt Go.RowKit
open Go.ChangeMaps (open_string shut_string)

theorem own : ownKnob Try.prog.godebug = none := by kernel_rfl
theorem laidOut : laidOutB Try.prog = true := by kernel_rfl

section
variable {H : Type} {enc : TypeId × Value → H} {P : Program}

/-- The arguments read again behind a call that wrote nothing that was there. -/
theorem trodAll_below {W W' : World} (hl : laidOutB P = true) (hb : Below W.heap.size W W') :
    ∀ (ts : List TypeId) (vs : List Value) (ds : List (DataW H)) (p : List MemPlace), (∀ t ∈ ts, P.readableRec t = true ∧ t < P.types.size) →
      DataW.TrodAll enc P W 0 (fun _ => true) true ts vs ds p → DataW.TrodAll enc P W' 0 (fun b => decide (b < W.heap.size)) true ts vs ds p := by
  intro ts
  induction ts with
  | nil =>
    intro vs ds p _ h
    obtain ⟨rfl, rfl, rfl⟩ := trodAll_nil h
    exact trodAll_mk0
  | cons t ts ih =>
    intro vs ds p ht h
    obtain ⟨v, vs1, d, ds1, a, b, rfl, rfl, rfl, h1, h2⟩ := trodAll_cons h
    have hr := ht t (by simp)
    have hlt : ∀ x ∈ a, x.block < W.heap.size := by obtain ⟨m, hm⟩ := h1; exact DataW.trod_lt m _ _ _ hm
    exact trodAll_cons_mk (Below.trod hl hr.1 hr.2 h1 hb hlt) (ih vs1 ds1 b (fun t' h' => ht t' (by simp [h'])) h2)

/-- A law's 'post': it returned true, and wrote nothing that was there. -/
theorem law_post {f : Func} {s : ChangeSpec} {W W' : World} {args : Array Value} {ds gs : List (DataW H)} {before : List MemPlace} {tb : TypeId}
    (hl : laidOutB P = true) (ht : P.underlying tb = some .bool) (hres : f.resultTypes = #[tb]) (hvars : s.vars = [])
    (hread : (f.params.toList.all fun t => P.readableRec t && decide (t < P.types.size)) = true)
    (hW : DataW.Whole enc P f.params.toList s.vars false W args.toList ds gs before)
    (hfn : s.fn H (ds ++ gs) = { results := [.lit (.bool true)], args := ds }) (hb : Below W.heap.size W W') :
    s.post enc P f false true false false W args (.bool true) W' := by
  have hW' := hW
  obtain ⟨p, q, hA, hV, hps, hfz, hnd⟩ := hW
  refine ⟨ds, gs, before, [], p, [], hW', ?_, ?_, ?_, hb.frame _, fun h => by cases h⟩
  · rw [hfn, hres]
    exact trodAll_mk1 (shut_bool ht _)
  · rw [hfn]
    exact trodAll_below hl hb _ _ _ _ (fun t ht => by have := List.all_eq_true.1 hread t ht; simpa using this) hA
  · rw [hfn, hvars]
    exact rfl

/-! what came in, opened -/
theorem word_of {x : Int} (h : (Lit.int .u64 x).wf = true) : ∃ u : UInt64, x = wd u := by
  simp [Lit.wf, IntKind.min, IntKind.max, IntKind.signed, IntKind.bits] at h
  refine ⟨UInt64.ofNat x.toNat, ?_⟩
  rw [wd_lit _ (by omega)]; omega
theorem byte_of {x : Int} (h : (Lit.int .u8 x).wf = true) : ∃ b : UInt8, x = (b.toNat : Int) := by
  simp [Lit.wf, IntKind.min, IntKind.max, IntKind.signed, IntKind.bits] at h
  refine ⟨UInt8.ofNat x.toNat, ?_⟩
  rw [UInt8.toNat_ofNat']; omega
theorem i64_of {x : Int} (h : (Lit.int .i64 x).wf = true) : -9223372036854775808 ≤ x ∧ x ≤ 9223372036854775807 := by
  simp [Lit.wf, IntKind.min, IntKind.max, IntKind.signed, IntKind.bits] at h
  omega
section
variable {w : World} {base : Nat} {spare : Nat → Bool} {held : Bool} {r : Reach} {b0 : Nat} {t : TypeId} {v : Value} {d : DataW H} {p : List MemPlace}
theorem open_word (ht : P.underlying t = some (.int .u64)) (hv : Value.okWide P w r b0 t v) (h : DataW.Trod enc P w base spare held t v d p) : ∃ u, v = .int .u64 (wd u) := by
  obtain ⟨x, rfl, _, _, hw⟩ := open_int ht hv h
  obtain ⟨u, rfl⟩ := word_of hw
  exact ⟨u, rfl⟩
theorem open_byte (ht : P.underlying t = some (.int .u8)) (hv : Value.okWide P w r b0 t v) (h : DataW.Trod enc P w base spare held t v d p) : ∃ b : UInt8, v = .int .u8 (b.toNat : Int) := by
  obtain ⟨x, rfl, _, _, hw⟩ := open_int ht hv h
  obtain ⟨u, rfl⟩ := byte_of hw
  exact ⟨u, rfl⟩
theorem open_i64 (ht : P.underlying t = some (.int .i64)) (hv : Value.okWide P w r b0 t v) (h : DataW.Trod enc P w base spare held t v d p) : ∃ x, v = .int .i64 x ∧ -9223372036854775808 ≤ x ∧ x ≤ 9223372036854775807 := by
  obtain ⟨x, rfl, _, _, hw⟩ := open_int ht hv h
  exact ⟨x, rfl, i64_of hw⟩
theorem open_str (ht : P.underlying t = some .string) (hv : Value.okWide P w r b0 t v) (h : DataW.Trod enc P w base spare held t v d p) : ∃ s, v = .string s ∧ s.size ≤ maxLen := by
  obtain ⟨s, rfl, _, _, hs⟩ := open_string ht hv h
  exact ⟨s, rfl, hs⟩
theorem weights_cons {n : Nat} {ts : List TypeId} {ds : List (DataW H)} (h : (DataW.weightsEach P (t :: ts) (d :: ds)).all (fun x => decide (x ≤ n)) = true) :
    (d.weights P t).all (fun x => decide (x ≤ n)) = true ∧ (DataW.weightsEach P ts ds).all (fun x => decide (x ≤ n)) = true := by
  simp only [DataW.weightsEach, List.all_append, Bool.and_eq_true] at h
  exact h
/-- a slice whose elements are read, one by one: each element's cells are 'enc x' -/
theorem open_list {α : Type} {e : TypeId} {sz : Nat} (cs : α → List Value) (hcs : ∀ x, (cs x).length = sz) (ht : P.underlying t = some (.slice e)) (hc : P.cellsOf e = sz)
    (hel : ∀ (n : Nat) (l : List Value) (y : DataW H × List MemPlace), DataW.trod enc P w base (fun _ => true) held n e l = some y → ∃ x, l = cs x)
    (hv : Value.okWide P w r b0 t v) (h : DataW.Trod enc P w base (fun _ => true) held t v d p) :
    ∃ l : List α, RdC w sz v l.length (l.flatMap cs) ∧ ∀ n, (d.weights P t).all (fun x => decide (x ≤ n)) = true → l.length * P.bytesOf e ≤ n := by
  obtain ⟨a, len, cap, rfl⟩ := okWide_slice ht hv
  obtain ⟨fuel, hf⟩ := h
  rcases Go.Deep.open_slice ht hf with ⟨hcs0, hx⟩ | ⟨a', len', cap', m, n, D, Pl, hcs1, hb, hl, hm, hmm, hx, hi⟩
  · simp [Value.cells] at hcs0
    obtain ⟨rfl, rfl, rfl⟩ := hcs0
    exact ⟨[], RdC.nil w sz, fun n _ => by simp⟩
  · simp [Value.cells] at hcs1
    obtain ⟨rfl, rfl, rfl⟩ := hcs1
    simp only [if_true] at hmm
    subst hmm
    have hall : ∀ k, k ≤ len → ∃ l : List α, l.length = k ∧ ∀ j u, (l.flatMap cs)[j]? = some u → w.cell? (a'.add j) = some u := by
      intro k
      induction k with
      | zero => intro _; exact ⟨[], rfl, fun j u hu => by simp at hu⟩
      | succ k ih =>
        intro hk
        obtain ⟨l, hll, hlc⟩ := ih (by omega)
        obtain ⟨c', hc1, hc2⟩ := hi k (by omega)
        obtain ⟨x, rfl⟩ := hel n c' _ hc2
        obtain ⟨_, hcl, hat⟩ := World.cells?_some hc1
        refine ⟨l ++ [x], by simp [hll], fun j u hu => ?_⟩
        have hlen : (l.flatMap cs).length = k * sz := by
          rw [List.length_flatMap]
          have : l.map (fun x => (cs x).length) = l.map (fun _ => sz) := List.map_congr_left (fun x _ => hcs x)
          rw [this, List.map_const', List.sum_replicate_nat, hll]
        rw [List.flatMap_append, List.flatMap_singleton, List.getElem?_append] at hu
        split at hu
        · exact hlc j u hu
        · rename_i hge
          have hj : j - k * sz < sz := by
            have := (List.getElem?_eq_some_iff.1 hu).1
            rw [hcs, hlen] at this; exact this
          have h2 := hat (j - k * sz) (by rw [hc]; exact hj)
          rw [hlen] at hu hge
          rw [hc, Go.Deep.add_add, show k * sz + (j - k * sz) = j by omega] at h2
          exact h2.trans hu
    obtain ⟨l, hll, hlc⟩ := hall len (Nat.le_refl _)
    subst hll
    refine ⟨l, ⟨?_, some a', m, rfl, hl, hm, (fun e => by cases e), fun ad had => by cases had; exact hlc⟩, fun q hq => ?_⟩
    · rw [List.length_flatMap]
      have : l.map (fun x => (cs x).length) = l.map (fun _ => sz) := List.map_congr_left (fun x _ => hcs x)
      rw [this, List.map_const', List.sum_replicate_nat]
    · have hd : d = .slice ((List.range l.length).map D) ((List.range (m - l.length)).map fun j => D (l.length + j)) := (Prod.mk.injEq .. ▸ hx).1
      rw [hd] at hq
      simp only [DataW.weights, ht, List.all_cons, Bool.and_eq_true, decide_eq_true_eq, List.length_map, List.length_range] at hq
      exact Nat.le_trans (Nat.mul_le_mul_right _ (Nat.le_add_right _ _)) hq.1
theorem word_cells {e : TypeId} (ht : P.underlying e = some (.int .u64)) (n : Nat) (l : List Value) (y : DataW H × List MemPlace) (h : DataW.trod enc P w base (fun _ => true) held n e l = some y) : ∃ x : UInt64, l = [u64 x] := by
  obtain ⟨x, rfl, _, hw⟩ := DataW.trod_int ht h
  obtain ⟨u, rfl⟩ := word_of hw
  exact ⟨u, rfl⟩
theorem word_flat (l : List UInt64) : l.flatMap (fun u => [u64 u]) = l.map u64 := by induction l <;> simp_all
end
end
end Go.Proofs.Ytgomilodeaafdaa
namespace Go.Proofs.Ytgomilodeaafdaa
open Go.RowKit

theorem tab_size : (Lib.len8tab.size : Int) = 256 := by rw [Lib.len8tab_size]; rfl
theorem tab_get (y : Int) (h : y.toNat < Lib.len8tab.size) : ((Lib.len8tab[y.toNat]'h).toNat : Int) = Lib.len8 y := by
  unfold Lib.len8
  rw [getElem?_pos Lib.len8tab y.toNat h]
  rfl
theorem len_way (x : Nat) (k : Nat) (K : Int) (y : Int) (hK : K = k) (hk : k ≤ 56) (hx : x < 18446744073709551616) (P : Nat) (hP : P = 2 ^ k) (h0 : y = (x : Int) / (P : Int)) (h1 : y ≤ 255) (h2 : P ≤ x) :
    wrap64 (K + wrap64 (Lib.len8 y)) = (Lib.bitLen x : Int) := by
  have e0 : y = ((x / P : Nat) : Int) := by rw [h0]; rfl
  have e : y.toNat = x / 2 ^ k := by rw [e0, hP]; rfl
  have hy : 0 ≤ y := by rw [e0]; exact Int.natCast_nonneg _
  rw [Lib.len8_of y hy h1]
  have l := Lib.bitLen_le8' y hy h1
  have s := Lib.bitLen_shift k x (by rw [← hP]; exact h2) hx
  rw [e] at l ⊢
  rw [s, hK]
  generalize Lib.bitLen (x / 2 ^ k) = z at l ⊢
  clear s e0 e h0 h2
  unfold wrap64
  omega
theorem len_way0 (x : Nat) (y : Int) (h0 : y = (x : Nat)) (h1 : y ≤ 255) :
    wrap64 (wrap64 (Lib.len8 y)) = (Lib.bitLen x : Int) := by
  rw [Lib.len8_of y (by omega) h1]
  have l := Lib.bitLen_le8' y (by omega) h1
  have e : y.toNat = x := by rw [h0]; rfl
  rw [e] at l ⊢
  unfold wrap64
  omega
theorem ret_i64 {a b : Int} (h : a = b) : Ending.returned (.int .i64 a) = .returned (.int .i64 b) := by rw [h]
set_option maxRecDepth 100000 in
set_option maxHeartbeats 4000000 in
theorem len64_int (x : Int) (w : World) (h0 : 0 ≤ x) (h1 : x < 18446744073709551616) :
    Calls Try.prog 200 #[.int .u64 x] w fun e w' => e = .returned (.int .i64 (Lib.bitLen x.toNat)) ∧ w = w' := by
  go_enter Try.func200, Try.ntmps200
  go_wp2
  all_goals first
    | (go_ret; refine ⟨ret_i64 ?_, rfl⟩; go_light)
    | (exfalso; go_light; have hs := tab_size; omega)
  · rw [tab_get]; exact len_way x.toNat 56 _ _ rfl (by decide) (by omega) 72057594037927936 rfl (by omega) (by omega) (by omega)
  · rw [tab_get]; exact len_way x.toNat 48 _ _ rfl (by decide) (by omega) 281474976710656 rfl (by omega) (by omega) (by omega)
  · rw [tab_get]; exact len_way x.toNat 40 _ _ rfl (by decide) (by omega) 1099511627776 rfl (by omega) (by omega) (by omega)
  · rw [tab_get]; exact len_way x.toNat 32 _ _ rfl (by decide) (by omega) 4294967296 rfl (by omega) (by omega) (by omega)
  · rw [tab_get]; exact len_way x.toNat 24 _ _ rfl (by decide) (by omega) 16777216 rfl (by omega) (by omega) (by omega)
  · rw [tab_get]; exact len_way x.toNat 16 _ _ rfl (by decide) (by omega) 65536 rfl (by omega) (by omega) (by omega)
  · rw [tab_get]; exact len_way x.toNat 8 _ _ rfl (by decide) (by omega) 256 rfl (by omega) (by omega) (by omega)
  · rw [tab_get]; exact len_way0 x.toNat _ (by omega) (by omega)
theorem len64_any (X : Nat) (w : World) (hX : X < 18446744073709551616) :
    Calls Try.prog 200 #[.int .u64 X] w fun e w' => e = .returned (.int .i64 (Lib.bitLen X)) ∧ w = w' :=
  len64_int X w (by omega) (by omega)
theorem len_int (x : Int) (w : World) (h0 : 0 ≤ x) (h1 : x < 18446744073709551616) :
    Calls Try.prog 160 #[.int .u64 x] w fun e w' => e = .returned (.int .i64 (Lib.bitLen x.toNat)) ∧ w = w' := by
  go_enter Try.func160, Try.ntmps160
  go_wp2_with fail
  refine (len64_int x w h0 h1).mono ?_
  rintro e w' ⟨rfl, rfl⟩
  go_wp2
  go_ret
  exact ⟨rfl, rfl⟩
/-- the bytes turned round -/
def rs (n m x : UInt64) : UInt64 := ((x >>> n) &&& m) ||| ((x &&& m) <<< n)
def revb (x : UInt64) : UInt64 :=
  (rs 16 281470681808895 (rs 8 71777214294589695 x) >>> 32) ||| (rs 16 281470681808895 (rs 8 71777214294589695 x) <<< 32)
/-- the bits turned round -/
def rev (x : UInt64) : UInt64 := revb (rs 4 1085102592571150095 (rs 2 3689348814741910323 (rs 1 6148914691236517205 x)))
theorem wd_or (a b : UInt64) : bits .or .u64 (wd a) (wd b) = wd (a ||| b) := by
  unfold wd; rw [u64_or_nat _ _ a.toNat_lt b.toNat_lt, UInt64.toNat_or]
theorem wd_and (a b : UInt64) : bits .and .u64 (wd a) (wd b) = wd (a &&& b) := by
  unfold wd; rw [u64_and_nat _ _ a.toNat_lt b.toNat_lt, UInt64.toNat_and]
theorem wd_shr (a : UInt64) (n : Nat) (N : UInt64) (hn : N.toNat = n) (hl : n < 64) (P : Int) (hP : P = ((2 ^ n : Nat) : Int)) : wd a / P = wd (a >>> N) := by
  unfold wd
  rw [UInt64.toNat_shiftRight, hP, hn, Nat.mod_eq_of_lt hl, Nat.shiftRight_eq_div_pow]; rfl
theorem wd_shl (a : UInt64) (n : Nat) (N : UInt64) (hn : N.toNat = n) (hl : n < 64) (P : Int) (hP : P = ((2 ^ n : Nat) : Int)) : IntKind.u64.wrap (wd a * P) = wd (a <<< N) := by
  unfold wd
  rw [UInt64.toNat_shiftLeft, hP, hn, Nat.mod_eq_of_lt hl, Nat.shiftLeft_eq, IntKind.wrap_u64]; rfl
theorem wd_rs (x N M : UInt64) (n : Nat) (P m : Int) (hn : N.toNat = n) (hl : n < 64) (hP : P = ((2 ^ n : Nat) : Int)) (hm : m = wd M) :
    bits .or .u64 (bits .and .u64 (wd x / P) m) (IntKind.u64.wrap (bits .and .u64 (wd x) m * P)) = wd (rs N M x) := by
  rw [wd_shr x n N hn hl P hP, hm, wd_and, wd_and, wd_shl _ n N hn hl P hP, wd_or]; rfl
theorem revb_at (x : UInt64) (a : Int) (ha : a = wd x) (w : World) :
    Calls Try.prog 223 #[.int .u64 a] w fun e w' => e = .returned (.int .u64 (wd (revb x))) ∧ w = w' := by
  subst ha
  go_enter Try.func223, Try.ntmps223
  go_wp2
  go_ret
  refine ⟨ret_u64 ?_, rfl⟩
  rw [wd_rs x 8 71777214294589695 8 256 71777214294589695 rfl (by decide) rfl rfl, wd_rs _ 16 281470681808895 16 65536 281470681808895 rfl (by decide) rfl rfl,
    wd_shr _ 32 32 rfl (by decide) 4294967296 rfl, wd_shl _ 32 32 rfl (by decide) 4294967296 rfl, wd_or]
  rfl
theorem rev_at (x : UInt64) (a : Int) (ha : a = wd x) (w : World) :
    Calls Try.prog 201 #[.int .u64 a] w fun e w' => e = .returned (.int .u64 (wd (rev x))) ∧ w = w' := by
  subst ha
  go_enter Try.func201, Try.ntmps201
  go_wp2_with fail
  refine (revb_at (rs 4 1085102592571150095 (rs 2 3689348814741910323 (rs 1 6148914691236517205 x))) _ ?_ w).mono ?_
  · rw [wd_rs x 1 6148914691236517205 1 2 6148914691236517205 rfl (by decide) rfl rfl, wd_rs _ 2 3689348814741910323 2 4 3689348814741910323 rfl (by decide) rfl rfl, wd_rs _ 4 1085102592571150095 4 16 1085102592571150095 rfl (by decide) rfl rfl]
  rintro e w' ⟨rfl, rfl⟩
  go_wp2
  go_ret
  exact ⟨rfl, rfl⟩
end Go.Proofs.Ytgomilodeaafdaa
namespace Go.Proofs.Ytgomilodeaafdaa

/-- the k low digits of x, the other way round -/
def tr : Nat → Nat → Nat
  | 0, _ => 0
  | k + 1, x => 2 ^ k * (x % 2) + tr k (x / 2)
theorem tr_lt : ∀ k x, tr k x < 2 ^ k := by
  intro k
  induction k with
  | zero => intro x; exact Nat.one_pos
  | succ k ih =>
    intro x
    have h1 := ih (x / 2)
    have h2 : 2 ^ k * (x % 2) ≤ 2 ^ k * 1 := Nat.mul_le_mul_left _ (by omega)
    have h3 : 2 ^ (k + 1) = 2 ^ k * 2 := Nat.pow_succ ..
    unfold tr
    omega
theorem tr_bit : ∀ k x i, (tr k x).testBit i = (decide (i < k) && x.testBit (k - 1 - i)) := by
  intro k
  induction k with
  | zero => intro x i; simp [tr]
  | succ k ih =>
    intro x i
    unfold tr
    rw [Nat.testBit_two_pow_mul_add _ (tr_lt k _)]
    by_cases h : i < k
    · rw [if_pos h, ih, Nat.testBit_div_two]
      have e : k - 1 - i + 1 = k + 1 - 1 - i := by omega
      rw [e]
      simp [h, Nat.lt_succ_of_lt h]
    · rw [if_neg h]
      by_cases h2 : i = k
      · subst h2
        have e : i + 1 - 1 - i = 0 := by omega
        rw [e, Nat.sub_self]
        have := Nat.mod_two_eq_zero_or_one x
        rcases this with hx | hx <;> simp [hx, Nat.testBit_zero]
      · have h3 : ¬ i < k + 1 := by omega
        have h4 : 1 ≤ i - k := by omega
        have h5 : x % 2 < 2 ^ (i - k) := Nat.lt_of_lt_of_le (Nat.mod_lt _ (by decide)) (by rw [show (2:Nat) = 2 ^ 1 from rfl, ← Nat.pow_mul, Nat.one_mul]; exact Nat.pow_le_pow_right (by decide) h4)
        rw [Nat.testBit_lt_two_pow h5]
        simp [h3]
theorem tr_mod (k x m : Nat) (h : k ≤ m) : tr k (x % 2 ^ m) = tr k x := by
  refine Nat.eq_of_testBit_eq (fun i => ?_)
  rw [tr_bit, tr_bit]
  by_cases hi : i < k
  · rw [Nat.testBit_mod_two_pow]
    have : k - 1 - i < m := by omega
    simp [this]
  · simp [hi]
theorem tr_tr (k x : Nat) : tr k (tr k x) = x % 2 ^ k := by
  refine Nat.eq_of_testBit_eq (fun i => ?_)
  rw [tr_bit, tr_bit, Nat.testBit_mod_two_pow]
  by_cases hi : i < k
  · have h1 : k - 1 - i < k := by omega
    have h2 : k - 1 - (k - 1 - i) = i := by omega
    simp [hi, h1, h2]
  · simp [hi]
theorem tr_add (a b x y : Nat) (hx : x < 2 ^ a) : tr (a + b) (2 ^ a * y + x) = 2 ^ b * tr a x + tr b y := by
  refine Nat.eq_of_testBit_eq (fun i => ?_)
  rw [tr_bit, Nat.testBit_two_pow_mul_add _ hx, Nat.testBit_two_pow_mul_add _ (tr_lt b y), tr_bit, tr_bit]
  by_cases h1 : i < b
  · have h2 : i < a + b := by omega
    have h3 : ¬ a + b - 1 - i < a := by omega
    have h4 : a + b - 1 - i - a = b - 1 - i := by omega
    rw [if_pos h1, if_neg h3, h4]
    simp [h1, h2]
  · by_cases h2 : i < a + b
    · have h3 : a + b - 1 - i < a := by omega
      have h4 : i - b < a := by omega
      have h5 : a - 1 - (i - b) = a + b - 1 - i := by omega
      rw [if_neg h1, if_pos h3, h5]
      simp [h2, h4]
    · have h4 : ¬ i - b < a := by omega
      rw [if_neg h1]
      simp [h2, h4]
theorem tr_zero (k : Nat) : tr k 0 = 0 := by
  refine Nat.eq_of_testBit_eq (fun i => ?_)
  rw [tr_bit]; simp
theorem tr_ones (k : Nat) : tr k (2 ^ k - 1) = 2 ^ k - 1 := by
  refine Nat.eq_of_testBit_eq (fun i => ?_)
  rw [tr_bit, Nat.testBit_two_pow_sub_one, Nat.testBit_two_pow_sub_one]
  by_cases h1 : i < k
  · have : k - 1 - i < k := by omega
    simp [h1, this]
  · simp [h1]

/-- the next cursor in a table of 2^k buckets -/
def aft (k c : Nat) : Nat := if tr k c + 1 = 2 ^ k then 0 else tr k (tr k c + 1)
theorem aft_raw (k b N c : Nat) (hN : N = k + b) : tr N ((tr N (2 ^ k * (2 ^ b - 1) + c % 2 ^ k) + 1) % 2 ^ N) = aft k c := by
  have hp : 0 < 2 ^ b := Nat.two_pow_pos _
  have h1 : tr N (2 ^ k * (2 ^ b - 1) + c % 2 ^ k) = 2 ^ b * tr k c + (2 ^ b - 1) := by
    rw [hN, tr_add k b _ _ (Nat.mod_lt _ (Nat.two_pow_pos k)), tr_ones, tr_mod k c k (Nat.le_refl _)]
  have h2 : 2 ^ b * tr k c + (2 ^ b - 1) + 1 = 2 ^ b * (tr k c + 1) := by
    rw [Nat.mul_add]; omega
  have h3 : 2 ^ N = 2 ^ b * 2 ^ k := by rw [hN, Nat.add_comm, Nat.pow_add]
  rw [h1, h2, h3]
  unfold aft
  have hl := tr_lt k c
  by_cases h : tr k c + 1 = 2 ^ k
  · rw [if_pos h, h, Nat.mod_self, tr_zero]
  · have hlt : 2 ^ b * (tr k c + 1) < 2 ^ b * 2 ^ k := Nat.mul_lt_mul_of_pos_left (Nat.lt_of_le_of_ne hl h) hp
    rw [if_neg h, Nat.mod_eq_of_lt hlt]
    have e := tr_add b k 0 (tr k c + 1) hp
    rw [Nat.add_zero, tr_zero, Nat.mul_zero, Nat.zero_add, Nat.add_comm b k, ← hN] at e
    exact e
theorem aft_lt (k c : Nat) : aft k c < 2 ^ k := by
  unfold aft
  split
  · exact Nat.two_pow_pos k
  · exact tr_lt k _
theorem aft_mod (k c : Nat) : aft k (c % 2 ^ k) = aft k c := by unfold aft; rw [tr_mod k c k (Nat.le_refl _)]
/-- the i-th cursor from 0 on is tr k i -/
theorem aft_tr (k i : Nat) (h : i < 2 ^ k) : aft k (tr k i) = if i + 1 = 2 ^ k then 0 else tr k (i + 1) := by
  unfold aft
  rw [tr_tr, Nat.mod_eq_of_lt h]
theorem rev_bit (x : UInt64) : ∀ i, i < 64 → (rev x).toBitVec.getLsbD i = x.toBitVec.getLsbD (63 - i) := by
  intro i hi
  unfold rev revb rs
  simp only [UInt64.toBitVec_or, UInt64.toBitVec_and, UInt64.toBitVec_shiftLeft, UInt64.toBitVec_shiftRight]
  generalize x.toBitVec = v
  have h : i = 0 ∨ i = 1 ∨ i = 2 ∨ i = 3 ∨ i = 4 ∨ i = 5 ∨ i = 6 ∨ i = 7 ∨ i = 8 ∨ i = 9 ∨ i = 10 ∨ i = 11 ∨ i = 12 ∨ i = 13 ∨ i = 14 ∨ i = 15 ∨ i = 16 ∨ i = 17 ∨ i = 18 ∨ i = 19 ∨ i = 20 ∨ i = 21 ∨ i = 22 ∨ i = 23 ∨ i = 24 ∨ i = 25 ∨ i = 26 ∨ i = 27 ∨ i = 28 ∨ i = 29 ∨ i = 30 ∨ i = 31 ∨ i = 32 ∨ i = 33 ∨ i = 34 ∨ i = 35 ∨ i = 36 ∨ i = 37 ∨ i = 38 ∨ i = 39 ∨ i = 40 ∨ i = 41 ∨ i = 42 ∨ i = 43 ∨ i = 44 ∨ i = 45 ∨ i = 46 ∨ i = 47 ∨ i = 48 ∨ i = 49 ∨ i = 50 ∨ i = 51 ∨ i = 52 ∨ i = 53 ∨ i = 54 ∨ i = 55 ∨ i = 56 ∨ i = 57 ∨ i = 58 ∨ i = 59 ∨ i = 60 ∨ i = 61 ∨ i = 62 ∨ i = 63 := by omega
  rcases h with rfl | rfl | rfl | rfl | rfl | rfl | rfl | rfl | rfl | rfl | rfl | rfl | rfl | rfl | rfl | rfl | rfl | rfl | rfl | rfl | rfl | rfl | rfl | rfl | rfl | rfl | rfl | rfl | rfl | rfl | rfl | rfl | rfl | rfl | rfl | rfl | rfl | rfl | rfl | rfl | rfl | rfl | rfl | rfl | rfl | rfl | rfl | rfl | rfl | rfl | rfl | rfl | rfl | rfl | rfl | rfl | rfl | rfl | rfl | rfl | rfl | rfl | rfl | rfl
  all_goals simp
theorem rev_tr (x : UInt64) : (rev x).toNat = tr 64 x.toNat := by
  refine Nat.eq_of_testBit_eq (fun i => ?_)
  rw [tr_bit]
  by_cases hi : i < 64
  · have := rev_bit x i hi
    simp only [BitVec.getLsbD, UInt64.toNat_toBitVec] at this
    rw [this]; simp [hi]
  · have hlt : (rev x).toNat < 2 ^ i := Nat.lt_of_lt_of_le (rev x).toNat_lt (Nat.pow_le_pow_right (by decide) (by omega))
    rw [Nat.testBit_lt_two_pow hlt]; simp [hi]
end Go.Proofs.Ytgomilodeaafdaa
namespace Go.Proofs.Ytgomilodeaafdaa
open Go.RowKit

/-- how many digits of a cursor count -/
def lg (b : Int) : Nat := if 1 < b then Lib.bitLen b.toNat - 1 else 0
def msk (k : Nat) : UInt64 := UInt64.ofNat (2 ^ 64 - 2 ^ k)
theorem msk_nat (k : Nat) : (msk k).toNat = 2 ^ 64 - 2 ^ k := by
  unfold msk
  rw [UInt64.toNat_ofNat', Nat.mod_eq_of_lt]
  have := Nat.two_pow_pos k; omega
theorem or_msk (c : UInt64) (k : Nat) (hk : k ≤ 64) : (c ||| msk k).toNat = 2 ^ k * (2 ^ (64 - k) - 1) + c.toNat % 2 ^ k := by
  have e : 2 ^ 64 - 2 ^ k = 2 ^ k * (2 ^ (64 - k) - 1) := by
    rw [Nat.mul_sub, ← Nat.pow_add, Nat.mul_one]; congr 2; omega
  rw [UInt64.toNat_or, msk_nat, e]
  refine Nat.eq_of_testBit_eq (fun i => ?_)
  rw [Nat.testBit_two_pow_mul_add _ (Nat.mod_lt _ (Nat.two_pow_pos k)), Nat.testBit_or, Nat.testBit_two_pow_mul, Nat.testBit_mod_two_pow, Nat.testBit_two_pow_sub_one]
  by_cases h : i < k
  · have h2 : ¬ k ≤ i := by omega
    simp [h, h2]
  · by_cases h3 : i < 64
    · have h2 : k ≤ i := by omega
      have h4 : i - k < 64 - k := by omega
      simp [h, h2, h4]
    · have h4 : ¬ i - k < 64 - k := by omega
      have h5 : c.toNat.testBit i = false := Nat.testBit_lt_two_pow (Nat.lt_of_lt_of_le c.toNat_lt (Nat.pow_le_pow_right (by decide) (by omega)))
      simp [h, h4, h5]
theorem rev_aft (c : UInt64) (k : Nat) (hk : k ≤ 64) : (rev (rev (c ||| msk k) + 1)).toNat = aft k c.toNat := by
  rw [rev_tr, UInt64.toNat_add, rev_tr, or_msk c k hk]
  exact aft_raw k (64 - k) 64 c.toNat (by omega)
theorem wd_msk (k : Nat) (hk : k ≤ 64) : IntKind.u64.wrap (18446744073709551615 * 2 ^ k) = wd (msk k) := by
  unfold wd
  rw [IntKind.wrap_u64, msk_nat]
  have h1 : ((2 : Int) ^ k) = ((2 ^ k : Nat) : Int) := by simp
  have h2 : 2 ^ k ≤ 2 ^ 64 := Nat.pow_le_pow_right (by decide) hk
  have h3 := Nat.two_pow_pos k
  rw [h1]
  generalize 2 ^ k = P at h2 h3 ⊢
  omega
theorem wd_add1 (x : UInt64) : IntKind.u64.wrap (wd x + 1) = wd (x + 1) := by
  unfold wd; rw [IntKind.wrap_u64, UInt64.toNat_add]; rfl
theorem lg_le (b : Int) (h1 : b ≤ 9223372036854775807) : lg b ≤ 62 := by
  unfold lg
  split
  · have := Lib.bitLen_le b.toNat 63 (by decide) (by omega); omega
  · omega
theorem val_i64 {a b : Int} (h : a = b) : Value.int .i64 a = Value.int .i64 b := by rw [h]
set_option maxHeartbeats 400000 in
theorem after_any (c : UInt64) (b : Int) (w : World) (h1 : b ≤ 9223372036854775807) :
    Calls Try.prog 165 #[.int .u64 (wd c), .int .i64 b] w fun e w' => e = .returned (.int .u64 (aft (lg b) c.toNat : Nat)) ∧ w = w' := by
  have hl := lg_le b h1
  obtain ⟨k, hk⟩ : ∃ k, lg b = k := ⟨_, rfl⟩
  have hr := rev_aft c k (by omega)
  by_cases hb : 1 < b
  · have hB : Lib.bitLen b.toNat = k + 1 := by
      have := Lib.bitLen_half b.toNat (by omega) (by omega)
      unfold lg at hk; rw [if_pos hb] at hk; omega
    rw [hk] at hl ⊢
    clear hk
    have HR := Lib.hid hr; clear hr
    have HB := Lib.hid hB; clear hB
    go_enter Try.func165, Try.ntmps165
    go_wp2_with fail
    refine (len_int b w (by omega) (by omega)).mono ?_
    rintro e w' ⟨rfl, rfl⟩
    rw [HB.out]
    go_wp2_with fail
    refine (rev_at (c ||| msk k) _ (by rw [wd_msk k (by omega), wd_or]) w).mono ?_
    rintro e w' ⟨rfl, rfl⟩
    go_wp2_with fail
    refine (rev_at (rev (c ||| msk k) + 1) _ (wd_add1 _) w).mono ?_
    rintro e w' ⟨rfl, rfl⟩
    go_wp2
    go_ret
    refine ⟨ret_u64 ?_, rfl⟩
    rw [← HR.out]; rfl
  · have hk0 : k = 0 := by unfold lg at hk; rw [if_neg hb] at hk; exact hk.symm
    subst hk0
    rw [hk]
    clear hk
    have HR := Lib.hid hr; clear hr
    go_enter Try.func165, Try.ntmps165
    go_wp2_with fail
    refine (rev_at (c ||| msk 0) _ (wd_or _ _) w).mono ?_
    rintro e w' ⟨rfl, rfl⟩
    go_wp2_with fail
    refine (rev_at (rev (c ||| msk 0) + 1) _ (wd_add1 _) w).mono ?_
    rintro e w' ⟨rfl, rfl⟩
    go_wp2
    go_ret
    refine ⟨ret_u64 ?_, rfl⟩
    rw [← HR.out]; rfl
def trs : Nat → Nat → Nat → Nat
  | 0, _, r => r
  | k + 1, x, r => trs k (x / 2) (2 * r + x % 2)
theorem trs_tr : ∀ k x r, trs k x r = 2 ^ k * r + tr k x := by
  intro k
  induction k with
  | zero => intro x r; simp [trs, tr]
  | succ k ih =>
    intro x r
    unfold trs tr
    rw [ih, Nat.pow_succ, Nat.mul_add]
    have : 2 ^ k * (2 * r) = 2 ^ k * 2 * r := (Nat.mul_assoc _ _ _).symm
    omega
theorem turned_any (k x : Nat) (w : World) (hk : k ≤ 62) (hx : x < 2 ^ k) :
    Calls Try.prog 231 #[.int .i64 x, .int .i64 (2 ^ k : Nat)] w fun e w' => e = .returned (.int .i64 (tr k x : Nat)) ∧ w = w' := by
  obtain ⟨n, hn⟩ : ∃ n, n = 2 ^ k := ⟨_, rfl⟩
  have hx62 : x < 4611686018427387904 := Nat.lt_of_lt_of_le hx (show 2 ^ k ≤ 2 ^ 62 from Nat.pow_le_pow_right (by decide) hk)
  have hn62 : n ≤ 4611686018427387904 := by rw [hn]; exact Nat.pow_le_pow_right (show 0 < 2 by decide) hk
  rw [← hn]
  have HN := Lib.hid hn; clear hn
  clear hx
  go_enter Try.func231, Try.ntmps231
  go_wp2
  go_loop [0, 1, 5] (fun a b r => ∃ j y m q : Nat, Hid (m = 2 ^ j) ∧ a = .int .i64 y ∧ b = .int .i64 m ∧ r = .int .i64 q ∧ j ≤ k ∧ Hid (trs j y q = tr k x) ∧ y < 4611686018427387904 ∧ m ≤ 4611686018427387904 ∧ Hid (q < 2 ^ (k - j))) (fun a b r => (intOf b).toNat)
  case atStart => exact ⟨k, x, n, 0, HN, rfl, rfl, rfl, Nat.le_refl _, (show trs k x 0 = tr k x by rw [trs_tr, Nat.mul_zero, Nat.zero_add]), hx62, hn62, (show 0 < 2 ^ (k - k) from Nat.two_pow_pos _)⟩
  case round =>
    obtain ⟨j, y, m, q, h1, rfl, rfl, rfl, h4, h5, h6, h7, h8⟩ := hrel
    cases j with
    | zero =>
      have hm : m = 1 := h1.out
      subst hm
      go_wp2
      go_ret
      refine ⟨ret_i64 ?_, rfl⟩
      exact congrArg _ h5.out
    | succ j =>
      have e1 := h1.out
      have e2 : m = 2 * 2 ^ j := by rw [e1, Nat.pow_succ, Nat.mul_comm]
      have e3 := Nat.two_pow_pos j
      have e4 : 2 ^ (k - j) = 2 * 2 ^ (k - (j + 1)) := by rw [← Nat.pow_succ']; congr 1; omega
      have e5 : 2 ^ (k - j) ≤ 2 ^ 62 := Nat.pow_le_pow_right (by decide) (by omega)
      have e6 := h8.out
      have hm1 : 1 < m := by omega
      have hq : q < 2305843009213693952 := by omega
      have hhalf : m / 2 = 2 ^ j := by omega
      have hq2 : 2 * q + y % 2 < 2 ^ (k - j) := by omega
      have HH := Lib.hid hhalf; clear hhalf
      have HQ := Lib.hid hq2; clear hq2
      clear e1 e2 e3 e4 e5 e6
      go_wp2
      go_round
      case rel =>
        refine ⟨j, y / 2, m / 2, 2 * q + y % 2, HH, ?_, ?_, ?_, by omega, h5, by omega, by omega, HQ⟩
        all_goals go_num
      case measure => simp [intOf]; omega
theorem lg_of (b : Int) (k : Nat) (hk : k ≤ 62) (h1 : ((2 ^ k : Nat) : Int) ≤ b ∨ k = 0) (h2 : b < 2 * ((2 ^ k : Nat) : Int)) : lg b = k := by
  unfold lg
  by_cases hb : 1 < b
  · rw [if_pos hb]
    have h3 : ((2 ^ k : Nat) : Int) ≤ b := by
      rcases h1 with h | h
      · exact h
      · subst h; simp; omega
    have hle : 2 ^ k ≤ 2 ^ 62 := Nat.pow_le_pow_right (by decide) hk
    have e := Lib.bitLen_shift k b.toNat (by omega) (by omega)
    have hd : b.toNat / 2 ^ k = 1 := by
      have hp := Nat.two_pow_pos k
      refine Nat.div_eq_of_lt_le (by omega) (by omega)
    rw [hd] at e
    have : Lib.bitLen 1 = 1 := by decide
    omega
  · rw [if_neg hb]
    have hp := Nat.two_pow_pos k
    rcases h1 with h | h
    · cases k with
      | zero => rfl
      | succ k =>
        have := Nat.two_pow_pos k
        have h5 : 2 ^ (k + 1) = 2 ^ k * 2 := Nat.pow_succ ..
        omega
    · exact h.symm
theorem le_half (m : Nat) (n : Int) (hm : 0 < m) : ((m : Int) ≤ n.tdiv 2) ↔ (m : Int) * 2 ≤ n := by
  by_cases h : 0 ≤ n
  · rw [Int.tdiv_eq_ediv_of_nonneg h]; omega
  · have h2 : n.tdiv 2 = -((-n).tdiv 2) := by rw [Int.neg_tdiv, Int.neg_neg]
    rw [h2, Int.tdiv_eq_ediv_of_nonneg (by omega)]
    omega
theorem power_any (n : Int) (w : World) (h0 : -9223372036854775808 ≤ n) (h1 : n ≤ 9223372036854775807) :
    Calls Try.prog 230 #[.int .i64 n] w fun e w' => e = .returned (.int .i64 (2 ^ lg n : Nat)) ∧ w = w' := by
  go_enter Try.func230, Try.ntmps230
  go_wp2
  go_loop [3] (fun p => ∃ j m : Nat, Hid (m = 2 ^ j) ∧ p = .int .i64 m ∧ j ≤ 62 ∧ ((m : Int) ≤ n ∨ j = 0) ∧ m ≤ 4611686018427387904 ∧ 0 < m) (fun p => (n.toNat - (intOf p).toNat))
  case atStart => exact ⟨0, 1, rfl, rfl, by decide, .inr rfl, by decide, by decide⟩
  case round =>
    obtain ⟨j, m, e1, rfl, e2, e3, e4, e5⟩ := hrel
    by_cases hlt : (m : Int) ≤ n.tdiv 2
    · have hm : (m : Int) * 2 ≤ n := (le_half m n e5).1 hlt
      have hj : j < 62 := by
        refine Nat.lt_of_le_of_ne e2 (fun h => ?_)
        have := e1.out
        rw [h] at this
        omega
      have hm61 : m ≤ 2305843009213693952 := by rw [e1.out]; exact Nat.pow_le_pow_right (show 0 < 2 by decide) (show j ≤ 61 by omega)
      have h2 : Hid (2 * m = 2 ^ (j + 1)) := by show _ = _; rw [Nat.pow_succ, ← e1.out, Nat.mul_comm]
      go_wp2
      go_round
      case rel => exact ⟨j + 1, 2 * m, h2, by go_num, by omega, .inl (by omega), by omega, by omega⟩
      case measure => simp [intOf]; omega
    · have hl : lg n = j := lg_of n j e2 (by rw [← e1.out]; exact e3) (by rw [← e1.out]; have := mt (le_half m n e5).2 hlt; omega)
      have HL := Lib.hid hl; clear hl
      go_wp2
      go_ret
      refine ⟨ret_i64 ?_, rfl⟩
      rw [HL.out]; exact congrArg _ e1.out
theorem aft_small (k c : Nat) (h : ¬ tr k c + 1 = 2 ^ k) : aft k c = tr k (tr k c + 1) := by unfold aft; rw [if_neg h]
theorem turned_lit (k x : Nat) (a b : Int) (w : World) (hk : k ≤ 62) (hx : x < 2 ^ k) (ha : a = x) (hb : b = (2 ^ k : Nat)) :
    Calls Try.prog 231 #[.int .i64 a, .int .i64 b] w fun e w' => e = .returned (.int .i64 (tr k x : Nat)) ∧ w = w' := by
  subst ha hb; exact turned_any k x w hk hx
set_option maxHeartbeats 400000 in
theorem refAfter_any (c : UInt64) (b : Int) (w : World) (h0 : -9223372036854775808 ≤ b) (h1 : b ≤ 9223372036854775807) :
    Calls Try.prog 224 #[.int .u64 (wd c), .int .i64 b] w fun e w' => e = .returned (.int .u64 (aft (lg b) c.toNat : Nat)) ∧ w = w' := by
  have hl := lg_le b h1
  have hpow := power_any b w h0 h1
  obtain ⟨k, hk⟩ : ∃ k, lg b = k := ⟨_, rfl⟩
  rw [hk] at hl hpow ⊢
  obtain ⟨n, hn⟩ : ∃ n, n = 2 ^ k := ⟨_, rfl⟩
  have hp := Nat.two_pow_pos k
  have hle : n ≤ 4611686018427387904 := by rw [hn]; exact Nat.pow_le_pow_right (show 0 < 2 by decide) hl
  rw [← hn] at hp hpow
  have htl := tr_lt k c.toNat
  rw [← hn] at htl
  have hcm : c.toNat % n < 2 ^ k := by rw [← hn]; exact Nat.mod_lt _ hp
  have HCM := Lib.hid hcm; clear hcm
  have htm : tr k (c.toNat % n) = tr k c.toNat := by rw [hn]; exact tr_mod k _ k (Nat.le_refl _)
  have HTM := Lib.hid htm; clear htm
  have HN := Lib.hid hn; clear hn
  have HP := Lib.hid hpow; clear hpow
  clear hk
  go_enter Try.func224, Try.ntmps224
  go_wp2_with fail
  refine HP.out.mono ?_
  rintro e w' ⟨rfl, rfl⟩
  go_wp2_with fail
  refine (turned_lit k (c.toNat % n) _ _ w hl HCM.out ?_ (congrArg _ HN.out)).mono ?_
  · have e1 : (wd c).tmod (n : Int) = ((c.toNat % n : Nat) : Int) := by unfold wd; rfl
    have e2 : c.toNat % n < n := Nat.mod_lt _ hp
    rw [e1]
    unfold wrap64
    omega
  rintro e w' ⟨rfl, rfl⟩
  rw [HTM.out]
  by_cases hend : tr k c.toNat + 1 = n
  · have ha : aft k c.toNat = 0 := by unfold aft; rw [if_pos (by rw [← HN.out]; exact hend)]
    have HA := Lib.hid ha; clear ha
    have g : (((tr k c.toNat : Nat) : Int) + 1 == (n : Int)) = true := beq_iff_eq.2 (by omega)
    have HE := Lib.hid hend; clear hend
    go_wp2
    go_ret
    refine ⟨ret_u64 ?_, rfl⟩
    rw [HA.out]; rfl
  · have ha := aft_small k c.toNat (by rw [← HN.out]; exact hend)
    have hlt2 : tr k c.toNat + 1 < 2 ^ k := by rw [← HN.out]; omega
    have hr := tr_lt k (tr k c.toNat + 1)
    rw [← HN.out] at hr
    have HA := Lib.hid ha; clear ha
    have HL2 := Lib.hid hlt2; clear hlt2
    have g : (((tr k c.toNat : Nat) : Int) + 1 == (n : Int)) = false := beq_eq_false_iff_ne.2 (by omega)
    go_wp2_with fail
    refine (turned_lit k (tr k c.toNat + 1) _ _ w hl HL2.out (by go_num) (congrArg _ HN.out)).mono ?_
    rintro e w' ⟨rfl, rfl⟩
    go_wp2
    go_ret
    refine ⟨ret_u64 ?_, rfl⟩
    rw [HA.out]
end Go.Proofs.Ytgomilodeaafdaa
namespace Go.Proofs.Ytgomilodeaafdaa
open Go.RowKit

theorem Fr.thenDrew {S : Nat → Prop} {w w' : World} (h : Fr S w w') : Fr S w w'.drew := ⟨h.os, h.tape, h.output, h.size, h.block⟩
theorem Fr.thenDrewN {S : Nat → Prop} {w w' : World} (h : Fr S w w') (n : Nat) : Fr S w (w'.drewN n) := ⟨h.os, h.tape, h.output, h.size, h.block⟩
theorem Fr.thenSet {S : Nat → Prop} {w w' : World} (h : Fr S w w') (a : Addr) (v : Value) (ha : a.block < w.heap.size → S a.block) : Fr S w (w'.setCell a v) :=
  h.trans (Fr.setCell w' a v) (fun i hi hl => by subst hi; exact ha hl)
theorem Fr.thenAlloc {S : Nat → Prop} {w w' : World} (h : Fr S w w') (o : Obj) : Fr S w (w'.alloc o) :=
  h.trans (Fr.alloc (fun _ => False) w' o) (fun _ hi _ => False.elim hi)
theorem Fr.wide {S T : Nat → Prop} {a b c : World} (h : Fr S a b) (k : Fr T b c) (hT : ∀ i, T i → S i ∨ a.heap.size ≤ i) : Fr S a c :=
  h.trans k (fun i hi hl => (hT i hi).resolve_right (by omega))
abbrev Hl := List (Nat × Obj)
/-- each block of the list holds what the list says -/
def Rep (w : World) (L : Hl) : Prop := ∀ x ∈ L, w.heap[x.1]? = some x.2
/-- its blocks -/
def Bs (L : Hl) (k : Nat) : Prop := k ∈ L.map (·.1)

theorem Rep.nil (w : World) : Rep w [] := fun x h => by cases h
theorem Rep.cons {w : World} {b : Nat} {o : Obj} {L : Hl} (h : w.heap[b]? = some o) (hL : Rep w L) : Rep w ((b, o) :: L) := by
  intro x hx
  rcases List.mem_cons.1 hx with rfl | hx
  · exact h
  · exact hL x hx
theorem Rep.head {w : World} {b : Nat} {o : Obj} {L : Hl} (h : Rep w ((b, o) :: L)) : w.heap[b]? = some o := h (b, o) (by simp)
theorem Rep.tail {w : World} {x : Nat × Obj} {L : Hl} (h : Rep w (x :: L)) : Rep w L := fun y hy => h y (by simp [hy])
theorem Rep.append {w : World} {L M : Hl} (h : Rep w L) (k : Rep w M) : Rep w (L ++ M) := by
  intro x hx
  rcases List.mem_append.1 hx with hx | hx
  · exact h x hx
  · exact k x hx
theorem Rep.left {w : World} {L M : Hl} (h : Rep w (L ++ M)) : Rep w L := fun x hx => h x (by simp [hx])
theorem Rep.right {w : World} {L M : Hl} (h : Rep w (L ++ M)) : Rep w M := fun x hx => h x (by simp [hx])
theorem Rep.sub {w : World} {L M : Hl} (h : Rep w L) (hs : ∀ x ∈ M, x ∈ L) : Rep w M := fun x hx => h x (hs x hx)
theorem Rep.perm {w : World} {L M : Hl} (h : Rep w L) (hp : L.Perm M) : Rep w M := fun x hx => h x (hp.mem_iff.2 hx)
theorem Rep.lt {w : World} {L : Hl} (h : Rep w L) {k : Nat} (hk : Bs L k) : k < w.heap.size := by
  obtain ⟨x, hx, rfl⟩ := List.mem_map.1 hk
  exact (Array.getElem?_eq_some_iff.1 (h x hx)).1
theorem Rep.fr {w w' : World} {L : Hl} {S : Nat → Prop} (h : Rep w L) (hf : Fr S w w') (hd : ∀ k, Bs L k → ¬ S k) : Rep w' L := fun x hx =>
  (hf.block x.1 (h.lt (List.mem_map.2 ⟨x, hx, rfl⟩)) (hd _ (List.mem_map.2 ⟨x, hx, rfl⟩))).trans (h x hx)
theorem Rep.alloc {w : World} {L : Hl} (h : Rep w L) (o : Obj) : Rep (w.alloc o) L :=
  h.fr (Fr.alloc (fun _ => False) w o) (fun _ _ hk => hk)
theorem Rep.drew {w : World} {L : Hl} (h : Rep w L) : Rep w.drew L := h.fr (Fr.drew (fun _ => False) w) (fun _ _ hk => hk)
/-- a store into a block that is not listed -/
theorem Rep.setOther {w : World} {L : Hl} (h : Rep w L) (a : Addr) (v : Value) (hd : ¬ Bs L a.block) : Rep (w.setCell a v) L :=
  h.fr (Fr.setCell w a v) (fun k hk e => hd (e ▸ hk))
/-- a store into the first block of the list -/
theorem Rep.setHead {w : World} {b : Nat} {cs : Array Value} {t : TypeId} {L : Hl} (h : Rep w ((b, .cells cs t (0, 0)) :: L)) (i : Nat) (v : Value) (hd : ¬ Bs L b) :
    Rep (w.setCell ⟨b, i, none⟩ v) ((b, .cells (cs.setIfInBounds i v) t (0, 0)) :: L) :=
  Rep.cons (heap_setCell_same w b i cs t v h.head) (h.tail.setOther ⟨b, i, none⟩ v hd)
theorem cell_of_blk {w : World} {b : Nat} {cs : Array Value} {t : TypeId} (h : w.heap[b]? = some (.cells cs t (0, 0))) (i : Nat) : w.cell? ⟨b, i, none⟩ = cs[i]? := cell_of_row w b i cs t (0, 0) h
theorem free_of_blk {w : World} {b : Nat} {cs : Array Value} {t : TypeId} (h : w.heap[b]? = some (.cells cs t (0, 0))) (i : Nat) : w.frozen? ⟨b, i, none⟩ = false := frozen_of_row w b i cs t h

theorem Bs.cons_iff {b k : Nat} {o : Obj} {L : Hl} : Bs ((b, o) :: L) k ↔ k = b ∨ Bs L k := by simp [Bs]
theorem Bs.append_iff {k : Nat} {L M : Hl} : Bs (L ++ M) k ↔ Bs L k ∨ Bs M k := by simp only [Bs, List.map_append, List.mem_append]
theorem Bs.nil_iff {k : Nat} : Bs [] k ↔ False := by simp [Bs]
theorem Bs.perm {k : Nat} {L M : Hl} (hp : L.Perm M) : Bs L k ↔ Bs M k := (hp.map _).mem_iff
/-- no block twice -/
def Nd (L : Hl) : Prop := (L.map (·.1)).Nodup
theorem Nd.perm {L M : Hl} (h : Nd L) (hp : L.Perm M) : Nd M := (hp.map _).nodup_iff.1 h
theorem Nd.cons_iff {b : Nat} {o : Obj} {L : Hl} : Nd ((b, o) :: L) ↔ ¬ Bs L b ∧ Nd L := by simp [Nd, Bs]
theorem Nd.append_iff {L M : Hl} : Nd (L ++ M) ↔ Nd L ∧ Nd M ∧ ∀ k, Bs L k → ¬ Bs M k := by
  unfold Nd Bs
  rw [List.map_append, List.nodup_append]
  constructor
  · rintro ⟨h1, h2, h3⟩; exact ⟨h1, h2, fun k hk hk' => h3 k hk k hk' rfl⟩
  · rintro ⟨h1, h2, h3⟩; exact ⟨h1, h2, fun a ha b hb e => h3 a ha (e ▸ hb)⟩
end Go.Proofs.Ytgomilodeaafdaa
namespace Go.Proofs.Ytgomilodeaafdaa

theorem madeCells_one (v : Value) (n : Nat) : madeCells #[v] n = (List.replicate n v).toArray := by
  unfold madeCells
  apply Array.ext
  · simp
  · intro i h1 h2
    simp [Nat.mod_one]
theorem mk_any {P : Program} (t e : TypeId) (i : TypeInfo) (z : Value) (v : Value) (ht : P.underlying t = some (.slice e)) (hi : P.info? e = some i) (hz : i.zero = some z) (hv : z.cells = #[v]) (hs : i.size = 1) (hb : i.bytes = 8)
    (n : Nat) (hn : n ≤ 35184372088832) (w : World) :
    (Instr.makeSlice t (.int .i64 n) (.int .i64 n)).run P w = .ok (.slice (some ⟨w.heap.size, 0, none⟩) n n) (w.alloc (.cells (List.replicate n v).toArray e)) := by
  have h := run_make (P := P) w t e i z ht hi hz .i64 .i64 n n (by omega) (Int.le_refl _) (by rw [hb]; omega) (by omega)
  rw [h, hv, hs, Nat.mul_one, Int.toNat_natCast, madeCells_one]
end Go.Proofs.Ytgomilodeaafdaa
namespace Go.Proofs.Ytgomilodeaafdaa
open Go.ChangeShapes Go.WideShapes Go.ChangeAt Go.RowKit
noncomputable def laidWorld (os : Os) : World := World.holding Try.prog os ⟨#[], #[], []⟩
theorem bulk_pos {H : Type} (d : DataW H) : 1 ≤ Rows.uptoBulk d := by
  cases d with
  | lit l => cases l <;> simp [Rows.uptoBulk]
  | nil => simp [Rows.uptoBulk]
  | ptr d => simp [Rows.uptoBulk]
  | slice elems spare => simp [Rows.uptoBulk]
  | agg parts => simp [Rows.uptoBulk]
  | iface t d => simp [Rows.uptoBulk]
  | map entries => simp [Rows.uptoBulk]
  | held h => simp [Rows.uptoBulk]
theorem bulk_part {H : Type} {d : DataW H} {l : List (DataW H)} (h : d ∈ l) : Rows.uptoBulk d ≤ Rows.uptoBulkAll l := by
  induction l with
  | nil => cases h
  | cons x r ih =>
    simp only [Rows.uptoBulkAll]
    cases List.mem_cons.1 h with
    | inl e => subst e; omega
    | inr e => have := ih e; omega
theorem bulk_len {H : Type} (l : List (DataW H)) : l.length ≤ Rows.uptoBulkAll l := by
  induction l with
  | nil => simp [Rows.uptoBulkAll]
  | cons x r ih => have := bulk_pos x; simp only [Rows.uptoBulkAll, List.length_cons]; omega
section
variable {H : Type} {enc : TypeId × Value → H} {P : Program} {w : World} {base : Nat} {held : Bool} {r : Reach} {b0 : Nat} {t : TypeId} {v : Value} {d : DataW H} {p : List MemPlace}
/-- a slice opened, each element with its datum -/
theorem open_listQ {α : Type} {e : TypeId} {sz : Nat} (cs : α → List Value) (Q : α → DataW H → Prop) (hcs : ∀ x, (cs x).length = sz) (ht : P.underlying t = some (.slice e)) (hc : P.cellsOf e = sz)
    (hel : ∀ (n : Nat) (l : List Value) (y : DataW H × List MemPlace), DataW.trod enc P w base (fun _ => true) held n e l = some y → ∃ x, l = cs x ∧ Q x y.1)
    {fuel : Nat} {c : Value} (hf : DataW.trod enc P w base (fun _ => true) held fuel t [c] = some (d, p)) :
    ∃ l : List α, RdC w sz c l.length (l.flatMap cs) ∧ l.length ≤ Rows.uptoBulk d ∧ ∀ x ∈ l, ∃ d', Q x d' ∧ Rows.uptoBulk d' ≤ Rows.uptoBulk d := by
  rcases Go.Deep.open_slice ht hf with ⟨hcs0, hx⟩ | ⟨a', len', cap', m, n, D, Pl, hcs1, hb, hl, hm, hmm, hx, hi⟩
  · cases List.singleton_inj.1 hcs0
    exact ⟨[], RdC.nil w sz, Nat.zero_le _, fun x hx => by cases hx⟩
  · cases List.singleton_inj.1 hcs1
    simp only [if_true] at hmm
    subst hmm
    have hd : d = .slice ((List.range len').map D) ((List.range (m - len')).map fun j => D (len' + j)) := (Prod.mk.injEq .. ▸ hx).1
    have hbk : Rows.uptoBulk d = Rows.uptoBulkAll ((List.range len').map D) + Rows.uptoBulkAll ((List.range (m - len')).map fun j => D (len' + j)) + 1 := by rw [hd]; simp only [Rows.uptoBulk]
    have hall : ∀ k, k ≤ len' → ∃ l : List α, l.length = k ∧ (∀ j u, (l.flatMap cs)[j]? = some u → w.cell? (a'.add j) = some u) ∧ ∀ x ∈ l, ∃ i, i < len' ∧ Q x (D i) := by
      intro k
      induction k with
      | zero => intro _; exact ⟨[], rfl, fun j u hu => by simp at hu, fun x hx => by cases hx⟩
      | succ k ih =>
        intro hk
        obtain ⟨l, hll, hlc, hlq⟩ := ih (by omega)
        obtain ⟨c', hc1, hc2⟩ := hi k (by omega)
        obtain ⟨x, rfl, hq⟩ := hel n c' _ hc2
        obtain ⟨_, hcl, hat⟩ := World.cells?_some hc1
        refine ⟨l ++ [x], by simp [hll], fun j u hu => ?_, fun y hy => ?_⟩
        · have hlen : (l.flatMap cs).length = k * sz := by
            rw [List.length_flatMap]
            have : l.map (fun x => (cs x).length) = l.map (fun _ => sz) := List.map_congr_left (fun x _ => hcs x)
            rw [this, List.map_const', List.sum_replicate_nat, hll]
          rw [List.flatMap_append, List.flatMap_singleton, List.getElem?_append] at hu
          split at hu
          · exact hlc j u hu
          · rename_i hge
            have hj : j - k * sz < sz := by
              have := (List.getElem?_eq_some_iff.1 hu).1
              rw [hcs, hlen] at this; exact this
            have h2 := hat (j - k * sz) (by rw [hc]; exact hj)
            rw [hlen] at hu hge
            rw [hc, Go.Deep.add_add, show k * sz + (j - k * sz) = j by omega] at h2
            exact h2.trans hu
        · rcases List.mem_append.1 hy with hy | hy
          · exact hlq y hy
          · rw [List.mem_singleton.1 hy]; exact ⟨k, by omega, hq⟩
    obtain ⟨l, hll, hlc, hlq⟩ := hall len' (Nat.le_refl _)
    subst hll
    refine ⟨l, ⟨?_, some a', m, rfl, hl, hm, (fun e => by cases e), fun ad had => by cases had; exact hlc⟩, ?_, fun x hx => ?_⟩
    · rw [List.length_flatMap]
      have : l.map (fun x => (cs x).length) = l.map (fun _ => sz) := List.map_congr_left (fun x _ => hcs x)
      rw [this, List.map_const', List.sum_replicate_nat]
    · have := bulk_len ((List.range l.length).map D)
      rw [List.length_map, List.length_range] at this
      omega
    · obtain ⟨i, hi, hq⟩ := hlq x hx
      refine ⟨D i, hq, ?_⟩
      have := bulk_part (List.mem_map_of_mem (f := D) (List.mem_range.2 hi))
      omega
end
section
variable {H : Type} {enc : TypeId × Value → H} {P : Program} {w : World} {base : Nat} {held : Bool} {r : Reach} {b0 N : Nat} {t : TypeId} {v : Value} {d : DataW H} {p : List MemPlace} {spare : Nat → Bool}
theorem open_listB {α : Type} {e : TypeId} {sz : Nat} (cs : α → List Value) (hcs : ∀ x, (cs x).length = sz) (ht : P.underlying t = some (.slice e)) (hc : P.cellsOf e = sz)
    (hel : ∀ (n : Nat) (l : List Value) (y : DataW H × List MemPlace), DataW.trod enc P w base (fun _ => true) held n e l = some y → ∃ x, l = cs x)
    (hv : Value.okWide P w r b0 t v) (h : DataW.Trod enc P w base (fun _ => true) held t v d p) (hb : Rows.uptoBulk d ≤ N) : ∃ l : List α, RdC w sz v l.length (l.flatMap cs) ∧ l.length ≤ N := by
  obtain ⟨a, len, cap, rfl⟩ := okWide_slice ht hv
  obtain ⟨fuel, hf⟩ := h
  obtain ⟨l, h1, h2, _⟩ := open_listQ cs (fun _ _ => True) hcs ht hc (fun n l y h => by obtain ⟨x, hx⟩ := hel n l y h; exact ⟨x, hx, trivial⟩) (c := .slice a len cap) (d := d) (p := p) hf
  exact ⟨l, h1, Nat.le_trans h2 hb⟩
theorem open_strB (ht : P.underlying t = some .string) (hv : Value.okWide P w r b0 t v) (h : DataW.Trod enc P w base spare held t v d p)
    (hb : Rows.uptoBulk d ≤ N) : ∃ s, v = .string s ∧ s.size ≤ N := by
  obtain ⟨s, rfl, rfl, _, hs⟩ := Go.ChangeMaps.open_string ht hv h
  refine ⟨s, rfl, ?_⟩
  simp only [Rows.uptoBulk] at hb
  have e : s.data.toList.length = s.size := by simp
  omega
end
end Go.Proofs.Ytgomilodeaafdaa
namespace Go.Proofs.Ytgomilodeaafdaa
open Go.RowKit
variable {F : Fence} {n : Nat} {P : Program} {α : Type}
/-- blocks for deferred calls from n0 on stay as they were -/
def Late (n0 : Nat) (A B : World) : Prop := ∀ k ds, n0 ≤ k → A.heap[k]? = some (.deferred ds) → B.heap[k]? = some (.deferred ds)
/-- an iterator's contract: V says what may have come, this round's element with it -/
def SeqV (F : Fence) (n : Nat) (P : Program) (g : Nat) (lb : Array Value) (encs : α → Array Value) (Kp : World → World → Prop) (V S Sp : List α → Prop) (w : World) : Prop :=
  ∀ (l : Nat) (J Jx : List α → World → Prop) (W : World), Below w.heap.size w W → OwnFrom W.heap.size J → OwnFrom W.heap.size Jx →
    (∀ pre x W1, J pre W1 → V (pre ++ [x]) → YieldAt F (n - 1) P l (encs x) W1 fun e W' => (e = .returned (.bool true) ∧ J (pre ++ [x]) W' ∧ Kp W1 W') ∨ (e = .returned (.bool false) ∧ Jx (pre ++ [x]) W' ∧ Late 0 W1 W')) →
    J [] W → CallsIn F n P g (#[.func (.yield l) #[] #[]] ++ lb) W fun e W' => (∃ v, e = .returned v) ∧ ((∃ xs, S xs ∧ J xs W') ∨ (∃ pre, Sp pre ∧ Jx pre W'))
/-- the loop's record, ready or over -/
def recOf (fn : FuncId) (tmps : Array Value) (ps : Array Tmp) (assign body : Code) (D : Nat) (st : LoopState) (pe : Option Code) : Loop := { state := st, pending := pe, fn, tmps, params := ps, assign, body, defers := D }
/-- the two blocks of the loop's own -/
structure Rec (fn : FuncId) (tmps : Array Value) (ps : Array Tmp) (assign body : Code) (D : Nat) (st : LoopState) (pe : Option Code) (W : World) : Prop where
  loop : W.heap[D + 1]? = some (.loop (recOf fn tmps ps assign body D st pe))
  late : W.heap[D]? = some (.deferred (some []))
section
variable {fn : FuncId} {tmps : Array Value} {ps : Array Tmp} {assign body : Code} {D : Nat} {st : LoopState} {pe : Option Code} {W W' : World}
theorem Rec.lt (h : Rec fn tmps ps assign body D st pe W) : D + 1 < W.heap.size := (Array.getElem?_eq_some_iff.1 h.loop).1
theorem Rec.put (h : Rec fn tmps ps assign body D st pe W) (st' : LoopState) (pe' : Option Code) : Rec fn tmps ps assign body D st' pe' (W.putObj (D + 1) (.loop (recOf fn tmps ps assign body D st' pe'))) :=
  ⟨World.putObj_heap_same h.lt, (World.putObj_heap_other (by omega)).trans h.late⟩
theorem Rec.others (h : Rec fn tmps ps assign body D st pe W) (hk : KeepsOthers W W') : Rec fn tmps ps assign body D st pe W' := ⟨hk.same _ _ h.loop rfl, hk.same _ _ h.late rfl⟩
theorem Rec.beyond {row : Option Nat} (h : Rec fn tmps ps assign body D st pe W) (hg : W.grownBy W' row) (hr : ∀ r, row = some r → D + 1 < r) : Rec fn tmps ps assign body D st pe W' :=
  ⟨(hg.block _ h.lt (fun e => by have := hr _ e.symm; omega)).trans h.loop, (hg.block _ (by have := h.lt; omega) (fun e => by have := hr _ e.symm; omega)).trans h.late⟩
end
theorem wpIn_rangeV {g : Operand} {ps : Array Tmp} {assign body : Code} {Q : Exit → Act → World → Prop} {a : Act} {w : World}
    (hro : F.round = none) (h1 : 1 ≤ n) {gf : Nat} {lb : Array Value} (hg : a.eval g = .func (.func gf) #[] lb) (hFg : F.fn gf) (eg : ∀ args w, (callFunc gf args).run P w = .ok (.enter gf args) w)
    {encs : α → Array Value} {Kp : World → World → Prop} {V S Sp : List α → Prop} {w0 : World} (hseq : SeqV F (n - 1) P gf lb encs Kp V S Sp w0)
    (hKt : ∀ A B C : World, Kp A B → Kp B C → Kp A C) (hKb : ∀ (W : World) (l : Nat) (r r' : Loop), w.heap.size ≤ l → W.heap[l]? = some (.loop r) → Kp W (W.putObj l (.loop r'))) (hb0 : Below w0.heap.size w0 w) (hps : ∀ x, (encs x).size = ps.size)
    (I : List α → World → Prop) (Ix : Code → List α → World → Prop) (hI : OwnFrom w.heap.size I) (hIx : ∀ c, OwnFrom w.heap.size (Ix c)) (h0 : I [] w) (a₁ : α → Act)
    (hassign : ∀ (l : Nat) (x : α) (W : World) (K : Act → World → Prop), K (a₁ x) W →
      assign.wpIn (F.inRound l) (n - 1 - 1) P (Exit.then K (fun _ _ _ => False)) { tmps := (ps.zip (encs x)).foldl (fun t (p, v) => t.setIfInBounds p v) a.tmps, defers := [] } W)
    (hbody : ∀ (l : Nat) (pre : List α) (x : α) (W : World), I pre W → V (pre ++ [x]) → body.wpIn (F.inRound l) (n - 1 - 1) P (ownPostK Kp I Ix (pre ++ [x]) W) (a₁ x) W)
    (hdone : ∀ (D : Nat) (xs : List α) (W : World), w.heap.size ≤ D → S xs → I xs W → W.heap[D]? = some (.deferred (some [])) → Q .normal { a with defers := { target := .collected D, args := #[] } :: a.defers } W)
    (hstop : ∀ (D : Nat) (c : Code) (pre : List α) (W : World), w.heap.size ≤ D → Sp pre → Ix c pre W → W.heap[D]? = some (.deferred (some [])) → c.wpIn F n P Q { a with defers := { target := .collected D, args := #[] } :: a.defers } W) :
    (Code.rangeFunc g ps assign body).wpIn F n P Q a w := by
  refine wpIn_rangeFunc fun fn hfn => ?_
  rw [hro]
  obtain ⟨D, hD⟩ : ∃ D, w.heap.size = D := ⟨_, rfl⟩
  obtain ⟨W1, hW1⟩ : ∃ W1, (w.alloc (.deferred (some []))).alloc (.loop (recOf fn a.tmps ps assign body D .ready none)) = W1 := ⟨_, rfl⟩
  have hR1 : Rec fn a.tmps ps assign body D .ready none W1 := by
    rw [← hW1, ← hD]
    refine ⟨?_, (Below.heap_alloc _ _ _ (by simp)).trans (World.alloc_heap_new w _)⟩
    have := World.alloc_heap_new (w.alloc (.deferred (some []))) (.loop (recOf fn a.tmps ps assign body w.heap.size .ready none))
    rwa [World.size_alloc] at this
  have hI1 : I [] W1 := by rw [← hW1]; exact hI.alloc _ (hI.alloc _ h0)
  have hb1 : Below w0.heap.size w0 W1 := by rw [← hW1]; exact hb0.trans ((((Below.refl _ w).alloc (Nat.le_refl _) _).alloc (by simp) _).mono hb0.size)
  have hs1 : D ≤ W1.heap.size := by have := hR1.lt; omega
  refine ⟨D + 1, [{ target := .collected D, args := #[] }], W1, { target := .fn (.func gf) lb, args := #[.func (.yield (D + 1)) #[] #[]] }, W1, gf, #[.func (.yield (D + 1)) #[] #[]] ++ lb, W1, ?_, ?_, ?_, ?_, fun _ => h1, ?_⟩
  · rw [← hW1, ← hD]; exact run_enterLoop_outer _ _ _ _ _
  · simp only [resolve, hg]
    simp [go_sem]
  · intro f' hf'; simp [Target.leads] at hf'; subst hf'; exact hFg
  · simp [invoke, go_sem, eg]
  have hs2 : D + 1 < W1.heap.size := hR1.lt
  have loose : ∀ {A : World} {row : Option Nat}, (∀ r, row = some r → W1.heap.size ≤ r ∧ ∃ o : Obj, A.heap[r]? = some o ∧ o.isCells = false) → ∀ r, row = some r → w.heap.size ≤ r ∧ ∃ o : Obj, A.heap[r]? = some o ∧ o.isCells = false := by
    intro A row hr r e
    obtain ⟨hB, o, ho, hw⟩ := hr r e
    exact ⟨by omega, o, ho, hw⟩
  refine (hseq (D + 1) (fun pre W => I pre W ∧ Rec fn a.tmps ps assign body D .ready none W) (fun pre W => ∃ c, Ix c pre W ∧ Rec fn a.tmps ps assign body D .done (some c) W) W1 hb1
    (fun s A B row hs hg' hr => ⟨hI s A B row hs.1 hg' (loose hr), hs.2.beyond hg' fun r e => Nat.lt_of_lt_of_le hs2 (hr r e).1⟩)
    (fun s A B row ⟨c, hc, hl⟩ hg' hr => ⟨c, hIx c s A B row hc hg' (loose hr), hl.beyond hg' fun r e => Nat.lt_of_lt_of_le hs2 (hr r e).1⟩) ?_ ⟨hI1, hR1⟩).mono ?_
  · rintro pre x W ⟨hi, hl⟩ hv
    have hy := run_yield (P := P) (args := encs x) hl.loop (hps x)
    refine ⟨fn, _, assign, body, hy, roundIn_of_wpIn hfn (hassign _ x W _ ⟨_, run_beginRound hl.loop rfl, ?_⟩)⟩
    have hl2 := hl.put .busy none
    have hi2 := hI.putObj (.loop (recOf fn a.tmps ps assign body D .busy none)) hi (by omega) hl.loop rfl
    have hk2 : Kp W (W.putObj (D + 1) (.loop (recOf fn a.tmps ps assign body D .busy none))) := hKb _ _ _ _ (by omega) hl.loop
    refine wpIn_mono (hbody _ pre x _ hi2 hv) ?_
    have leave : ∀ (c : Code) (W3 : World), KeepsOthers (W.putObj (D + 1) (.loop (recOf fn a.tmps ps assign body D .busy none))) W3 → Ix c (pre ++ [x]) W3 →
        ∃ v W4, (Instr.endRound (D + 1) (some c)).run P W3 = .ok v W4 ∧ ((Ending.returned v = .returned (.bool true) ∧ (I (pre ++ [x]) W4 ∧ Rec fn a.tmps ps assign body D .ready none W4) ∧ Kp W W4) ∨ (Ending.returned v = .returned (.bool false) ∧ (∃ c, Ix c (pre ++ [x]) W4 ∧ Rec fn a.tmps ps assign body D .done (some c) W4) ∧ Late 0 W W4)) := by
      intro c W3 hk3 hx
      have hl3 := hl2.others hk3
      have late : ∀ (A : World) (r r' : Loop), A.heap[D + 1]? = some (.loop r) → Late 0 A (A.putObj (D + 1) (.loop r')) := by
        intro A r r' h k ds _ hk
        by_cases e : k = D + 1
        · subst e; rw [h] at hk; cases hk
        · exact (World.putObj_heap_other e).trans hk
      exact ⟨_, _, run_endRound (P := P) (some c) hl3.loop, .inr ⟨rfl, ⟨c, (hIx c).putObj _ hx (by omega) hl3.loop rfl, hl3.put .done (some c)⟩, fun k ds h0 hk => late _ _ _ hl3.loop k ds h0 (hk3.same k _ (late _ _ _ hl.loop k ds h0 hk) rfl)⟩⟩
    rintro e a3 W3 hp
    cases e with
    | normal =>
      obtain ⟨hk3, hkp3, hi3⟩ := hp
      have hl3 := hl2.others hk3
      exact ⟨_, _, run_endRound (P := P) none hl3.loop, .inl ⟨rfl, ⟨hI.putObj _ hi3 (by omega) hl3.loop rfl, hl3.put .ready none⟩, hKt _ _ _ (hKt _ _ _ hk2 hkp3) (hKb _ _ _ _ (by omega) hl3.loop)⟩⟩
    | ret => exact leave _ W3 hp.1 hp.2
    | exit id => exact leave _ W3 hp.1 hp.2
    | goto t => exact leave _ W3 hp.1 hp.2
    | panic ch => exact hp.elim
    | outgrown => exact hp.elim
  · rintro e W2 ⟨⟨v, rfl⟩, (⟨xs, hS, hi, hl⟩ | ⟨pre, hSp, c, hi, hl⟩)⟩
    · exact ⟨none, _, run_endLoop (P := P) hl.loop (by simp [recOf]), hdone D xs _ (by omega) hS (hI.putObj _ hi (by omega) hl.loop rfl) (hl.put .exhausted none).late⟩
    · exact ⟨some c, _, run_endLoop (P := P) hl.loop (by simp [recOf]), hstop D c pre _ (by omega) hSp ((hIx c).putObj _ hi (by omega) hl.loop rfl) (hl.put .exhausted (some c)).late⟩
end Go.Proofs.Ytgomilodeaafdaa
namespace Go.Proofs.Ytgomilodeaafdaa
open Go.RowKit
/-- a block of such elements -/
def BT (e : TypeId) (w : World) (g : Nat) : Prop := ∃ cs, w.heap[g]? = some (.cells cs e (0, 0))
theorem BT.lt {e : TypeId} {w : World} {g : Nat} (h : BT e w g) : g < w.heap.size := by obtain ⟨cs, h⟩ := h; exact (Array.getElem?_eq_some_iff.1 h).1
theorem BT.ne {e e' : TypeId} {w : World} {g k : Nat} (h : BT e w g) (h' : BT e' w k) (hne : e ≠ e') : g ≠ k := by
  rintro rfl
  obtain ⟨cs, h⟩ := h
  obtain ⟨cs', h'⟩ := h'
  rw [h] at h'
  simp only [Option.some.injEq, Obj.cells.injEq] at h'
  exact hne h'.2.1
theorem BT.fr {e : TypeId} {w w' : World} {T : Nat → Prop} {g : Nat} (h : BT e w g) (hf : Fr T w w') (hT : ¬ T g) : BT e w' g := by
  have hlt := h.lt
  obtain ⟨cs, h⟩ := h
  exact ⟨cs, (hf.block g hlt hT).trans h⟩
theorem BT.set {e : TypeId} {w : World} {g : Nat} (h : BT e w g) (b i : Nat) (v : Value) : BT e (w.setCell ⟨b, i, none⟩ v) g := by
  by_cases hg : g = b
  · obtain ⟨cs, h⟩ := h
    subst hg
    exact ⟨_, heap_setCell_same w g i _ _ v h⟩
  · exact h.fr (Fr.setCell w _ v) (fun e => hg e)
theorem own_blk {w : World} {B : Nat} {e : TypeId} {size : Nat} {v : Value} {n : Nat} {xs : List Value} (h : w.ownsRow B e size v n xs) {g : Nat} (hg : v.ownBlock = some g) : B ≤ g ∧ g < w.heap.size ∧ BT e w g := by
  rcases h.2 with ⟨rfl, _⟩ | ⟨g', cap, cur, rfl, hb, hg', _⟩
  · cases hg
  · cases hg
    exact ⟨hb, (Array.getElem?_eq_some_iff.1 hg').1, cur, hg'⟩
theorem own_unique {w : World} {B B' : Nat} {e : TypeId} {s : Nat} {v : Value} {n n' : Nat} {xs ys : List Value} (h : w.ownsRow B e s v n xs) (h' : w.ownsRow B' e s v n' ys) : n = n' ∧ xs = ys := by
  rcases h.2 with ⟨rfl, rfl⟩ | ⟨g, cap, cur, rfl, hb, hg, hnc, hcm, hcs, htake⟩
  · rcases h'.2 with ⟨_, rfl⟩ | ⟨g', cap', cur', he, _⟩
    · have h1 := h.1
      have h2 := h'.1
      simp only [Nat.zero_mul, List.length_eq_zero_iff] at h1 h2
      exact ⟨rfl, h1.trans h2.symm⟩
    · cases he
  · rcases h'.2 with ⟨he, _⟩ | ⟨g', cap', cur', he, hb', hg', _, _, _, htake'⟩
    · cases he
    · cases he
      rw [hg] at hg'
      simp only [Option.some.injEq, Obj.cells.injEq] at hg'
      exact ⟨rfl, by rw [← htake, ← htake', hg'.1]⟩
theorem ow_fr {w w' : World} {B : Nat} {e : TypeId} {size : Nat} {v : Value} {n : Nat} {xs : List Value} (h : w.ownsRow B e size v n xs) {S : Nat → Prop} (hf : Fr S w w') (hd : ∀ g, v.ownBlock = some g → ¬ S g) : w'.ownsRow B e size v n xs := by
  rcases h with ⟨h1, h2 | ⟨g, cap, cur, rfl, hb, hg, hnc, hcm, hcs, htake⟩⟩
  · exact ⟨h1, .inl h2⟩
  · exact ⟨h1, .inr ⟨g, cap, cur, rfl, hb, (hf.block g (Array.getElem?_eq_some_iff.1 hg).1 (hd g rfl)).trans hg, hnc, hcm, hcs, htake⟩⟩
theorem ow_base {w : World} {B B' : Nat} {e : TypeId} {size : Nat} {v : Value} {n : Nat} {xs : List Value} (h : w.ownsRow B e size v n xs) (hb : B' ≤ B) : w.ownsRow B' e size v n xs := by
  rcases h with ⟨h1, h2 | ⟨g, cap, cur, rfl, hb', hr⟩⟩
  · exact ⟨h1, .inl h2⟩
  · exact ⟨h1, .inr ⟨g, cap, cur, rfl, Nat.le_trans hb hb', hr⟩⟩
theorem ow_sliceN {w : World} {base : Nat} {e : TypeId} {sz : Nat} {v : Value} {n : Nat} {xs : List Value} (h : w.ownsRow base e sz v n xs) : ∃ a cap, v = .slice a n cap := by
  rcases h.2 with ⟨rfl, rfl⟩ | ⟨g, cap, cur, rfl, _⟩
  · exact ⟨_, _, rfl⟩
  · exact ⟨_, _, rfl⟩
/-- the blocks of before, and new ones -/
def Grew (F : Nat → Prop) (w w' : World) (k : Nat) : Prop := F k ∨ w.heap.size ≤ k ∧ k < w'.heap.size
theorem rd_sliceN {w : World} {sz : Nat} {v : Value} {n : Nat} {xs : List Value} (h : RdC w sz v n xs) : ∃ a cap, v = .slice a n cap := by
  obtain ⟨_, a, cap, rfl, _⟩ := h
  exact ⟨a, cap, rfl⟩
theorem rd_take {w : World} {sz : Nat} {a : Option Addr} {n c : Nat} {xs : List Value} (h : RdC w sz (.slice a n c) n xs) (k : Nat) (hk : k ≤ n) : RdC w sz (.slice a k c) k (xs.take (k * sz)) := by
  obtain ⟨h1, a', c', e, h2, h3, h4, h5⟩ := h
  cases e
  refine ⟨?_, a, c, rfl, Nat.le_trans hk h2, h3, fun ha => ⟨?_, (h4 ha).2⟩, fun ad ha j u hu => h5 ad ha j u ?_⟩
  · rw [List.length_take, h1]; exact Nat.min_eq_left (Nat.mul_le_mul_right _ hk)
  · have := (h4 ha).1; omega
  · rw [List.getElem?_take] at hu
    split at hu
    · exact hu
    · cases hu
theorem alloc_new (w : World) (o : Obj) : (w.alloc o).heap[w.heap.size]? = some o := by
  unfold World.alloc
  exact Array.getElem?_push_size
theorem alloc_old {w : World} {g : Nat} {o o' : Obj} (h : w.heap[g]? = some o) : (w.alloc o').heap[g]? = some o := (Below.heap_alloc w o' g (Array.getElem?_eq_some_iff.1 h).1).trans h
/-- rows of one-cell elements -/
theorem row_cells {w : World} {g off n cap : Nat} {xs : List Value} (h : RdC w 1 (.slice (some ⟨g, off, none⟩) n cap) n xs) (k : Nat) (u : Value) (hu : xs[k]? = some u) : w.cell? ⟨g, off + k, none⟩ = some u := by
  obtain ⟨h1, a', c', e, h2, h3, h4, h5⟩ := h
  cases e
  have h := h5 _ rfl k u hu
  rwa [Addr.add_lit] at h
theorem strs1 (l : List ByteArray) : ∀ u ∈ l.map Value.string, u.oneCell' = true := by
  intro u hu; obtain ⟨x, _, rfl⟩ := List.mem_map.1 hu; rfl
end Go.Proofs.Ytgomilodeaafdaa
namespace Go.Proofs.Ytgomilodeaafdaa
open Go.RowKit
section
variable {P : Program} {w : World}
theorem run_append0 (base : Nat) (t ty e : TypeId) (i : TypeInfo) (z : Value) (ht : P.underlying t = some (.slice e)) (hi : P.info? e = some i) (hz : i.zero = some z)
    (hsize : i.size = 0) (hby : i.bytes = 0) (hzs : z.cells.size = 0) (v : Value) (n : Nat) (hown : w.ownsRow base e 0 v n [])
    (a : Addr) (m c : Nat) (hm : 0 < m) (h63 : n + m ≤ maxLen) (hbase : base ≤ w.heap.size) :
    ∃ v' w', (Builtin.append_ #[t, t] ty #[v, .slice (some a) m c]).run P w = .ok v' w' ∧ w'.ownsRow base e 0 v' (n + m) [] ∧ w.grownBy w' v.ownBlock ∧ (v'.ownBlock = v.ownBlock ∨ v'.ownBlock = some w.heap.size) := by
  have hsmall : n + m ≤ 9223372036854775807 := by simp only [maxLen] at h63; omega
  have fresh : ∀ (old : Nat) (row : Option Nat), (w.drew.alloc (.cells ((#[] : Array Value) ++ Builtin.zeroCells z.cells (grownCap w (n + m) old e - (n + m))) e)).ownsRow base e 0 (.slice (some ⟨w.heap.size, 0, none⟩) (n + m) (grownCap w (n + m) old e)) (n + m) [] ∧
      w.grownBy (w.drew.alloc (.cells ((#[] : Array Value) ++ Builtin.zeroCells z.cells (grownCap w (n + m) old e - (n + m))) e)) row := fun old row =>
    ⟨⟨by simp, .inr ⟨w.heap.size, _, _, rfl, hbase, heap_alloc_new w.drew _, grownCap_ge w _ old e, grownCap_le_maxLen w _ old e h63, by simp [size_zeroCells, hzs], by simp⟩⟩, ⟨rfl, rfl, rfl, by simp, fun k hk _ => (Below.heap_alloc w.drew _ k hk)⟩⟩
  rcases hown.2 with ⟨rfl, rfl⟩ | ⟨g, cap, cur, rfl, hbg, hg, hnc, hcm, hcs, htake⟩
  · have hr := run_append_nil (P := P) w t ty e i z ht hi hz a m c [] (by rw [hsize]; simp) (fun j u h => by simp at h) hm (by omega) (by rw [hby]; omega)
    have hf := fresh 0 (Value.ownBlock (.slice none 0 0))
    simp only [Nat.zero_add] at hf ⊢
    exact ⟨_, _, hr, hf.1, hf.2, .inr rfl⟩
  · by_cases hroom : n + m ≤ cap
    · have hr := run_append_room (P := P) w t ty e i ht hi g n cap cur hg a m c [] (by rw [hsize]; simp) (fun j u h => by simp at h) (fun u h => by cases h) hroom (by rw [hsize]; simp)
      refine ⟨_, _, hr, ⟨by simp, .inr ⟨g, cap, _, rfl, hbg, setRow_heap w g cur _ e _ hg, hroom, hcm, ?_, by simp⟩⟩, ⟨rfl, rfl, rfl, by simp, fun k _ hk => setRow_other w g k _ (fun e => hk (by simp [Value.ownBlock, e]))⟩, .inl rfl⟩
      simp [hsize, hcs]
    · have hr := run_append_grow (P := P) w t ty e i z ht hi hz ⟨g, 0, none⟩ n cap [] (by rw [hsize]; simp) (fun j u h => by simp at h) a m c [] (by rw [hsize]; simp) (fun j u h => by simp at h) (by omega) (by omega) (by rw [hby]; simp)
      have hf := fresh cap (Value.ownBlock (.slice (some ⟨g, 0, none⟩) n cap))
      have e0 : (([] : List Value).toArray ++ ([] : List Value).toArray) = #[] := rfl
      rw [e0] at hr
      exact ⟨_, _, hr, hf.1, hf.2, .inr rfl⟩
end
theorem step_append_in0 {F : Fence} {n : Nat} {P : Program} {ops : Array Oper} {o : Oper} {a : Act} {w : World} {K : Act → World → Prop} {Q : Exit → Act → World → Prop} {E : Prop} (hgd : o.guard = none) (s x : Operand) (t : TypeId)
    (ho : o.op = .call { callee := .builtin .append, args := #[s, x], argTypes := #[t, t] })
    (base : Nat) (e : TypeId) (i : TypeInfo) (z : Value) (ht : P.underlying t = some (.slice e)) (hi : P.info? e = some i) (hz : i.zero = some z)
    (hsize : i.size = 0) (hby : i.bytes = 0) (hzs : z.cells.size = 0)
    (v : Value) (k : Nat) (hs : a.eval s = v)
    (ad : Addr) (m c : Nat) (hx : a.eval x = .slice (some ad) m c) (hm : 0 < m)
    (h63 : k + m ≤ maxLen)
    (hown : w.ownsRow base e 0 v k []) (hbase : base ≤ w.heap.size)
    (h : ∀ v' w', w'.ownsRow base e 0 v' (k + m) [] → w.grownBy w' v.ownBlock → (v'.ownBlock = v.ownBlock ∨ v'.ownBlock = some w.heap.size) → K (a.put o.dst v') w') :
    if Region.wanted o (yielded ops a.tmps) = true then Oper.wpIn F n P o a w K Q else E := by
  have hw : Region.wanted o (yielded ops a.tmps) = true := by simp [Region.wanted, hgd]
  rw [if_pos hw]
  obtain ⟨v', w', hr, h2, h3, h5⟩ := run_append0 (P := P) (w := w) base t o.type e i z ht hi hz hsize hby hzs v k hown ad m c hm h63 hbase
  unfold Oper.wpIn
  refine ⟨by simp [Oper.about, ho, resolve, Target.leads, Sem.run_pure], ?_⟩
  rw [Oper.semAt_plain F _ _ (by rw [ho]; intro c hc'; cases hc')]
  simp [execOp, ho, resolve, invoke, builtin, hs, hx, hr, Result.andThen]
  exact h v' w' h2 h3 h5
end Go.Proofs.Ytgomilodeaafdaa
namespace Go.Proofs.Ytgomilodeaafdaa
open Go.RowKit
/-- 'wpAnyH_take', the slot written out -/
theorem takeH {P : Program} {md : Region.Mode} {ops : Array Oper} {Q : Exit → Act → World → Prop} {S : World → Prop} {i d : Nat} {oi : Oper} {v : Value} {fuel : Nat} {listed : Array Bool} {a : Act} {w : World} (hi : ops[i]? = some oi) (hd : (ops[i]?).map (fun o => o.dst) = some (some d))
    (hs : Region.noSelect ops = true) (hf : Region.free md ops listed i = true) (hr : (Region.ready md ops listed).contains i = true)
    (hQ : ∀ c a w, Q (.panic c) (a.put (some d) v) w → Q (.panic c) a w) (hy : YieldsIf P ops S oi v a) (hS : S w)
    (h : wpAnyH P md ops Q S fuel (listed.setIfInBounds i true) (a.put (some d) v) w) : wpAnyH P md ops Q S (fuel + 1) listed a w := by
  have e : oi.dst = some d := by rw [hi] at hd; simpa using hd
  exact wpAnyH_take hi hs hf hr (by rw [e]; exact hQ) hy hS (by rw [e]; exact h)
end Go.Proofs.Ytgomilodeaafdaa
