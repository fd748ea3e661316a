/- DrawApart: another seed, another hash; another byte, another hash. No condition. -/
import Derived.Test.YthiamkfghnopgaaDrawWakes
import Derived.Test.YthiamkfghnopgaaWrap
namespace Go.Proofs.Ythiamkfghnopgaa
open Go.RowKit

theorem xor_ne (x c : UInt8) (h : c ≠ 0) : x ^^^ c ≠ x := by
  intro e
  have := congrArg (x ^^^ ·) e
  simp [← UInt8.xor_assoc] at this
  exact h this
theorem set_bytes (l : List UInt8) (k : Nat) (b : UInt8) : (l.map u8).set k (u8 b) = (l.set k b).map u8 := by rw [List.map_set]
theorem u8_xor_val (x c : UInt8) : Value.int .u8 (bits .xor .u8 (x.toNat : Int) (c.toNat : Int)) = u8 (x ^^^ c) := by
  rw [u8_xor_nat _ _ x.toNat_lt c.toNat_lt, u8, UInt8.toNat_xor]

theorem apart_idx (at_ : Int) (n : Nat) (hn : 0 < n) : ∃ k : Nat, k < n ∧ ((at_.tmod (n : Int) = k) ∨ (at_.tmod (n : Int) = (k : Int) - n)) := by
  have h1 := Int.tmod_lt_of_pos at_ (b := (n : Int)) (by omega)
  have h2 : -(n : Int) < at_.tmod (n : Int) := by
    have := Int.lt_tmod_of_pos at_ (b := (n : Int)) (by omega)
    omega
  by_cases h : 0 ≤ at_.tmod (n : Int)
  · exact ⟨(at_.tmod (n : Int)).toNat, by omega, .inl (by omega)⟩
  · exact ⟨(at_.tmod (n : Int) + n).toNat, by omega, .inr (by omega)⟩

theorem u8_at {w : World} {g n cap k : Nat} {l : List UInt8} {x : UInt8} (h : Hid (RdC w 1 (.slice (some ⟨g, 0, none⟩) n cap) n (l.map u8))) (hk : Hid (l[k]? = some x)) : w.cell? ⟨g, k, none⟩ = some (.int .u8 (x.toNat : Int)) := by
  obtain ⟨hlt, hx⟩ := List.getElem?_eq_some_iff.1 hk.out
  obtain ⟨g', off, he, hc⟩ := RdC.at h.out (by simp; omega)
  cases he
  have := hc k (u8 x) (by rw [List.getElem?_map, hk.out]; rfl)
  rwa [Nat.zero_add] at this
theorem u8_set {w : World} {g n cap k : Nat} {l : List UInt8} {x : UInt8} (h : Hid (RdC w 1 (.slice (some ⟨g, 0, none⟩) n cap) n (l.map u8))) (hk : Hid (l[k]? = some x)) (c : UInt8) :
    RdC (w.setCell ⟨g, k, none⟩ (.int .u8 (bits .xor .u8 (x.toNat : Int) (c.toNat : Int)))) 1 (.slice (some ⟨g, 0, none⟩) n cap) (l.set k (x ^^^ c)).length ((l.set k (x ^^^ c)).map u8) := by
  obtain ⟨hlt, hx⟩ := List.getElem?_eq_some_iff.1 hk.out
  have hn : l.length = n := by have := h.out.1; simpa using this
  have := RdC.set h.out (k := k) (by omega) (u8 (x ^^^ c))
  rw [set_bytes, Nat.zero_add] at this
  rw [u8_xor_val, List.length_set, hn]
  exact this

set_option maxHeartbeats 400000 in
theorem apart_main (seed other : UInt64) (s : ByteArray) (at_ : Int) (c : UInt8) (w : World) (hs : s.size ≤ maxLen)
   (hso : seed = other ∨ seed ≠ other) (hpos : 0 < s.size) (hne : c ≠ 0) (k : Nat) (hk : k < s.size) (hidx : at_.tmod (s.size : Int) = k ∨ at_.tmod (s.size : Int) = (k : Int) - s.size) :
    Calls Try.prog 6 #[.int .u64 (wd seed), .int .u64 (wd other), .string s, .int .i64 at_, .int .u8 c.toNat] w fun e w' => e = .returned (.bool true) ∧ Below w.heap.size w w' := by
  have hs' := hs
  unfold maxLen at hs
  have t3 : ((s.size : Int) == 0) = false := beq_eq_false_iff_ne.2 (by omega)
  have t4 : ((c.toNat : Int) == 0) = false := by
    simp; intro h; exact hne (UInt8.toNat_inj.1 (by simpa using h))
  have hkl : k < s.data.toList.length := by simpa using hk
  obtain ⟨x, hx⟩ : ∃ x, s.data.toList[k] = x := ⟨_, rfl⟩
  have hx? : s.data.toList[k]? = some x := by rw [List.getElem?_eq_getElem hkl, hx]
  have HX := Lib.hid hx?; clear hx?
  obtain ⟨l2, hl2⟩ : ∃ l2, l2 = s.data.toList.set k (x ^^^ c) := ⟨_, rfl⟩
  have t5 : (wd (hash seed l2) != wd (hash seed s.data.toList)) = true := by
    rw [bne_iff_ne]; intro h
    rw [hl2] at h
    exact xor_ne _ _ hne ((hash_byte seed _ k _ hkl (wd_inj h)).trans hx)
  have hl2s : l2.length = s.size := by rw [hl2]; simp
  have L2 := Lib.hid hl2; clear hl2
  have LS := Lib.hid hl2s; clear hl2s
  clear hx
  clear hkl
  have hs2 : (ByteArray.mk l2.toArray).size ≤ maxLen := by show l2.toArray.size ≤ maxLen; simp; rw [LS.out]; exact hs'
  have hpos' : (0 : Int) < s.size := by omega
  rcases hidx with hidx | hidx
  all_goals
    have hneg : (k : Int) < s.size := by omega
    rcases hso with rfl | hso
    case' inr =>
      have t1 : (wd seed == wd other) = false := by rw [wd_beq]; simpa using hso
      have t1' : (wd seed != wd other) = true := by simp [bne, t1]
      have t2 : (wd (hash other s.data.toList) == wd (hash seed s.data.toList)) = false := by
        rw [wd_beq]; simp only [beq_eq_false_iff_ne]; exact fun h => hso (hash_seed _ _ _ h.symm)
    all_goals
      go_enter Try.func6, Try.ntmps6
      go_wp2_with (first | (go_at_call 9; refine (hash_any _ _ _ (by first | with_reducible exact hs' | with_reducible exact hs2)).mono ?_; rintro e w' ⟨rfl, rfl⟩) | (go_at_call 20; refine (wakes_any _).mono ?_; rintro e w1 ⟨rfl, hbel⟩) | (refine wpl_toBytes rfl (.tmp 51) 9 42 5 rfl s rfl hs' Try.underlying9 Try.underlying42 Try.underlying5 ?_; intro cap w2 hrd hfz hfr hlt; have hck := u8_at hrd HX; have hfk := hfz.out k hk) | (refine wpl_toString rfl (.tmp 61) 42 9 5 rfl _ l2 rfl Try.underlying42 Try.underlying9 Try.underlying5 (by rw [L2.out]; exact u8_set hrd HX c) ?_))
      go_ret
      refine ⟨rfl, ?_⟩
      have f2 := hfr.below (B := w.heap.size) hbel.size (fun i hi => hi.elim)
      exact (hbel.trans f2).setCell (p := ⟨w1.heap.size, k, none⟩) hbel.size _

set_option maxHeartbeats 1000000 in
theorem apart_short (seed other : UInt64) (s : ByteArray) (at_ : Int) (c : UInt8) (w : World) (hs : s.size ≤ maxLen)
   (hso : seed = other ∨ seed ≠ other) (hsh : s.size = 0 ∨ s.size ≠ 0 ∧ c = 0) :
    Calls Try.prog 6 #[.int .u64 (wd seed), .int .u64 (wd other), .string s, .int .i64 at_, .int .u8 c.toNat] w fun e w' => e = .returned (.bool true) ∧ Below w.heap.size w w' := by
  have hs' := hs
  unfold maxLen at hs
  rcases hsh with hsh | ⟨hsh, rfl⟩
  case' inl => have t3 : ((s.size : Int) == 0) = true := beq_iff_eq.2 (by omega)
  case' inr => have t3 : ((s.size : Int) == 0) = false := beq_eq_false_iff_ne.2 (by omega)
  all_goals
    clear hsh
    rcases hso with rfl | hso
    case' inr =>
      have t1 : (wd seed == wd other) = false := by rw [wd_beq]; simpa using hso
      have t1' : (wd seed != wd other) = true := by simp [bne, t1]
      have t2 : (wd (hash other s.data.toList) == wd (hash seed s.data.toList)) = false := by
        rw [wd_beq]; simp only [beq_eq_false_iff_ne]; exact fun h => hso (hash_seed _ _ _ h.symm)
    all_goals
      go_enter Try.func6, Try.ntmps6
      go_wp2_with (first | (go_at_call 9; refine (hash_any _ _ _ hs').mono ?_; rintro e w' ⟨rfl, rfl⟩) | (go_at_call 20; refine (wakes_any _).mono ?_; rintro e w1 ⟨rfl, hbel⟩))
      go_ret
      exact ⟨by simp, hbel⟩

theorem drawApart_walk (w : World) (seed other : UInt64) (s : ByteArray) (hs : s.size ≤ maxLen) (at_ : Int) (_h1 : -9223372036854775808 ≤ at_) (_h2 : at_ ≤ 9223372036854775807) (c : UInt8) :
    Calls Try.prog 6 #[.int .u64 (wd seed), .int .u64 (wd other), .string s, .int .i64 at_, .int .u8 c.toNat] w fun e w' => e = .returned (.bool true) ∧ Below w.heap.size w w' := by
  by_cases h0 : s.size = 0
  · exact apart_short seed other s at_ c w hs (Classical.em _) (.inl h0)
  · by_cases hc : c = 0
    · exact apart_short seed other s at_ c w hs (Classical.em _) (.inr ⟨h0, hc⟩)
    · obtain ⟨k, hk, hidx⟩ := apart_idx at_ s.size (by omega)
      exact apart_main seed other s at_ c w hs (Classical.em _) (by omega) hc k hk hidx

open Go.ChangeShapes Go.WideShapes Go.ChangeAt Go.RowKit
set_option maxRecDepth 100000 in
theorem drawApart_lifted (os : Os) (started : os.Started) (H : Type) (enc : TypeId × Value → H) :
    ReturnsInHanded {} Try.checked os 6 .any (Rows.drawApartSpec.pre6 enc Try.prog Try.f6 Rows.drawApartRow.domain false) (Rows.drawApartSpec.post enc Try.prog Try.f6 false true false false) := by
  refine returnsInHanded_of_change_sized (C := Try.checked) own started (by kernel_rfl) Try.func6
    (ChangeSpec.witness6 (enc := enc) (C := Try.checked) false ⟨#[], #[.int .u64 0, .int .u64 0, .string ⟨#[]⟩, .int .i64 0, .int .u8 0], []⟩ 8 (by kernel_rfl) (by kernel_rfl) (by kernel_rfl) (by kernel_rfl)) ?_
  intro W base args ds gs before hval0 hW hcnd hsz0 _
  have hval : ∀ (j : Nat) t v, Try.f6.params[j]? = some t → args[j]? = some v → Value.okWide Try.prog W .any base t v := hval0
  have hW' := hW
  obtain ⟨p, q, hA0, hV, rfl, hfz, hnd⟩ := hW
  have hA : DataW.TrodAll enc Try.prog W 0 (fun _ => true) true Try.f6.params.toList args.toList ds p := hA0
  rw [Try.params6] at hA hval
  obtain ⟨v0, vs0, d0, ds0, p0, q0, hargs, rfl, rfl, h0, r0⟩ := trodAll_cons hA
  obtain ⟨v1, vs1, d1, ds1, p1, q1, rfl, rfl, rfl, h1, r1⟩ := trodAll_cons r0
  obtain ⟨v2, vs2, d2, ds2, p2, q2, rfl, rfl, rfl, h2, r2⟩ := trodAll_cons r1
  obtain ⟨v3, vs3, d3, ds3, p3, q3, rfl, rfl, rfl, h3, r3⟩ := trodAll_cons r2
  obtain ⟨v4, vs4, d4, ds4, p4, q4, rfl, rfl, rfl, h4, r4⟩ := trodAll_cons r3
  obtain ⟨rfl, rfl, rfl⟩ := trodAll_nil r4
  obtain rfl : args = #[v0, v1, v2, v3, v4] := by cases args; simp_all
  obtain ⟨rfl, rfl⟩ := trodVars_none hV
  have hsz : (DataW.weightsEach Try.prog [22, 22, 9, 3, 5] [d0, d1, d2, d3, d4]).all (fun x => decide (x ≤ reachBytes)) = true := by
    have h := hsz0
    simp only [List.append_nil] at h
    have e : (Try.f6.params.toList ++ DataSpec.varTypes Try.checked.prog Rows.drawApartSpec.plain) = [22, 22, 9, 3, 5] := by kernel_rfl
    rw [e] at h; exact h
  clear hsz0
  obtain ⟨hw0, hsz0⟩ := weights_cons hsz
  obtain ⟨x0, rfl⟩ := open_word Try.underlying22 (hval 0 22 v0 rfl rfl) h0
  obtain ⟨hw1, hsz1⟩ := weights_cons hsz0
  obtain ⟨x1, rfl⟩ := open_word Try.underlying22 (hval 1 22 v1 rfl rfl) h1
  obtain ⟨hw2, hsz2⟩ := weights_cons hsz1
  obtain ⟨x2, rfl, hs2⟩ := open_str Try.underlying9 (hval 2 9 v2 rfl rfl) h2
  obtain ⟨hw3, hsz3⟩ := weights_cons hsz2
  obtain ⟨x3, rfl, lo3, hi3⟩ := open_i64 Try.underlying3 (hval 3 3 v3 rfl rfl) h3
  obtain ⟨hw4, hsz4⟩ := weights_cons hsz3
  obtain ⟨x4, rfl⟩ := open_byte Try.underlying5 (hval 4 5 v4 rfl rfl) h4
  clear hA0 hval0
  refine (drawApart_walk W x0 x1 x2 hs2 x3 lo3 hi3 x4).mono fun e W' ⟨he, bel⟩ => ?_
  subst he
  exact ⟨_, rfl, law_post laidOut Try.underlying4 (by kernel_rfl) rfl (by kernel_rfl) hW' rfl bel⟩

theorem drawApart_holds : Rows.DrawApartSaid :=
  OpenClaim.holds_of_wide 6 Try.f6 rfl rfl rfl rfl rfl rfl rfl ⟨rfl, rfl, rfl, rfl, rfl⟩ rfl rfl rfl rfl rfl (by kernel_rfl) Try.func6 (by kernel_rfl)
    (of_decide_eq_true (by kernel_rfl)) (by unfold Func.isWrapper; rw [if_neg (of_decide_eq_false (by kernel_rfl))]; exact ⟨rfl, rfl⟩)
    (fun os started H enc _ => drawApart_lifted os started H enc)
end Go.Proofs.Ythiamkfghnopgaa
