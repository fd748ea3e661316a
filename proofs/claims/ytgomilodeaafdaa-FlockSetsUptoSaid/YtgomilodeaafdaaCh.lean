/- The document's Union, Inter and Diff; rows of pairs. No condition. -/
import Derived.Test.YtgomilodeaafdaaCc
import Derived.Test.YtgomilodeaafdaaBk
import Derived.Test.YtgomilodeaafdaaCf
namespace Go.Proofs.Ytgomilodeaafdaa
open Go.RowKit
/-- two rising lists as one, each text once -/
def mrg : List ByteArray → List ByteArray → List ByteArray
  | [], b => b
  | x :: a, b => go x (mrg a) b
  where
  go (x : ByteArray) (f : List ByteArray → List ByteArray) : List ByteArray → List ByteArray
    | [] => x :: f []
    | y :: b => if x.toList < y.toList then x :: f (y :: b) else if x = y then y :: f b else y :: go x f b
theorem mrg_nil (a : List ByteArray) : mrg a [] = a := by
  induction a with
  | nil => rfl
  | cons x a ih => show x :: mrg a [] = _; rw [ih]
theorem mrg_cons (x y : ByteArray) (a b : List ByteArray) : mrg (x :: a) (y :: b) = if x.toList < y.toList then x :: mrg a (y :: b) else if x = y then y :: mrg a b else y :: mrg (x :: a) b := rfl
theorem mrg_mem : ∀ (a b : List ByteArray) (z : ByteArray), z ∈ mrg a b ↔ z ∈ a ∨ z ∈ b
  | [], b, z => by simp [mrg]
  | x :: a, [], z => by rw [mrg_nil]; simp
  | x :: a, y :: b, z => by
    rw [mrg_cons]
    split
    · rw [List.mem_cons, mrg_mem a (y :: b) z]; simp only [List.mem_cons]; exact or_assoc.symm
    · split
      · next h =>
        subst h
        rw [List.mem_cons, mrg_mem a b z]
        simp only [List.mem_cons]
        constructor
        · rintro (h | h | h)
          · exact .inl (.inl h)
          · exact .inl (.inr h)
          · exact .inr (.inr h)
        · rintro ((h | h) | (h | h))
          · exact .inl h
          · exact .inr (.inl h)
          · exact .inl h
          · exact .inr (.inr h)
      · rw [List.mem_cons, mrg_mem (x :: a) b z]
        simp only [List.mem_cons]
        constructor
        · rintro (h | h | h)
          · exact .inr (.inl h)
          · exact .inl h
          · exact .inr (.inr h)
        · rintro (h | h | h)
          · exact .inr (.inl h)
          · exact .inl h
          · exact .inr (.inr h)
theorem mrg_rise : ∀ (a b : List ByteArray), a.Pairwise ltS → b.Pairwise ltS → (mrg a b).Pairwise ltS
  | [], b, _, hb => hb
  | x :: a, [], ha, _ => by rw [mrg_nil]; exact ha
  | x :: a, y :: b, ha, hb => by
    rw [mrg_cons]
    have ha' := List.pairwise_cons.1 ha
    have hb' := List.pairwise_cons.1 hb
    split
    · next h =>
      refine List.pairwise_cons.2 ⟨fun z hz => ?_, mrg_rise a (y :: b) ha'.2 hb⟩
      rcases (mrg_mem _ _ z).1 hz with hz | hz
      · exact ha'.1 z hz
      · rcases List.mem_cons.1 hz with rfl | hz
        · exact h
        · exact ltS_trans h (hb'.1 z hz)
    · next h =>
      split
      · next e =>
        subst e
        refine List.pairwise_cons.2 ⟨fun z hz => ?_, mrg_rise a b ha'.2 hb'.2⟩
        rcases (mrg_mem _ _ z).1 hz with hz | hz
        · exact ha'.1 z hz
        · exact hb'.1 z hz
      · next e =>
        have hyx : ltS y x := ltS_or h e
        refine List.pairwise_cons.2 ⟨fun z hz => ?_, mrg_rise (x :: a) b ha hb'.2⟩
        rcases (mrg_mem _ _ z).1 hz with hz | hz
        · rcases List.mem_cons.1 hz with rfl | hz
          · exact hyx
          · exact ltS_trans hyx (ha'.1 z hz)
        · exact hb'.1 z hz
theorem mrg_len : ∀ (a b : List ByteArray), (mrg a b).length ≤ a.length + b.length
  | [], b => by simp [mrg]
  | x :: a, [] => by rw [mrg_nil]; simp
  | x :: a, y :: b => by
    rw [mrg_cons]
    have h1 := mrg_len a (y :: b)
    have h2 := mrg_len a b
    have h3 := mrg_len (x :: a) b
    split
    · simp only [List.length_cons] at h1 ⊢; omega
    · split
      · simp only [List.length_cons]; omega
      · simp only [List.length_cons] at h3 ⊢; omega
end Go.Proofs.Ytgomilodeaafdaa
namespace Go.Proofs.Ytgomilodeaafdaa
open Go.RowKit
set_option maxRecDepth 100000 in
set_option maxHeartbeats 4000000 in
theorem merged_any (w : World) (va vb : Value) (a b : List ByteArray) (ha : RdC w 1 va a.length (a.map .string)) (hb : RdC w 1 vb b.length (b.map .string)) (hl : a.length + b.length ≤ 4398046511104) :
    Calls Try.prog 120 #[va, vb] w fun e w' => ∃ u, e = .returned u ∧ RowS w.heap.size w' u (mrg a b) ∧ Fr (fun _ => False) w w' := by
  have HA := Lib.hid ha
  have HB := Lib.hid hb
  obtain ⟨-, aa, ac, rfl, -⟩ := ha
  obtain ⟨-, ba, bc, rfl, -⟩ := hb
  obtain ⟨i0, hi, hz0, hz1, hz2⟩ := info_parts info_str
  have HI := Lib.hid hi
  have HZ0 := Lib.hid hz0
  have HZ1 := Lib.hid hz1
  have HZ2 := Lib.hid hz2
  clear hi hz0 hz1 hz2
  obtain ⟨T, hT⟩ : ∃ T, mrg a b = T := ⟨_, rfl⟩
  have HT : Hid ([] ++ mrg (a.drop 0) (b.drop 0) = T) := hT
  rw [hT]
  clear hT
  go_enter Try.func120, Try.ntmps120
  go_wp2_with fail
  go_loopw [5, 6, 7] (fun u x y wr => ∃ (i k : Nat) (o : List ByteArray), x = .int .i64 i ∧ y = .int .i64 k ∧ i ≤ a.length ∧ k ≤ b.length ∧ o.length ≤ i + k ∧ Hid (o ++ mrg (a.drop i) (b.drop k) = T) ∧ Hid (RowS w.heap.size wr u o) ∧ Hid (Fr (fun _ => False) w wr)) (fun _ x y _ => (a.length - (intOf x).toNat) + (b.length - (intOf y).toNat))
  case atStart => exact ⟨0, 0, [], rfl, rfl, by omega, by omega, by simp, HT, World.ownsRow_nil _ _ _ _, Fr.refl _ _⟩
  case round =>
    obtain ⟨i, k, o, rfl, rfl, hi, hk, ho, HM, HO, HF⟩ := hrel
    obtain ⟨wo, rfl⟩ : ∃ x, x = wr := ⟨_, rfl⟩
    clear HT
    have hO := HO.out
    obtain ⟨oa, oc, rfl⟩ := owns_slice hO
    have HAW := Lib.hid (HA.out.fr HF.out (fun _ _ h => h))
    have HBW := Lib.hid (HB.out.fr HF.out (fun _ _ h => h))
    clear hO
    by_cases hia : i < a.length
    · obtain ⟨ga, offa, ea, hca⟩ := rd_text HAW.out i hia
      cases ea
      obtain ⟨x, hx⟩ : ∃ x, a[i] = x := ⟨_, rfl⟩
      rw [hx] at hca
      have HDA : Hid (a.drop i = x :: a.drop (i + 1)) := by show _ = _; rw [List.drop_eq_getElem_cons hia, hx]
      have a0 : (0 : Int) ≤ (i : Int) := by omega
      have a1 : (i : Int) < (a.length : Int) := by omega
      have hcan : ∀ n, (wo.drewN n).cell? ⟨ga, offa + i, none⟩ = some (.string x) := fun n => hca
      clear hx
      by_cases hkb : k < b.length
      · obtain ⟨gb, offb, eb, hcb⟩ := rd_text HBW.out k hkb
        cases eb
        obtain ⟨y, hy⟩ : ∃ y, b[k] = y := ⟨_, rfl⟩
        rw [hy] at hcb
        have HDB : Hid (b.drop k = y :: b.drop (k + 1)) := by show _ = _; rw [List.drop_eq_getElem_cons hkb, hy]
        have c0 : (0 : Int) ≤ (k : Int) := by omega
        have c1 : (k : Int) < (b.length : Int) := by omega
        have c2 : ((k : Int) == (b.length : Int)) = false := beq_eq_false_iff_ne.2 (by omega)
        have a2 : decide ((i : Int) < (a.length : Int)) = true := decide_eq_true a1
        have hcbn : ∀ n, (wo.drewN n).cell? ⟨gb, offb + k, none⟩ = some (.string y) := fun n => hcb
        clear hy
        by_cases hlt : x.toList < y.toList
        · have k1 : Op.bytesLess x.toList y.toList = true := by rw [bytesLess_eq]; exact decide_eq_true hlt
          have HNX : Hid ((o ++ [x]) ++ mrg (a.drop (i + 1)) (b.drop k) = T) := by
            show _ = _
            rw [← HM.out, HDA.out, HDB.out, mrg_cons, if_pos hlt, List.append_assoc]
            rfl
          clear hlt
          go_upto_region 4 with (fail)
          go_quiet (fail)
          obtain ⟨wz, hwz⟩ : ∃ wz, wo.drewN nq = wz := ⟨_, rfl⟩
          have HOZ : Hid (RowS w.heap.size wz (.slice oa o.length oc) o) := by rw [← hwz]; exact ow_fr HO.out (Fr.drewN _ wo nq) (fun _ _ h => h)
          have HFZ : Hid (Fr (fun _ => False) w wz) := by rw [← hwz]; exact HF.out.thenDrewN nq
          have HSZ : Hid (w.heap.size ≤ wz.heap.size) := HFZ.out.size
          have cz : wz.cell? ⟨ga, offa + i, none⟩ = some (.string x) := by rw [← hwz]; exact hcan nq
          rw [hwz]
          clear hwz hca hcan
          go_wp2_with (at_builtin; refine wpl_append2 rfl (.tmp 39) (.tmp 44) 39 rfl w.heap.size 9 i0 (.string ⟨#[]⟩) 1 16 Try.underlying39 HI.out HZ0.out HZ1.out HZ2.out rfl (by decide) (.slice oa o.length oc) o.length _ rfl (HOZ.out.alloc _) _ 1 [.string x] rfl (RdC.of_owns (World.ownsRow_lit (base := wz.heap.size) (e := 9) (size := 1) wz #[.string x] 1 (Nat.le_refl _) (by decide) rfl)) (by simp [Value.oneCell']) (by unfold maxLen; omega) (by omega) (by rw [World.size_alloc]; have := HSZ.out; omega) ?_; intro v' w8 hown hgrow hap; have HO8 : Hid (RowS w.heap.size w8 v' (o ++ [x])) := rowS_app (K := [x]) hown; have HF8 : Hid (Fr (fun _ => False) w w8) := (HFZ.out.thenAlloc _).wide (Fr.of_grownBy hgrow) (fun g hg => .inr (own_blk HOZ.out hg).1); clear hown hgrow hap)
          go_roundw
          case rel => exact ⟨i + 1, k, o ++ [x], by go_num, rfl, by omega, hk, by rw [List.length_append]; show _ + 1 ≤ _; omega, HNX, HO8, HF8⟩
          case measure => simp [intOf]; omega
        · have k1 : Op.bytesLess x.toList y.toList = false := by rw [bytesLess_eq]; exact decide_eq_false hlt
          by_cases hxy : x = y
          · have hq : (x.toList == y.toList) = true := by rw [str_beq]; simpa using hxy
            have HNX : Hid ((o ++ [y]) ++ mrg (a.drop (i + 1)) (b.drop (k + 1)) = T) := by
              show _ = _
              rw [← HM.out, HDA.out, HDB.out, mrg_cons, if_neg hlt, if_pos hxy, List.append_assoc]
              rfl
            clear hlt hxy
            go_upto_region 4 with (fail)
            go_quiet (fail)
            obtain ⟨w4, hw4⟩ : ∃ w4, wo.drewN nq = w4 := ⟨_, rfl⟩
            have hc4a : w4.cell? ⟨ga, offa + i, none⟩ = some (.string x) := by rw [← hw4]; exact hcan nq
            have hc4b : w4.cell? ⟨gb, offb + k, none⟩ = some (.string y) := by rw [← hw4]; exact hcbn nq
            have HO4 : Hid (RowS w.heap.size w4 (.slice oa o.length oc) o) := by rw [← hw4]; exact ow_fr HO.out (Fr.drewN _ wo nq) (fun _ _ h => h)
            have HF4 : Hid (Fr (fun _ => False) w w4) := by rw [← hw4]; exact HF.out.thenDrewN nq
            rw [hw4]
            clear hw4 hcb hcbn hca hcan
            go_upto_region 7 with (fail)
            go_quiet (fail)
            obtain ⟨wz, hwz⟩ : ∃ wz, w4.drewN nq = wz := ⟨_, rfl⟩
            have HOZ : Hid (RowS w.heap.size wz (.slice oa o.length oc) o) := by rw [← hwz]; exact ow_fr HO4.out (Fr.drewN _ w4 nq) (fun _ _ h => h)
            have HFZ : Hid (Fr (fun _ => False) w wz) := by rw [← hwz]; exact HF4.out.thenDrewN nq
            have HSZ : Hid (w.heap.size ≤ wz.heap.size) := HFZ.out.size
            have cz : wz.cell? ⟨gb, offb + k, none⟩ = some (.string y) := by rw [← hwz]; exact hc4b
            rw [hwz]
            clear hwz hc4b hc4a
            go_wp2_with (at_builtin; refine wpl_append2 rfl (.tmp 65) (.tmp 70) 39 rfl w.heap.size 9 i0 (.string ⟨#[]⟩) 1 16 Try.underlying39 HI.out HZ0.out HZ1.out HZ2.out rfl (by decide) (.slice oa o.length oc) o.length _ rfl (HOZ.out.alloc _) _ 1 [.string y] rfl (RdC.of_owns (World.ownsRow_lit (base := wz.heap.size) (e := 9) (size := 1) wz #[.string y] 1 (Nat.le_refl _) (by decide) rfl)) (by simp [Value.oneCell']) (by unfold maxLen; omega) (by omega) (by rw [World.size_alloc]; have := HSZ.out; omega) ?_; intro v' w8 hown hgrow hap; have HO8 : Hid (RowS w.heap.size w8 v' (o ++ [y])) := rowS_app (K := [y]) hown; have HF8 : Hid (Fr (fun _ => False) w w8) := (HFZ.out.thenAlloc _).wide (Fr.of_grownBy hgrow) (fun g hg => .inr (own_blk HOZ.out hg).1); clear hown hgrow hap)
            go_roundw
            case rel => exact ⟨i + 1, k + 1, o ++ [y], by go_num, by go_num, by omega, by omega, by rw [List.length_append]; show _ + 1 ≤ _; omega, HNX, HO8, HF8⟩
            case measure => simp [intOf]; omega
          · have hq : (x.toList == y.toList) = false := by rw [str_beq]; simpa using hxy
            have HNX : Hid ((o ++ [y]) ++ mrg (a.drop i) (b.drop (k + 1)) = T) := by
              show _ = _
              rw [← HM.out, HDB.out, HDA.out, mrg_cons, if_neg hlt, if_neg hxy, List.append_assoc]
              rfl
            clear hlt hxy
            go_upto_region 4 with (fail)
            go_quiet (fail)
            obtain ⟨w4, hw4⟩ : ∃ w4, wo.drewN nq = w4 := ⟨_, rfl⟩
            have hc4a : w4.cell? ⟨ga, offa + i, none⟩ = some (.string x) := by rw [← hw4]; exact hcan nq
            have hc4b : w4.cell? ⟨gb, offb + k, none⟩ = some (.string y) := by rw [← hw4]; exact hcbn nq
            have HO4 : Hid (RowS w.heap.size w4 (.slice oa o.length oc) o) := by rw [← hw4]; exact ow_fr HO.out (Fr.drewN _ wo nq) (fun _ _ h => h)
            have HF4 : Hid (Fr (fun _ => False) w w4) := by rw [← hw4]; exact HF.out.thenDrewN nq
            rw [hw4]
            clear hw4 hcb hcbn hca hcan
            go_upto_region 7 with (fail)
            go_quiet (fail)
            obtain ⟨wz, hwz⟩ : ∃ wz, w4.drewN nq = wz := ⟨_, rfl⟩
            have HOZ : Hid (RowS w.heap.size wz (.slice oa o.length oc) o) := by rw [← hwz]; exact ow_fr HO4.out (Fr.drewN _ w4 nq) (fun _ _ h => h)
            have HFZ : Hid (Fr (fun _ => False) w wz) := by rw [← hwz]; exact HF4.out.thenDrewN nq
            have HSZ : Hid (w.heap.size ≤ wz.heap.size) := HFZ.out.size
            have cz : wz.cell? ⟨gb, offb + k, none⟩ = some (.string y) := by rw [← hwz]; exact hc4b
            rw [hwz]
            clear hwz hc4b hc4a
            go_wp2_with (at_builtin; refine wpl_append2 rfl (.tmp 65) (.tmp 70) 39 rfl w.heap.size 9 i0 (.string ⟨#[]⟩) 1 16 Try.underlying39 HI.out HZ0.out HZ1.out HZ2.out rfl (by decide) (.slice oa o.length oc) o.length _ rfl (HOZ.out.alloc _) _ 1 [.string y] rfl (RdC.of_owns (World.ownsRow_lit (base := wz.heap.size) (e := 9) (size := 1) wz #[.string y] 1 (Nat.le_refl _) (by decide) rfl)) (by simp [Value.oneCell']) (by unfold maxLen; omega) (by omega) (by rw [World.size_alloc]; have := HSZ.out; omega) ?_; intro v' w8 hown hgrow hap; have HO8 : Hid (RowS w.heap.size w8 v' (o ++ [y])) := rowS_app (K := [y]) hown; have HF8 : Hid (Fr (fun _ => False) w w8) := (HFZ.out.thenAlloc _).wide (Fr.of_grownBy hgrow) (fun g hg => .inr (own_blk HOZ.out hg).1); clear hown hgrow hap)
            go_roundw
            case rel => exact ⟨i, k + 1, o ++ [y], rfl, by go_num, by omega, by omega, by rw [List.length_append]; show _ + 1 ≤ _; omega, HNX, HO8, HF8⟩
            case measure => simp [intOf]; omega
      · have e9 : k = b.length := by omega
        have c1 : ¬ (k : Int) < (b.length : Int) := by omega
        have c2 : ((k : Int) == (b.length : Int)) = true := beq_iff_eq.2 (by omega)
        have HNX : Hid ((o ++ [x]) ++ mrg (a.drop (i + 1)) (b.drop k) = T) := by
          show _ = _
          rw [← HM.out, HDA.out, show b.drop k = [] from List.drop_eq_nil_of_le (by omega), mrg_nil, mrg_nil, List.append_assoc]
          rfl
        clear e9
        go_upto_region 4 with (fail)
        go_quiet (fail)
        obtain ⟨wz, hwz⟩ : ∃ wz, wo.drewN nq = wz := ⟨_, rfl⟩
        have HOZ : Hid (RowS w.heap.size wz (.slice oa o.length oc) o) := by rw [← hwz]; exact ow_fr HO.out (Fr.drewN _ wo nq) (fun _ _ h => h)
        have HFZ : Hid (Fr (fun _ => False) w wz) := by rw [← hwz]; exact HF.out.thenDrewN nq
        have HSZ : Hid (w.heap.size ≤ wz.heap.size) := HFZ.out.size
        have cz : wz.cell? ⟨ga, offa + i, none⟩ = some (.string x) := by rw [← hwz]; exact hcan nq
        rw [hwz]
        clear hwz hca hcan
        go_wp2_with (at_builtin; refine wpl_append2 rfl (.tmp 39) (.tmp 44) 39 rfl w.heap.size 9 i0 (.string ⟨#[]⟩) 1 16 Try.underlying39 HI.out HZ0.out HZ1.out HZ2.out rfl (by decide) (.slice oa o.length oc) o.length _ rfl (HOZ.out.alloc _) _ 1 [.string x] rfl (RdC.of_owns (World.ownsRow_lit (base := wz.heap.size) (e := 9) (size := 1) wz #[.string x] 1 (Nat.le_refl _) (by decide) rfl)) (by simp [Value.oneCell']) (by unfold maxLen; omega) (by omega) (by rw [World.size_alloc]; have := HSZ.out; omega) ?_; intro v' w8 hown hgrow hap; have HO8 : Hid (RowS w.heap.size w8 v' (o ++ [x])) := rowS_app (K := [x]) hown; have HF8 : Hid (Fr (fun _ => False) w w8) := (HFZ.out.thenAlloc _).wide (Fr.of_grownBy hgrow) (fun g hg => .inr (own_blk HOZ.out hg).1); clear hown hgrow hap)
        go_roundw
        case rel => exact ⟨i + 1, k, o ++ [x], by go_num, rfl, by omega, hk, by rw [List.length_append]; show _ + 1 ≤ _; omega, HNX, HO8, HF8⟩
        case measure => simp [intOf]; omega
    · have e9 : i = a.length := by omega
      have a1 : ¬ (i : Int) < (a.length : Int) := by omega
      have a2 : decide ((i : Int) < (a.length : Int)) = false := decide_eq_false a1
      by_cases hkb : k < b.length
      · obtain ⟨gb, offb, eb, hcb⟩ := rd_text HBW.out k hkb
        cases eb
        obtain ⟨y, hy⟩ : ∃ y, b[k] = y := ⟨_, rfl⟩
        rw [hy] at hcb
        have c0 : (0 : Int) ≤ (k : Int) := by omega
        have c1 : (k : Int) < (b.length : Int) := by omega
        have c2 : ((k : Int) == (b.length : Int)) = false := beq_eq_false_iff_ne.2 (by omega)
        have hcbn : ∀ n, (wo.drewN n).cell? ⟨gb, offb + k, none⟩ = some (.string y) := fun n => hcb
        have HNX : Hid ((o ++ [y]) ++ mrg (a.drop i) (b.drop (k + 1)) = T) := by
          show _ = _
          rw [← HM.out, show a.drop i = [] from List.drop_eq_nil_of_le (by omega), List.drop_eq_getElem_cons hkb, hy, List.append_assoc]
          rfl
        clear hy e9
        go_upto_region 4 with (fail)
        go_quiet (fail)
        obtain ⟨w4, hw4⟩ : ∃ w4, wo.drewN nq = w4 := ⟨_, rfl⟩
        have hc4b : w4.cell? ⟨gb, offb + k, none⟩ = some (.string y) := by rw [← hw4]; exact hcbn nq
        have HO4 : Hid (RowS w.heap.size w4 (.slice oa o.length oc) o) := by rw [← hw4]; exact ow_fr HO.out (Fr.drewN _ wo nq) (fun _ _ h => h)
        have HF4 : Hid (Fr (fun _ => False) w w4) := by rw [← hw4]; exact HF.out.thenDrewN nq
        rw [hw4]
        clear hw4 hcb hcbn
        go_upto_region 7 with (fail)
        go_quiet (fail)
        obtain ⟨wz, hwz⟩ : ∃ wz, w4.drewN nq = wz := ⟨_, rfl⟩
        have HOZ : Hid (RowS w.heap.size wz (.slice oa o.length oc) o) := by rw [← hwz]; exact ow_fr HO4.out (Fr.drewN _ w4 nq) (fun _ _ h => h)
        have HFZ : Hid (Fr (fun _ => False) w wz) := by rw [← hwz]; exact HF4.out.thenDrewN nq
        have HSZ : Hid (w.heap.size ≤ wz.heap.size) := HFZ.out.size
        have cz : wz.cell? ⟨gb, offb + k, none⟩ = some (.string y) := by rw [← hwz]; exact hc4b
        rw [hwz]
        clear hwz hc4b
        go_wp2_with (at_builtin; refine wpl_append2 rfl (.tmp 65) (.tmp 70) 39 rfl w.heap.size 9 i0 (.string ⟨#[]⟩) 1 16 Try.underlying39 HI.out HZ0.out HZ1.out HZ2.out rfl (by decide) (.slice oa o.length oc) o.length _ rfl (HOZ.out.alloc _) _ 1 [.string y] rfl (RdC.of_owns (World.ownsRow_lit (base := wz.heap.size) (e := 9) (size := 1) wz #[.string y] 1 (Nat.le_refl _) (by decide) rfl)) (by simp [Value.oneCell']) (by unfold maxLen; omega) (by omega) (by rw [World.size_alloc]; have := HSZ.out; omega) ?_; intro v' w8 hown hgrow hap; have HO8 : Hid (RowS w.heap.size w8 v' (o ++ [y])) := rowS_app (K := [y]) hown; have HF8 : Hid (Fr (fun _ => False) w w8) := (HFZ.out.thenAlloc _).wide (Fr.of_grownBy hgrow) (fun g hg => .inr (own_blk HOZ.out hg).1); clear hown hgrow hap)
        go_roundw
        case rel => exact ⟨i, k + 1, o ++ [y], rfl, by go_num, by omega, by omega, by rw [List.length_append]; show _ + 1 ≤ _; omega, HNX, HO8, HF8⟩
        case measure => simp [intOf]; omega
      · have c1 : ¬ (k : Int) < (b.length : Int) := by omega
        have HEND : Hid (o = T) := by
          show _ = _
          rw [← HM.out, List.drop_eq_nil_of_le (by omega), List.drop_eq_nil_of_le (by omega)]
          exact (List.append_nil o).symm
        go_wp2_with fail
        go_ret
        exact ⟨_, rfl, by rw [← HEND.out]; exact HO.out, HF.out⟩
end Go.Proofs.Ytgomilodeaafdaa
namespace Go.Proofs.Ytgomilodeaafdaa
open Go.RowKit
/-- one of the document's flocks, or none, and its members -/
def MemR (w : World) (p : Value) (L : List ByteArray) : Prop :=
  (p = .pointer none ∧ L = []) ∨ ∃ B r F N P, p = .pointer (some ⟨r, 0, none⟩) ∧ RefF w B r F N P L
theorem RefF.quietR {w w' : World} {B r : Nat} {F : Nat → Prop} {N : NM} {P : Pl} {L : List ByteArray} (h : RefF w B r F N P L) (hf : Fr (fun _ => False) w w') : RefF w' B r F N P L := by
  obtain ⟨⟨p, Fd, X, av, hx⟩, h2, h3, h4, h5, h6, h7⟩ := h
  exact ⟨⟨p, Fd, X, av, hx.quiet hf⟩, h2, h3, h4, h5, h6, h7⟩
theorem MemR.quiet {w w' : World} {p : Value} {L : List ByteArray} (h : MemR w p L) (hf : Fr (fun _ => False) w w') : MemR w' p L := by
  rcases h with h | ⟨B, r, F, N, P, h1, h2⟩
  · exact .inl h
  · exact .inr ⟨B, r, F, N, P, h1, h2.quietR hf⟩
theorem MemR.facts {w : World} {p : Value} {L : List ByteArray} (h : MemR w p L) : L.length ≤ 1048576 ∧ L.Pairwise ltS := by
  rcases h with ⟨-, rfl⟩ | ⟨B, r, F, N, P, -, h2⟩
  · exact ⟨by simp, List.Pairwise.nil⟩
  · exact ⟨h2.few, h2.rise⟩
theorem memR_any (w : World) (p : Value) (L : List ByteArray) (h : MemR w p L) : Calls Try.prog 111 #[p] w fun e w' => ∃ v, e = .returned v ∧ RowS w.heap.size w' v L ∧ Fr (fun _ => False) w w' := by
  rcases h with ⟨rfl, rfl⟩ | ⟨B, r, F, N, P, rfl, h2⟩
  · refine (rfMembers_nil w).mono ?_
    rintro e w' ⟨rfl, rfl⟩
    exact ⟨_, rfl, World.ownsRow_nil _ _ _ _, Fr.refl _ _⟩
  · obtain ⟨q, Fd, X, av, hx⟩ := h2.x
    exact rfMembers_any w B r q F Fd N P L X av hx (by have := h2.few; omega)
theorem in_any (w : World) (p : Value) (L : List ByteArray) (key : ByteArray) (h : MemR w p L) : Calls Try.prog 175 #[p, .string key] w fun e w' => e = .returned (.bool (inL key L)) ∧ w = w' := by
  rcases h with ⟨rfl, rfl⟩ | ⟨B, r, F, N, P, rfl, h2⟩
  · have e0 : inL key [] = false := rfl
    rw [e0]
    clear e0
    go_enter Try.func175, Try.ntmps175
    go_wp2
    go_ret
    exact ⟨rfl, rfl⟩
  · obtain ⟨q, Fd, X, av, hx⟩ := h2.x
    have HP := Lib.hid (rfPlace_any w B r q F Fd N P L X av key hx)
    have HR := Lib.hid h2.rise
    clear h2 hx
    go_enter Try.func175, Try.ntmps175
    go_wp2_with fail
    refine HP.out.mono ?_
    rintro e w' ⟨i, hp, rfl, rfl⟩
    have hin : decide (L[i]? = some key) = inL key L := by
      by_cases hm : key ∈ L
      · rw [decide_eq_true ((place_in HR.out hp).2 hm), inL_iff.2 hm]
      · rw [decide_eq_false (fun e => hm ((place_in HR.out hp).1 e)), inL_no hm]
    rw [hin]
    clear hp hin
    go_wp2_with fail
    go_ret
    exact ⟨rfl, rfl⟩
structure RfRow (w : World) (v : Value) (ps : List Value) (Ls : List (List ByteArray)) : Prop where
  rd : RdC w 1 v ps.length ps
  len : Ls.length = ps.length
  mem : ∀ (i : Nat) (p : Value) (L : List ByteArray), ps[i]? = some p → Ls[i]? = some L → MemR w p L
theorem RfRow.quiet {w w' : World} {v : Value} {ps : List Value} {Ls : List (List ByteArray)} (h : RfRow w v ps Ls) (hf : Fr (fun _ => False) w w') : RfRow w' v ps Ls :=
  ⟨h.rd.fr hf (fun _ _ h => h), h.len, fun i p L h1 h2 => (h.mem i p L h1 h2).quiet hf⟩
theorem RfRow.nth {w : World} {v : Value} {ps : List Value} {Ls : List (List ByteArray)} (h : RfRow w v ps Ls) {i : Nat} (hi : i < ps.length) : ∃ p L, ps[i]? = some p ∧ Ls[i]? = some L ∧ MemR w p L :=
  ⟨ps[i], Ls[i]'(by rw [h.len]; exact hi), List.getElem?_eq_getElem _, List.getElem?_eq_getElem _, h.mem i _ _ (List.getElem?_eq_getElem _) (List.getElem?_eq_getElem _)⟩
set_option maxRecDepth 100000 in
set_option maxHeartbeats 2000000 in
theorem refUnion_any (w : World) (v : Value) (ps : List Value) (Ls : List (List ByteArray)) (h : RfRow w v ps Ls) (hS : Ls.flatten.length < 1099511627776) :
    Calls Try.prog 47 #[v] w (UniPost w Ls.flatten) := by
  have hlm := h.rd.len
  unfold maxLen at hlm
  have H := Lib.hid h
  obtain ⟨-, va, vc, rfl, -⟩ := h.rd
  have HS := Lib.hid hS
  have hll : Ls.length = ps.length := h.len
  have HLL := Lib.hid hll
  clear h hS hll
  go_enter Try.func47, Try.ntmps47
  go_wp2_with fail
  go_loopw [3, 8] (fun u i wr => ∃ (k : Nat) (o : List ByteArray), i = .int .i64 k ∧ k ≤ ps.length ∧ Hid (o.Pairwise ltS ∧ (∀ x, x ∈ o ↔ x ∈ (Ls.take k).flatten) ∧ o.length ≤ (Ls.take k).flatten.length) ∧ Hid (RowS w.heap.size wr u o) ∧ Hid (Fr (fun _ => False) w wr)) (fun _ i _ => ps.length - (intOf i).toNat)
  case atStart => exact ⟨0, [], rfl, by omega, ⟨List.Pairwise.nil, fun x => by simp, by simp⟩, World.ownsRow_nil _ _ _ _, Fr.refl _ _⟩
  case round =>
    obtain ⟨k, o, rfl, hk, HP, HO, HF⟩ := hrel
    obtain ⟨wo, rfl⟩ : ∃ x, x = wr := ⟨_, rfl⟩
    have hO := HO.out
    obtain ⟨oa, oc, rfl⟩ := owns_slice hO
    clear hO
    by_cases hlt : k < ps.length
    · have h1 := H.out.quiet HF.out
      obtain ⟨p, L, hp, hL, hmem⟩ := h1.nth hlt
      obtain ⟨g, off, e9, hcell⟩ := h1.rd.at (by omega)
      cases e9
      have hc := hcell k p hp
      have HL := Lib.hid hL
      have HM := Lib.hid (memR_any wo p L hmem)
      have HMF := Lib.hid hmem.facts
      have b0 : (0 : Int) ≤ (k : Int) := by omega
      have b1 : (k : Int) < (ps.length : Int) := by omega
      clear h1 hcell hp hL hmem
      go_wp2_with fail
      refine HM.out.mono ?_
      rintro e w1 ⟨u, rfl, hu, hf1⟩
      obtain ⟨ua, uc, rfl⟩ := owns_slice hu
      have htk : (Ls.take (k + 1)).flatten = (Ls.take k).flatten ++ L := by
        obtain ⟨hl2, hL2⟩ := List.getElem?_eq_some_iff.1 HL.out
        rw [List.take_succ_eq_append_getElem hl2, List.flatten_append, List.flatten_singleton, hL2]
      have hle : (Ls.take k).flatten.length ≤ Ls.flatten.length := by
        conv => rhs; rw [← List.take_append_drop k Ls]
        rw [List.flatten_append, List.length_append]
        omega
      have hsz : o.length + L.length ≤ 4398046511104 := by
        have h2 := HP.out.2.2
        have h3 := HMF.out.1
        have h4 := HS.out
        omega
      have HMG := Lib.hid (merged_any w1 (.slice oa o.length oc) (.slice ua L.length uc) o L (RdC.of_owns (ow_fr HO.out hf1 (fun _ _ h => h))) (RdC.of_owns hu) hsz)
      have HF1 := Lib.hid (HF.out.trans hf1 (fun _ h _ => h))
      have HP2 : Hid ((mrg o L).Pairwise ltS ∧ (∀ x, x ∈ mrg o L ↔ x ∈ (Ls.take (k + 1)).flatten) ∧ (mrg o L).length ≤ (Ls.take (k + 1)).flatten.length) := by
        refine ⟨mrg_rise o L HP.out.1 HMF.out.2, fun x => ?_, ?_⟩
        · rw [mrg_mem, htk, List.mem_append, HP.out.2.1]
        · rw [htk, List.length_append]
          exact Nat.le_trans (mrg_len o L) (Nat.add_le_add_right HP.out.2.2 _)
      clear hu hf1 htk hle hsz hc
      go_wp2_with fail
      refine HMG.out.mono ?_
      rintro e w2 ⟨u2, rfl, hu2, hf2⟩
      have HO2 : Hid (RowS w.heap.size w2 u2 (mrg o L)) := ow_base hu2 HF1.out.size
      have HF2 := Lib.hid (HF1.out.trans hf2 (fun _ h _ => h))
      clear hu2 hf2
      go_wp2_with fail
      go_roundw
      case rel => exact ⟨k + 1, mrg o L, by go_num, by omega, HP2, HO2, HF2⟩
      case measure => simp [intOf]; omega
    · obtain rfl : k = ps.length := by omega
      go_wp2_with fail
      go_ret
      have h1 : Ls.take ps.length = Ls := by rw [← HLL.out, List.take_length]
      have h2 := HP.out
      rw [h1] at h2
      exact ⟨_, o, rfl, ⟨h2.1, h2.2.1⟩, h2.2.2, HO.out, HF.out⟩
end Go.Proofs.Ytgomilodeaafdaa
namespace Go.Proofs.Ytgomilodeaafdaa
open Go.RowKit
def tgtR (al : Bool) (n : Nat) : Int := if al then (n : Int) else 1
set_option maxRecDepth 100000 in
set_option maxHeartbeats 4000000 in
theorem chosenR_any (w : World) (v : Value) (ps : List Value) (Ls : List (List ByteArray)) (L0 : List ByteArray) (h : RfRow w v ps Ls) (h0 : Ls[0]? = some L0) (al : Bool) :
    Calls Try.prog 121 #[v, .bool al] w (ChPost w (chosenBy Ls.flatten (tgtR al Ls.length) L0)) := by
  have hlm := h.rd.len
  unfold maxLen at hlm
  have H := Lib.hid h
  obtain ⟨-, va, vc, rfl, hvc, hvm, -⟩ := h.rd
  unfold maxLen at hvm
  have hll : Ls.length = ps.length := h.len
  have HLL := Lib.hid hll
  obtain ⟨rest, hrest⟩ : ∃ rest, Ls = L0 :: rest := by
    cases Ls with
    | nil => simp at h0
    | cons a r => cases h0; exact ⟨r, rfl⟩
  have HRE := Lib.hid hrest
  have hrl : rest.length + 1 = ps.length := by rw [← hll, hrest]; rfl
  have HRL := Lib.hid hrl
  have hpos : 0 < ps.length := by omega
  obtain ⟨p0, hp0⟩ : ∃ p, ps[0]? = some p := ⟨_, List.getElem?_eq_getElem hpos⟩
  have hm0 := h.mem 0 p0 L0 hp0 h0
  have HM0 := Lib.hid (memR_any w p0 L0 hm0)
  have HF0 := Lib.hid hm0.facts
  have hnd : ∀ L ∈ Ls, L.Nodup := fun L hL => by
    obtain ⟨i, hi, hiL⟩ := List.mem_iff_getElem.1 hL
    have h2 : i < ps.length := by omega
    exact ltS_nodup (h.mem i _ L (List.getElem?_eq_getElem h2) (by rw [List.getElem?_eq_getElem hi, hiL])).facts.2
  have HND := Lib.hid hnd
  obtain ⟨g, off, e9, hcell⟩ := h.rd.at (by omega)
  cases e9
  have hc0 := hcell 0 p0 hp0
  rw [Nat.add_zero] at hc0
  have g0 : ((ps.length : Int) == 0) = false := beq_eq_false_iff_ne.2 (by omega)
  have b00 : (0 : Int) < (ps.length : Int) := by omega
  obtain ⟨i0, hi, hz0, hz1, hz2⟩ := info_parts info_str
  have HI := Lib.hid hi
  have HZ0 := Lib.hid hz0
  have HZ1 := Lib.hid hz1
  have HZ2 := Lib.hid hz2
  have HCN : Hid (∀ x ∈ L0, (cn Ls.flatten x : Int) = 1 + (cn rest.flatten x : Int)) := fun x hx => by
    rw [hrest, List.flatten_cons, cn_append, cn_nodup (hnd L0 (by rw [hrest]; exact List.mem_cons_self ..)), if_pos (inL_iff.2 hx)]
    omega
  have HNR : Hid (∀ L ∈ rest, L.Nodup) := fun L hL => hnd L (by rw [hrest]; exact List.mem_cons_of_mem _ hL)
  have e1 : IntKind.i64.wrap ((ps.length : Int) - 1) = (ps.length : Int) - 1 := IntWalk.i64_in _ (by omega)
  clear h hll hrest hp0 hm0 hnd hcell hi hz0 hz1 hz2
  obtain ⟨P, hP⟩ : ∃ P : ByteArray → Bool, (fun x => decide ((cn Ls.flatten x : Int) = tgtR al Ls.length)) = P := ⟨_, rfl⟩
  have HPP : Hid (∀ x, P x = decide ((cn Ls.flatten x : Int) = tgtR al Ls.length)) := fun x => by rw [← hP]
  have HRS : Hid (chosenBy Ls.flatten (tgtR al Ls.length) L0 = L0.filter P) := by
    show _ = _
    unfold chosenBy
    rw [hP]
  rw [HRS.out]
  clear hP
  go_enter Try.func121, Try.ntmps121
  go_wp2_with fail
  refine HM0.out.mono ?_
  rintro e w1 ⟨u, rfl, hu, hf1⟩
  obtain ⟨ua, uc, rfl⟩ := owns_slice hu
  have HU := Lib.hid hu
  have HF1 := Lib.hid hf1
  clear hu hf1 hc0
  go_wp2_with fail
  go_loopw [5, 19] (fun u i wr => ∃ (k : Nat), i = .int .i64 k ∧ k ≤ L0.length ∧ Hid (RowS w1.heap.size wr u ((L0.take k).filter P)) ∧ Hid (Fr (fun _ => False) w1 wr)) (fun _ i _ => L0.length - (intOf i).toNat)
  case atStart => exact ⟨0, rfl, by omega, World.ownsRow_nil _ _ _ _, Fr.refl _ _⟩
  case round =>
    obtain ⟨k, rfl, hk, HO, HF⟩ := hrel
    obtain ⟨wo, rfl⟩ : ∃ x, x = wr := ⟨_, rfl⟩
    by_cases hlt : k < L0.length
    · have hx0 := rd_text (RdC.of_owns (ow_fr HU.out HF.out (fun _ _ h => h))) k hlt
      obtain ⟨gu, offu, e9, hcu⟩ := hx0
      cases e9
      obtain ⟨x, hx⟩ : ∃ x, L0[k] = x := ⟨_, rfl⟩
      rw [hx] at hcu
      have HXM : Hid (x ∈ L0) := hx ▸ List.getElem_mem hlt
      have HTK : Hid ((L0.take (k + 1)).filter P = (L0.take k).filter P ++ [x].filter P) := by
        show _ = _
        rw [List.take_succ_eq_append_getElem hlt, hx, List.filter_append]
      have hol : ((L0.take k).filter P).length ≤ k := by
        have h2 : (L0.take k).length ≤ k := by rw [List.length_take]; omega
        exact Nat.le_trans (List.length_filter_le _ _) h2
      obtain ⟨o, ho⟩ : ∃ o, (L0.take k).filter P = o := ⟨_, rfl⟩
      rw [ho] at hol HTK HO
      have hO := HO.out
      obtain ⟨oa, oc, rfl⟩ := owns_slice hO
      have HFW : Hid (Fr (fun _ => False) w wo) := HF1.out.trans HF.out (fun _ h _ => h)
      have c0 : (0 : Int) ≤ (k : Int) := by omega
      have c1 : (k : Int) < (L0.length : Int) := by omega
      have d0 : (1 : Int) ≤ (ps.length : Int) := by omega
      have d1 : (ps.length : Int) ≤ (vc : Int) := by omega
      clear hx ho hO
      by_cases hv1 : vc = 1
      · subst hv1
        go_wp2_with fail
        go_loopw [8, 26] (fun c j wr => j = .int .i64 0 ∧ c = .int .i64 0 ∧ Hid (wr = wo)) (fun _ _ _ => 0)
        case atStart => exact ⟨rfl, rfl, rfl⟩
        case round =>
          obtain ⟨rfl, rfl, HW⟩ := hrel
          obtain ⟨wq, rfl⟩ : ∃ x, x = wr := ⟨_, rfl⟩
          have hwq := HW.out
          subst hwq
          have hr0 : rest = [] := List.length_eq_zero_iff.1 (by omega)
          have hc : cn rest.flatten x = 0 := by rw [hr0]; rfl
          have z0 : ((0 : Nat) : Int) = 0 := rfl
          have hcn := HCN.out x HXM.out
          rw [hc, z0] at hcn
          have hpx := HPP.out x
          rw [hcn] at hpx
          have hln : (Ls.length : Int) = (rest.length : Int) + 1 := by have := HLL.out; omega
          have HSZ : Hid (w1.heap.size ≤ wq.heap.size) := HF.out.size
          have hl9 := HF0.out.1
          cases al with
          | true =>
            by_cases hq : (0 : Int) = (rest.length : Int)
            · have k1 : ((0 : Int) == (ps.length : Int) - 1) = true := beq_iff_eq.2 (by omega)
              have hp : P x = true := by rw [hpx]; exact decide_eq_true (by show _ = (Ls.length : Int); omega)
              have HPX : Hid ([x].filter P = [x]) := List.filter_cons_of_pos hp
              clear hp hpx hcn hln hc hr0 z0
              go_wp2_with (at_builtin; refine wpl_append2 rfl (.tmp 52) (.tmp 54) 39 rfl w1.heap.size 9 i0 (.string ⟨#[]⟩) 1 16 Try.underlying39 HI.out HZ0.out HZ1.out HZ2.out rfl (by decide) (.slice oa o.length oc) o.length _ rfl (HO.out.alloc _) _ 1 [.string x] rfl (RdC.of_owns (World.ownsRow_lit (base := wq.heap.size) (e := 9) (size := 1) wq #[.string x] 1 (Nat.le_refl _) (by decide) rfl)) (by simp [Value.oneCell']) (by unfold maxLen; omega) (by omega) (by rw [World.size_alloc]; have := HSZ.out; omega) ?_; intro v' w8 hown hgrow hap; have HO8 : Hid (RowS w1.heap.size w8 v' (o ++ [x])) := rowS_app (K := [x]) hown; have HF8 : Hid (Fr (fun _ => False) w1 w8) := (HF.out.thenAlloc _).wide (Fr.of_grownBy hgrow) (fun g hg => .inr (own_blk HO.out hg).1); clear hown hgrow hap)
              go_roundw
              case rel => exact ⟨k + 1, by go_num, by omega, (by show RowS _ _ _ _; rw [HTK.out, HPX.out]; exact HO8.out), HF8⟩
              case measure => simp [intOf]; omega
            · have k1 : ((0 : Int) == (ps.length : Int) - 1) = false := beq_eq_false_iff_ne.2 (by omega)
              have hp : P x = false := by rw [hpx]; exact decide_eq_false (by show ¬ _ = (Ls.length : Int); omega)
              have HPX : Hid ([x].filter P = []) := List.filter_cons_of_neg (by rw [hp]; decide)
              clear hp hpx hcn hln hc hr0 z0
              go_wp2_with fail
              go_roundw
              case rel => exact ⟨k + 1, by go_num, by omega, (by show RowS _ _ _ _; rw [HTK.out, HPX.out, List.append_nil]; exact HO.out), HF⟩
              case measure => simp [intOf]; omega
          | false =>
            by_cases hq : (0 : Int) = (0 : Int)
            · have k1 : ((0 : Int) == 0) = true := beq_iff_eq.2 hq
              have hp : P x = true := by rw [hpx]; exact decide_eq_true (by show _ = (1 : Int); omega)
              have HPX : Hid ([x].filter P = [x]) := List.filter_cons_of_pos hp
              clear hp hpx hcn hln hc hr0 z0
              go_wp2_with (at_builtin; refine wpl_append2 rfl (.tmp 52) (.tmp 54) 39 rfl w1.heap.size 9 i0 (.string ⟨#[]⟩) 1 16 Try.underlying39 HI.out HZ0.out HZ1.out HZ2.out rfl (by decide) (.slice oa o.length oc) o.length _ rfl (HO.out.alloc _) _ 1 [.string x] rfl (RdC.of_owns (World.ownsRow_lit (base := wq.heap.size) (e := 9) (size := 1) wq #[.string x] 1 (Nat.le_refl _) (by decide) rfl)) (by simp [Value.oneCell']) (by unfold maxLen; omega) (by omega) (by rw [World.size_alloc]; have := HSZ.out; omega) ?_; intro v' w8 hown hgrow hap; have HO8 : Hid (RowS w1.heap.size w8 v' (o ++ [x])) := rowS_app (K := [x]) hown; have HF8 : Hid (Fr (fun _ => False) w1 w8) := (HF.out.thenAlloc _).wide (Fr.of_grownBy hgrow) (fun g hg => .inr (own_blk HO.out hg).1); clear hown hgrow hap)
              go_roundw
              case rel => exact ⟨k + 1, by go_num, by omega, (by show RowS _ _ _ _; rw [HTK.out, HPX.out]; exact HO8.out), HF8⟩
              case measure => simp [intOf]; omega
            · exact absurd rfl hq
      · go_wp2_with fail
        rw [show ps.length - 1 = rest.length by omega]
        go_loopw [8, 26] (fun c j wr => ∃ jj : Nat, j = .int .i64 jj ∧ jj ≤ rest.length ∧ c = .int .i64 (cn (rest.take jj).flatten x : Nat) ∧ Hid (wr = wo)) (fun _ j _ => rest.length - (intOf j).toNat)
        case atStart => exact ⟨0, rfl, by omega, rfl, rfl⟩
        case round =>
          obtain ⟨jj, rfl, hjj, rfl, HW⟩ := hrel
          obtain ⟨wq, rfl⟩ : ∃ x, x = wr := ⟨_, rfl⟩
          have hwq := HW.out
          subst hwq
          obtain ⟨c, hc⟩ : ∃ c, cn (rest.take jj).flatten x = c := ⟨_, rfl⟩
          rw [hc]
          have hcle : c ≤ rest.length := by
            rw [← hc]
            refine Nat.le_trans (cn_lists_le (fun L hL => HNR.out L (List.mem_of_mem_take hL)) x) ?_
            rw [List.length_take]
            omega
          by_cases hj : jj < rest.length
          · have h1 := H.out.quiet HFW.out
            obtain ⟨p, L, hp, hL, hmem⟩ := h1.nth (i := jj + 1) (by omega)
            obtain ⟨g', off', e9, hcell⟩ := h1.rd.at (by omega)
            cases e9
            have hcp := hcell (jj + 1) p hp
            rw [show off + (jj + 1) = off + 1 + jj by omega] at hcp
            have hL2 : rest[jj]? = some L := by
              have h2 := hL
              rw [HRE.out] at h2
              exact h2
            have htk := cn_take HNR.out hL2 x
            rw [hc] at htk
            have HIN := Lib.hid (in_any wq p L x hmem)
            have b0 : (0 : Int) ≤ (jj : Int) := by omega
            have b1 : (jj : Int) < (rest.length : Int) := by omega
            obtain ⟨q, hq⟩ : ∃ q, inL x L = q := ⟨_, rfl⟩
            rw [hq] at HIN htk
            have HTK2 := Lib.hid htk
            clear h1 hcell hp hL hmem hL2 htk hq hc
            go_wp2_with fail
            refine HIN.out.mono ?_
            rintro e w' ⟨rfl, rfl⟩
            cases q with
            | true =>
              have e5 : IntKind.i64.wrap ((c : Int) + 1) = ((c + 1 : Nat) : Int) := by rw [IntWalk.i64_in _ (by omega)]; omega
              go_wp2_with fail
              go_roundw
              case rel => exact ⟨jj + 1, by go_num, by omega, by rw [HTK2.out]; first | rfl | simp, trivial⟩
              case measure => simp [intOf]; omega
            | false =>
              go_wp2_with fail
              go_roundw
              case rel => exact ⟨jj + 1, by go_num, by omega, by rw [HTK2.out]; first | rfl | simp, trivial⟩
              case measure => simp [intOf]; omega
          · obtain rfl : jj = rest.length := by omega
            rw [List.take_length] at hc
            have hcn := HCN.out x HXM.out
            rw [hc] at hcn
            have hpx := HPP.out x
            rw [hcn] at hpx
            have hln : (Ls.length : Int) = (rest.length : Int) + 1 := by have := HLL.out; omega
            have HSZ : Hid (w1.heap.size ≤ wq.heap.size) := HF.out.size
            have hl9 := HF0.out.1
            cases al with
            | true =>
              by_cases hq : (c : Int) = (rest.length : Int)
              · have k1 : ((c : Int) == (ps.length : Int) - 1) = true := beq_iff_eq.2 (by omega)
                have hp : P x = true := by rw [hpx]; exact decide_eq_true (by show _ = (Ls.length : Int); omega)
                have HPX : Hid ([x].filter P = [x]) := List.filter_cons_of_pos hp
                clear hp hpx hcn hln hc hq
                go_wp2_with (at_builtin; refine wpl_append2 rfl (.tmp 52) (.tmp 54) 39 rfl w1.heap.size 9 i0 (.string ⟨#[]⟩) 1 16 Try.underlying39 HI.out HZ0.out HZ1.out HZ2.out rfl (by decide) (.slice oa o.length oc) o.length _ rfl (HO.out.alloc _) _ 1 [.string x] rfl (RdC.of_owns (World.ownsRow_lit (base := wq.heap.size) (e := 9) (size := 1) wq #[.string x] 1 (Nat.le_refl _) (by decide) rfl)) (by simp [Value.oneCell']) (by unfold maxLen; omega) (by omega) (by rw [World.size_alloc]; have := HSZ.out; omega) ?_; intro v' w8 hown hgrow hap; have HO8 : Hid (RowS w1.heap.size w8 v' (o ++ [x])) := rowS_app (K := [x]) hown; have HF8 : Hid (Fr (fun _ => False) w1 w8) := (HF.out.thenAlloc _).wide (Fr.of_grownBy hgrow) (fun g hg => .inr (own_blk HO.out hg).1); clear hown hgrow hap)
                go_roundw
                case rel => exact ⟨k + 1, by go_num, by omega, (by show RowS _ _ _ _; rw [HTK.out, HPX.out]; exact HO8.out), HF8⟩
                case measure => simp [intOf]; omega
              · have k1 : ((c : Int) == (ps.length : Int) - 1) = false := beq_eq_false_iff_ne.2 (by omega)
                have hp : P x = false := by rw [hpx]; exact decide_eq_false (by show ¬ _ = (Ls.length : Int); omega)
                have HPX : Hid ([x].filter P = []) := List.filter_cons_of_neg (by rw [hp]; decide)
                clear hp hpx hcn hln hc hq
                go_wp2_with fail
                go_roundw
                case rel => exact ⟨k + 1, by go_num, by omega, (by show RowS _ _ _ _; rw [HTK.out, HPX.out, List.append_nil]; exact HO.out), HF⟩
                case measure => simp [intOf]; omega
            | false =>
              by_cases hq : (c : Int) = (0 : Int)
              · have k1 : ((c : Int) == 0) = true := beq_iff_eq.2 hq
                have hp : P x = true := by rw [hpx]; exact decide_eq_true (by show _ = (1 : Int); omega)
                have HPX : Hid ([x].filter P = [x]) := List.filter_cons_of_pos hp
                clear hp hpx hcn hln hc hq
                go_wp2_with (at_builtin; refine wpl_append2 rfl (.tmp 52) (.tmp 54) 39 rfl w1.heap.size 9 i0 (.string ⟨#[]⟩) 1 16 Try.underlying39 HI.out HZ0.out HZ1.out HZ2.out rfl (by decide) (.slice oa o.length oc) o.length _ rfl (HO.out.alloc _) _ 1 [.string x] rfl (RdC.of_owns (World.ownsRow_lit (base := wq.heap.size) (e := 9) (size := 1) wq #[.string x] 1 (Nat.le_refl _) (by decide) rfl)) (by simp [Value.oneCell']) (by unfold maxLen; omega) (by omega) (by rw [World.size_alloc]; have := HSZ.out; omega) ?_; intro v' w8 hown hgrow hap; have HO8 : Hid (RowS w1.heap.size w8 v' (o ++ [x])) := rowS_app (K := [x]) hown; have HF8 : Hid (Fr (fun _ => False) w1 w8) := (HF.out.thenAlloc _).wide (Fr.of_grownBy hgrow) (fun g hg => .inr (own_blk HO.out hg).1); clear hown hgrow hap)
                go_roundw
                case rel => exact ⟨k + 1, by go_num, by omega, (by show RowS _ _ _ _; rw [HTK.out, HPX.out]; exact HO8.out), HF8⟩
                case measure => simp [intOf]; omega
              · have k1 : ((c : Int) == 0) = false := beq_eq_false_iff_ne.2 hq
                have hp : P x = false := by rw [hpx]; exact decide_eq_false (by show ¬ _ = (1 : Int); omega)
                have HPX : Hid ([x].filter P = []) := List.filter_cons_of_neg (by rw [hp]; decide)
                clear hp hpx hcn hln hc hq
                go_wp2_with fail
                go_roundw
                case rel => exact ⟨k + 1, by go_num, by omega, (by show RowS _ _ _ _; rw [HTK.out, HPX.out, List.append_nil]; exact HO.out), HF⟩
                case measure => simp [intOf]; omega
    · obtain rfl : k = L0.length := by omega
      go_wp2_with fail
      go_ret
      refine ⟨_, rfl, ?_, HF1.out.trans HF.out (fun _ h _ => h)⟩
      have h2 := ow_base HO.out HF1.out.size
      rw [List.take_length] at h2
      exact h2
end Go.Proofs.Ytgomilodeaafdaa
namespace Go.Proofs.Ytgomilodeaafdaa
open Go.RowKit
theorem chosenR_nil (w : World) (v : Value) (h : RdC w 1 v 0 []) (al : Bool) : Calls Try.prog 121 #[v, .bool al] w fun e w' => e = .returned (.slice none 0 0) ∧ w = w' := by
  obtain ⟨-, va, vc, rfl, -⟩ := h
  go_enter Try.func121, Try.ntmps121
  go_wp2
  go_ret
  exact ⟨rfl, rfl⟩
theorem chosenR_all (w : World) (v : Value) (ps : List Value) (Ls : List (List ByteArray)) (h : RfRow w v ps Ls) (al : Bool) :
    Calls Try.prog 121 #[v, .bool al] w (ChPost w (chosenBy Ls.flatten (tgtR al Ls.length) (Ls.headD []))) := by
  cases hL : Ls with
  | nil =>
    have h1 := h.len
    rw [hL] at h1
    have h2 := h.rd
    have h3 : ps = [] := List.length_eq_zero_iff.1 h1.symm
    subst h3
    refine (chosenR_nil w v h2 al).mono ?_
    rintro e w' ⟨rfl, rfl⟩
    exact ⟨_, rfl, World.ownsRow_nil _ _ _ _, Fr.refl _ _⟩
  | cons L0 r =>
    rw [← hL]
    have h2 := chosenR_any w v ps Ls L0 h (by rw [hL]; rfl) al
    have e : Ls.headD [] = L0 := by rw [hL]; rfl
    rw [e]
    exact h2
theorem refInter_any (w : World) (v : Value) (ps : List Value) (Ls : List (List ByteArray)) (h : RfRow w v ps Ls) : Calls Try.prog 48 #[v] w (ChPost w (interL Ls)) := by
  have HC := Lib.hid (chosenR_all w v ps Ls h true)
  clear h
  go_enter Try.func48, Try.ntmps48
  go_wp2_with fail
  refine HC.out.mono ?_
  rintro e w1 ⟨u, rfl, hu, hf⟩
  have HU := Lib.hid hu
  clear hu
  go_wp2_with fail
  go_ret
  exact ⟨u, rfl, HU.out, hf⟩
theorem refDiff_any (w : World) (v : Value) (ps : List Value) (Ls : List (List ByteArray)) (h : RfRow w v ps Ls) : Calls Try.prog 49 #[v] w (ChPost w (diffL Ls)) := by
  have HC := Lib.hid (chosenR_all w v ps Ls h false)
  clear h
  go_enter Try.func49, Try.ntmps49
  go_wp2_with fail
  refine HC.out.mono ?_
  rintro e w1 ⟨u, rfl, hu, hf⟩
  have HU := Lib.hid hu
  clear hu
  go_wp2_with fail
  go_ret
  exact ⟨u, rfl, HU.out, hf⟩
end Go.Proofs.Ytgomilodeaafdaa
namespace Go.Proofs.Ytgomilodeaafdaa
open Go.ChangeShapes Go.WideShapes Go.ChangeAt Go.RowKit Du
section
variable {w0 w w' w1 w2 w3 w4 : World} {F G F1 F2 : Nat → Prop} {r d mr : Nat} {M : DM} {A : List Me} {N : NM} {L : Pl} {l : List ByteArray}
/-- both hold the same, and no more than so many -/
def BoN (w0 w : World) (F : Nat → Prop) (r mr K : Nat) (w' : World) : Prop := ∃ A', A'.length ≤ K ∧ Bo w0 w' (Grew F w w') r mr A' ∧ Fr F w w'
theorem doneN (hl : ∀ k, F k → w0.heap.size ≤ k ∧ k < w.heap.size) (hb : w0.heap.size ≤ w.heap.size) {M' : DM} {A' : List Me} {F1' F2' : Nat → Prop} {K : Nat} (h2 : Fr F w w2) (hq : Fr (fun _ => False) w2 w3) (h : Ha w0 w4 (Grew (Grew F w w2) w3 w4) F1' F2' r d mr M' A' N L l) (h4 : Fr (Grew F w w2) w3 w4) (hN : N = nmM M') (hL : L = L0 A') (hK : A'.length ≤ K) : BoN w0 w F r mr K w4 := by
  have hs := h2.size
  have hs2 := hq.size
  have hs3 := h4.size
  subst hN hL
  have hf : Fr F w w4 := (h2.wide hq (fun _ h => h.elim)).wide h4 (fun k hk => hk.imp id (fun q => q.1))
  refine ⟨A', hK, ⟨F1', F2', d, M', l, h.wide (fun k hk => ?_) (Grew.lts hl hb hf.size)⟩, hf⟩
  rcases hk with (hk | hk) | hk
  · exact .inl hk
  · exact .inr ⟨hk.1, by omega⟩
  · exact .inr ⟨by omega, hk.2⟩
/-- what the second call leaves -/
def TwN (w0 w : World) (F : Nat → Prop) (r mr K : Nat) (fn : Nat) (args : Array Value) (v : Value) (e : Ending) (w2 : World) : Prop :=
  e = .returned v ∧ Fr F w w2 ∧ ∀ w3, Fr (fun _ => False) w2 w3 → Calls Try.prog fn args w3 fun e w4 => e = .returned v ∧ BoN w0 w F r mr K w4
theorem bo_addF (h : Bo w0 w F r mr A) (key : ByteArray) (hk2 : key.size ≤ 1048576) : ∃ (b : Bool) (c : Int), Calls Try.prog 41 #[.pointer (some ⟨r, 0, none⟩), .string key] w
    (TwN w0 w F r mr (A.length + 1) 42 #[.pointer (some ⟨mr, 0, none⟩), .string key] (.tuple #[.bool b, .int .i64 c])) := by
  obtain ⟨F1, F2, d, M, l, h⟩ := h
  have hl := h.lt
  have hb := h.bel.size
  have hlike := h.f.like
  cases ha : fdG key A with
  | some i =>
    refine ⟨false, 0, (floAdd_there w _ F1 r d M A key i h.f hb hk2 ha).mono ?_⟩
    rintro e w2 ⟨rfl, hg⟩
    obtain ⟨h2, f2⟩ := h.fturn hg h.lens.step
    refine ⟨rfl, f2, fun w3 hq => (rfAdd_any w3 _ mr F2 _ _ l key (h2.quiet hq).m (h2.quiet hq).bel.size hk2).mono ?_⟩
    rintro e w4 ⟨N', L', l', hg4, hc⟩
    rw [fdG_L0, ha] at hc
    rcases hc with ⟨-, rfl, rfl, rfl⟩ | ⟨h9, -⟩ | ⟨h9, -⟩
    · obtain ⟨h4, f4⟩ := (h2.quiet hq).rturn hg4
      exact ⟨rfl, doneN hl hb f2 hq h4 f4 (nm_step M).symm rfl (Nat.le_succ _)⟩
    · cases h9
    · cases h9
  | none =>
    by_cases hfull : 1048576 ≤ A.length
    · refine ⟨false, 4, (floAdd_full w _ F1 r d M A key h.f hb hk2 ha hfull).mono ?_⟩
      rintro e w2 ⟨rfl, hg⟩
      obtain ⟨h2, f2⟩ := h.fturn hg h.lens.step
      refine ⟨rfl, f2, fun w3 hq => (rfAdd_any w3 _ mr F2 _ _ l key (h2.quiet hq).m (h2.quiet hq).bel.size hk2).mono ?_⟩
      rintro e w4 ⟨N', L', l', hg4, hc⟩
      rw [fdG_L0, ha, L0_len] at hc
      rcases hc with ⟨h9, -⟩ | ⟨-, -, rfl, rfl, rfl⟩ | ⟨-, h9, -⟩
      · cases h9
      · obtain ⟨h4, f4⟩ := (h2.quiet hq).rturn hg4
        exact ⟨rfl, doneN hl hb f2 hq h4 f4 (nm_step M).symm rfl (Nat.le_succ _)⟩
      · omega
    · refine ⟨true, 0, (floAdd_new w _ F1 r d M A key h.f hb hk2 ha (by omega)).mono ?_⟩
      rintro e w2 ⟨rfl, t, b, hg⟩
      have hls : Lens (setM (stepM M) key (vl ()) t b) 1048576 := h.lens.step.set (inv_step M hlike.inv) (by rw [(step_lens M).2.2.2, hlike.count]; exact h.f.len) key _ t b
      obtain ⟨h2, f2⟩ := h.fturn hg hls
      refine ⟨rfl, f2, fun w3 hq => (rfAdd_any w3 _ mr F2 _ _ l key (h2.quiet hq).m (h2.quiet hq).bel.size hk2).mono ?_⟩
      rintro e w4 ⟨N', L', l', hg4, hc⟩
      rw [fdG_L0, ha, L0_len] at hc
      rcases hc with ⟨h9, -⟩ | ⟨-, h9, -⟩ | ⟨-, -, rfl, rfl, rfl⟩
      · cases h9
      · omega
      · obtain ⟨h4, f4⟩ := (h2.quiet hq).rturn hg4
        refine ⟨rfl, doneN hl hb f2 hq h4 f4 ?_ (L0_new ha) (by rw [setG_none ha, List.length_append]; exact Nat.le_refl _)⟩
        rw [nm_set (inv_step M hlike.inv), nm_step, has_step hlike.inv, tw_key hlike, ha, (step_lens M).2.2.2, hlike.count]
        rfl
/-- a new pair, of flocks just made -/
theorem bo_new {s : UInt64} {r d mr p : Nat} {Fd : Nat → Prop} {X : RB} (hf : FloF w1 w.heap.size (iv w.heap.size w1.heap.size) r d ⟨s, 0, [], 0, [], 0, 0⟩ []) (h1 : Fr (fun _ => False) w w1)
    (hm : RefFx w2 w1.heap.size mr (iv w1.heap.size w2.heap.size) ⟨s, [], [], 0⟩ [] [] p Fd X (.slice none 0 0)) (h2 : Fr (fun _ => False) w1 w2) : Bo w w2 (iv w.heap.size w2.heap.size) r mr [] := by
  have z1 := h1.size
  have z2 := h2.size
  exact ⟨iv w.heap.size w1.heap.size, iv w1.heap.size w2.heap.size, d, ⟨s, 0, [], 0, [], 0, 0⟩, [], fun i hi => ⟨hi.1, by have := hi.2; omega⟩, fun i hi => ⟨by have := hi.1; omega, hi.2⟩, fun i hi hi2 => (by have := hi.2; have := hi2.1; omega), hf.quiet h2, ⟨⟨p, Fd, X, _, hm.base z1⟩, List.Pairwise.nil, List.Perm.nil, by simp, by simp, by simp [nmM], by simp [nmM]⟩, fun i hi => hi, (h1.trans h2 (fun _ h _ => h)).below (Nat.le_refl _) (fun _ h => h.elim), by unfold Lens; simp⟩
end
/-- a flock and the document's, in a row -/
structure Pr10 where
  r : Nat
  m : Nat
  F : Nat → Prop
  A : List Me
def oF : Option Pr10 → Value
  | some p => .pointer (some ⟨p.r, 0, none⟩)
  | none => .pointer none
def oM : Option Pr10 → Value
  | some p => .pointer (some ⟨p.m, 0, none⟩)
  | none => .pointer none
def oL : Option Pr10 → List ByteArray
  | some p => sortS (ks p.A)
  | none => []
structure Pw10 (w0 w : World) (vf vm : Value) (ps : List (Option Pr10)) : Prop where
  rf : w.ownsRow w0.heap.size 67 1 vf ps.length (ps.map oF)
  rm : w.ownsRow w0.heap.size 70 1 vm ps.length (ps.map oM)
  fr : Fr (fun _ => False) w0 w
  one : ∀ (i : Nat) (p : Pr10), ps[i]? = some (some p) → Bo w0 w p.F p.r p.m p.A ∧ Aw p.F vf ∧ Aw p.F vm
theorem Pw10.start (w : World) : Pw10 w w (.slice none 0 0) (.slice none 0 0) [] := ⟨World.ownsRow_nil _ _ _ _, World.ownsRow_nil _ _ _ _, Fr.refl _ _, fun i p h => by simp at h⟩
section
variable {w0 w w' w1 w2 : World} {vf vm vf' vm' : Value} {ps : List (Option Pr10)}
theorem Pw10.quiet (h : Pw10 w0 w vf vm ps) (hf : Fr (fun _ => False) w w') : Pw10 w0 w' vf vm ps :=
  ⟨ow_fr h.rf hf (fun _ _ h => h), ow_fr h.rm hf (fun _ _ h => h), h.fr.trans hf (fun _ h _ => h), fun i p hi => ⟨(h.one i p hi).1.quiet hf, (h.one i p hi).2⟩⟩
theorem Bo.base {wb : World} {F : Nat → Prop} {r mr : Nat} {A : List Me} (h : Bo wb w F r mr A) (hb : Below w0.heap.size w0 w) (hs : w0.heap.size ≤ wb.heap.size) : Bo w0 w F r mr A := by
  obtain ⟨F1, F2, d, M, l, h⟩ := h
  exact ⟨F1, F2, d, M, l, h.s1, h.s2, h.dis, h.f.base hs, h.m.base hs, fun k hk => ⟨Nat.le_trans hs (h.lt k hk).1, (h.lt k hk).2⟩, hb, h.lens⟩
theorem Pw10.rmAt {w3 w3' : World} (h : Pw10 w0 w vf vm ps) (hg : w.grownBy w3 vf.ownBlock) (hq2 : Fr (fun _ => False) w3 w3') : w3'.ownsRow w0.heap.size 70 1 vm ps.length (ps.map oM) :=
  ow_fr (ow_fr h.rm (Fr.of_grownBy hg) (fun g h3 h4 => BT.ne (own_blk h.rm h3).2.2 (own_blk h.rf h4).2.2 (by decide) rfl)) hq2 (fun _ _ h => h)
/-- one more pair, or none, in both rows -/
theorem Pw10.app {wo w2 w3 w3' w4 : World} (h : Pw10 w0 wo vf vm ps) {wp : World} (hq0 : Fr (fun _ => False) wo wp) (hq1 : Fr (fun _ => False) wp w2) {o : Option Pr10} (ho : ∀ p, o = some p → Bo wo wp p.F p.r p.m p.A)
    (hr : w3.ownsRow w0.heap.size 67 1 vf' (ps.length + 1) (ps.map oF ++ [oF o])) (hg : w2.grownBy w3 vf.ownBlock) (ha : ∀ g, vf'.ownBlock = some g → vf.ownBlock = some g ∨ w2.heap.size ≤ g) (hq2 : Fr (fun _ => False) w3 w3')
    (hr2 : w4.ownsRow w0.heap.size 70 1 vm' (ps.length + 1) (ps.map oM ++ [oM o])) (hg2 : w3'.grownBy w4 vm.ownBlock) (ha2 : ∀ g, vm'.ownBlock = some g → vm.ownBlock = some g ∨ w3'.heap.size ≤ g) : Pw10 w0 w4 vf' vm' (ps ++ [o]) := by
  have hq : Fr (fun _ => False) wo w2 := hq0.trans hq1 (fun _ h _ => h)
  have h2 := h.quiet hq
  have f1 := Fr.of_grownBy hg
  have f2 := Fr.of_grownBy hg2
  have z0 := hq0.size
  have z1 := hq1.size
  have z2 := f1.size
  have z3 := hq2.size
  have z4 := f2.size
  have z9 := h.fr.size
  have lf : ∀ k, vf.ownBlock = some k → w0.heap.size ≤ k ∧ k < wo.heap.size := fun k hk => ⟨(own_blk h.rf hk).1, (own_blk h.rf hk).2.1⟩
  have lm : ∀ k, vm.ownBlock = some k → w0.heap.size ≤ k ∧ k < wo.heap.size := fun k hk => ⟨(own_blk h.rm hk).1, (own_blk h.rm hk).2.1⟩
  have rm3 : w3'.ownsRow w0.heap.size 70 1 vm ps.length (ps.map oM) := ow_fr (ow_fr h2.rm f1 (fun g h3 h4 => BT.ne (own_blk h2.rm h3).2.2 (own_blk h2.rf h4).2.2 (by decide) rfl)) hq2 (fun _ _ h => h)
  have rf3 := ow_fr hr hq2 (fun _ _ h => h)
  have fall : Fr (fun _ => False) w0 w4 := (((h.fr.trans hq (fun _ h _ => h)).wide f1 (fun i hi => .inr (lf i hi).1)).trans hq2 (fun _ h _ => h)).wide f2 (fun i hi => .inr (lm i hi).1)
  have step : ∀ (F : Nat → Prop) (r m : Nat) (A : List Me), Bo w0 w2 F r m A → Aw F vf → Aw F vm → (∀ k, F k → k < w2.heap.size) → Bo w0 w4 F r m A ∧ Aw F vf' ∧ Aw F vm' := fun F r m A b af am hl => by
    refine ⟨(((b.other f1 (fun i hi e => af i e hi) (fun i hi => (lf i hi).1)).quiet hq2).other f2 (fun i hi e => am i e hi) (fun i hi => (lm i hi).1)), fun g hgv hF => ?_, fun g hgv hF => ?_⟩
    · rcases ha g hgv with h5 | h5
      · exact af g h5 hF
      · have := hl g hF; omega
    · rcases ha2 g hgv with h5 | h5
      · exact am g h5 hF
      · have := hl g hF; omega
  refine ⟨?_, ?_, fall, fun i p hi => ?_⟩
  · rw [List.length_append, List.map_append]
    exact ow_fr rf3 f2 (fun g h3 h4 => BT.ne (own_blk rf3 h3).2.2 (own_blk rm3 h4).2.2 (by decide) rfl)
  · rw [List.length_append, List.map_append]
    exact hr2
  · rw [List.getElem?_append] at hi
    split at hi
    · obtain ⟨b, af, am⟩ := h.one i p hi
      exact step _ _ _ _ (b.quiet hq) af am (fun k hk => by have := (b.lts.1 k hk).2; omega)
    · have hi2 : o = some p := by
        have h5 := (List.getElem?_eq_some_iff.1 hi).1
        simp only [List.length_singleton] at h5
        have e : i - ps.length = 0 := by omega
        rw [e] at hi
        simpa using hi
      have b := ho p hi2
      have l1 := b.lts.1
      exact step _ _ _ _ ((b.quiet hq1).base ((h.fr.trans hq (fun _ h _ => h)).below (Nat.le_refl _) (fun _ h => h.elim)) z9) (fun g hgv hF => by have := (lf g hgv).2; have := (l1 g hF).1; omega) (fun g hgv hF => by have := (lm g hgv).2; have := (l1 g hF).1; omega) (fun k hk => by have := (l1 k hk).2; omega)
theorem pw_mem {F : Nat → Prop} {r mr : Nat} {A : List Me} (b : Bo w0 w F r mr A) : MemOf w (.pointer (some ⟨r, 0, none⟩)) (sortS (ks A)) ∧ MemR w (.pointer (some ⟨mr, 0, none⟩)) (sortS (ks A)) := by
  obtain ⟨F1, F2, d, M, l, h⟩ := b
  have hl : l.Perm (ks A) := h.lists
  have hn : (ks A).Nodup := hl.nodup_iff.1 (ltS_nodup h.m.rise)
  have e : l = sortS (ks A) := ltS_one (hl.trans (sortS_perm _).symm) h.m.rise (sortS_rises hn)
  rw [← e]
  exact ⟨.inr ⟨_, F1, r, d, M, A, rfl, h.f, hl, h.m.rise⟩, .inr ⟨_, mr, F2, _, _, rfl, h.m⟩⟩
theorem Pw10.rows (h : Pw10 w0 w vf vm ps) {v : Value} (hv : RdC w 1 v ps.length (ps.map oF)) : FlRow w v (ps.map oF) (ps.map oL) ∧ RfRow w vm (ps.map oM) (ps.map oL) := by
  have hm : ∀ (i : Nat) (o : Option Pr10), ps[i]? = some o → MemOf w (oF o) (oL o) ∧ MemR w (oM o) (oL o) := fun i o ho => by
    cases o with
    | none => exact ⟨.inl ⟨rfl, rfl⟩, .inl ⟨rfl, rfl⟩⟩
    | some p => exact pw_mem (h.one i p ho).1
  refine ⟨⟨by rw [List.length_map]; exact hv, by simp, fun i p L h1 h2 => ?_⟩, ⟨by rw [List.length_map]; exact RdC.of_owns h.rm, by simp, fun i p L h1 h2 => ?_⟩⟩
  · rw [List.getElem?_map] at h1 h2
    obtain ⟨o, ho, rfl⟩ := Option.map_eq_some_iff.1 h1
    rw [ho] at h2
    cases h2
    exact (hm i o ho).1
  · rw [List.getElem?_map] at h1 h2
    obtain ⟨o, ho, rfl⟩ := Option.map_eq_some_iff.1 h1
    rw [ho] at h2
    cases h2
    exact (hm i o ho).2
def oN : Option Pr10 → Nat
  | some p => p.A.length
  | none => 0
theorem oL_len (ps : List (Option Pr10)) : (ps.map oL).flatten.length = (ps.map oN).sum := by
  induction ps with
  | nil => rfl
  | cons o ps ih =>
    rw [List.map_cons, List.map_cons, List.flatten_cons, List.length_append, List.sum_cons, ih]
    cases o with
    | none => rfl
    | some p =>
      have e : (oL (some p)).length = p.A.length := by
        show (sortS (ks p.A)).length = _
        rw [(sortS_perm _).length_eq]
        exact List.length_map ..
      rw [e]
      rfl
end
end Go.Proofs.Ytgomilodeaafdaa
