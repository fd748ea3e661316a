/- The walk of DictPlays. No condition. -/
import Derived.Test.YtgomilodeaafdaaEd
namespace Go.Proofs.Ytgomilodeaafdaa
open Go.RowKit
/-- both pairs stand, each in its own memory -/
def Dp (w wr : World) (a m b n : Nat) (La Lb : Pl) : Prop := ∃ Fa Fb, Di.Bo w wr Fa a m La ∧ Dt.Bo w wr Fb b n Lb ∧ (∀ k, Fa k → ¬ Fb k) ∧ Fr (fun _ => False) w wr
theorem bo_new_int (w w1 w2 w3 : World) (one : UInt64) (a m : Nat) (ha : w.heap.size ≤ a) (ham : a < m) (hd : Di.DAt w1 a ⟨one, 0, [], 0, [], 0, 0⟩) (hb : ∀ k, Bs (Di.dictL a ⟨one, 0, [], 0, [], 0, 0⟩) k → k = a)
    (hm : RefD w2 m m (fun k => k = m) ⟨one, [], [], 0⟩ [] ⟨0, [], 0, [], .slice none 0 0, .slice none 0 0⟩) (h13 : Fr (fun _ => False) w1 w3) (h23 : Fr (fun _ => False) w2 w3) (hbel : Below w.heap.size w w3) (hms : m < w3.heap.size) : Di.Bo w w3 (fun k => k = a ∨ k = m) a m [] :=
  ⟨fun k => k = a, fun k => k = m, ⟨one, 0, [], 0, [], 0, 0⟩, _, fun k hk => .inl hk, fun k hk => .inr hk, fun k hk hk2 => by omega, hd.fr h13 (fun _ _ h => h), LikeG.new one, fun k hk => hb k hk, (hm.base (by omega)).quiet h23, fun k hk => by omega, hbel, ⟨Nat.zero_le _, Nat.zero_le _⟩⟩
theorem bo_new_thing (w w1 w2 w3 : World) (one : UInt64) (a m : Nat) (ha : w.heap.size ≤ a) (ham : a < m) (hd : Dt.DAt w1 a ⟨one, 0, [], 0, [], 0, 0⟩) (hb : ∀ k, Bs (Dt.dictL a ⟨one, 0, [], 0, [], 0, 0⟩) k → k = a)
    (hm : RefD w2 m m (fun k => k = m) ⟨one, [], [], 0⟩ [] ⟨0, [], 0, [], .slice none 0 0, .slice none 0 0⟩) (h13 : Fr (fun _ => False) w1 w3) (h23 : Fr (fun _ => False) w2 w3) (hbel : Below w.heap.size w w3) (hms : m < w3.heap.size) : Dt.Bo w w3 (fun k => k = a ∨ k = m) a m [] :=
  ⟨fun k => k = a, fun k => k = m, ⟨one, 0, [], 0, [], 0, 0⟩, _, fun k hk => .inl hk, fun k hk => .inr hk, fun k hk hk2 => by omega, hd.fr h13 (fun _ _ h => h), LikeG.new one, fun k hk => hb k hk, (hm.base (by omega)).quiet h23, fun k hk => by omega, hbel, ⟨Nat.zero_le _, Nat.zero_le _⟩⟩
theorem rdNewD (seed : UInt64) (w : World) : Calls Try.prog 17 #[.int .u64 (wd seed)] w fun e w' =>
    e = .returned (.pointer (some ⟨w.heap.size, 0, none⟩)) ∧ RefD w' w.heap.size w.heap.size (fun k => k = w.heap.size) ⟨seed, [], [], 0⟩ [] ⟨0, [], 0, [], .slice none 0 0, .slice none 0 0⟩ ∧ Fr (fun _ => False) w w' ∧ w'.heap.size = w.heap.size + 1 :=
  (rdNew_any seed w).mono fun e w' ⟨h1, h2⟩ => by subst h2; exact ⟨h1, rd_new seed w, Fr.alloc _ _ _, by simp⟩
theorem Dp.stepA {w W w' : World} {a m b n : Nat} {La Lb L' : Pl} {Fa Fb : Nat → Prop} (hA : Di.Bo w W Fa a m La) (hB : Dt.Bo w W Fb b n Lb) (hd : ∀ k, Fa k → ¬ Fb k) (hf : Fr (fun _ => False) w W) (h : Di.BoTo w W Fa a m L' w') : Dp w w' a m b n L' Lb :=
  ⟨Grew Fa W w', Fb, h.1, hB.other h.2 (fun k hk hk2 => hd k hk2 hk) (fun k hk => (hA.lts.1 k hk).1), fun k hk hk2 => hk.elim (fun q => hd k q hk2) (fun q => by have := (hB.lts.1 k hk2).2; omega), hf.wide h.2 (fun k hk => .inr (hA.lts.1 k hk).1)⟩
theorem Dp.stepB {w W w' : World} {a m b n : Nat} {La Lb L' : Pl} {Fa Fb : Nat → Prop} (hA : Di.Bo w W Fa a m La) (hB : Dt.Bo w W Fb b n Lb) (hd : ∀ k, Fa k → ¬ Fb k) (hf : Fr (fun _ => False) w W) (h : Dt.BoTo w W Fb b n L' w') : Dp w w' a m b n La L' :=
  ⟨Fa, Grew Fb W w', hA.other h.2 (fun k hk hk2 => hd k hk hk2) (fun k hk => (hB.lts.1 k hk).1), h.1, fun k hk hk2 => hk2.elim (fun q => hd k hk q) (fun q => by have := (hA.lts.1 k hk).2; omega), hf.wide h.2 (fun k hk => .inr (hB.lts.1 k hk).1)⟩
set_option maxRecDepth 100000 in
set_option maxHeartbeats 4000000 in
theorem dictPlays_walk (w : World) (one two : UInt64) (v : Value) (l : List SpB) (hr : RdC w 6 v l.length (l.flatMap spb)) (hl : l.length ≤ 1048576) :
    Calls Try.prog 3 #[.int .u64 (wd one), .int .u64 (wd two), v] w fun e w' => e = .returned (.bool true) ∧ Below w.heap.size w w' := by
  have HR := Lib.hid hr
  obtain ⟨va, vc, rfl⟩ := rd_sliceN hr
  have HN1 := fun w => Lib.hid (Di.new_G w one)
  have HN2 := fun w => Lib.hid (Dt.new_G w two)
  have HN3 := fun w => Lib.hid (rdNewD one w)
  have HN4 := fun w => Lib.hid (rdNewD two w)
  clear hr
  go_enter Try.func3, Try.ntmps3
  go_wp2_with fail
  refine (HN1 _).out.mono ?_
  rintro e w1 ⟨rfl, da, ba, e1⟩
  have q1 : Fr (fun _ => False) w w1 := by rw [e1]; exact Fr.alloc _ _ _
  have s1 : w1.heap.size = w.heap.size + 1 := by rw [e1]; simp
  have HDA := Lib.hid da
  have HBA := Lib.hid ba
  have HQ1 := Lib.hid q1
  have HS1 := Lib.hid s1
  clear da ba q1 s1 e1
  go_wp2_with fail
  refine (HN2 _).out.mono ?_
  rintro e w2 ⟨rfl, db, bb, e2⟩
  have q2 : Fr (fun _ => False) w1 w2 := by rw [e2]; exact Fr.alloc _ _ _
  have s2 : w2.heap.size = w1.heap.size + 1 := by rw [e2]; simp
  have HDB := Lib.hid db
  have HBB := Lib.hid bb
  have HQ2 := Lib.hid q2
  have HS2 := Lib.hid s2
  clear db bb q2 s2 e2
  go_wp2_with fail
  refine (HN3 _).out.mono ?_
  rintro e w3 ⟨rfl, dm, q3, s3⟩
  have HDM := Lib.hid dm
  have HQ3 := Lib.hid q3
  have HS3 := Lib.hid s3
  clear dm q3 s3
  go_wp2_with fail
  refine (HN4 _).out.mono ?_
  rintro e w4 ⟨rfl, dn, q4, s4⟩
  have hq04 : Fr (fun _ => False) w w4 := ((HQ1.out.wide HQ2.out (fun _ h => h.elim)).wide HQ3.out (fun _ h => h.elim)).wide q4 (fun _ h => h.elim)
  have hq14 : Fr (fun _ => False) w1 w4 := (HQ2.out.wide HQ3.out (fun _ h => h.elim)).wide q4 (fun _ h => h.elim)
  have hq24 : Fr (fun _ => False) w2 w4 := HQ3.out.wide q4 (fun _ h => h.elim)
  have hbel : Below w.heap.size w w4 := hq04.below (Nat.le_refl _) (fun _ h => h.elim)
  have HDP : Hid (Dp w w4 w.heap.size w2.heap.size w1.heap.size w3.heap.size [] []) := by
    have z1 := HS1.out
    have z2 := HS2.out
    have z3 := HS3.out
    refine ⟨_, _, bo_new_int w w1 w3 w4 one w.heap.size w2.heap.size (Nat.le_refl _) (by omega) HDA.out HBA.out HDM.out hq14 q4 hbel (by omega), bo_new_thing w w2 w4 w4 two w1.heap.size w3.heap.size (by omega) (by omega) HDB.out HBB.out dn hq24 (Fr.refl _ _) hbel (by omega), fun k hk hk2 => by omega, hq04⟩
  obtain ⟨pa, hpa⟩ : ∃ x, w.heap.size = x := ⟨_, rfl⟩
  obtain ⟨pb, hpb⟩ : ∃ x, w1.heap.size = x := ⟨_, rfl⟩
  obtain ⟨pm, hpm⟩ : ∃ x, w2.heap.size = x := ⟨_, rfl⟩
  obtain ⟨pn, hpn⟩ : ∃ x, w3.heap.size = x := ⟨_, rfl⟩
  rw [hpa, hpb, hpm, hpn] at HDP
  rw [hpa, hpb, hpm, hpn]
  clear HN1 HN2 HN3 HN4 hq04 hq14 hq24 hbel q4 s4 dn HS1 HS2 HS3 HDA HBA HDB HBB HDM HQ1 HQ2 HQ3 hpa hpb hpm hpn
  go_wp2_with fail
  go_loopw [29] (fun i wr => ∃ (k : Nat) (La Lb : Pl), i = .int .i64 k ∧ k ≤ l.length ∧ Hid (La.length ≤ k ∧ Lb.length ≤ k) ∧ Hid (Dp w wr pa pm pb pn La Lb)) (fun i _ => l.length - (intOf i).toNat)
  case atStart => exact ⟨0, [], [], rfl, by omega, ⟨Nat.le_refl _, Nat.le_refl _⟩, HDP⟩
  case round =>
    obtain ⟨k, La, Lb, rfl, hk, HLN, HD⟩ := hrel
    obtain ⟨wo, rfl⟩ : ∃ wo, wo = wr := ⟨_, rfl⟩
    obtain ⟨Fa, Fb, hA, hB, hd, hf⟩ := HD.out
    by_cases hlt : k < l.length
    · obtain ⟨g, off, rfl, c0, c1, c2, c3, c4, c5⟩ := sp_at (HR.out.fr hf (fun _ _ h => h)) k hlt
      obtain ⟨⟨⟨who, do_, n, vv, key, r⟩, hks⟩, ho⟩ : ∃ o, l[k] = o := ⟨_, rfl⟩
      rw [ho] at c0 c1 c2 c3 c4 c5
      dsimp only at c0 c1 c2 c3 c4 c5 hks
      have b0 : (0 : Int) ≤ (k : Int) := by omega
      have b1 : (k : Int) < (l.length : Int) := by omega
      obtain ⟨W, hW⟩ : ∃ W, wo.alloc (.cells #[.int .i64 who, .int .i64 do_, .int .i64 n, .int .i64 vv, .string key, .int .u64 (wd r)] 33) = W := ⟨_, rfl⟩
      have hqW : Fr (fun _ => False) wo W := by rw [← hW]; exact Fr.alloc _ _ _
      have hblk : W.heap[wo.heap.size]? = some (.cells #[.int .i64 who, .int .i64 do_, .int .i64 n, .int .i64 vv, .string key, .int .u64 (wd r)] 33 (0, 0)) := by rw [← hW]; exact World.alloc_heap_new wo _
      have e0 : W.cell? ⟨wo.heap.size, 0, none⟩ = some (.int .i64 who) := cell_of_blk hblk 0
      have e1 : W.cell? ⟨wo.heap.size, 1, none⟩ = some (.int .i64 do_) := cell_of_blk hblk 1
      have e2 : W.cell? ⟨wo.heap.size, 2, none⟩ = some (.int .i64 n) := cell_of_blk hblk 2
      have e3 : W.cell? ⟨wo.heap.size, 3, none⟩ = some (.int .i64 vv) := cell_of_blk hblk 3
      have e4 : W.cell? ⟨wo.heap.size, 4, none⟩ = some (.string key) := cell_of_blk hblk 4
      have e5 : W.cell? ⟨wo.heap.size, 5, none⟩ = some (.int .u64 (wd r)) := cell_of_blk hblk 5
      have HKA : Hid (∀ w', Fr Fa W w' → w'.cell? ⟨wo.heap.size, 0, none⟩ = some (.int .i64 who)) := fun w' hx => hx.cell e0 (fun hq => by have := (hA.lts.1 _ hq).2; dsimp only at this; omega)
      have hA1 := hA.quiet hqW
      have hB1 := hB.quiet hqW
      have hf1 : Fr (fun _ => False) w W := hf.wide hqW (fun _ h => h.elim)
      have HCA := Lib.hid (playsD_any w W Fa pa pm La hA1 (by have := HLN.out.1; omega) who do_ n vv key r hks)
      have HCB := Lib.hid (thingsD_any w W Fb pb pn Lb hB1 (by have := HLN.out.2; omega) who do_ n vv key r hks)
      have HSA : Hid (∀ (L' : Pl) (w' : World), Di.BoTo w W Fa pa pm L' w' → Dp w w' pa pm pb pn L' Lb) := fun L' w' hx => Dp.stepA hA1 hB1 hd hf1 hx
      have HSB : Hid (∀ (L' : Pl) (w' : World), Dt.BoTo w W Fb pb pn L' w' → Dp w w' pa pm pb pn La L') := fun L' w' hx => Dp.stepB hA1 hB1 hd hf1 hx
      have HSN : Hid (Dp w W pa pm pb pn La Lb) := ⟨Fa, Fb, hA1, hB1, hd, hf1⟩
      clear hA hB hd hf hqW hblk hA1 hB1 hf1 ho
      by_cases w0 : who = 0
      · subst w0
        go_wp2_with fail
        refine HCA.out.mono ?_
        rintro e w5 ⟨rfl, L', hL', hb⟩
        have y0 := HKA.out w5 hb.2
        have HX := Lib.hid (HSA.out L' w5 hb)
        clear hb
        go_wp2_with fail
        go_roundw
        case rel => exact ⟨k + 1, L', Lb, by go_num, by omega, (by have := HLN.out; exact ⟨by omega, by omega⟩), HX⟩
        case measure => simp [intOf]; omega
      by_cases w1 : who = 1
      · subst w1
        go_wp2_with fail
        refine HCB.out.mono ?_
        rintro e w5 ⟨rfl, L', hL', hb⟩
        have HX := Lib.hid (HSB.out L' w5 hb)
        clear hb
        go_wp2_with fail
        go_roundw
        case rel => exact ⟨k + 1, La, L', by go_num, by omega, (by have := HLN.out; exact ⟨by omega, by omega⟩), HX⟩
        case measure => simp [intOf]; omega
      · go_wp2_with fail
        go_roundw
        case rel => exact ⟨k + 1, La, Lb, by go_num, by omega, (by have := HLN.out; exact ⟨by omega, by omega⟩), HSN⟩
        case measure => simp [intOf]; omega
    · have HA := Lib.hid hA
      have HF := Lib.hid hf
      have HC1 := Lib.hid (liesD_any w wo Fa pa pm La hA (by have := HLN.out.1; omega))
      have HC2 : Hid (∀ w2, Fr (fun _ => False) wo w2 → Calls Try.prog 21 #[.pointer (some ⟨pa, 0, none⟩), .pointer (some ⟨pm, 0, none⟩), .int .i64 (-1)] w2 fun e w' => e = .returned (.bool true) ∧ Fr (fun _ => False) w2 w') := fun w2 hq => toldD_any w w2 Fa pa pm La (hA.quiet hq) (by have := HLN.out.1; omega) (-1)
      clear hA hB hd hf
      go_wp2_with fail
      refine HC1.out.mono ?_
      rintro e w5 ⟨rfl, hq5⟩
      have HQ5 := Lib.hid hq5
      clear hq5
      go_wp2_with fail
      refine (HC2.out _ HQ5.out).mono ?_
      rintro e w6 ⟨rfl, hq6⟩
      have HQ6 := Lib.hid (HQ5.out.wide hq6 (fun _ h => h.elim))
      clear hq6
      go_wp2_with fail
      go_ret
      exact ⟨rfl, (HF.out.wide HQ6.out (fun _ h => h.elim)).below (Nat.le_refl _) (fun _ h => h.elim)⟩
end Go.Proofs.Ytgomilodeaafdaa
