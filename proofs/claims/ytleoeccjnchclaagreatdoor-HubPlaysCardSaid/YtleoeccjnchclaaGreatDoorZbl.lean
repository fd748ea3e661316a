/- pantrylaw25's plays, whatever is asked; and of no hub; The walk of HubPlays: two hubs beside the document's, and none. No condition but sizes. -/
import Derived.Test.YtleoeccjnchclaaGreatDoorZbk
import Derived.Test.YtleoeccjnchclaaGreatDoorZbh
import Derived.Test.YtleoeccjnchclaaGreatDoorZbf
import Derived.Test.YtleoeccjnchclaaGreatDoorZbi
namespace Go.Proofs.YtleoeccjnchclaaGreatDoor
open Go.RowKit
theorem plays_any {w : World} {B N h m : Nat} {S : Nat → Prop} (H : PairE w B S N h m) (hB : B ≤ w.heap.size) (hN : N < 2199023255488) (who do_ ses : Int) (k text : ByteArray) (big : Int) (hs : kI.ok ses) (hk : k.size ≤ 140737488355328) (hb : -9223372036854775808 ≤ big) :
    Calls Tryz.prog 6 #[.pointer (some ⟨h, 0, none⟩), .pointer (some ⟨m, 0, none⟩), .agg #[.int .i64 who, .int .i64 do_, .int .i64 ses, .string k, .string text, .int .i64 big]] w (PlaysC w B S N h m) := by
  by_cases n0 : do_ = 0
  · subst n0; exact plays0_any H hB hN who ses k text big hs hk hb
  by_cases n1 : do_ = 1
  · subst n1; exact plays1_any H hB hN who ses k text big hs hk hb
  by_cases n2 : do_ = 2
  · subst n2; exact plays2_any H hB hN who ses k text big hs hk hb
  by_cases n3 : do_ = 3
  · subst n3; exact plays3_any H hB hN who ses k text big hs hk hb
  by_cases n4 : do_ = 4
  · subst n4; exact plays4_any H hB hN who ses k text big hs hk hb
  by_cases n5 : do_ = 5
  · subst n5; exact (plays5_any H hB (Nat.le_of_lt hN) who ses k text big hs hk hb).mono fun _ _ h => h.up
  by_cases n6 : do_ = 6
  · subst n6; exact (plays6_any H hB (Nat.le_of_lt hN) who ses k text big hs hk hb).mono fun _ _ h => h.up
  by_cases n7 : do_ = 7
  · subst n7; exact (plays7_any H hB (Nat.le_of_lt hN) who ses k text big hs hk hb).mono fun _ _ h => h.up
  exact playsElse_any H hB hN who do_ ses k text big hs hk hb n0 n1 n2 n3 n4 n5 n6 n7
/-- what lays no name, asked again and again -/
theorem playsK_any {w : World} {B N h m : Nat} {S : Nat → Prop} (H : PairE w B S N h m) (hB : B ≤ w.heap.size) (hN : N ≤ 2199023255488) (who do_ ses : Int) (hd : do_ = 5 ∨ do_ = 6 ∨ do_ = 7) (k text : ByteArray) (big : Int) (hs : kI.ok ses) (hk : k.size ≤ 140737488355328) (hb : -9223372036854775808 ≤ big) :
    Calls Tryz.prog 6 #[.pointer (some ⟨h, 0, none⟩), .pointer (some ⟨m, 0, none⟩), .agg #[.int .i64 who, .int .i64 do_, .int .i64 ses, .string k, .string text, .int .i64 big]] w (PlaysK w B S N h m) := by
  rcases hd with rfl | rfl | rfl
  · exact plays5_any H hB hN who ses k text big hs hk hb
  · exact plays6_any H hB hN who ses k text big hs hk hb
  · exact plays7_any H hB hN who ses k text big hs hk hb
end Go.Proofs.YtleoeccjnchclaaGreatDoor
namespace Go.Proofs.YtleoeccjnchclaaGreatDoor
open Go.RowKit
section
variable {w0 w w' : World} {B N N' M M' h m g n : Nat} {S T : Nat → Prop}
theorem PairE.other (H : PairE w B S N h m) (hf : Fr T w w') (hd : ∀ i, S i → ¬ T i) : PairE w' B S N h m := by
  obtain ⟨F, G, fc, fp, v, R, H, hS, hl⟩ := H
  exact ⟨F, G, fc, fp, v, R, ⟨H.a.other hf (fun k hk => hd k (hS k (.inl hk))), H.b.other hf (fun k hk => hd k (hS k (.inr hk))), H.ap, H.sm, H.rw, H.len⟩, hS, fun i hi => ⟨(hl i hi).1, Nat.lt_of_lt_of_le (hl i hi).2 hf.size⟩⟩
theorem PairE.lt (H : PairE w B S N h m) : ∀ i, S i → B ≤ i ∧ i < w.heap.size := by
  obtain ⟨F, G, fc, fp, v, R, H, hS, hl⟩ := H
  exact hl
/-- two hubs beside the document's -/
structure Four (w0 w : World) (N M h m g n : Nat) (S T : Nat → Prop) : Prop where
  a : PairE w w0.heap.size S N h m
  b : PairE w w0.heap.size T M g n
  ap : ∀ i, S i → ¬ T i
  fr : Fr (fun k => w0.heap.size ≤ k) w0 w
theorem Four.swap (H : Four w0 w N M h m g n S T) : Four w0 w M N g n h m T S := ⟨H.b, H.a, fun i hi hs => H.ap i hs hi, H.fr⟩
theorem Four.quiet (H : Four w0 w N M h m g n S T) (hf : Fr (fun _ => False) w w') : Four w0 w' N M h m g n S T := ⟨H.a.other hf (fun _ _ h => h), H.b.other hf (fun _ _ h => h), H.ap, H.fr.wide hf (fun _ h => h.elim)⟩
theorem Four.upN (H : Four w0 w N M h m g n S T) (hN : N ≤ N') (hM : M ≤ M') : Four w0 w N' M' h m g n S T := ⟨H.a.upN hN, H.b.upN hM, H.ap, H.fr⟩
theorem Four.step (H : Four w0 w N M h m g n S T) (hf : Fr S w w') (hT : PairE w' w0.heap.size (Grew S w w') N' h m) : Four w0 w' N' M h m g n (Grew S w w') T :=
  ⟨hT, H.b.other hf (fun k hk h => H.ap k h hk), fun i hi hg => hi.elim (fun q => H.ap i q hg) (fun q => by have := (H.b.lt i hg).2; have := q.1; omega), H.fr.wide hf (fun i hi => .inl (H.a.lt i hi).1)⟩
theorem Four.below (H : Four w0 w N M h m g n S T) : Below w0.heap.size w0 w := H.fr.below (Nat.le_refl _) (fun _ h => h)
def FourE (w0 w : World) (N h m g n : Nat) : Prop := ∃ S T, Four w0 w N N h m g n S T
end
theorem tmod_two (x : Int) : -1 ≤ x.tmod 2 ∧ x.tmod 2 ≤ 1 := by
  cases x with
  | ofNat a =>
    have e : (Int.ofNat a).tmod 2 = ((a % 2 : Nat) : Int) := rfl
    rw [e]; omega
  | negSucc a =>
    have e : (Int.negSucc a).tmod 2 = -(((a + 1) % 2 : Nat) : Int) := rfl
    rw [e]; omega
set_option maxRecDepth 100000 in
set_option maxHeartbeats 8000000 in
theorem hubPlays_walk (w : World) (v : Value) (l : List SoB) (hr : RdC w 6 v l.length (l.flatMap sob)) (hby : l.length * 64 ≤ reachBytes) (hks : ∀ o ∈ l, o.1.key.size ≤ 140737488351232) :
    Calls Tryz.prog 3 #[v] w fun e w' => e = .returned (.bool true) ∧ Below w.heap.size w w' := by
  have hl : l.length ≤ 2199023255488 := by unfold reachBytes at hby; omega
  have HR := Lib.hid hr
  have HKS := Lib.hid hks
  obtain ⟨-, va, vc, rfl, -⟩ := hr
  clear hks
  go_enter Tryz.func3, Tryz.ntmps3
  go_wp2_with fail
  refine (hubNew_any w).mono ?_
  rintro e w1 ⟨h, X, rfl, H1, hb1⟩
  have HH1 := Lib.hid H1
  have HB1 := Lib.hid hb1
  clear H1 hb1
  go_wp2_with fail
  refine (hubNew_any w1).mono ?_
  rintro e w2 ⟨g, Y, rfl, H2, hb2⟩
  have HH2 := Lib.hid H2
  have HB2 := Lib.hid hb2
  clear H2 hb2
  go_wp2_with fail
  refine (refNew_any w2).mono ?_
  rintro e w3 ⟨m, rfl, R3, hb3⟩
  have HR3 := Lib.hid R3
  have HB3 := Lib.hid hb3
  clear R3 hb3
  go_wp2_with fail
  refine (refNew_any w3).mono ?_
  rintro e w4 ⟨n, rfl, R4, hb4⟩
  have HT : Hid (FourE w w4 0 h m g n) := by
    have z1 := HB1.out.size
    have z2 := HB2.out.size
    have z3 := HB3.out.size
    have z4 := hb4.size
    have q2 : Fr (fun k => w1.heap.size ≤ k) w1 w2 := Fr.of_below HB2.out |>.mono fun i hi _ => hi
    have h1 := hub_new HH1.out (Nat.le_refl _) (((q2.wide HB3.out (fun _ h => h.elim)).wide hb4 (fun _ h => h.elim)))
    have h2 : HubT w4 w.heap.size (fun k => w1.heap.size ≤ k ∧ k < w2.heap.size) 0 g (fun _ => []) (fun _ => []) := hub_new HH2.out z1 ((HB3.out.wide hb4 (fun _ h => h.elim)).mono (fun _ h _ => h.elim))
    have r1 : RefH w4 w.heap.size (fun k => w2.heap.size ≤ k ∧ k < w3.heap.size) m (.slice none 0 0) [] := by
      have q := HR3.out.quiet hb4
      exact ⟨q.blk, World.ownsRow_nil _ _ _ _, q.fm, (fun g hg => by cases hg), fun k hk => ⟨by have := hk.1; omega, by have := hk.2; omega⟩⟩
    have r2 : RefH w4 w.heap.size (fun k => w3.heap.size ≤ k ∧ k < w4.heap.size) n (.slice none 0 0) [] :=
      ⟨R4.blk, World.ownsRow_nil _ _ _ _, R4.fm, (fun g hg => by cases hg), fun k hk => ⟨by have := hk.1; omega, hk.2⟩⟩
    refine ⟨fun k => (w.heap.size ≤ k ∧ k < w1.heap.size) ∨ (w2.heap.size ≤ k ∧ k < w3.heap.size), fun k => (w1.heap.size ≤ k ∧ k < w2.heap.size) ∨ (w3.heap.size ≤ k ∧ k < w4.heap.size), ⟨_, _, _, _, _, _, ⟨h1, r1, fun i a b => by have := a.2; have := b.1; omega, sm_none, RowsOf.none, Nat.le_refl _⟩, fun i hi => hi, fun i hi => by rcases hi with hi | hi <;> (obtain ⟨k1, k2⟩ := hi; exact ⟨by omega, by omega⟩)⟩, ⟨_, _, _, _, _, _, ⟨h2, r2, fun i a b => by have := a.2; have := b.1; omega, sm_none, RowsOf.none, Nat.le_refl _⟩, fun i hi => hi, fun i hi => by rcases hi with hi | hi <;> (obtain ⟨k1, k2⟩ := hi; exact ⟨by omega, by omega⟩)⟩, fun i a b => by omega, ?_⟩
    exact (((Fr.of_below HB1.out).wide (Fr.of_below HB2.out) (fun i hi => .inr (by omega))).wide HB3.out (fun _ h => h.elim)).wide hb4 (fun _ h => h.elim)
  clear R4 hb4 HH1 HH2 HR3 HB1 HB2 HB3
  go_wp2_with fail
  go_loopw [26] (fun i wr => ∃ k : Nat, i = .int .i64 k ∧ k ≤ l.length ∧ Hid (FourE w wr k h m g n)) (fun i _ => l.length - (intOf i).toNat)
  case atStart => exact ⟨0, rfl, by omega, HT⟩
  case round =>
    obtain ⟨k, rfl, hk, HK⟩ := hrel
    obtain ⟨wo, rfl⟩ : ∃ wo, wo = wr := ⟨_, rfl⟩
    by_cases hlt : k < l.length
    · obtain ⟨S, T, D⟩ := HK.out
      obtain ⟨gb, off, rfl, x0, x1, x2, x3, x4, x5⟩ := so_at (HR.out.below D.below) k hlt
      have hkz := HKS.out l[k] (List.getElem_mem hlt)
      obtain ⟨⟨⟨who, do_, ses, key, text, big⟩, p1, p2, p3, p4⟩, ho⟩ : ∃ o, l[k] = o := ⟨_, rfl⟩
      rw [ho] at x0 x1 x2 x3 x4 x5 hkz
      dsimp only at p1 p4 x0 x1 x2 x3 x4 x5 hkz
      have hbg : -9223372036854775808 ≤ big := by simp only [Lit.wf, Bool.and_eq_true, decide_eq_true_eq] at p4; exact p4.1
      obtain ⟨w5, hw5⟩ : ∃ x, wo.alloc (.cells #[.int .i64 who, .int .i64 do_, .int .i64 ses, .string key, .string text, .int .i64 big] 28) = x := ⟨_, rfl⟩
      have hq5 : Fr (fun _ => False) wo w5 := by rw [← hw5]; exact Fr.alloc _ _ _
      have D5 := D.quiet hq5
      have HD5 := Lib.hid D5
      have HW5 := Lib.hid hw5
      have b0 : (0 : Int) ≤ (k : Int) := by omega
      have b1 : (k : Int) < (l.length : Int) := by omega
      have hsz : w.heap.size ≤ w5.heap.size := D5.fr.size
      have HP0 := Lib.hid (plays_any D5.a hsz (by omega) who do_ ses key text big p1 (by omega) hbg)
      have HP1 := Lib.hid (plays_any D5.b hsz (by omega) who do_ ses key text big p1 (by omega) hbg)
      have HPN := Lib.hid (playsN_any w5 who do_ ses key text big (by omega) hbg)
      clear ho p1 p2 p3 p4 D D5 hq5 hw5 hkz hbg hsz
      by_cases e0 : who = 0
      · subst e0
        go_wp2_with fail
        rw [HW5.out]
        refine HP0.out.mono ?_
        rintro e w6 ⟨rfl, hf6, hT6⟩
        have HE : Hid (FourE w w6 (k + 1) h m g n) := ⟨_, _, (HD5.out.step hf6 hT6).upN (Nat.le_refl _) (Nat.le_succ _)⟩
        clear hf6 hT6
        go_wp2_with fail
        go_roundw
        case rel => exact ⟨k + 1, by go_num, by omega, HE⟩
        case measure => simp [intOf]; omega
      by_cases e1 : who = 1
      · subst e1
        go_wp2_with fail
        rw [HW5.out]
        refine HP1.out.mono ?_
        rintro e w6 ⟨rfl, hf6, hT6⟩
        have HE : Hid (FourE w w6 (k + 1) h m g n) := ⟨_, _, ((HD5.out.swap.step hf6 hT6).swap).upN (Nat.le_succ _) (Nat.le_refl _)⟩
        clear hf6 hT6
        go_wp2_with fail
        go_roundw
        case rel => exact ⟨k + 1, by go_num, by omega, HE⟩
        case measure => simp [intOf]; omega
      go_wp2_with fail
      rw [HW5.out]
      refine HPN.out.mono ?_
      rintro e w6 ⟨rfl, hf6⟩
      have HE : Hid (FourE w w6 (k + 1) h m g n) := ⟨_, _, (HD5.out.quiet hf6).upN (Nat.le_succ _) (Nat.le_succ _)⟩
      clear hf6
      go_wp2_with fail
      go_roundw
      case rel => exact ⟨k + 1, by go_num, by omega, HE⟩
      case measure => simp [intOf]; omega
    · obtain rfl : k = l.length := by omega
      go_wp2_with fail
      go_loopw [53] (fun i wr => ∃ k : Nat, i = .int .i64 k ∧ k ≤ l.length ∧ Hid (FourE w wr l.length h m g n)) (fun i _ => l.length - (intOf i).toNat)
      case atStart => exact ⟨0, rfl, by omega, HK⟩
      case round =>
        obtain ⟨k, rfl, hk2, HK2⟩ := hrel
        obtain ⟨wy, rfl⟩ : ∃ wo, wo = wr := ⟨_, rfl⟩
        by_cases hlt2 : k < l.length
        · obtain ⟨S, T, D⟩ := HK2.out
          obtain ⟨gb, off, rfl, x0, x1, x2, x3, x4, x5⟩ := so_at (HR.out.below D.below) k hlt2
          have hkz := HKS.out l[k] (List.getElem_mem hlt2)
          obtain ⟨⟨⟨who, do_, ses, key, text, big⟩, p1, p2, p3, p4⟩, ho⟩ : ∃ o, l[k] = o := ⟨_, rfl⟩
          rw [ho] at x0 x1 x2 x3 x4 x5 hkz
          dsimp only at p1 p4 x0 x1 x2 x3 x4 x5 hkz
          have hbg : -9223372036854775808 ≤ big := by simp only [Lit.wf, Bool.and_eq_true, decide_eq_true_eq] at p4; exact p4.1
          obtain ⟨r, hr, hr1, hr2⟩ : ∃ r, do_.tmod 2 = r ∧ -1 ≤ r ∧ r ≤ 1 := ⟨_, rfl, tmod_two do_⟩
          obtain ⟨w5, hw5⟩ : ∃ x, wy.alloc (.cells #[.int .i64 who, .int .i64 (6 + r), .int .i64 ses, .string key, .string text, .int .i64 big] 28) = x := ⟨_, rfl⟩
          have hq5 : Fr (fun _ => False) wy w5 := by rw [← hw5]; exact Fr.alloc _ _ _
          have hblk : w5.heap[wy.heap.size]? = some (.cells #[.int .i64 who, .int .i64 (6 + r), .int .i64 ses, .string key, .string text, .int .i64 big] 28 (0, 0)) := by rw [← hw5]; exact alloc_at wy _
          have D5 := D.quiet hq5
          have HD5 := Lib.hid D5
          have HW5 := Lib.hid hw5
          have HBK := Lib.hid hblk
          have HNS : Hid (¬ S wy.heap.size) := fun hs => by have := (D.a.lt _ hs).2; omega
          have b0 : (0 : Int) ≤ (k : Int) := by omega
          have b1 : (k : Int) < (l.length : Int) := by omega
          have HP0 := Lib.hid (playsK_any D5.a D5.fr.size hl who (6 + r) ses (by omega) key text big p1 (by omega) hbg)
          have HP1 : Hid (∀ W S' T', Four w W l.length l.length h m g n S' T' → Calls Tryz.prog 6 #[.pointer (some ⟨g, 0, none⟩), .pointer (some ⟨n, 0, none⟩), .agg #[.int .i64 who, .int .i64 (6 + r), .int .i64 ses, .string key, .string text, .int .i64 big]] W (PlaysK W w.heap.size T' l.length g n)) := fun W S' T' D' => playsK_any D'.b D'.fr.size hl who (6 + r) ses (by omega) key text big p1 (by omega) hbg
          clear ho p1 p2 p3 p4 D D5 hq5 hw5 hkz hbg hblk
          go_wp2_with fail
          rw [HW5.out]
          refine HP0.out.mono ?_
          rintro e w6 ⟨rfl, hf6, hT6⟩
          have D6 := HD5.out.step hf6 hT6
          have hb6 := blk_later HBK.out hf6 HNS.out
          have y0 : w6.cell? ⟨wy.heap.size, 0, none⟩ = some (.int .i64 who) := cell_of_blk hb6 0
          have y1 : w6.cell? ⟨wy.heap.size, 1, none⟩ = some (.int .i64 (6 + r)) := cell_of_blk hb6 1
          have y2 : w6.cell? ⟨wy.heap.size, 2, none⟩ = some (.int .i64 ses) := cell_of_blk hb6 2
          have y3 : w6.cell? ⟨wy.heap.size, 3, none⟩ = some (.string key) := cell_of_blk hb6 3
          have y4 : w6.cell? ⟨wy.heap.size, 4, none⟩ = some (.string text) := cell_of_blk hb6 4
          have y5 : w6.cell? ⟨wy.heap.size, 5, none⟩ = some (.int .i64 big) := cell_of_blk hb6 5
          have HD6 := Lib.hid D6
          have HP2 := Lib.hid (HP1.out w6 _ _ D6)
          clear D6 hf6 hT6 hb6
          go_wp2_with fail
          refine HP2.out.mono ?_
          rintro e w7 ⟨rfl, hf7, hT7⟩
          have HE : Hid (FourE w w7 l.length h m g n) := ⟨_, _, (HD6.out.swap.step hf7 hT7).swap⟩
          clear hf7 hT7
          go_wp2_with fail
          go_roundw
          case rel => exact ⟨k + 1, by go_num, by omega, HE⟩
          case measure => simp [intOf]; omega
        · obtain ⟨S, T, D⟩ := HK2.out
          have HBL := Lib.hid D.below
          clear D
          go_wp2_with fail
          go_ret
          exact ⟨rfl, HBL.out⟩
end Go.Proofs.YtleoeccjnchclaaGreatDoor
