/- DictSeeds: two dicts of unlike seeds tell the same. No condition. -/
import Derived.Test.YtkecipdonamjaaaTwo
import Derived.Deep.RegionHeld3
namespace Go.Proofs.Ytkecipdonamjaaa
open Go.ChangeShapes Go.WideShapes Go.ChangeAt Go.RowKit Di

def stepO (o : Sp) : Obj := .cells #[.int .i64 o.who, .int .i64 o.do_, .int .i64 o.n, .int .i64 o.v, .string o.key, .int .u64 (wd o.r)] 32 (0, 0)
/-- two dicts that hold what two lists hold, and a step in a block of its own -/
structure SQ (w0 : World) (B bk : Nat) (o : Sp) (d e : Nat) (L1 L2 : Pl) (M N : DM) (W : World) : Prop where
  two : Two B W d M e N
  l1 : Like M L1
  l2 : Like N L2
  bel : Below B w0 W
  blk : W.heap[bk]? = some (stepO o)
  n1 : ¬ Bs (dictL d M) bk
  n2 : ¬ Bs (dictL e N) bk
def SS (w0 : World) (B bk : Nat) (o : Sp) (d e : Nat) (L1 L2 : Pl) (W : World) : Prop := ∃ M N, SQ w0 B bk o d e L1 L2 M N W
section
variable {w0 W W' : World} {B bk : Nat} {o : Sp} {d e : Nat} {L1 L2 : Pl} {M N : DM}
theorem SQ.turn1 (h : SQ w0 B bk o d e L1 L2 M N W) {M' : DM} {L' : Pl} (t : Turn W d M W' M') (l : Like M' L') : SS w0 B bk o d e L' L2 W' := by
  have hlt : bk < W.heap.size := (Array.getElem?_eq_some_iff.1 h.blk).1
  exact ⟨M', N, h.two.left t, l, h.l2, h.bel.trans (h.two.bel1 t), (t.fr.block bk hlt h.n1).trans h.blk, fun hb => (t.bs bk hb).elim h.n1 (fun hl => by omega), h.n2⟩
theorem SQ.turn2 (h : SQ w0 B bk o d e L1 L2 M N W) {N' : DM} {L' : Pl} (t : Turn W e N W' N') (l : Like N' L') : SS w0 B bk o d e L1 L' W' := by
  have hlt : bk < W.heap.size := (Array.getElem?_eq_some_iff.1 h.blk).1
  exact ⟨M, N', h.two.right t, h.l1, l, h.bel.trans (h.two.bel2 t), (t.fr.block bk hlt h.n2).trans h.blk, h.n1, fun hb => (t.bs bk hb).elim h.n2 (fun hl => by omega)⟩
theorem SS.cells (h : SS w0 B bk o d e L1 L2 W) : W.cell? ⟨bk, 4, none⟩ = some (.string o.key) ∧ W.cell? ⟨bk, 3, none⟩ = some (.int .i64 o.v) := by
  obtain ⟨M, N, h⟩ := h
  have h1 := h.blk
  unfold stepO at h1
  exact ⟨by rw [cell_of_blk h1]; rfl, by rw [cell_of_blk h1]; rfl⟩
theorem SS.drewN (h : SS w0 B bk o d e L1 L2 W) (n : Nat) : SS w0 B bk o d e L1 L2 (W.drewN n) := by
  obtain ⟨M, N, h⟩ := h
  exact ⟨M, N, h.two.other (Fr.drewN (fun _ => False) W n) (fun _ _ h => h) (fun _ _ h => h), h.l1, h.l2, h.bel.trans ((Fr.drewN (fun _ => False) W n).below h.two.le (fun _ h => h.elim)), h.blk, h.n1, h.n2⟩
theorem SS.drew (h : SS w0 B bk o d e L1 L2 W) : SS w0 B bk o d e L1 L2 W.drew := h.drewN 1
theorem ss_set1 (h : SS w0 B bk o d e L1 L2 W) (hk : o.key.size ≤ maxLen) (hn : L1.length < 17592186044416) :
    Calls Try.prog 22 #[.pointer (some ⟨d, 0, none⟩), .string o.key, .int .i64 o.v] W fun x W' => x = .returned (.bool (atOf o.key L1).isNone) ∧ SS w0 B bk o d e (setL L1 o.key o.v) L2 W' := by
  obtain ⟨M, N, h⟩ := h
  exact (set_like W d M L1 o.key o.v hk h.two.one h.l1 hn).mono fun x W' ⟨h1, M', t, l, _⟩ => ⟨h1, h.turn1 t l⟩
theorem ss_set2 (h : SS w0 B bk o d e L1 L2 W) (hk : o.key.size ≤ maxLen) (hn : L2.length < 17592186044416) :
    Calls Try.prog 22 #[.pointer (some ⟨e, 0, none⟩), .string o.key, .int .i64 o.v] W fun x W' => x = .returned (.bool (atOf o.key L2).isNone) ∧ SS w0 B bk o d e L1 (setL L2 o.key o.v) W' := by
  obtain ⟨M, N, h⟩ := h
  exact (set_like W e N L2 o.key o.v hk h.two.two h.l2 hn).mono fun x W' ⟨h1, M', t, l, _⟩ => ⟨h1, h.turn2 t l⟩
theorem ss_del1 (h : SS w0 B bk o d e L1 L2 W) (hk : o.key.size ≤ maxLen) (hn : L1.length < 17592186044416) :
    Calls Try.prog 24 #[.pointer (some ⟨d, 0, none⟩), .string o.key] W fun x W' => x = .returned (.bool (atOf o.key L1).isSome) ∧ SS w0 B bk o d e (delL L1 o.key) L2 W' := by
  obtain ⟨M, N, h⟩ := h
  exact (del_like W d M L1 o.key hk h.two.one h.l1 hn).mono fun x W' ⟨h1, M', t, l, _⟩ => ⟨h1, h.turn1 t l⟩
theorem ss_del2 (h : SS w0 B bk o d e L1 L2 W) (hk : o.key.size ≤ maxLen) (hn : L2.length < 17592186044416) :
    Calls Try.prog 24 #[.pointer (some ⟨e, 0, none⟩), .string o.key] W fun x W' => x = .returned (.bool (atOf o.key L2).isSome) ∧ SS w0 B bk o d e L1 (delL L2 o.key) W' := by
  obtain ⟨M, N, h⟩ := h
  exact (del_like W e N L2 o.key hk h.two.two h.l2 hn).mono fun x W' ⟨h1, M', t, l, _⟩ => ⟨h1, h.turn2 t l⟩
theorem ss_get1 (h : SS w0 B bk o d e L1 L2 W) (hk : o.key.size ≤ maxLen) :
    Calls Try.prog 23 #[.pointer (some ⟨d, 0, none⟩), .string o.key] W fun x W' => x = .returned (.tuple #[.int .i64 (valOf L1 o.key), .bool (atOf o.key L1).isSome]) ∧ SS w0 B bk o d e L1 L2 W' := by
  obtain ⟨M, N, h⟩ := h
  exact (get_like W d M L1 o.key hk h.two.one h.l1).mono fun x W' ⟨h1, M', t, l, _⟩ => ⟨h1, h.turn1 t l⟩
theorem ss_get2 (h : SS w0 B bk o d e L1 L2 W) (hk : o.key.size ≤ maxLen) :
    Calls Try.prog 23 #[.pointer (some ⟨e, 0, none⟩), .string o.key] W fun x W' => x = .returned (.tuple #[.int .i64 (valOf L2 o.key), .bool (atOf o.key L2).isSome]) ∧ SS w0 B bk o d e L1 L2 W' := by
  obtain ⟨M, N, h⟩ := h
  exact (get_like W e N L2 o.key hk h.two.two h.l2).mono fun x W' ⟨h1, M', t, l, _⟩ => ⟨h1, h.turn2 t l⟩
theorem ss_clear1 (h : SS w0 B bk o d e L1 L2 W) :
    Calls Try.prog 25 #[.pointer (some ⟨d, 0, none⟩)] W fun x W' => x = .returned (.tuple #[]) ∧ SS w0 B bk o d e [] L2 W' := by
  obtain ⟨M, N, h⟩ := h
  exact (clear_like W d M h.two.one).mono fun x W' ⟨h1, M', t, l, _⟩ => ⟨h1, h.turn1 t l⟩
theorem ss_clear2 (h : SS w0 B bk o d e L1 L2 W) :
    Calls Try.prog 25 #[.pointer (some ⟨e, 0, none⟩)] W fun x W' => x = .returned (.tuple #[]) ∧ SS w0 B bk o d e L1 [] W' := by
  obtain ⟨M, N, h⟩ := h
  exact (clear_like W e N h.two.two).mono fun x W' ⟨h1, M', t, l, _⟩ => ⟨h1, h.turn2 t l⟩
theorem ss_len1 (h : SS w0 B bk o d e L1 L2 W) (n : Int) (hn : L1.length < 17592186044416) (he : (L1.length : Int) = n) :
    Calls Try.prog 26 #[.pointer (some ⟨d, 0, none⟩)] W fun x W' => x = .returned (.int .i64 n) ∧ W = W' := by
  obtain ⟨M, N, h⟩ := h
  exact len_like W d M L1 n h.two.one h.l1 hn he
theorem ss_len2 (h : SS w0 B bk o d e L1 L2 W) (n : Int) (hn : L2.length < 17592186044416) (he : (L2.length : Int) = n) :
    Calls Try.prog 26 #[.pointer (some ⟨e, 0, none⟩)] W fun x W' => x = .returned (.int .i64 n) ∧ W = W' := by
  obtain ⟨M, N, h⟩ := h
  exact len_like W e N L2 n h.two.two h.l2 hn he
end
def doesS (o : Sp) (L : Pl) : Pl := if o.do_ = 0 then setL L o.key o.v else if o.do_ = 2 then delL L o.key else if o.do_ = 3 then [] else L
theorem doesS_len (o : Sp) (L : Pl) : (doesS o L).length ≤ L.length + 1 := doesL_len o L
set_option maxRecDepth 100000 in
set_option maxHeartbeats 4000000 in
theorem dictSeeds_walk (w : World) (x0 x1 : UInt64) (v2 : Value) (l : List SpB) (hr : RdC w 6 v2 l.length (l.flatMap spb)) (hby : l.length * 56 ≤ reachBytes) :
    Calls Try.prog 5 #[.int .u64 (wd x0), .int .u64 (wd x1), v2] w fun e w' => e = .returned (.bool true) ∧ Below w.heap.size w w' := by
  unfold reachBytes at hby
  have HR := Lib.hid hr
  obtain ⟨-, a1, c1, rfl, -⟩ := hr
  go_enter Try.func5, Try.ntmps5
  go_wp2_with fail
  refine (wakes_any _).mono ?_
  rintro e w1 ⟨rfl, hb1⟩
  have HB1 := Lib.hid hb1; clear hb1
  go_wp2_with fail
  refine (new_like _ x0 _ rfl).mono ?_
  rintro e w2 ⟨d, M0, rfl, D0, L0, -, -, -, -, HD0, hb2⟩
  have HDD := Lib.hid D0
  have HLL := Lib.hid L0
  have HB2 := Lib.hid hb2
  clear D0 L0 hb2
  go_wp2_with fail
  refine (new_like _ x1 _ rfl).mono ?_
  rintro e w3 ⟨d2, N0, rfl, E0, K0, -, -, -, -, HE0, hb3⟩
  obtain ⟨T0, B0⟩ := two_start HB1.out HDD.out HD0.out HB2.out E0 HE0.out hb3
  have HT0 := Lib.hid T0
  have HB0 := Lib.hid B0
  have HK0 := Lib.hid K0
  clear T0 B0 K0 E0 hb3 HDD HB1 HB2 HD0 HE0
  go_wp2_with fail
  go_loopw [23] (fun i wr => ∃ (k : Nat) (M N : DM) (L : Pl), i = .int .i64 k ∧ k ≤ l.length ∧ L.length ≤ k ∧ Hid (Two w.heap.size wr d M d2 N) ∧ Hid (Like M L) ∧ Hid (Like N L) ∧ Hid (Below w.heap.size w wr)) (fun i _ => l.length - (intOf i).toNat)
  case atStart => exact ⟨0, M0, N0, [], rfl, by omega, by simp, HT0, HLL, HK0, HB0⟩
  case round =>
    obtain ⟨k, M, N, L, rfl, hk, hLk, HT, HL, HK, HB⟩ := hrel
    clear HT0 HLL HK0 HB0
    by_cases hlt : k < l.length
    · obtain ⟨g, off, rfl, c0, c1, c2, c3, c4, c5⟩ := sp_at (HR.out.below HB.out) k hlt
      obtain ⟨o, ho⟩ : ∃ o, l[k].1 = o := ⟨_, rfl⟩
      have hko : o.key.size ≤ maxLen := ho ▸ l[k].2
      rw [ho] at c0 c1 c2 c3 c4 c5
      clear ho
      have hs0 : SS w w.heap.size wr.heap.size o d d2 L L (wr.alloc (stepO o)) := by
        refine ⟨M, N, HT.out.other (Fr.alloc (fun _ => False) wr _) (fun _ _ h => h) (fun _ _ h => h), HL.out, HK.out, HB.out.alloc HB.out.size _, alloc_at _ _, fun hb => Nat.lt_irrefl _ (HT.out.one.rep.lt hb), fun hb => Nat.lt_irrefl _ (HT.out.two.rep.lt hb)⟩
      have HS0 := Lib.hid hs0
      clear hs0
      have HLN : L.length < 17592186044416 := by omega
      have HS1 : Hid (∀ (W : World) (L2 : Pl), SS w w.heap.size wr.heap.size o d d2 L L2 W → Calls Try.prog 22 #[.pointer (some ⟨d, 0, none⟩), .string o.key, .int .i64 o.v] W fun x W' => x = .returned (.bool (atOf o.key L).isNone) ∧ SS w w.heap.size wr.heap.size o d d2 (setL L o.key o.v) L2 W') := fun W L2 h => ss_set1 h hko HLN
      have HS2 : Hid (∀ (W : World) (L1 : Pl), SS w w.heap.size wr.heap.size o d d2 L1 L W → Calls Try.prog 22 #[.pointer (some ⟨d2, 0, none⟩), .string o.key, .int .i64 o.v] W fun x W' => x = .returned (.bool (atOf o.key L).isNone) ∧ SS w w.heap.size wr.heap.size o d d2 L1 (setL L o.key o.v) W') := fun W L1 h => ss_set2 h hko HLN
      have HE1 : Hid (∀ (W : World) (L2 : Pl), SS w w.heap.size wr.heap.size o d d2 L L2 W → Calls Try.prog 24 #[.pointer (some ⟨d, 0, none⟩), .string o.key] W fun x W' => x = .returned (.bool (atOf o.key L).isSome) ∧ SS w w.heap.size wr.heap.size o d d2 (delL L o.key) L2 W') := fun W L2 h => ss_del1 h hko HLN
      have HE2 : Hid (∀ (W : World) (L1 : Pl), SS w w.heap.size wr.heap.size o d d2 L1 L W → Calls Try.prog 24 #[.pointer (some ⟨d2, 0, none⟩), .string o.key] W fun x W' => x = .returned (.bool (atOf o.key L).isSome) ∧ SS w w.heap.size wr.heap.size o d d2 L1 (delL L o.key) W') := fun W L1 h => ss_del2 h hko HLN
      have hend : ∀ W, SS w w.heap.size wr.heap.size o d d2 (doesS o L) (doesS o L) W → ∃ (M N : DM), Hid (Two w.heap.size W d M d2 N) ∧ Hid (Like M (doesS o L)) ∧ Hid (Like N (doesS o L)) ∧ Hid (Below w.heap.size w W) := fun W ⟨M, N, h⟩ => ⟨M, N, h.two, h.l1, h.l2, h.bel⟩
      have HEND := Lib.hid hend
      have hdl : (doesS o L).length ≤ k + 1 := Nat.le_trans (doesS_len o L) (by omega)
      clear hend
      have HZ : Hid (wr.alloc (stepO o) = wr.alloc (.cells #[.int .i64 o.who, .int .i64 o.do_, .int .i64 o.n, .int .i64 o.v, .string o.key, .int .u64 (wd o.r)] 32)) := rfl
      by_cases h0 : o.do_ = 0
      · have g0 : (o.do_ == 0) = true := beq_iff_eq.2 h0
        have H0 : Hid (doesS o L = setL L o.key o.v) := by show _ = _; unfold doesS; rw [if_pos h0]
        have hdl2 : (setL L o.key o.v).length ≤ k + 1 := by rw [← H0.out]; exact hdl
        clear h0
        go_upto_region 10 with (fail)
        go_cut [43] from 31 to 43 (fun t wc => Hid (SS w w.heap.size wr.heap.size o d d2 (setL L o.key o.v) (setL L o.key o.v) wc) ∧ t = .bool false)
        case first =>
          have gb : ((atOf o.key L).isNone != (atOf o.key L).isNone) = false := by simp
          have hs0 := HS0.out
          rw [HZ.out] at hs0
          obtain ⟨wz, hwz⟩ : ∃ wz, wr.alloc (.cells #[.int .i64 o.who, .int .i64 o.do_, .int .i64 o.n, .int .i64 o.v, .string o.key, .int .u64 (wd o.r)] 32) = wz := ⟨_, rfl⟩
          rw [hwz] at hs0 ⊢
          have hc0 := hs0.cells
          have hs1 := hs0.drew
          clear hwz
          go_region_held3 (fun w' => w'.cell? ⟨wr.heap.size, 4, none⟩ = some (.string o.key) ∧ w'.cell? ⟨wr.heap.size, 3, none⟩ = some (.int .i64 o.v))
            (first | exact SS.cells (by assumption) | exact SS.cells (SS.drew (by assumption)) | exact (SS.cells (by assumption)).1 | exact (SS.cells (SS.drew (by assumption))).1)
            (first
              | (go_at_call 22; ((with_reducible refine (HS1.out _ _ (by assumption)).mono ?_); rintro e w' ⟨rfl, hq⟩))
              | (go_at_call 22; ((with_reducible refine (HS2.out _ _ (by assumption)).mono ?_); rintro e w' ⟨rfl, hq⟩)))
          all_goals (go_wp2_with fail; go_meet)
          all_goals exact ⟨Lib.hid (by assumption), rfl⟩
        case rest =>
        obtain ⟨HQ, rfl⟩ := hcut
        go_wp2_with fail
        refine (ss_len1 HQ.out _ (by omega) rfl).mono ?_
        rintro e w' ⟨rfl, rfl⟩
        go_wp2_with fail
        refine (ss_len2 HQ.out _ (by omega) rfl).mono ?_
        rintro e w' ⟨rfl, rfl⟩
        rw [← H0.out] at HQ
        obtain ⟨M1, N1, HT1, HL1, HK1, HB1⟩ := HEND.out _ HQ.out
        have HL9 := Lib.hid (rfl : doesS o L = doesS o L)
        go_wp2
        go_roundw
        case rel => exact ⟨k + 1, M1, N1, doesS o L, by go_num, by omega, hdl, HT1, HL1, HK1, HB1⟩
        case measure => simp [intOf]; omega
      by_cases h1 : o.do_ = 1
      · have g0 : (o.do_ == 0) = false := beq_eq_false_iff_ne.2 (by omega)
        have g1 : (o.do_ == 1) = true := beq_iff_eq.2 h1
        have H0 : Hid (doesS o L = L) := by show _ = _; unfold doesS; rw [if_neg (by omega), if_neg (by omega), if_neg (by omega)]
        clear h0 h1
        go_wp2_with fail
        refine (ss_get1 HS0.out hko).mono ?_
        rintro e w4 ⟨rfl, hq⟩
        have HQ := Lib.hid hq
        clear hq
        have b4 := HQ.out.cells.1
        go_wp2_with fail
        refine (ss_get2 HQ.out hko).mono ?_
        rintro e w4 ⟨rfl, hq⟩
        have HQ := Lib.hid hq
        clear hq
        obtain ⟨xv, hxv⟩ : ∃ x, valOf L o.key = x := ⟨_, rfl⟩
        obtain ⟨xb, hxb⟩ : ∃ x, (atOf o.key L).isSome = x := ⟨_, rfl⟩
        rw [hxv, hxb]
        have gq : (xv != xv) = false := by simp
        have gb : (xb != xb) = false := by simp
        clear hxv hxb
        go_wp2_with fail
        refine (ss_len1 HQ.out _ (by omega) rfl).mono ?_
        rintro e w' ⟨rfl, rfl⟩
        go_wp2_with fail
        refine (ss_len2 HQ.out _ (by omega) rfl).mono ?_
        rintro e w' ⟨rfl, rfl⟩
        rw [← H0.out] at HQ
        obtain ⟨M1, N1, HT1, HL1, HK1, HB1⟩ := HEND.out _ HQ.out
        have HL9 := Lib.hid (rfl : doesS o L = doesS o L)
        go_wp2
        go_roundw
        case rel => exact ⟨k + 1, M1, N1, doesS o L, by go_num, by omega, hdl, HT1, HL1, HK1, HB1⟩
        case measure => simp [intOf]; omega
      by_cases h2 : o.do_ = 2
      · have g0 : (o.do_ == 0) = false := beq_eq_false_iff_ne.2 (by omega)
        have g1 : (o.do_ == 1) = false := beq_eq_false_iff_ne.2 (by omega)
        have g2 : (o.do_ == 2) = true := beq_iff_eq.2 h2
        have H0 : Hid (doesS o L = delL L o.key) := by show _ = _; unfold doesS; rw [if_neg (by omega), if_pos h2]
        have hdl2 : (delL L o.key).length ≤ k + 1 := by rw [← H0.out]; exact hdl
        clear h0 h1 h2
        go_upto_region 18 with (fail)
        go_cut [78] from 70 to 78 (fun t wc => Hid (SS w w.heap.size wr.heap.size o d d2 (delL L o.key) (delL L o.key) wc) ∧ t = .bool false)
        case first =>
          have gb : ((atOf o.key L).isSome != (atOf o.key L).isSome) = false := by simp
          have hs0 := HS0.out
          rw [HZ.out] at hs0
          obtain ⟨wz, hwz⟩ : ∃ wz, wr.alloc (.cells #[.int .i64 o.who, .int .i64 o.do_, .int .i64 o.n, .int .i64 o.v, .string o.key, .int .u64 (wd o.r)] 32) = wz := ⟨_, rfl⟩
          rw [hwz] at hs0 ⊢
          have hc0 := hs0.cells
          have hs1 := hs0.drew
          clear hwz
          go_region_held3 (fun w' => w'.cell? ⟨wr.heap.size, 4, none⟩ = some (.string o.key))
            (first | exact SS.cells (by assumption) | exact SS.cells (SS.drew (by assumption)) | exact (SS.cells (by assumption)).1 | exact (SS.cells (SS.drew (by assumption))).1)
            (first
              | (go_at_call 24; ((with_reducible refine (HE1.out _ _ (by assumption)).mono ?_); rintro e w' ⟨rfl, hq⟩))
              | (go_at_call 24; ((with_reducible refine (HE2.out _ _ (by assumption)).mono ?_); rintro e w' ⟨rfl, hq⟩)))
          all_goals (go_wp2_with fail; go_meet)
          all_goals exact ⟨Lib.hid (by assumption), rfl⟩
        case rest =>
        obtain ⟨HQ, rfl⟩ := hcut
        go_wp2_with fail
        refine (ss_len1 HQ.out _ (by omega) rfl).mono ?_
        rintro e w' ⟨rfl, rfl⟩
        go_wp2_with fail
        refine (ss_len2 HQ.out _ (by omega) rfl).mono ?_
        rintro e w' ⟨rfl, rfl⟩
        rw [← H0.out] at HQ
        obtain ⟨M1, N1, HT1, HL1, HK1, HB1⟩ := HEND.out _ HQ.out
        have HL9 := Lib.hid (rfl : doesS o L = doesS o L)
        go_wp2
        go_roundw
        case rel => exact ⟨k + 1, M1, N1, doesS o L, by go_num, by omega, hdl, HT1, HL1, HK1, HB1⟩
        case measure => simp [intOf]; omega
      by_cases h3 : o.do_ = 3
      · have g0 : (o.do_ == 0) = false := beq_eq_false_iff_ne.2 (by omega)
        have g1 : (o.do_ == 1) = false := beq_eq_false_iff_ne.2 (by omega)
        have g2 : (o.do_ == 2) = false := beq_eq_false_iff_ne.2 (by omega)
        have g3 : (o.do_ == 3) = true := beq_iff_eq.2 h3
        have H0 : Hid (doesS o L = []) := by show _ = _; unfold doesS; rw [if_neg (by omega), if_neg (by omega), if_pos h3]
        clear h0 h1 h2 h3
        go_wp2_with fail
        refine (ss_clear1 HS0.out).mono ?_
        rintro e w4 ⟨rfl, hq⟩
        have HQ := Lib.hid hq
        clear hq
        go_wp2_with fail
        refine (ss_clear2 HQ.out).mono ?_
        rintro e w4 ⟨rfl, hq⟩
        have HQ := Lib.hid hq
        clear hq
        go_wp2_with fail
        refine (ss_len1 HQ.out 0 (by simp) rfl).mono ?_
        rintro e w' ⟨rfl, rfl⟩
        go_wp2_with fail
        refine (ss_len2 HQ.out 0 (by simp) rfl).mono ?_
        rintro e w' ⟨rfl, rfl⟩
        rw [← H0.out] at HQ
        obtain ⟨M1, N1, HT1, HL1, HK1, HB1⟩ := HEND.out _ HQ.out
        have HL9 := Lib.hid (rfl : doesS o L = doesS o L)
        go_wp2
        go_roundw
        case rel => exact ⟨k + 1, M1, N1, doesS o L, by go_num, by omega, hdl, HT1, HL1, HK1, HB1⟩
        case measure => simp [intOf]; omega
      · have g0 : (o.do_ == 0) = false := beq_eq_false_iff_ne.2 (by omega)
        have g1 : (o.do_ == 1) = false := beq_eq_false_iff_ne.2 (by omega)
        have g2 : (o.do_ == 2) = false := beq_eq_false_iff_ne.2 (by omega)
        have g3 : (o.do_ == 3) = false := beq_eq_false_iff_ne.2 (by omega)
        have H0 : Hid (doesS o L = L) := by show _ = _; unfold doesS; rw [if_neg (by omega), if_neg (by omega), if_neg (by omega)]
        have HQ := HS0
        clear h0 h1 h2 h3
        go_wp2_with fail
        refine (ss_len1 HQ.out _ (by omega) rfl).mono ?_
        rintro e w' ⟨rfl, rfl⟩
        go_wp2_with fail
        refine (ss_len2 HQ.out _ (by omega) rfl).mono ?_
        rintro e w' ⟨rfl, rfl⟩
        rw [← H0.out] at HQ
        obtain ⟨M1, N1, HT1, HL1, HK1, HB1⟩ := HEND.out _ HQ.out
        have HL9 := Lib.hid (rfl : doesS o L = doesS o L)
        go_wp2
        go_roundw
        case rel => exact ⟨k + 1, M1, N1, doesS o L, by go_num, by omega, hdl, HT1, HL1, HK1, HB1⟩
        case measure => simp [intOf]; omega
    · go_wp2
      go_ret
      exact ⟨rfl, HB.out⟩
set_option maxRecDepth 100000 in
theorem dictSeeds_lifted (os : Os) (started : os.Started) (H : Type) (enc : TypeId × Value → H) :
    ReturnsInHanded {} Try.checked os 5 .any (Rows.dictSeedsSpec.pre6 enc Try.prog Try.f5 Rows.dictSeedsRow.domain false) (Rows.dictSeedsSpec.post enc Try.prog Try.f5 false true false false) := by
  refine returnsInHanded_of_change_sized (C := Try.checked) own started (by kernel_rfl) Try.func5
    (ChangeSpec.witness6 (enc := enc) (C := Try.checked) false ⟨#[], #[.int .u64 0, .int .u64 0, .slice none 0 0], []⟩ 8 (by kernel_rfl) (by kernel_rfl) (by kernel_rfl) (by kernel_rfl)) ?_
  intro W base args ds gs before hval0 hW hcnd hsz0 _
  have hval : ∀ (j : Nat) t v, Try.f5.params[j]? = some t → args[j]? = some v → Value.okWide Try.prog W .any base t v := hval0
  have hW' := hW
  obtain ⟨p, q, hA0, hV, rfl, hfz, hnd⟩ := hW
  have hA : DataW.TrodAll enc Try.prog W 0 (fun _ => true) true Try.f5.params.toList args.toList ds p := hA0
  rw [Try.params5] at hA hval
  obtain ⟨v0, vs0, d0, ds0, p0, q0, hargs, rfl, rfl, h0, r0⟩ := trodAll_cons hA
  obtain ⟨v1, vs1, d1, ds1, p1, q1, rfl, rfl, rfl, h1, r1⟩ := trodAll_cons r0
  obtain ⟨v2, vs2, d2, ds2, p2, q2, rfl, rfl, rfl, h2, r2⟩ := trodAll_cons r1
  obtain ⟨rfl, rfl, rfl⟩ := trodAll_nil r2
  obtain rfl : args = #[v0, v1, v2] := by cases args; simp_all
  obtain ⟨rfl, rfl⟩ := trodVars_none hV
  have hsz : (DataW.weightsEach Try.prog [22, 22, 27] [d0, d1, d2]).all (fun x => decide (x ≤ reachBytes)) = true := by
    have h := hsz0
    simp only [List.append_nil] at h
    have e : (Try.f5.params.toList ++ DataSpec.varTypes Try.checked.prog Rows.dictSeedsSpec.plain) = [22, 22, 27] := by kernel_rfl
    rw [e] at h; exact h
  clear hsz0
  obtain ⟨hw0, hsz0⟩ := weights_cons hsz
  obtain ⟨x0, rfl⟩ := open_word Try.underlying22 (hval 0 22 v0 rfl rfl) h0
  obtain ⟨hw1, hsz1⟩ := weights_cons hsz0
  obtain ⟨x1, rfl⟩ := open_word Try.underlying22 (hval 1 22 v1 rfl rfl) h1
  obtain ⟨hw2, hsz2⟩ := weights_cons hsz1
  obtain ⟨l2, hr2, hb2⟩ := open_list spb spb_len Try.underlying27 (by kernel_rfl) sp_read (hval 2 27 v2 rfl rfl) h2
  have hby2 : l2.length * 56 ≤ reachBytes := by
    have e : Try.prog.bytesOf 32 = 56 := by kernel_rfl
    rw [← e]; exact hb2 _ hw2
  clear hA0 hval0
  refine (dictSeeds_walk W x0 x1 v2 l2 hr2 hby2).mono fun e W' ⟨he, bel⟩ => ?_
  subst he
  exact ⟨_, rfl, law_post laidOut Try.underlying4 (by kernel_rfl) rfl (by kernel_rfl) hW' rfl bel⟩

theorem dictSeeds_holds : Rows.DictSeedsSaid :=
  OpenClaim.holds_of_wide 5 Try.f5 rfl rfl rfl rfl rfl rfl rfl ⟨rfl, rfl, rfl, rfl, rfl⟩ rfl rfl rfl rfl rfl (by kernel_rfl) Try.func5 (by kernel_rfl)
    (of_decide_eq_true (by kernel_rfl)) (by unfold Func.isWrapper; rw [if_neg (of_decide_eq_false (by kernel_rfl))]; exact ⟨rfl, rfl⟩)
    (fun os started H enc _ => dictSeeds_lifted os started H enc)
end Go.Proofs.Ytkecipdonamjaaa
