/- The walk of pantrylaw05's placed: each key stands in its bucket, and the buckets hold as many keys as there are. -/
import Derived.Test.YtkecipdonamjaaaSteps
import Derived.Laws.BitsAllLaws
namespace Go.Proofs.Ytkecipdonamjaaa
open Go.RowKit Di

theorem i64_and_pred (n k : Nat) (hn : n = 2 ^ k) (hk : n ≤ 35184372088832) : bits .and .i64 (n : Int) ((n : Int) - 1) = 0 := by
  have hpos : 0 < n := by rw [hn]; exact Nat.two_pow_pos k
  have e : ((n : Int) - 1) = ((n - 1 : Nat) : Int) := by omega
  rw [e]
  show IntKind.i64.wrap ((BitVec.ofInt 64 (n : Int) &&& BitVec.ofInt 64 ((n - 1 : Nat) : Int)).toNat : Int) = _
  rw [BitVec.toNat_and, ofInt_u64 n (by omega), ofInt_u64 (n - 1) (by omega)]
  have : n &&& (n - 1) = 0 := by rw [hn, Nat.and_two_pow_sub_one_eq_mod, Nat.mod_self]
  rw [this]; rfl
/-- how many keys lie in the tables ahead of table j -/
def cnt (M : DM) (j : Nat) : Nat := if j = 0 then 0 else if j = 1 then M.old.flatten.length else (entries M).length
theorem take_flat (cs : List (List E)) (i : Nat) (c : List E) (h : cs[i]? = some c) : ((cs.take (i + 1)).flatten).length = ((cs.take i).flatten).length + c.length := by
  obtain ⟨hi, hc⟩ := List.getElem?_eq_some_iff.1 h
  rw [List.take_succ_eq_append_getElem hi, hc]
  simp
theorem take_flat_le (cs : List (List E)) (i : Nat) : ((cs.take i).flatten).length ≤ (cs.flatten).length := by
  conv => rhs; rw [← List.take_append_drop i cs, List.flatten_append, List.length_append]
  omega
theorem cnt_succ (M : DM) (j : Nat) (hj : j < 2) : cnt M (j + 1) = cnt M j + ((tabOf M (j : Int)).flatten).length := by
  have : j = 0 ∨ j = 1 := by omega
  rcases this with rfl | rfl
  · unfold cnt tabOf; simp
  · unfold cnt tabOf entries; simp
theorem cnt_le (M : DM) (j : Nat) : cnt M j ≤ (entries M).length := by
  unfold cnt entries
  split
  · omega
  · split
    · simp
    · exact Nat.le_refl _
theorem hash_slot (seed : UInt64) (n i : Nat) (key : ByteArray) (h : slotOf seed n key = i) : (wd (hash seed key.data.toList)).tmod (n : Int) = (i : Int) := by
  rw [← h]; rfl
/-- how many keys the buckets ahead of bucket i hold -/
def fl (cs : List (List E)) (i : Nat) : Nat := ((cs.take i).flatten).length
theorem fl_succ (cs : List (List E)) (i : Nat) (c : List E) (h : cs[i]? = some c) : fl cs (i + 1) = fl cs i + c.length := take_flat cs i c h
theorem fl_le (cs : List (List E)) (i : Nat) : fl cs i ≤ (cs.flatten).length := take_flat_le cs i
theorem fl_all (cs : List (List E)) : fl cs cs.length = (cs.flatten).length := by unfold fl; rw [List.take_length]
set_option maxRecDepth 100000 in
set_option maxHeartbeats 4000000 in
theorem placed_any (w : World) (d : Nat) (M : DM) (h : DAt w d M) (hn : M.n ≤ 4398046511104) :
    Calls Try.prog 29 #[.pointer (some ⟨d, 0, none⟩), .int .u64 (wd M.seed)] w fun e w' => e = .returned (.bool true) ∧ Below w.heap.size w w' := by
  have H := Lib.hid h
  have hA : M.old.length = 0 ∨ ∃ k, 2 ≤ k ∧ M.old.length = 2 ^ k := by
    by_cases ho : M.old = []
    · left; rw [ho]; rfl
    · exact .inr (h.inv.sold ho)
  have hY : M.young.length = 0 ∨ ∃ k, 2 ≤ k ∧ M.young.length = 2 ^ k := by
    by_cases ho : M.young = []
    · left; rw [ho]; rfl
    · exact .inr (h.inv.syoung ho)
  have hT : (M.young.length = 0 ∧ M.at_ = 0) ∨ (0 < M.young.length ∧ M.at_ < M.old.length) := by
    by_cases ho : M.young = []
    · left; rw [ho]; exact ⟨rfl, h.inv.still ho⟩
    · exact .inr ⟨List.length_pos_iff.2 ho, h.inv.moving ho⟩
  have hlo := h.lold
  have hly := h.lyoung
  obtain ⟨A0, hA0⟩ : ∃ n, M.old.length = n := ⟨_, rfl⟩
  obtain ⟨Y0, hY0⟩ : ∃ n, M.young.length = n := ⟨_, rfl⟩
  obtain ⟨T0, hT0⟩ : ∃ n, M.at_ = n := ⟨_, rfl⟩
  rw [hA0] at hA hT hlo
  rw [hY0] at hY hT hly
  rw [hT0] at hT
  have HA := Lib.hid hA
  have HY := Lib.hid hY
  have HT := Lib.hid hT
  have HA0 := Lib.hid hA0
  have HY0 := Lib.hid hY0
  have HT0 := Lib.hid hT0
  have hTb : T0 ≤ 35184372088832 := by omega
  clear h hA hY hT hA0 hY0 hT0
  go_enter Try.func29, Try.ntmps29
  go_wp2_with fail
  refine (Di.sizes_any _ d M H.out).mono ?_
  rintro e w1 ⟨rfl, m, rfl⟩
  rw [HA0.out, HY0.out, HT0.out]
  have D1 := H.out.drewN m
  have B1 : Below w.heap.size w (w.drewN m) := (Fr.drewN (fun _ => False) w m).below (Nat.le_refl _) (fun _ h => h.elim)
  obtain ⟨w1, hw1⟩ : ∃ w1, w.drewN m = w1 := ⟨_, rfl⟩
  rw [hw1] at D1 B1 ⊢
  have HD := Lib.hid D1
  have HB := Lib.hid B1
  clear hw1 D1 B1
  go_upto_region 2 with (fail)
  go_cut [78] from 21 to 78 (fun t wc => wc = w1 ∧ t = .bool false)
  case first =>
    have gA : (A0 = 0) ∨ (4 ≤ A0 ∧ ((A0 : Int) == 0) = false ∧ Hid (bits .and .i64 (A0 : Int) ((A0 : Int) - 1) = 0)) := by
      rcases HA.out with h | ⟨k, h1, h2⟩
      · exact .inl h
      · have h4 : 4 ≤ A0 := by rw [h2]; exact Nat.pow_le_pow_right (show 0 < 2 by decide) h1
        exact .inr ⟨h4, beq_eq_false_iff_ne.2 (by omega), i64_and_pred A0 k h2 hlo⟩
    have gY : (Y0 = 0) ∨ (4 ≤ Y0 ∧ ((Y0 : Int) == 0) = false ∧ Hid (bits .and .i64 (Y0 : Int) ((Y0 : Int) - 1) = 0)) := by
      rcases HY.out with h | ⟨k, h1, h2⟩
      · exact .inl h
      · have h4 : 4 ≤ Y0 := by rw [h2]; exact Nat.pow_le_pow_right (show 0 < 2 by decide) h1
        exact .inr ⟨h4, beq_eq_false_iff_ne.2 (by omega), i64_and_pred Y0 k h2 hly⟩
    rcases gA with rfl | ⟨a1, a2, a3⟩
    · rcases gY with rfl | ⟨y1, y2, y3⟩
      · have ht : T0 = 0 := by have := HT.out; omega
        subst ht
        go_wp2
        go_meet
        case rel => exact ⟨rfl, rfl⟩
      · exfalso; have := HT.out; omega
    · rcases gY with rfl | ⟨y1, y2, y3⟩
      · have ht : T0 = 0 := by have := HT.out; omega
        subst ht
        have a4 := a3.out
        go_wp2
        go_meet
        case rel => refine ⟨rfl, congrArg Value.bool ?_⟩; simp; omega
      · have ht : T0 < A0 := by have := HT.out; omega
        have a4 := a3.out
        have y4 := y3.out
        go_wp2
        go_meet
        case rel => refine ⟨rfl, congrArg Value.bool ?_⟩; simp; omega
  case rest =>
    obtain ⟨rfl, rfl⟩ := hcut
    obtain ⟨w1, rfl⟩ : ∃ w1, w1 = wc := ⟨_, rfl⟩
    obtain ⟨LB, hLB⟩ : ∃ LB, w1.heap.size = LB := ⟨_, rfl⟩
    have HLB := Lib.hid hLB
    go_wp2
    obtain ⟨WL, hWL⟩ : ∃ WL, w1.alloc (.cells #[.int .i64 A0, .int .i64 Y0] 3) = WL := ⟨_, rfl⟩
    have DL : DAt WL d M := by rw [← hWL]; exact HD.out.fr (Fr.alloc (fun _ => False) w1 _) (fun _ _ h => h)
    have BL : Below w.heap.size w WL := by rw [← hWL]; exact HB.out.alloc HB.out.size _
    have hcell : ∀ j : Nat, j < 2 → WL.cell? ⟨LB, j, none⟩ = some (.int .i64 ((tabOf M (j : Int)).length : Int)) := by
      intro j hj
      have hb : WL.heap[LB]? = some (.cells #[.int .i64 A0, .int .i64 Y0] 3 (0, 0)) := by rw [← hWL, ← HLB.out]; exact alloc_at _ _
      rw [cell_of_blk hb]
      have : j = 0 ∨ j = 1 := by omega
      rcases this with rfl | rfl
      · rw [show tabOf M ((0 : Nat) : Int) = M.old from rfl, HA0.out]; rfl
      · rw [show tabOf M ((1 : Nat) : Int) = M.young from rfl, HY0.out]; rfl
    rw [hWL]
    have HDL := Lib.hid DL
    have HBL := Lib.hid BL
    have HC := Lib.hid hcell
    have HW := Lib.hid hWL
    clear DL BL hcell hWL hLB
    go_loopg [8, 83] 2 (fun gh n i wr => ∃ j : Nat, Hid (j + gh = 2) ∧ i = .int .i64 j ∧ n = .int .i64 (cnt M j) ∧ Hid (Below WL.heap.size WL wr))
    case atStart => exact ⟨0, rfl, rfl, rfl, Below.refl _ _⟩
    case round =>
      obtain ⟨j, HJ, rfl, rfl, HB1⟩ := hrel
      have hj : j ≤ 2 := by have := HJ.out; omega
      by_cases hj2 : j < 2
      · obtain ⟨cs, hcs⟩ : ∃ cs, tabOf M (j : Int) = cs := ⟨_, rfl⟩
        have hce := bel_cell HB1.out (HC.out j hj2)
        rw [hcs] at hce
        have hsz : cs.length ≤ 35184372088832 := by
          rw [← hcs]; unfold tabOf
          split
          · exact HDL.out.lyoung
          · exact HDL.out.lold
        have hcnt := cnt_succ M j hj2
        rw [hcs] at hcnt
        have hcl := cnt_le M (j + 1)
        rw [← HDL.out.inv.count] at hcl
        obtain ⟨CJ, hCJ⟩ : ∃ n, cnt M j = n := ⟨_, rfl⟩
        obtain ⟨CK, hCK⟩ : ∃ n, cnt M (j + 1) = n := ⟨_, rfl⟩
        rw [hCJ, hCK] at hcnt
        rw [hCK] at hcl
        rw [hCJ]
        have HCS := Lib.hid hcs
        have HCK := Lib.hid hCK
        have HCN := Lib.hid hcnt
        clear hcs hCJ hCK hcnt
        obtain ⟨wo, rfl⟩ : ∃ wo, wo = wr := ⟨_, rfl⟩
        have g84 : decide ((j : Int) < 2) = true := by simp; omega
        go_wp2
        go_loopg [8, 89] cs.length (fun gh n i wr => ∃ i0 : Nat, Hid (i0 + gh = cs.length) ∧ i = .int .i64 i0 ∧ n = .int .i64 ((CJ + fl cs i0 : Nat) : Int) ∧ Hid (Below WL.heap.size WL wr))
        case atStart => exact ⟨0, Nat.zero_add _, rfl, rfl, HB1⟩
        case round =>
          obtain ⟨i0, HI0, rfl, rfl, HB2⟩ := hrel
          have hi0 : i0 ≤ cs.length := by have := HI0.out; omega
          by_cases hlt : i0 < cs.length
          · obtain ⟨wp, rfl⟩ : ∃ wp, wp = wr := ⟨_, rfl⟩
            have D2 : DAt wp d M := HDL.out.fr (Fr.of_below HB2.out) (fun k hk h => by have := HDL.out.rep.lt hk; omega)
            obtain ⟨c, hc⟩ : ∃ c, cs[i0]? = some c := ⟨_, List.getElem?_eq_getElem hlt⟩
            have hbk : bucketK M (j : Int) (i0 : Int) = c.map E.key := by
              unfold bucketK
              rw [if_pos ⟨by omega, by omega⟩, HCS.out, Int.toNat_natCast, hc]; rfl
            have g90 : decide (i0 < cs.length) = true := by simpa using hlt
            have hbkt := Di.bucket_any wp d M (j : Int) (i0 : Int) D2 hn
            rw [hbk] at hbkt
            have HBK := Lib.hid hbkt
            have htf := fl_succ cs i0 c hc
            have htl := fl_le cs (i0 + 1)
            have hfx := HCN.out
            obtain ⟨F0, hF0⟩ : ∃ n, fl cs i0 = n := ⟨_, rfl⟩
            obtain ⟨F1, hF1⟩ : ∃ n, fl cs (i0 + 1) = n := ⟨_, rfl⟩
            rw [hF0, hF1] at htf
            rw [hF1] at htl
            rw [hF0]
            have hbound : CJ + F1 ≤ 4398046511104 := by omega
            have hslot : ∀ e ∈ c, slotOf M.seed cs.length e.key = i0 ∧ e.key.size ≤ maxLen := by
              intro e he
              have hp : Placed M.seed cs := by
                rw [← HCS.out]; unfold tabOf
                split
                · exact HDL.out.inv.pyoung
                · exact HDL.out.inv.pold
              refine ⟨hp i0 c hc e he, (HDL.out.sz e ?_).2⟩
              have hm : e ∈ cs.flatten := List.mem_flatten.2 ⟨c, List.mem_of_getElem? hc, he⟩
              rw [← HCS.out] at hm; unfold tabOf at hm
              split at hm
              · exact List.mem_append.2 (.inr hm)
              · exact List.mem_append.2 (.inl hm)
            have hemp : Hid (j = 0 → i0 < T0 → c.length = 0) := fun h1 h2 => by
              subst h1
              have h3 := HDL.out.inv.passed i0 (by rw [HT0.out]; exact h2)
              have h4 : cs = M.old := HCS.out.symm
              rw [h4, h3] at hc
              cases hc; rfl
            have HSL := Lib.hid hslot
            have HF1 := Lib.hid hF1
            have HTF := Lib.hid htf
            clear hbkt hbk htl hfx hF0 hF1 htf hslot hc D2
            go_wp2_with fail
            refine HBK.out.mono ?_
            rintro e w5 ⟨v, rfl, hown, hb5⟩
            rw [List.length_map] at hown
            obtain ⟨a5, c5, rfl⟩ := owns_slice hown
            have hB5 : Below WL.heap.size WL w5 := HB2.out.trans (hb5.mono HB2.out.size)
            have HB5 := Lib.hid hB5
            have HO := Lib.hid hown
            clear hown hb5 hB5
            go_upto_region 12 with (fail)
            go_cut [107] from 96 to 107 (fun t wc => wc = w5 ∧ t = .bool false)
            case first =>
              by_cases hj0 : j = 0
              · by_cases hit : i0 < T0
                · have := hemp.out hj0 hit
                  have hcl0 : (c.length : Int) = 0 := by omega
                  have g1 : decide (0 < c.length) = false := decide_eq_false (by omega)
                  have g2 : decide (i0 < T0) = true := by simpa using hit
                  clear this hcl0 hit
                  subst hj0
                  go_wp2
                  go_meet
                  case rel => exact ⟨rfl, rfl⟩
                · have g2 : decide (i0 < T0) = false := by simpa using hit
                  clear hit
                  subst hj0
                  go_wp2
                  go_meet
                  case rel => exact ⟨rfl, rfl⟩
              · have g1 : ((j : Int) == 0) = false := beq_eq_false_iff_ne.2 (by omega)
                go_wp2
                go_meet
                case rel => exact ⟨rfl, rfl⟩
            case rest =>
              obtain ⟨rfl, rfl⟩ := hcut
              obtain ⟨w5, rfl⟩ : ∃ w5, w5 = wc := ⟨_, rfl⟩
              go_wp2
              go_loop [8, 110] (fun n q => ∃ q0 : Nat, q0 ≤ c.length ∧ q = .int .i64 q0 ∧ n = .int .i64 ((CJ + F0 + q0 : Nat) : Int)) (fun _ q => c.length - (intOf q).toNat)
              case atStart => exact ⟨0, by omega, rfl, rfl⟩
              case round =>
                obtain ⟨q0, hq0, rfl, rfl⟩ := hrel
                by_cases hq : q0 < c.length
                · obtain ⟨g, off, rfl, hcc⟩ := (RdC.of_owns HO.out).at (by simp; omega)
                  have hk1 := hcc q0 (.string c[q0].key) (by simp [hq])
                  obtain ⟨s1, s2⟩ := HSL.out c[q0] (List.getElem_mem hq)
                  obtain ⟨key, hkey⟩ : ∃ key, c[q0].key = key := ⟨_, rfl⟩
                  rw [hkey] at hk1 s1 s2
                  have hm := hash_slot M.seed cs.length i0 key s1
                  have HH := Lib.hid (hash_any M.seed key w5 s2)
                  have htfx : F1 = F0 + c.length := HTF.out
                  obtain ⟨hv, hhv⟩ : ∃ hv, wd (hash M.seed key.data.toList) = hv := ⟨_, rfl⟩
                  rw [hhv] at hm HH
                  have hne : ¬ ((cs.length : Int) = 0) := by omega
                  have hb1 : CJ + F0 + q0 < 4398046511104 := by omega
                  clear s1 s2 hkey hhv hcc htfx
                  go_wp2_with fail
                  refine HH.out.mono ?_
                  rintro e w' ⟨rfl, rfl⟩
                  go_wp2
                  go_round
                  case rel => exact ⟨q0 + 1, by omega, by go_num, by first | rfl | go_num⟩
                  case measure => simp [intOf]; omega
                · have hq1 : q0 = c.length := by omega
                  subst hq1
                  go_wp2
                  go_roundg (cs.length - i0 - 1)
                  case measure => have := HI0.out; omega
                  case rel =>
                    refine ⟨i0 + 1, by show _ = _; omega, by go_num, ?_, HB5⟩
                    rw [HF1.out, HTF.out, ← Nat.add_assoc]; rfl
          · have hi1 : i0 = cs.length := by omega
            subst hi1
            go_wp2
            go_roundg (2 - j - 1)
            case measure => have := HJ.out; omega
            case rel =>
              refine ⟨j + 1, by show _ = _; omega, by go_num, ?_, HB2⟩
              rw [fl_all, HCK.out, HCN.out]
      · have hj3 : j = 2 := by omega
        subst hj3
        have hfin : cnt M 2 = M.n := HDL.out.inv.count.symm
        have D3 : DAt wr d M := HDL.out.fr (Fr.of_below HB1.out) (fun k hk h => by have := HDL.out.rep.lt hk; omega)
        rw [hfin]
        have HL := Lib.hid (Di.len_any wr d M D3 (by omega))
        have HBF := Lib.hid (HBL.out.trans (HB1.out.mono HBL.out.size))
        clear hfin D3
        go_wp2_with fail
        refine HL.out.mono ?_
        rintro e w' ⟨rfl, rfl⟩
        go_wp2
        go_ret
        exact ⟨rfl, HBF.out⟩
end Go.Proofs.Ytkecipdonamjaaa
