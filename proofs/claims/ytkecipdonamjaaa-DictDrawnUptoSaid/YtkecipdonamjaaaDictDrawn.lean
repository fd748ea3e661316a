/- DictDrawn: what is drawn is there; each key is drawn for some number. The second form (Upto): the list 'seen' is as long as there are buckets, times the keys. -/
import Derived.Test.YtkecipdonamjaaaDrawn
import Derived.Test.YtkecipdonamjaaaUpto
namespace Go.Proofs.Ytkecipdonamjaaa
open Go.ChangeShapes Go.WideShapes Go.ChangeAt Go.RowKit Di

theorem pr_start {w w1 w2 : World} {d : Nat} {M : DM} (hb1 : Below w.heap.size w w1) (D0 : DAt w2 d M) (HB0 : Hid (∀ k, Bs (dictL d M) k → w1.heap.size ≤ k)) (hb2 : Below w1.heap.size w1 w2) :
    Pr w.heap.size w2 d M (.slice none 0 0) [] ∧ Below w.heap.size w w2 :=
  ⟨⟨D0, World.ownsRow_nil _ _ _ _, (fun g hg => by cases hg), fun k hk => Nat.le_trans hb1.size (HB0.out k hk), Nat.le_trans hb1.size hb2.size⟩, hb1.trans (hb2.mono hb1.size)⟩
set_option maxRecDepth 100000 in
set_option maxHeartbeats 4000000 in
theorem dictDrawn_walk (w : World) (x0 : UInt64) (v1 : Value) (l : List SpB) (hr : RdC w 6 v1 l.length (l.flatMap spb)) (hby : l.length ≤ 1048576) (x2 : UInt64) :
    Calls Try.prog 9 #[.int .u64 (wd x0), v1, .int .u64 (wd x2)] w fun e w' => e = .returned (.bool true) ∧ Below w.heap.size w w' := by
  have HR := Lib.hid hr
  obtain ⟨-, a1, c1, rfl, -⟩ := hr
  go_enter Try.func9, Try.ntmps9
  go_wp2_with fail
  refine (wakes_any _).mono ?_
  rintro e w1 ⟨rfl, hb1⟩
  have HB1 := Lib.hid hb1; clear hb1
  go_wp2_with fail
  refine (new_like _ x0 _ rfl).mono ?_
  rintro e w2 ⟨d, M0, rfl, D0, L0, sd0, s1, s2, -, HB0, hb2⟩
  obtain ⟨P0, B0⟩ := pr_start HB1.out D0 HB0 hb2
  have HP0 := Lib.hid P0
  have HB2 := Lib.hid B0
  have HL0 := Lib.hid L0
  have HLN0 : Hid (Lens M0 0) := ⟨by rw [s1]; decide, by rw [s2]; decide⟩
  clear D0 hb2 P0 B0 L0 HB0 HB1 sd0 s1 s2
  go_wp2_with fail
  go_loopw [8, 39] (fun v i wr => ∃ (k : Nat) (M : DM) (L : Pl), i = .int .i64 k ∧ k ≤ l.length ∧ L.length ≤ k ∧ Hid (Pr w.heap.size wr d M v L) ∧ Hid (Like M L) ∧ Hid (Below w.heap.size w wr) ∧ Hid (Lens M k)) (fun _ i _ => l.length - (intOf i).toNat)
  case atStart => exact ⟨0, M0, [], rfl, by omega, by simp, HP0, HL0, HB2, HLN0⟩
  case round =>
    obtain ⟨k, M, L, rfl, hk, hLk, HP, HL, HB, HLN⟩ := hrel
    obtain ⟨v, rfl⟩ : ∃ v, v = u8 := ⟨_, rfl⟩
    clear HP0 HL0 HB2 HLN0
    by_cases hlt : k < l.length
    · obtain ⟨g, off, rfl, c0, c1, c2, c3, c4, c5⟩ := sp_at (HR.out.below HB.out) k hlt
      obtain ⟨o, ho⟩ : ∃ o, l[k].1 = o := ⟨_, rfl⟩
      have hko : o.key.size ≤ maxLen := ho ▸ l[k].2
      rw [ho] at c0 c1 c2 c3 c4 c5
      clear ho
      go_wp2_with fail
      have PW := HP.out.other (Fr.alloc (fun _ => False) wr (.cells #[.int .i64 o.who, .int .i64 o.do_, .int .i64 o.n, .int .i64 o.v, .string o.key, .int .u64 (wd o.r)] 32)) (fun _ _ h => h) (fun _ _ h => h)
      have BW : Below w.heap.size w (wr.alloc (.cells #[.int .i64 o.who, .int .i64 o.do_, .int .i64 o.n, .int .i64 o.v, .string o.key, .int .u64 (wd o.r)] 32)) := HB.out.alloc HB.out.size _
      have HPW := Lib.hid PW
      have HBW := Lib.hid BW
      clear PW BW c0 c1 c2 c3 c4 c5
      refine (does_any _ d M L v o w.heap.size HL.out (by omega) hko HPW.out).mono ?_
      rintro e w4 ⟨v', M', rfl, P4, L4, B4, sd, -, -, -, -⟩
      have hLk' : (doesL o L).length ≤ k + 1 := Nat.le_trans (doesL_len o L) (by omega)
      have HP4 := Lib.hid P4
      have HL4 := Lib.hid L4
      have HB4 := Lib.hid (HBW.out.trans B4)
      have HLN4 := Lib.hid (sd.2 (k + 1) (HLN.out.mono (by omega)) (by rw [HL.out.count]; omega))
      clear P4 L4 B4 sd HBW HPW
      go_wp2
      go_roundw
      case rel => exact ⟨k + 1, M', doesL o L, by go_num, by omega, hLk', HP4, HL4, HB4, HLN4⟩
      case measure => simp [intOf]; omega
    · have hll : L.length ≤ 1048576 := by omega
      have hlen := HLN.out
      have hd0 : Dr w w.heap.size wr d M v L (.slice none 0 0) [] := ⟨HP.out, World.ownsRow_nil _ _ _ _, HB.out⟩
      obtain ⟨av, cv, rfl⟩ := rowE_slice HP.out.row
      have HD0 := Lib.hid hd0
      have HO : Hid ((opn M).length = M.old.length - M.at_ + M.young.length ∧ M.at_ ≤ M.old.length ∧ M.old.length ≤ 4194304 ∧ M.young.length ≤ 4194304) := by
        refine ⟨opn_len M, ?_, by have := hlen.1; omega, by have := hlen.2; omega⟩
        by_cases hy : M.young = []
        · rw [HL.out.inv.still hy]; omega
        · exact Nat.le_of_lt (HL.out.inv.moving hy)
      clear hd0 HP HB HLN hlen
      have HSA := Lib.hid (fun (w : World) (r : Nat) (hr : r < 18446744073709551616) (h : DAt w d M) => Di.sample_any w d M r hr h (by rw [HL.out.count]; omega))
      by_cases hL0 : L = []
      · have hs0 : ∀ r, sampV M r = .tuple #[.string ⟨#[]⟩, .bool false] := fun r => by unfold sampV; rw [if_pos (by rw [HL.out.count, hL0]; rfl)]
        have HS0 := Lib.hid hs0
        subst hL0
        clear hs0
        go_wp2_with fail
        refine (HSA.out _ x2.toNat (by have := x2.toNat_lt; omega) HD0.out.pr.dat).mono ?_
        rintro e w4 ⟨rfl, m4, rfl⟩
        rw [HS0.out]
        go_wp2_with fail
        go_ret
        exact ⟨rfl, (HD0.out.quiet (Fr.drewN _ _ m4)).bel⟩
      have hLp : 0 < L.length := List.length_pos_iff.2 hL0
      have hs0 : ∀ r, sampV M r = .tuple #[.string (drawM M r), .bool true] := fun r => by unfold sampV; rw [if_neg (by rw [HL.out.count]; omega)]
      have HS0 := Lib.hid hs0
      have HLN0 := Lib.hid hL0
      clear hs0 hL0
      go_wp2_with fail
      refine (HSA.out _ x2.toNat (by have := x2.toNat_lt; omega) HD0.out.pr.dat).mono ?_
      rintro e w4 ⟨rfl, m4, rfl⟩
      rw [HS0.out]
      have HD4 := Lib.hid (HD0.out.quiet (Fr.drewN _ _ m4))
      obtain ⟨key0, hkey0⟩ : ∃ y, drawM M x2.toNat = y := ⟨_, rfl⟩
      have HK0 : Hid (L.any (fun e => decide (e.1 = key0)) = true) := by rw [← hkey0]; exact drawn_in HL.out HLN0.out _
      rw [hkey0]
      clear hkey0
      have q1 : ((L.length : Int) == 0) = false := beq_eq_false_iff_ne.2 (by omega)
      have q2 : decide (0 < L.length) = true := by simpa using hLp
      by_cases h60 : 60 < L.length
      · have q3 : decide (60 < L.length) = true := by simpa using h60
        go_wp2_with fail
        go_ret
        exact ⟨rfl, HD4.out.bel⟩
      have q3 : decide (60 < L.length) = false := by simpa using h60
      go_wp2_with fail
      refine (Di.sizes_any _ d M HD4.out.pr.dat).mono ?_
      rintro e w5 ⟨rfl, m5, rfl⟩
      have HD5 := Lib.hid (HD4.out.quiet (Fr.drewN _ _ m5))
      obtain ⟨w6, hw6⟩ : ∃ w6, (wr.drewN m4).drewN m5 = w6 := ⟨_, rfl⟩
      rw [hw6] at HD5 ⊢
      obtain ⟨tot, htot⟩ : ∃ tot, (opn M).length = tot := ⟨_, rfl⟩
      obtain ⟨A, hA⟩ : ∃ n, M.old.length = n := ⟨_, rfl⟩
      obtain ⟨Y, hY⟩ : ∃ n, M.young.length = n := ⟨_, rfl⟩
      obtain ⟨T, hT⟩ : ∃ n, M.at_ = n := ⟨_, rfl⟩
      have ho := HO.out
      rw [htot, hA, hY, hT] at ho
      obtain ⟨o1, o2, o3, o4⟩ := ho
      have O1 := Lib.hid o1
      rw [hA, hY, hT]
      have hpb : tot * L.length ≤ 8388608 * 60 := Nat.mul_le_mul (by omega) (by omega)
      obtain ⟨P, hP⟩ : ∃ P, tot * L.length = P := ⟨_, rfl⟩
      have e2 : (tot : Int) * (L.length : Int) = (P : Int) := by rw [← hP]; simp
      have HE2 := Lib.hid e2
      rw [hP] at hpb
      have HPE : Hid ((opn M).length * M.n = P) := by show _ = _; rw [htot, HL.out.count]; exact hP
      clear hw6 htot hA hY hT HO hP HD0 HD4 e2 o1
      go_upto_region 19 with (fail)
      go_cut [18] from 87 to 91 (fun t wc => wc = w6 ∧ t = .int .i64 (tot : Int))
      case first =>
        go_wp2
        go_meet
        case rel => exact ⟨rfl, congrArg (Value.int .i64) (by have := O1.out; omega)⟩
      case rest =>
      obtain ⟨rfl, rfl⟩ := hcut
      obtain ⟨w6, rfl⟩ : ∃ w6, w6 = wc := ⟨_, rfl⟩
      go_upto_region 21 with (fail)
      go_cut [95, 96] from 92 to 94 (fun t t2 wc => wc = w6 ∧ t = .int .i64 (P : Int) ∧ t2 = .int .i64 0)
      case first =>
        go_wp2
        go_meet
        case rel => exact ⟨rfl, congrArg (Value.int .i64) (by rw [HE2.out]; exact IntWalk.wrap64_in _ (by omega)), rfl⟩
      case rest =>
      obtain ⟨rfl, rfl, rfl⟩ := hcut
      clear HE2
      go_wp2_with fail
      go_loopg [19, 96] P (fun gh vs i wr => ∃ (k : Nat), Hid (k + gh = P) ∧ i = .int .i64 k ∧ Hid (Dr w w.heap.size wr d M (.slice av L.length cv) L vs ((List.range k).map (drawM M))))
      case atStart => exact ⟨0, by show _ = _; omega, rfl, HD5⟩
      case round =>
        obtain ⟨k2, HG2, rfl, HDR⟩ := hrel
        have hk2 : k2 ≤ P := by have := HG2.out; omega
        obtain ⟨vs, rfl⟩ : ∃ v, v = u19 := ⟨_, rfl⟩
        clear HD5
        by_cases hlt2 : k2 < P
        · have hkw : (k2 : Int) < 18446744073709551616 := by omega
          have hku : IntKind.u64.wrap (k2 : Int) = (k2 : Int) := IntWalk.u64_in _ (by omega)
          obtain ⟨i0, hi, hz0, hz1, hz2⟩ := info_parts info_str
          have HI := Lib.hid hi
          have HZ0 := Lib.hid hz0
          have HZ1 := Lib.hid hz1
          have HZ2 := Lib.hid hz2
          clear hi hz0 hz1 hz2 hkw
          go_wp2_with fail
          refine (HSA.out _ k2 (by omega) HDR.out.pr.dat).mono ?_
          rintro e w7 ⟨rfl, m7, rfl⟩
          rw [HS0.out]
          have HD7 := Lib.hid (HDR.out.quiet (Fr.drewN _ _ m7))
          have hsn : (List.range (k2 + 1)).map (drawM M) = (List.range k2).map (drawM M) ++ [drawM M k2] := by rw [List.range_succ, List.map_append]; rfl
          have HSN := Lib.hid hsn
          obtain ⟨y, hy⟩ : ∃ y, drawM M k2 = y := ⟨_, rfl⟩
          rw [hy] at HSN ⊢
          obtain ⟨wq, hwq⟩ : ∃ wq, wr.drewN m7 = wq := ⟨_, rfl⟩
          rw [hwq] at HD7 ⊢
          clear hsn hku hy hwq HDR
          have hlS : ((List.range k2).map (drawM M)).length = k2 := by simp
          have hrow : wq.ownsRow w.heap.size 9 1 vs k2 (((List.range k2).map (drawM M)).map .string) := by
            have h1 := HD7.out.row
            unfold RowS at h1
            rwa [hlS] at h1
          have HROW := Lib.hid hrow
          have HLS := Lib.hid hlS
          clear hrow hlS
          go_wp2_with (at_builtin; refine wpl_append rfl (.tmp 108) (.tmp 110) 47 rfl w.heap.size 9 i0 (.string ⟨#[]⟩) 1 16 Try.underlying47 HI.out HZ0.out HZ1.out HZ2.out rfl (by decide) _ k2 _ rfl (HROW.out.alloc _) _ 1 [.string y] rfl (RdC.of_owns (World.ownsRow_lit (e := 9) wq #[.string y] 1 (Nat.le_refl _) (by decide) rfl)) (by simp [Value.oneCell']) (by unfold maxLen; omega) (by omega) (by have := HD7.out.pr.le; simp; omega) ?_; intro v' w8 hown hgrow; have HO8 := Lib.hid hown; have HG8 := Lib.hid hgrow; clear hown hgrow)
          have HD8 : Hid (Dr w w.heap.size w8 d M (.slice av L.length cv) L v' ((List.range (k2 + 1)).map (drawM M))) := by
            have h1 := HD7.out.quiet (Fr.alloc (fun _ => False) wq (.cells #[.string y] 9))
            refine h1.app HG8.out ?_
            have h2 := HO8.out
            rw [HSN.out]
            have e1 : ((List.range k2).map (drawM M) ++ [y]).length = k2 + 1 := by simp
            show World.ownsRow _ _ _ _ _ _ _
            rw [e1, List.map_append]
            exact h2
          go_roundg (P - (k2 + 1))
          case measure => have := HG2.out; omega
          case rel => exact ⟨k2 + 1, by show _ = _; omega, by go_num, HD8⟩
        · obtain rfl : k2 = P := by omega
          have HIN : Hid (∀ e ∈ L, ((List.range k2).map (drawM M)).any (fun x => decide (x = e.1)) = true) := fun e he => by rw [← HPE.out]; exact in_drawn HL.out he
          have HOUT : Hid (∀ x ∈ (List.range k2).map (drawM M), L.any (fun e => decide (e.1 = x)) = true) := fun x hx => by
            obtain ⟨r, _, rfl⟩ := List.mem_map.1 hx
            exact drawn_in HL.out HLN0.out r
          have hSl : ((List.range k2).map (drawM M)).length = k2 := by simp
          obtain ⟨S, hS⟩ : ∃ S, (List.range k2).map (drawM M) = S := ⟨_, rfl⟩
          rw [hS] at hSl HIN HOUT HDR
          obtain ⟨sa, sc, rfl⟩ := owns_slice HDR.out.row
          have hSb : S.length ≤ 503316480 := by omega
          clear hS hSl HSA HS0 HPE hlt hlt2
          go_wp2_with fail
          go_loopw [115] (fun i wr => ∃ (k : Nat), i = .int .i64 k ∧ k ≤ L.length ∧ Hid (Dr w w.heap.size wr d M (.slice av L.length cv) L (.slice sa S.length sc) S)) (fun i _ => L.length - (intOf i).toNat)
          case atStart => exact ⟨0, rfl, by omega, HDR⟩
          case round =>
            obtain ⟨k3, rfl, hk3, HD3⟩ := hrel
            clear HDR
            by_cases hlt3 : k3 < L.length
            · obtain ⟨gl, cl, el, _, _, _, hcl, _⟩ := rowE_cells HD3.out.pr.row (by intro e; rw [e] at hlt3; simp at hlt3)
              cases el
              obtain ⟨b1, b2⟩ := hcl k3 hlt3
              have hin := HIN.out L[k3] (List.getElem_mem hlt3)
              obtain ⟨en, hen⟩ : ∃ en, L[k3] = en := ⟨_, rfl⟩
              rw [hen] at b1 b2 hin
              have HINK := Lib.hid hin
              clear hcl hen hin
              go_wp2_with fail
              have HBX : Hid ((wr.alloc (.cells #[.string en.1, .int .i64 en.2] 54)).heap[wr.heap.size]? = some (.cells #[.string en.1, .int .i64 en.2] 54 (0, 0))) := alloc_at _ _
              have HD31 := Lib.hid (HD3.out.quiet (Fr.alloc (fun _ => False) wr (.cells #[.string en.1, .int .i64 en.2] 54)))
              obtain ⟨bx, hbx⟩ : ∃ bx, wr.heap.size = bx := ⟨_, rfl⟩
              rw [hbx] at HBX ⊢
              obtain ⟨wx, hwx⟩ : ∃ wx, wr.alloc (.cells #[.string en.1, .int .i64 en.2] 54) = wx := ⟨_, rfl⟩
              rw [hwx] at HBX HD31 ⊢
              clear hbx hwx b1 b2
              go_loopg [25, 121] S.length (fun gh fd i wz => wx = wz ∧ ∃ (k : Nat), Hid (k + gh = S.length) ∧ i = .int .i64 k ∧ fd = .bool ((S.take k).any (fun x => decide (x = en.1))))
              case atStart => exact ⟨rfl, 0, by show _ = _; omega, rfl, rfl⟩
              case round =>
                obtain ⟨rfl, k4, HG4, rfl, rfl⟩ := hrel
                by_cases hlt4 : k4 < S.length
                · obtain ⟨gs, os, rfl, cs4⟩ := texts_at (RdC.of_owns HD31.out.row) k4 hlt4
                  have hsn := any_snoc (fun x => decide (x = en.1)) S k4 hlt4
                  obtain ⟨y, hy⟩ : ∃ y, S[k4] = y := ⟨_, rfl⟩
                  rw [hy] at cs4 hsn
                  have HSN := Lib.hid hsn
                  have ce : wx.cell? ⟨bx, 0, none⟩ = some (.string en.1) := by rw [cell_of_blk HBX.out]; rfl
                  have hq : (y.toList == en.1.toList) = decide (y = en.1) := str_beq _ _
                  obtain ⟨q, hq2⟩ : ∃ q, decide (y = en.1) = q := ⟨_, rfl⟩
                  obtain ⟨f, hf⟩ : ∃ f, ((S.take k4).any (fun x => decide (x = en.1))) = f := ⟨_, rfl⟩
                  rw [hq2] at hq
                  rw [hq2, hf] at HSN
                  rw [hf]
                  clear hsn hy hq2 hf
                  cases f with
                  | true =>
                    go_wp2
                    go_roundg (S.length - (k4 + 1))
                    case measure => have := HG4.out; omega
                    case rel => exact ⟨rfl, k4 + 1, by show _ = _; omega, by go_num, by rw [HSN.out]; rfl⟩
                  | false =>
                    go_wp2
                    go_roundg (S.length - (k4 + 1))
                    case measure => have := HG4.out; omega
                    case rel => exact ⟨rfl, k4 + 1, by show _ = _; omega, by go_num, by rw [HSN.out]; rfl⟩
                · obtain rfl : k4 = S.length := by have := HG4.out; omega
                  rw [List.take_length, HINK.out]
                  go_wp2
                  go_roundw
                  case rel => exact ⟨k3 + 1, by go_num, by omega, HD31⟩
                  case measure => simp [intOf]; omega
            · obtain ⟨i0, hi, hz0, hz1, hz2⟩ := info_parts info_str
              have HI := Lib.hid hi
              have HZ0 := Lib.hid hz0
              have HZ1 := Lib.hid hz1
              have HZ2 := Lib.hid hz2
              obtain rfl : k3 = L.length := by omega
              clear hi hz0 hz1 hz2 HIN
              go_wp2_with (at_builtin; refine wpl_append rfl (.tmp 136) (.tmp 138) 47 rfl w.heap.size 9 i0 (.string ⟨#[]⟩) 1 16 Try.underlying47 HI.out HZ0.out HZ1.out HZ2.out rfl (by decide) _ S.length _ rfl (HD3.out.row.alloc _) _ 1 [.string key0] rfl (RdC.of_owns (World.ownsRow_lit (e := 9) wr #[.string key0] 1 (Nat.le_refl _) (by decide) rfl)) (by simp [Value.oneCell']) (by unfold maxLen; omega) (by omega) (by have := HD3.out.pr.le; simp; omega) ?_; intro v' w8 hown hgrow; obtain ⟨va8, vc8, rfl⟩ := owns_slice hown; have HO8 := Lib.hid hown; have HG8 := Lib.hid hgrow; clear hown hgrow)
              have HOUT2 : Hid (∀ x ∈ S ++ [key0], L.any (fun e => decide (e.1 = x)) = true) := fun x hx => by
                rcases List.mem_append.1 hx with h | h
                · exact HOUT.out x h
                · rw [List.mem_singleton.1 h]; exact HK0.out
              obtain ⟨S2, hS2⟩ : ∃ S2, S ++ [key0] = S2 := ⟨_, rfl⟩
              have hS2l : S2.length = S.length + 1 := by rw [← hS2]; simp
              have HD8 : Hid (Dr w w.heap.size w8 d M (.slice av L.length cv) L (.slice va8 S2.length vc8) S2) := by
                have h1 := HD3.out.quiet (Fr.alloc (fun _ => False) wr (.cells #[.string key0] 9))
                rw [hS2l]
                refine h1.app HG8.out ?_
                have h2 := HO8.out
                show World.ownsRow _ _ _ _ _ _ _
                rw [hS2l, ← hS2, List.map_append]
                exact h2
              rw [hS2] at HOUT2
              have hS2i : (S.length : Int) + 1 = (S2.length : Int) := by omega
              have HSI := Lib.hid hS2i
              clear hS2 hS2l HOUT HO8 HG8 HK0 hS2i
              go_loopw [141] (fun i wr => ∃ (k : Nat), i = .int .i64 k ∧ k ≤ S.length + 1 ∧ Hid (Dr w w.heap.size wr d M (.slice av L.length cv) L (.slice va8 S2.length vc8) S2)) (fun i _ => S.length + 1 - (intOf i).toNat)
              case atStart => exact ⟨0, rfl, by omega, HD8⟩
              case round =>
                obtain ⟨k5, rfl, hk5, HD9⟩ := hrel
                clear HD8
                by_cases hlt5 : k5 < S.length + 1
                · have hlt5' : k5 < S2.length := by have := HSI.out; omega
                  obtain ⟨gs, os, rfl, cs5⟩ := texts_at (RdC.of_owns HD9.out.row) k5 hlt5'
                  have hout := HOUT2.out S2[k5] (List.getElem_mem hlt5')
                  obtain ⟨x, hx⟩ : ∃ x, S2[k5] = x := ⟨_, rfl⟩
                  rw [hx] at cs5 hout
                  have HOX := Lib.hid hout
                  clear hx hout
                  go_wp2_with fail
                  go_loopg [30, 147] L.length (fun gh fd i wz => ∃ (k : Nat), Hid (k + gh = L.length) ∧ i = .int .i64 k ∧ fd = .bool ((L.take k).any (fun e => decide (e.1 = x))) ∧ Hid (Dr w w.heap.size wz d M (.slice av L.length cv) L (.slice (some ⟨gs, os, none⟩) S2.length vc8) S2))
                  case atStart => exact ⟨0, by show _ = _; omega, rfl, rfl, HD9⟩
                  case round =>
                    obtain ⟨wz, rfl⟩ : ∃ wz, wz = wr := ⟨_, rfl⟩
                    obtain ⟨k6, HG6, rfl, rfl, HDZ⟩ := hrel
                    by_cases hlt6 : k6 < L.length
                    · obtain ⟨gl, cl, el, _, _, _, hcl, _⟩ := rowE_cells HDZ.out.pr.row (by intro e; rw [e] at hlt6; simp at hlt6)
                      cases el
                      obtain ⟨b1, b2⟩ := hcl k6 hlt6
                      have hsn := any_snoc (fun e : En => decide (e.1 = x)) L k6 hlt6
                      obtain ⟨en, hen⟩ : ∃ en, L[k6] = en := ⟨_, rfl⟩
                      rw [hen] at b1 b2 hsn
                      have HSN := Lib.hid hsn
                      have hq : (x.toList == en.1.toList) = decide (en.1 = x) := by rw [str_beq, Bool.eq_iff_iff, decide_eq_true_eq, decide_eq_true_eq]; exact eq_comm
                      obtain ⟨q, hq2⟩ : ∃ q, decide (en.1 = x) = q := ⟨_, rfl⟩
                      obtain ⟨f, hf⟩ : ∃ f, ((L.take k6).any (fun e : En => decide (e.1 = x))) = f := ⟨_, rfl⟩
                      rw [hq2] at hq
                      simp only [hq2] at HSN
                      rw [hf] at HSN
                      rw [hf]
                      have HDY := Lib.hid (HDZ.out.quiet (Fr.alloc (fun _ => False) wz (.cells #[.string en.1, .int .i64 en.2] 54)))
                      clear hsn hen hq2 hf hcl
                      cases f with
                      | true =>
                        go_wp2
                        go_roundg (L.length - (k6 + 1))
                        case measure => have := HG6.out; omega
                        case rel => exact ⟨k6 + 1, by show _ = _; omega, by go_num, by rw [HSN.out]; rfl, HDY⟩
                      | false =>
                        go_wp2
                        go_roundg (L.length - (k6 + 1))
                        case measure => have := HG6.out; omega
                        case rel => exact ⟨k6 + 1, by show _ = _; omega, by go_num, by rw [HSN.out]; rfl, HDY⟩
                    · obtain rfl : k6 = L.length := by have := HG6.out; omega
                      rw [List.take_length, HOX.out]
                      go_wp2
                      go_roundw
                      case rel => exact ⟨k5 + 1, by go_num, by omega, HDZ⟩
                      case measure => simp [intOf]; omega
                · go_wp2
                  go_ret
                  exact ⟨rfl, HD9.out.bel⟩
theorem dictDrawn_laid (os : Os) : laidMet Try.prog Rows.dictDrawnUptoRow.laid ((laidWorld os).forCall (fun _ _ => 0) ⟨#[], #[.int .u64 0, .slice none 0 0, .int .u64 0], []⟩).memory :=
  laidMet_of_run' 8 (by kernel_rfl) (by kernel_rfl)
theorem dictDrawn_reads (os : Os) (H : Type) (enc : TypeId × Value → H) : DataW.whole enc Try.prog ((laidWorld os).forCall (fun _ _ => 0) ⟨#[], #[.int .u64 0, .slice none 0 0, .int .u64 0], []⟩).memory Try.f9.params.toList Rows.dictDrawnSpec.vars false (#[.int .u64 0, .slice none 0 0, .int .u64 0] : Array Value).toList 8 = some ([.lit (.int .u64 0), .nil, .lit (.int .u64 0)], [], []) := by kernel_rfl
set_option maxRecDepth 100000 in
theorem dictDrawn_lifted (os : Os) (started : os.Started) (H : Type) (enc : TypeId × Value → H) (F : Stop.Interp) :
    ReturnsInHanded {} Try.checked os 9 .any ((Rows.OpenSpec.upto Rows.dictDrawnSpec).preRow enc Try.prog Try.f9 Rows.dictDrawnUptoRow.domain false Rows.dictDrawnUptoRow.laid) (((Rows.OpenSpec.upto Rows.dictDrawnSpec).at F).post enc Try.prog Try.f9 false true false false) := by
  refine returnsInHanded_of_row (C := Try.checked) (s := Rows.OpenSpec.upto Rows.dictDrawnSpec) own started (by kernel_rfl) Try.func9
    (witness_row_at (enc := enc) (C := Try.checked) false (laidWorld os) #[.int .u64 0, .slice none 0 0, .int .u64 0] rfl (by kernel_rfl) (by kernel_rfl) (by kernel_rfl)
      (OpenSpec.preRow_of_cond 8 (dictDrawn_reads os H enc) (by kernel_rfl) (fun k hk => by cases hk; kernel_rfl) (by kernel_rfl) (dictDrawn_laid os))) ?_
  intro W base args ds gs before hval0 hW _ hcond hsz0 hL _ _
  have hval : ∀ (j : Nat) t v, Try.f9.params[j]? = some t → args[j]? = some v → Value.okWide Try.prog W .any base t v := hval0
  have hW' := hW
  obtain ⟨p, q, hA0, hV, rfl, hfz, hnd⟩ := hW
  have hA : DataW.TrodAll enc Try.prog W 0 (fun _ => true) true Try.f9.params.toList args.toList ds p := hA0
  rw [Try.params9] at hA hval
  obtain ⟨v0, vs0, d0, ds0, p0, q0, hargs, rfl, rfl, h0, r0⟩ := trodAll_cons hA
  obtain ⟨v1, vs1, d1, ds1, p1, q1, rfl, rfl, rfl, h1, r1⟩ := trodAll_cons r0
  obtain ⟨v2, vs2, d2, ds2, p2, q2, rfl, rfl, rfl, h2, r2⟩ := trodAll_cons r1
  obtain ⟨rfl, rfl, rfl⟩ := trodAll_nil r2
  obtain rfl : args = #[v0, v1, v2] := by cases args; simp_all
  obtain ⟨rfl, rfl⟩ := trodVars_none hV
  have hsz : (DataW.weightsEach Try.prog [22, 27, 22] [d0, d1, d2]).all (fun x => decide (x ≤ reachBytes)) = true := by
    exact hsz0
  clear hsz0
  have hsm : Rows.uptoSmall H ([d0, d1, d2] ++ []) = true := hcond _ rfl
  have hbk : Rows.uptoBulkAll [d0, d1, d2] ≤ 1048576 := by
    simp only [Rows.uptoSmall, decide_eq_true_eq, List.append_nil] at hsm
    exact hsm
  have hbk1 : Rows.uptoBulk d1 ≤ 1048576 := Nat.le_trans (bulk_part (l := [d0, d1, d2]) (by simp)) hbk
  obtain ⟨hw0, hsz0⟩ := weights_cons hsz
  obtain ⟨x0, rfl⟩ := open_word Try.underlying22 (hval 0 22 v0 rfl rfl) h0
  obtain ⟨hw1, hsz1⟩ := weights_cons hsz0
  obtain ⟨l1, hr1, hby1⟩ := open_listB spb spb_len Try.underlying27 (by kernel_rfl) sp_read (hval 1 27 v1 rfl rfl) h1 (hbk1)
  obtain ⟨hw2, hsz2⟩ := weights_cons hsz1
  obtain ⟨x2, rfl⟩ := open_word Try.underlying22 (hval 2 22 v2 rfl rfl) h2
  clear hA0 hval0
  refine (dictDrawn_walk W x0 v1 l1 hr1 hby1 x2).mono fun e W' ⟨he, bel⟩ => ?_
  subst he
  exact ⟨_, rfl, law_post laidOut Try.underlying4 (by kernel_rfl) rfl (by kernel_rfl) hW' rfl bel⟩

theorem dictDrawn_holds : Rows.DictDrawnUptoSaid :=
  OpenClaim.holds_of_cond 9 Try.f9 rfl rfl rfl rfl rfl rfl rfl ⟨rfl, rfl, rfl, rfl, rfl⟩ rfl rfl rfl rfl rfl (by kernel_rfl) Try.func9 (by kernel_rfl)
    (of_decide_eq_true (by kernel_rfl)) (by unfold Func.isWrapper; first | (rw [if_pos (by decide +kernel)]; kernel_rfl) | (rw [if_neg (by decide +kernel)]; exact ⟨rfl, rfl⟩))
    (fun os started H enc _ F => by rw [OpenClaim.pre_eq_preRow]; exact dictDrawn_lifted os started H enc F)

end Go.Proofs.Ytkecipdonamjaaa
