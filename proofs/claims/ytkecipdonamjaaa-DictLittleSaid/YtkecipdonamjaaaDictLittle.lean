/- DictLittle: a little in each call; as many Gets as the old table has buckets end the moving. No condition. -/
import Derived.Test.YtkecipdonamjaaaSteps
namespace Go.Proofs.Ytkecipdonamjaaa
open Go.ChangeShapes Go.WideShapes Go.ChangeAt Go.RowKit Di

theorem pr_start {w w1 w2 : World} {d : Nat} {M : DM} (hb1 : Below w.heap.size w w1) (D0 : DAt w2 d M) (HB0 : Hid (∀ k, Bs (dictL d M) k → w1.heap.size ≤ k)) (hb2 : Below w1.heap.size w1 w2) :
    Pr w.heap.size w2 d M (.slice none 0 0) [] ∧ Below w.heap.size w w2 :=
  ⟨⟨D0, World.ownsRow_nil _ _ _ _, (fun g hg => by cases hg), fun k hk => Nat.le_trans hb1.size (HB0.out k hk), Nat.le_trans hb1.size hb2.size⟩, hb1.trans (hb2.mono hb1.size)⟩
set_option maxRecDepth 100000 in
set_option maxHeartbeats 4000000 in
theorem dictLittle_walk (w : World) (x0 : UInt64) (v1 : Value) (l : List SpB) (hr : RdC w 6 v1 l.length (l.flatMap spb)) (hby : l.length * 56 ≤ reachBytes) (x2 : ByteArray) (hs2 : x2.size ≤ maxLen) :
    Calls Try.prog 6 #[.int .u64 (wd x0), v1, .string x2] w fun e w' => e = .returned (.bool true) ∧ Below w.heap.size w w' := by
  unfold reachBytes at hby
  have HR := Lib.hid hr
  obtain ⟨-, a1, c1, rfl, -⟩ := hr
  go_enter Try.func6, Try.ntmps6
  go_wp2_with fail
  refine (wakes_any _).mono ?_
  rintro e w1 ⟨rfl, hb1⟩
  have HB1 := Lib.hid hb1; clear hb1
  go_wp2_with fail
  refine (new_like _ x0 _ rfl).mono ?_
  rintro e w2 ⟨d, M0, rfl, D0, L0, -, -, -, -, HB0, hb2⟩
  obtain ⟨P0, B0⟩ := pr_start HB1.out D0 HB0 hb2
  have HP0 := Lib.hid P0
  have HB2 := Lib.hid B0
  have HL0 := Lib.hid L0
  clear D0 hb2 P0 B0 L0 HB0 HB1
  go_wp2_with fail
  go_loopw [8, 31] (fun v i wr => ∃ (k : Nat) (M : DM) (L : Pl), i = .int .i64 k ∧ k ≤ l.length ∧ L.length ≤ k ∧ Hid (Pr w.heap.size wr d M v L) ∧ Hid (Like M L) ∧ Hid (Below w.heap.size w wr)) (fun _ i _ => l.length - (intOf i).toNat)
  case atStart => exact ⟨0, M0, [], rfl, by omega, by simp, HP0, HL0, HB2⟩
  case round =>
    obtain ⟨k, M, L, rfl, hk, hLk, HP, HL, HB⟩ := hrel
    obtain ⟨v, rfl⟩ : ∃ v, v = u8 := ⟨_, rfl⟩
    clear HP0 HL0 HB2
    by_cases hlt : k < l.length
    · obtain ⟨g, off, rfl, c0, c1, c2, c3, c4, c5⟩ := sp_at (HR.out.below HB.out) k hlt
      obtain ⟨o, ho⟩ : ∃ o, l[k].1 = o := ⟨_, rfl⟩
      have hko : o.key.size ≤ maxLen := ho ▸ l[k].2
      rw [ho] at c0 c1 c2 c3 c4 c5
      clear ho
      go_wp2_with fail
      have PW := HP.out.other (Fr.alloc (fun _ => False) wr (.cells #[.int .i64 o.who, .int .i64 o.do_, .int .i64 o.n, .int .i64 o.v, .string o.key, .int .u64 (wd o.r)] 32)) (fun _ _ h => h) (fun _ _ h => h)
      have BW : Below w.heap.size w (wr.alloc (.cells #[.int .i64 o.who, .int .i64 o.do_, .int .i64 o.n, .int .i64 o.v, .string o.key, .int .u64 (wd o.r)] 32)) := HB.out.alloc HB.out.size _
      have hb := alloc_at wr (.cells #[.int .i64 o.who, .int .i64 o.do_, .int .i64 o.n, .int .i64 o.v, .string o.key, .int .u64 (wd o.r)] 32)
      refine (Di.sizes_any _ d M PW.dat).mono ?_
      rintro e w3 ⟨rfl, m, rfl⟩
      have hdo : ¬ Bs (dictL d M) wr.heap.size := fun hb => Nat.lt_irrefl _ (HP.out.dat.rep.lt hb)
      have hvo : ∀ g, v.ownBlock = some g → g ≠ wr.heap.size := fun g hg e => by have := (HP.out.row.lt g hg).2; omega
      have PW2 := PW.other (Fr.drewN (fun _ => False) _ m) (fun _ _ h => h) (fun _ _ h => h)
      have BW2 := BW.trans ((Fr.drewN (fun _ => False) (wr.alloc (.cells #[.int .i64 o.who, .int .i64 o.do_, .int .i64 o.n, .int .i64 o.v, .string o.key, .int .u64 (wd o.r)] 32)) m).below BW.size (fun _ h => h.elim))
      have hb2 : (World.drewN (wr.alloc (.cells #[.int .i64 o.who, .int .i64 o.do_, .int .i64 o.n, .int .i64 o.v, .string o.key, .int .u64 (wd o.r)] 32)) m).heap[wr.heap.size]? = some (.cells #[.int .i64 o.who, .int .i64 o.do_, .int .i64 o.n, .int .i64 o.v, .string o.key, .int .u64 (wd o.r)] 32 (0, 0)) := hb
      have HPW := Lib.hid PW2
      have HBW := Lib.hid BW2
      have HDO := Lib.hid hdo
      have HVO := Lib.hid hvo
      have HBX := Lib.hid hb2
      clear PW BW hb PW2 BW2 hdo hvo hb2 c0 c1 c2 c3 c4 c5
      go_wp2_with fail
      refine (does_any _ d M L v o w.heap.size HL.out (by omega) hko HPW.out).mono ?_
      rintro e w4 ⟨v', M', rfl, P4, L4, B4, -, lit, cl0, same, fr⟩
      have HCL0 := Lib.hid cl0; clear cl0
      have hLk' : (doesL o L).length ≤ k + 1 := Nat.le_trans (doesL_len o L) (by omega)
      have hb4 : w4.cell? ⟨wr.heap.size, 1, none⟩ = some (.int .i64 o.do_) :=
        fr.cell (cell_of_blk HBX.out 1) (fun h => h.elim HDO.out (fun e => HVO.out _ e rfl))
      have HP4 := Lib.hid P4
      have HL4 := Lib.hid L4
      have HB4 := Lib.hid (HBW.out.trans B4)
      have HLIT := Lib.hid lit
      have HSAME := Lib.hid same
      clear P4 L4 B4 lit same fr HBW HBX HDO HVO
      go_wp2_with fail
      refine (Di.sizes_any _ d M' HP4.out.dat).mono ?_
      rintro e w5 ⟨rfl, m5, rfl⟩
      have n1 := HP4.out.dat.inv.moving
      have n2 := HP4.out.dat.inv.still
      have HST := Lib.hid n2
      clear n1 n2
      obtain ⟨A0, hA0⟩ : ∃ n, M.old.length = n := ⟨_, rfl⟩
      obtain ⟨Y0, hY0⟩ : ∃ n, M.young.length = n := ⟨_, rfl⟩
      obtain ⟨T0, hT0⟩ : ∃ n, M.at_ = n := ⟨_, rfl⟩
      obtain ⟨A1, hA1⟩ : ∃ n, M'.old.length = n := ⟨_, rfl⟩
      obtain ⟨Y1, hY1⟩ : ∃ n, M'.young.length = n := ⟨_, rfl⟩
      obtain ⟨T1, hT1⟩ : ∃ n, M'.at_ = n := ⟨_, rfl⟩
      rw [hA0, hY0, hT0, hA1, hY1, hT1]
      have hlit : Hid (o.do_ ≠ 3 → 0 < Y0 → A1 = A0 → Y1 = Y0 → T0 ≤ T1 ∧ T1 ≤ T0 + 11) := fun h3 hy ha hyy => by
        have := (HLIT.out h3).1 (by intro e; rw [e] at hY0; simp at hY0; omega) (by omega) (by omega)
        omega
      have hstill : Hid (Y0 = 0 → T1 = 0) := fun hy => by
        by_cases h3 : o.do_ = 3
        · rw [← hT1]; exact HCL0.out h3
        · rw [← hT1]; exact (HLIT.out h3).2 (List.length_eq_zero_iff.1 (by omega))
      have hsame : Hid (3 < o.do_ → A1 = A0 ∧ Y1 = Y0 ∧ T1 = T0) := fun h => by
        have := HSAME.out h
        rw [this] at hA1 hY1 hT1
        omega
      have hat_le : ∀ (N : DM), DAt w4 d N → True := fun _ _ => trivial
      have hT0b : T0 ≤ 35184372088832 := by
        have h1 := HPW.out.dat.lold
        by_cases hy : M.young = []
        · have := HL.out.inv.still hy; omega
        · have := HL.out.inv.moving hy; omega
      have hT1b : T1 ≤ 35184372088832 := by
        have h1 := HP4.out.dat.lold
        by_cases hy : M'.young = []
        · have := HST.out hy; omega
        · have := HP4.out.dat.inv.moving hy; omega
      have hbx5 : (w4.drewN m5).cell? ⟨wr.heap.size, 1, none⟩ = some (.int .i64 o.do_) := hb4
      have P5 := HP4.out.other (Fr.drewN (fun _ => False) w4 m5) (fun _ _ h => h) (fun _ _ h => h)
      have B5 := HB4.out.trans ((Fr.drewN (fun _ => False) w4 m5).below HB4.out.size (fun _ h => h.elim))
      obtain ⟨w6, hw6⟩ : ∃ w6, w4.drewN m5 = w6 := ⟨_, rfl⟩
      rw [hw6] at hbx5 P5 B5 ⊢
      have HP5 := Lib.hid P5
      have HB5 := Lib.hid B5
      clear hat_le hA0 hY0 hT0 hA1 hY1 hT1 hw6 P5 B5 hb4 HLIT HCL0 HSAME HST HP4 HB4 HPW
      go_upto_region 14 with (fail)
      go_cut [84] from 59 to 84 (fun t wc => wc = w6 ∧ t = .bool false)
      case first =>
        by_cases hy : 0 < Y0
        case neg =>
          have g1 : decide (0 < Y0) = false := by simpa using hy
          go_wp2
          go_meet
          case rel => exact ⟨rfl, rfl⟩
        case pos =>
          have g1 : decide (0 < Y0) = true := by simpa using hy
          by_cases h3 : o.do_ = 3
          · have g2 : (o.do_ != 3) = false := by rw [h3]; rfl
            rw [h3] at hbx5
            clear h3
            go_wp2
            go_meet
            case rel => exact ⟨rfl, rfl⟩
          · have g2 : (o.do_ != 3) = true := by rw [bne_iff_ne]; exact h3
            by_cases ha : A1 = A0
            · by_cases hyy : Y1 = Y0
              · have h5 := hlit.out h3 hy ha hyy
                have g3 : ((A1 : Int) == A0) = true := beq_iff_eq.2 (by omega)
                have g4 : ((Y1 : Int) == Y0) = true := beq_iff_eq.2 (by omega)
                have g5 : decide (T1 < T0) = false := by simp; omega
                have g6 : decide ((T0 : Int) + 11 < T1) = false := by simp; omega
                clear ha hyy
                go_wp2
                go_meet
                case rel => exact ⟨rfl, rfl⟩
              · have g3 : ((A1 : Int) == A0) = true := beq_iff_eq.2 (by omega)
                have g4 : ((Y1 : Int) == Y0) = false := beq_eq_false_iff_ne.2 (by omega)
                clear ha
                go_wp2
                go_meet
                case rel => exact ⟨rfl, rfl⟩
            · have g3 : ((A1 : Int) == A0) = false := beq_eq_false_iff_ne.2 (by omega)
              go_wp2
              go_meet
              case rel => exact ⟨rfl, rfl⟩
      case rest =>
        obtain ⟨rfl, rfl⟩ := hcut
        obtain ⟨w6, rfl⟩ : ∃ w6, w6 = wc := ⟨_, rfl⟩
        go_upto_region 16 with (fail)
        go_cut [110] from 85 to 110 (fun t wc => wc = w6 ∧ t = .bool false)
        case first =>
          have hfirst : Hid (Y0 ≠ 0 ∨ T1 = 0) := by
            show _ ∨ _
            by_cases hy : Y0 = 0
            · exact .inr (hstill.out hy)
            · exact .inl hy
          by_cases h3 : 3 < o.do_
          · obtain ⟨e1, e2, e3⟩ := hsame.out h3
            subst e1; subst e2; subst e3
            have g3 : decide (3 < o.do_) = true := by simpa using h3
            rcases hfirst.out with h | h
            · have g1 : ((Y1 : Int) == 0) = false := beq_eq_false_iff_ne.2 (by omega)
              clear h
              go_wp2
              go_meet
              case rel => exact ⟨rfl, rfl⟩
            · subst h
              by_cases h : Y1 = 0
              · subst h
                go_wp2
                go_meet
                case rel => exact ⟨rfl, rfl⟩
              · have g1 : ((Y1 : Int) == 0) = false := beq_eq_false_iff_ne.2 (by omega)
                clear h
                go_wp2
                go_meet
                case rel => exact ⟨rfl, rfl⟩
          · have g3 : decide (3 < o.do_) = false := by simpa using h3
            rcases hfirst.out with h | h
            · have g1 : ((Y0 : Int) == 0) = false := beq_eq_false_iff_ne.2 (by omega)
              clear h
              go_wp2
              go_meet
              case rel => exact ⟨rfl, rfl⟩
            · subst h
              by_cases h : Y0 = 0
              · subst h
                go_wp2
                go_meet
                case rel => exact ⟨rfl, rfl⟩
              · have g1 : ((Y0 : Int) == 0) = false := beq_eq_false_iff_ne.2 (by omega)
                clear h
                go_wp2
                go_meet
                case rel => exact ⟨rfl, rfl⟩
        case rest =>
          obtain ⟨rfl, rfl⟩ := hcut
          go_wp2
          go_roundw
          case rel => exact ⟨k + 1, M', doesL o L, by go_num, by omega, hLk', HP5, HL4, HB5⟩
          case measure => simp [intOf]; omega
    · obtain ⟨S, hS⟩ : ∃ S, M.old.length = S := ⟨_, rfl⟩
      obtain ⟨Y, hY⟩ : ∃ Y, M.young.length = Y := ⟨_, rfl⟩
      have hso := HP.out.dat.lold
      have hsy := HP.out.dat.lyoung
      rw [hS] at hso
      rw [hY] at hsy
      have HS := Lib.hid hS
      have HY := Lib.hid hY
      go_wp2_with fail
      refine (Di.sizes_any _ d M HP.out.dat).mono ?_
      rintro e w3 ⟨rfl, m, rfl⟩
      rw [hS, hY]
      clear hS hY
      go_wp2_with fail
      go_loopw [119] (fun i we => ∃ (j : Nat) (N : DM), i = .int .i64 j ∧ j ≤ S ∧ Hid (DAt we d N) ∧ Hid (Gone M N j) ∧ Hid (Like N L) ∧ Hid (∀ q, Bs (dictL d N) q → w.heap.size ≤ q) ∧ Hid (Below w.heap.size w we)) (fun i _ => S - (intOf i).toNat)
      case atStart => exact ⟨0, M, rfl, by omega, HP.out.dat.drewN m, gone_zero M, HL, HP.out.base, HB.out.trans ((Fr.drewN (fun _ => False) wr m).below HB.out.size (fun _ h => h.elim))⟩
      case round =>
        obtain ⟨j, N, rfl, hj, HN1, HN2, HN3, HN4, HN5⟩ := hrel
        by_cases hjs : j < S
        · go_wp2_with fail
          refine (Di.get_turn _ d N x2 hs2 HN1.out).mono ?_
          rintro e w4 ⟨rfl, T⟩
          have HT := Lib.hid T
          clear T
          go_wp2
          go_roundw
          case rel =>
            refine ⟨j + 1, stepM N, by go_num, by omega, HT.out.at_, gone_step HN2.out HN1.out.inv, HN3.out.step, fun q hq => ?_, HN5.out.trans (HT.out.fr.below HN5.out.size HN4.out)⟩
            exact (HT.out.bs q hq).elim (HN4.out q) (fun h => Nat.le_trans HN5.out.size h)
          case measure => simp [intOf]; omega
        · have hjS : j = S := by omega
          have hg := HN2.out
          rw [hjS, ← HS.out] at hg
          obtain ⟨q1, q2, q3⟩ := gone_end hg HN1.out.inv
          rw [HS.out, HY.out] at q3
          have hfin : (Y = 0 ∧ N.old.length = S) ∨ (0 < Y ∧ N.old.length = Y) := by
            rcases q3 with ⟨h1, h2⟩ | ⟨h1, h2⟩
            · exact .inl ⟨by rw [← HY.out, h1]; rfl, h2⟩
            · exact .inr ⟨by rw [← HY.out]; exact List.length_pos_iff.2 h1, h2⟩
          obtain ⟨O1, hO1⟩ : ∃ n, N.old.length = n := ⟨_, rfl⟩
          have e1 : N.young.length = 0 := by rw [q1]; rfl
          rw [hO1] at hfin
          go_wp2_with fail
          refine (Di.sizes_any _ d N HN1.out).mono ?_
          rintro e w3 ⟨rfl, m3, rfl⟩
          rw [hO1, e1, q2]
          have B9 := HN5.out.trans ((Fr.drewN (fun _ => False) wr m3).below HN5.out.size (fun _ h => h.elim))
          have HB9 := Lib.hid B9
          clear hO1 e1 q1 q2 q3 hg hjS B9
          rcases hfin with ⟨rfl, rfl⟩ | ⟨hp, rfl⟩
          · have g1 : ((O1 : Int) == O1) = true := beq_iff_eq.2 rfl
            go_wp2
            go_ret
            exact ⟨rfl, HB9.out⟩
          · have g1 : ((O1 : Int) == O1) = true := beq_iff_eq.2 rfl
            have g2 : ((O1 : Int) == 0) = false := beq_eq_false_iff_ne.2 (by omega)
            have g3 : decide (0 < O1) = true := by simpa using hp
            go_wp2
            go_ret
            exact ⟨rfl, HB9.out⟩
set_option maxRecDepth 100000 in
theorem dictLittle_lifted (os : Os) (started : os.Started) (H : Type) (enc : TypeId × Value → H) :
    ReturnsInHanded {} Try.checked os 6 .any (Rows.dictLittleSpec.pre6 enc Try.prog Try.f6 Rows.dictLittleRow.domain false) (Rows.dictLittleSpec.post enc Try.prog Try.f6 false true false false) := by
  refine returnsInHanded_of_change_sized (C := Try.checked) own started (by kernel_rfl) Try.func6
    (ChangeSpec.witness6 (enc := enc) (C := Try.checked) false ⟨#[], #[.int .u64 0, .slice none 0 0, .string ⟨#[]⟩], []⟩ 8 (by kernel_rfl) (by kernel_rfl) (by kernel_rfl) (by kernel_rfl)) ?_
  intro W base args ds gs before hval0 hW hcnd hsz0 _
  have hval : ∀ (j : Nat) t v, Try.f6.params[j]? = some t → args[j]? = some v → Value.okWide Try.prog W .any base t v := hval0
  have hW' := hW
  obtain ⟨p, q, hA0, hV, rfl, hfz, hnd⟩ := hW
  have hA : DataW.TrodAll enc Try.prog W 0 (fun _ => true) true Try.f6.params.toList args.toList ds p := hA0
  rw [Try.params6] at hA hval
  obtain ⟨v0, vs0, d0, ds0, p0, q0, hargs, rfl, rfl, h0, r0⟩ := trodAll_cons hA
  obtain ⟨v1, vs1, d1, ds1, p1, q1, rfl, rfl, rfl, h1, r1⟩ := trodAll_cons r0
  obtain ⟨v2, vs2, d2, ds2, p2, q2, rfl, rfl, rfl, h2, r2⟩ := trodAll_cons r1
  obtain ⟨rfl, rfl, rfl⟩ := trodAll_nil r2
  obtain rfl : args = #[v0, v1, v2] := by cases args; simp_all
  obtain ⟨rfl, rfl⟩ := trodVars_none hV
  have hsz : (DataW.weightsEach Try.prog [22, 27, 9] [d0, d1, d2]).all (fun x => decide (x ≤ reachBytes)) = true := by
    have h := hsz0
    simp only [List.append_nil] at h
    have e : (Try.f6.params.toList ++ DataSpec.varTypes Try.checked.prog Rows.dictLittleSpec.plain) = [22, 27, 9] := by kernel_rfl
    rw [e] at h; exact h
  clear hsz0
  obtain ⟨hw0, hsz0⟩ := weights_cons hsz
  obtain ⟨x0, rfl⟩ := open_word Try.underlying22 (hval 0 22 v0 rfl rfl) h0
  obtain ⟨hw1, hsz1⟩ := weights_cons hsz0
  obtain ⟨l1, hr1, hb1⟩ := open_list spb spb_len Try.underlying27 (by kernel_rfl) sp_read (hval 1 27 v1 rfl rfl) h1
  have hby1 : l1.length * 56 ≤ reachBytes := by
    have e : Try.prog.bytesOf 32 = 56 := by kernel_rfl
    rw [← e]; exact hb1 _ hw1
  obtain ⟨hw2, hsz2⟩ := weights_cons hsz1
  obtain ⟨x2, rfl, hs2⟩ := open_str Try.underlying9 (hval 2 9 v2 rfl rfl) h2
  clear hA0 hval0
  refine (dictLittle_walk W x0 v1 l1 hr1 hby1 x2 hs2).mono fun e W' ⟨he, bel⟩ => ?_
  subst he
  exact ⟨_, rfl, law_post laidOut Try.underlying4 (by kernel_rfl) rfl (by kernel_rfl) hW' rfl bel⟩

theorem dictLittle_holds : Rows.DictLittleSaid :=
  OpenClaim.holds_of_wide 6 Try.f6 rfl rfl rfl rfl rfl rfl rfl ⟨rfl, rfl, rfl, rfl, rfl⟩ rfl rfl rfl rfl rfl (by kernel_rfl) Try.func6 (by kernel_rfl)
    (of_decide_eq_true (by kernel_rfl)) (by unfold Func.isWrapper; rw [if_neg (of_decide_eq_false (by kernel_rfl))]; exact ⟨rfl, rfl⟩)
    (fun os started H enc _ => dictLittle_lifted os started H enc)
end Go.Proofs.Ytkecipdonamjaaa
