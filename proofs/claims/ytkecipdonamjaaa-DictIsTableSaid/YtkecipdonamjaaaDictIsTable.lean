/- DictIsTable: for every seed a dict is a table; Each tells each key once. No condition. -/
import Derived.Test.YtkecipdonamjaaaDictPlaced
import Derived.Test.YtkecipdonamjaaaOnce
namespace Go.Proofs.Ytkecipdonamjaaa
open Go.ChangeShapes Go.WideShapes Go.ChangeAt Go.RowKit Di
set_option maxRecDepth 100000 in
set_option maxHeartbeats 4000000 in
theorem dictIsTable_walk (w : World) (x0 : UInt64) (v1 : Value) (l : List SpB) (hr : RdC w 6 v1 l.length (l.flatMap spb)) (hby : l.length * 56 ≤ reachBytes) :
    Calls Try.prog 10 #[.int .u64 (wd x0), v1] w fun e w' => e = .returned (.bool true) ∧ Below w.heap.size w w' := by
  unfold reachBytes at hby
  have HR := Lib.hid hr
  obtain ⟨-, a1, c1, rfl, -⟩ := hr
  go_enter Try.func10, Try.ntmps10
  go_wp2_with fail
  refine (wakes_any _).mono ?_
  rintro e w1 ⟨rfl, hb1⟩
  have HB1 := Lib.hid hb1; clear hb1
  go_wp2_with fail
  refine (new_like _ x0 _ rfl).mono ?_
  rintro e w2 ⟨d, M0, rfl, D0, L0, -, -, -, -, HB0, hb2⟩
  obtain ⟨P0, B0⟩ := pr_start HB1.out D0 HB0 hb2
  have HP0 := Lib.hid P0
  have HB2 := Lib.hid B0
  have HL0 := Lib.hid L0
  clear D0 hb2 P0 B0 L0 HB0 HB1
  go_wp2_with fail
  go_loopw [6, 17] (fun v i wr => ∃ (k : Nat) (M : DM) (L : Pl), i = .int .i64 k ∧ k ≤ l.length ∧ L.length ≤ k ∧ Hid (Pr w.heap.size wr d M v L) ∧ Hid (Like M L) ∧ Hid (Below w.heap.size w wr)) (fun _ i _ => l.length - (intOf i).toNat)
  case atStart => exact ⟨0, M0, [], rfl, by omega, by simp, HP0, HL0, HB2⟩
  case round =>
    obtain ⟨k, M, L, rfl, hk, hLk, HP, HL, HB⟩ := hrel
    obtain ⟨v, rfl⟩ : ∃ v, v = u6 := ⟨_, rfl⟩
    clear HP0 HL0 HB2
    by_cases hlt : k < l.length
    · obtain ⟨g, off, rfl, c0, c1, c2, c3, c4, c5⟩ := sp_at (HR.out.below HB.out) k hlt
      obtain ⟨o, ho⟩ : ∃ o, l[k].1 = o := ⟨_, rfl⟩
      have hko : o.key.size ≤ maxLen := ho ▸ l[k].2
      rw [ho] at c0 c1 c2 c3 c4 c5
      clear ho
      go_wp2_with fail
      have PW := HP.out.other (Fr.alloc (fun _ => False) wr (.cells #[.int .i64 o.who, .int .i64 o.do_, .int .i64 o.n, .int .i64 o.v, .string o.key, .int .u64 (wd o.r)] 32)) (fun _ _ h => h) (fun _ _ h => h)
      have BW : Below w.heap.size w (wr.alloc (.cells #[.int .i64 o.who, .int .i64 o.do_, .int .i64 o.n, .int .i64 o.v, .string o.key, .int .u64 (wd o.r)] 32)) := HB.out.alloc HB.out.size _
      have hb := alloc_at wr (.cells #[.int .i64 o.who, .int .i64 o.do_, .int .i64 o.n, .int .i64 o.v, .string o.key, .int .u64 (wd o.r)] 32)
      have hdo : ¬ Bs (dictL d M) wr.heap.size := fun hb => Nat.lt_irrefl _ (HP.out.dat.rep.lt hb)
      have hvo : ∀ g, v.ownBlock = some g → g ≠ wr.heap.size := fun g hg e => by have := (HP.out.row.lt g hg).2; omega
      have HPW := Lib.hid PW
      have HBW := Lib.hid BW
      have HBX := Lib.hid hb
      have HDO := Lib.hid hdo
      have HVO := Lib.hid hvo
      clear PW BW hb hdo hvo c0 c1 c2 c3 c4 c5
      refine (does_any _ d M L v o w.heap.size HL.out (by omega) hko HPW.out).mono ?_
      rintro e w4 ⟨v', M', rfl, P4, L4, B4, sd, -, -, -, fr⟩
      have hLk' : (doesL o L).length ≤ k + 1 := Nat.le_trans (doesL_len o L) (by omega)
      have hb4 : w4.cell? ⟨wr.heap.size, 1, none⟩ = some (.int .i64 o.do_) :=
        fr.cell (cell_of_blk HBX.out 1) (fun h => h.elim HDO.out (fun e => HVO.out _ e rfl))
      obtain ⟨va, vc, rfl⟩ := rowE_slice P4.row
      obtain ⟨N, hN⟩ : ∃ N, (doesL o L).length = N := ⟨_, rfl⟩
      have hlen := Di.len_any w4 d M' P4.dat (by rw [L4.count]; omega)
      rw [L4.count, hN] at hlen
      have hon := once_any w4 d M' (doesL o L) _ P4.dat L4 (RdC.of_owns P4.row) (by omega)
      rw [hN] at hon hLk' ⊢
      have HLEN := Lib.hid hlen
      have HON := Lib.hid hon
      have HP4 := Lib.hid P4
      have HL4 := Lib.hid L4
      have HB4 := Lib.hid (HBW.out.trans B4)
      have HN := Lib.hid hN
      have g0 : ((N : Int) != (N : Int)) = false := by simp
      clear P4 L4 B4 sd fr HBW HPW HBX HDO HVO hlen hon hN
      go_wp2_with fail
      refine HLEN.out.mono ?_
      rintro e w5 ⟨rfl, rfl⟩
      by_cases h6 : o.do_ = 6
      · have g6 : (o.do_ == 6) = true := beq_iff_eq.2 h6
        clear h6
        go_wp2_with fail
        refine HON.out.mono ?_
        rintro e w6 ⟨rfl, hf6⟩
        have P6 := HP4.out.other hf6 (fun _ _ h => h) (fun _ _ h => h)
        have HP6 := Lib.hid P6
        have HB6 := Lib.hid (HB4.out.trans (hf6.below HB4.out.size (fun _ h => h.elim)))
        clear P6 hf6
        go_wp2_with fail
        go_roundw
        case rel => exact ⟨k + 1, M', doesL o L, by go_num, by omega, by have := HN.out; omega, by have h := HP6.out; rw [HN.out] at h; exact h, HL4, HB6⟩
        case measure => simp [intOf]; omega
      · have g6 : (o.do_ == 6) = false := beq_eq_false_iff_ne.2 h6
        clear h6
        go_wp2_with fail
        go_roundw
        case rel => exact ⟨k + 1, M', doesL o L, by go_num, by omega, by have := HN.out; omega, by have h := HP4.out; rw [HN.out] at h; exact h, HL4, HB4⟩
        case measure => simp [intOf]; omega
    · obtain rfl : k = l.length := by omega
      have hon := once_any wr d M L v HP.out.dat HL.out (RdC.of_owns HP.out.row) (by omega)
      have HON := Lib.hid hon
      clear hon
      go_wp2_with fail
      refine HON.out.mono ?_
      rintro e w6 ⟨rfl, hf6⟩
      go_wp2
      go_ret
      exact ⟨rfl, HB.out.trans (hf6.below HB.out.size (fun _ h => h.elim))⟩
set_option maxRecDepth 100000 in
theorem dictIsTable_lifted (os : Os) (started : os.Started) (H : Type) (enc : TypeId × Value → H) :
    ReturnsInHanded {} Try.checked os 10 .any (Rows.dictIsTableSpec.pre6 enc Try.prog Try.f10 Rows.dictIsTableRow.domain false) (Rows.dictIsTableSpec.post enc Try.prog Try.f10 false true false false) := by
  refine returnsInHanded_of_change_sized (C := Try.checked) own started (by kernel_rfl) Try.func10
    (ChangeSpec.witness6 (enc := enc) (C := Try.checked) false ⟨#[], #[.int .u64 0, .slice none 0 0], []⟩ 8 (by kernel_rfl) (by kernel_rfl) (by kernel_rfl) (by kernel_rfl)) ?_
  intro W base args ds gs before hval0 hW hcnd hsz0 _
  have hval : ∀ (j : Nat) t v, Try.f10.params[j]? = some t → args[j]? = some v → Value.okWide Try.prog W .any base t v := hval0
  have hW' := hW
  obtain ⟨p, q, hA0, hV, rfl, hfz, hnd⟩ := hW
  have hA : DataW.TrodAll enc Try.prog W 0 (fun _ => true) true Try.f10.params.toList args.toList ds p := hA0
  rw [Try.params10] at hA hval
  obtain ⟨v0, vs0, d0, ds0, p0, q0, hargs, rfl, rfl, h0, r0⟩ := trodAll_cons hA
  obtain ⟨v1, vs1, d1, ds1, p1, q1, rfl, rfl, rfl, h1, r1⟩ := trodAll_cons r0
  obtain ⟨rfl, rfl, rfl⟩ := trodAll_nil r1
  obtain rfl : args = #[v0, v1] := by cases args; simp_all
  obtain ⟨rfl, rfl⟩ := trodVars_none hV
  have hsz : (DataW.weightsEach Try.prog [22, 27] [d0, d1]).all (fun x => decide (x ≤ reachBytes)) = true := by
    have h := hsz0
    simp only [List.append_nil] at h
    have e : (Try.f10.params.toList ++ DataSpec.varTypes Try.checked.prog Rows.dictIsTableSpec.plain) = [22, 27] := by kernel_rfl
    rw [e] at h; exact h
  clear hsz0
  obtain ⟨hw0, hsz0⟩ := weights_cons hsz
  obtain ⟨x0, rfl⟩ := open_word Try.underlying22 (hval 0 22 v0 rfl rfl) h0
  obtain ⟨hw1, hsz1⟩ := weights_cons hsz0
  obtain ⟨l1, hr1, hb1⟩ := open_list spb spb_len Try.underlying27 (by kernel_rfl) sp_read (hval 1 27 v1 rfl rfl) h1
  have hby1 : l1.length * 56 ≤ reachBytes := by
    have e : Try.prog.bytesOf 32 = 56 := by kernel_rfl
    rw [← e]; exact hb1 _ hw1
  clear hA0 hval0
  refine (dictIsTable_walk W x0 v1 l1 hr1 hby1).mono fun e W' ⟨he, bel⟩ => ?_
  subst he
  exact ⟨_, rfl, law_post laidOut Try.underlying4 (by kernel_rfl) rfl (by kernel_rfl) hW' rfl bel⟩

theorem dictIsTable_holds : Rows.DictIsTableSaid :=
  OpenClaim.holds_of_wide 10 Try.f10 rfl rfl rfl rfl rfl rfl rfl ⟨rfl, rfl, rfl, rfl, rfl⟩ rfl rfl rfl rfl rfl (by kernel_rfl) Try.func10 (by kernel_rfl)
    (of_decide_eq_true (by kernel_rfl)) (by unfold Func.isWrapper; rw [if_neg (of_decide_eq_false (by kernel_rfl))]; exact ⟨rfl, rfl⟩)
    (fun os started H enc _ => dictIsTable_lifted os started H enc)
end Go.Proofs.Ytkecipdonamjaaa
