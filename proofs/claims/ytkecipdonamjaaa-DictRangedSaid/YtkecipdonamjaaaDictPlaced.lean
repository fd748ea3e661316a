/- DictPlaced: behind every step of every script each key stands in its place. No condition. -/
import Derived.Test.YtkecipdonamjaaaPlaced
namespace Go.Proofs.Ytkecipdonamjaaa
open Go.ChangeShapes Go.WideShapes Go.ChangeAt Go.RowKit Di

theorem pr_start {w w1 w2 : World} {d : Nat} {M : DM} (hb1 : Below w.heap.size w w1) (D0 : DAt w2 d M) (HB0 : Hid (∀ k, Bs (dictL d M) k → w1.heap.size ≤ k)) (hb2 : Below w1.heap.size w1 w2) :
    Pr w.heap.size w2 d M (.slice none 0 0) [] ∧ Below w.heap.size w w2 :=
  ⟨⟨D0, World.ownsRow_nil _ _ _ _, (fun g hg => by cases hg), fun k hk => Nat.le_trans hb1.size (HB0.out k hk), Nat.le_trans hb1.size hb2.size⟩, hb1.trans (hb2.mono hb1.size)⟩
set_option maxRecDepth 100000 in
set_option maxHeartbeats 4000000 in
theorem dictPlaced_walk (w : World) (x0 : UInt64) (v1 : Value) (l : List SpB) (hr : RdC w 6 v1 l.length (l.flatMap spb)) (hby : l.length * 56 ≤ reachBytes) :
    Calls Try.prog 7 #[.int .u64 (wd x0), v1] w fun e w' => e = .returned (.bool true) ∧ Below w.heap.size w w' := by
  unfold reachBytes at hby
  have HR := Lib.hid hr
  obtain ⟨-, a1, c1, rfl, -⟩ := hr
  go_enter Try.func7, Try.ntmps7
  go_wp2_with fail
  refine (wakes_any _).mono ?_
  rintro e w1 ⟨rfl, hb1⟩
  have HB1 := Lib.hid hb1; clear hb1
  go_wp2_with fail
  refine (new_like _ x0 _ rfl).mono ?_
  rintro e w2 ⟨d, M0, rfl, D0, L0, sd0, -, -, -, HB0, hb2⟩
  obtain ⟨P0, B0⟩ := pr_start HB1.out D0 HB0 hb2
  have HP0 := Lib.hid P0
  have HB2 := Lib.hid B0
  have HL0 := Lib.hid L0
  have HS0 := Lib.hid sd0
  clear D0 hb2 P0 B0 L0 HB0 HB1 sd0
  go_wp2_with fail
  go_loopw [6, 17] (fun v i wr => ∃ (k : Nat) (M : DM) (L : Pl), i = .int .i64 k ∧ k ≤ l.length ∧ L.length ≤ k ∧ Hid (Pr w.heap.size wr d M v L) ∧ Hid (Like M L) ∧ Hid (Below w.heap.size w wr) ∧ Hid (M.seed = x0)) (fun _ i _ => l.length - (intOf i).toNat)
  case atStart => exact ⟨0, M0, [], rfl, by omega, by simp, HP0, HL0, HB2, HS0⟩
  case round =>
    obtain ⟨k, M, L, rfl, hk, hLk, HP, HL, HB, HS⟩ := hrel
    obtain ⟨v, rfl⟩ : ∃ v, v = u6 := ⟨_, rfl⟩
    clear HP0 HL0 HB2 HS0
    by_cases hlt : k < l.length
    · obtain ⟨g, off, rfl, c0, c1, c2, c3, c4, c5⟩ := sp_at (HR.out.below HB.out) k hlt
      obtain ⟨o, ho⟩ : ∃ o, l[k].1 = o := ⟨_, rfl⟩
      have hko : o.key.size ≤ maxLen := ho ▸ l[k].2
      rw [ho] at c0 c1 c2 c3 c4 c5
      clear ho
      go_wp2_with fail
      have PW := HP.out.other (Fr.alloc (fun _ => False) wr (.cells #[.int .i64 o.who, .int .i64 o.do_, .int .i64 o.n, .int .i64 o.v, .string o.key, .int .u64 (wd o.r)] 32)) (fun _ _ h => h) (fun _ _ h => h)
      have BW : Below w.heap.size w (wr.alloc (.cells #[.int .i64 o.who, .int .i64 o.do_, .int .i64 o.n, .int .i64 o.v, .string o.key, .int .u64 (wd o.r)] 32)) := HB.out.alloc HB.out.size _
      have HPW := Lib.hid PW
      have HBW := Lib.hid BW
      clear PW BW c0 c1 c2 c3 c4 c5
      refine (does_any _ d M L v o w.heap.size HL.out (by omega) hko HPW.out).mono ?_
      rintro e w4 ⟨v', M', rfl, P4, L4, B4, sd, -, -, -, -⟩
      have hLk' : (doesL o L).length ≤ k + 1 := Nat.le_trans (doesL_len o L) (by omega)
      have hpl := placed_any w4 d M' P4.dat (by rw [L4.count]; omega)
      rw [sd.1, HS.out] at hpl
      have HPL := Lib.hid hpl
      have HSS : Hid (M'.seed = x0) := sd.1.trans HS.out
      have HP4 := Lib.hid P4
      have HL4 := Lib.hid L4
      have HB4 := Lib.hid (HBW.out.trans B4)
      clear P4 L4 B4 sd hpl HBW HPW
      go_wp2_with fail
      refine HPL.out.mono ?_
      rintro e w5 ⟨rfl, hb5⟩
      have P5 := HP4.out.other (Fr.of_below hb5) (fun k hk h => by have := HP4.out.dat.rep.lt hk; omega) (fun g hg h => by have := (HP4.out.row.lt g hg).2; omega)
      have HP5 := Lib.hid P5
      have HB5 := Lib.hid (HB4.out.trans (hb5.mono HB4.out.size))
      clear P5 hb5
      go_wp2
      go_roundw
      case rel => exact ⟨k + 1, M', doesL o L, by go_num, by omega, hLk', HP5, HL4, HB5, HSS⟩
      case measure => simp [intOf]; omega
    · go_wp2
      go_ret
      exact ⟨rfl, HB.out⟩
set_option maxRecDepth 100000 in
theorem dictPlaced_lifted (os : Os) (started : os.Started) (H : Type) (enc : TypeId × Value → H) :
    ReturnsInHanded {} Try.checked os 7 .any (Rows.dictPlacedSpec.pre6 enc Try.prog Try.f7 Rows.dictPlacedRow.domain false) (Rows.dictPlacedSpec.post enc Try.prog Try.f7 false true false false) := by
  refine returnsInHanded_of_change_sized (C := Try.checked) own started (by kernel_rfl) Try.func7
    (ChangeSpec.witness6 (enc := enc) (C := Try.checked) false ⟨#[], #[.int .u64 0, .slice none 0 0], []⟩ 8 (by kernel_rfl) (by kernel_rfl) (by kernel_rfl) (by kernel_rfl)) ?_
  intro W base args ds gs before hval0 hW hcnd hsz0 _
  have hval : ∀ (j : Nat) t v, Try.f7.params[j]? = some t → args[j]? = some v → Value.okWide Try.prog W .any base t v := hval0
  have hW' := hW
  obtain ⟨p, q, hA0, hV, rfl, hfz, hnd⟩ := hW
  have hA : DataW.TrodAll enc Try.prog W 0 (fun _ => true) true Try.f7.params.toList args.toList ds p := hA0
  rw [Try.params7] at hA hval
  obtain ⟨v0, vs0, d0, ds0, p0, q0, hargs, rfl, rfl, h0, r0⟩ := trodAll_cons hA
  obtain ⟨v1, vs1, d1, ds1, p1, q1, rfl, rfl, rfl, h1, r1⟩ := trodAll_cons r0
  obtain ⟨rfl, rfl, rfl⟩ := trodAll_nil r1
  obtain rfl : args = #[v0, v1] := by cases args; simp_all
  obtain ⟨rfl, rfl⟩ := trodVars_none hV
  have hsz : (DataW.weightsEach Try.prog [22, 27] [d0, d1]).all (fun x => decide (x ≤ reachBytes)) = true := by
    have h := hsz0
    simp only [List.append_nil] at h
    have e : (Try.f7.params.toList ++ DataSpec.varTypes Try.checked.prog Rows.dictPlacedSpec.plain) = [22, 27] := by kernel_rfl
    rw [e] at h; exact h
  clear hsz0
  obtain ⟨hw0, hsz0⟩ := weights_cons hsz
  obtain ⟨x0, rfl⟩ := open_word Try.underlying22 (hval 0 22 v0 rfl rfl) h0
  obtain ⟨hw1, hsz1⟩ := weights_cons hsz0
  obtain ⟨l1, hr1, hb1⟩ := open_list spb spb_len Try.underlying27 (by kernel_rfl) sp_read (hval 1 27 v1 rfl rfl) h1
  have hby1 : l1.length * 56 ≤ reachBytes := by
    have e : Try.prog.bytesOf 32 = 56 := by kernel_rfl
    rw [← e]; exact hb1 _ hw1
  clear hA0 hval0
  refine (dictPlaced_walk W x0 v1 l1 hr1 hby1).mono fun e W' ⟨he, bel⟩ => ?_
  subst he
  exact ⟨_, rfl, law_post laidOut Try.underlying4 (by kernel_rfl) rfl (by kernel_rfl) hW' rfl bel⟩

theorem dictPlaced_holds : Rows.DictPlacedSaid :=
  OpenClaim.holds_of_wide 7 Try.f7 rfl rfl rfl rfl rfl rfl rfl ⟨rfl, rfl, rfl, rfl, rfl⟩ rfl rfl rfl rfl rfl (by kernel_rfl) Try.func7 (by kernel_rfl)
    (of_decide_eq_true (by kernel_rfl)) (by unfold Func.isWrapper; rw [if_neg (of_decide_eq_false (by kernel_rfl))]; exact ⟨rfl, rfl⟩)
    (fun os started H enc _ => dictPlaced_lifted os started H enc)
end Go.Proofs.Ytkecipdonamjaaa
