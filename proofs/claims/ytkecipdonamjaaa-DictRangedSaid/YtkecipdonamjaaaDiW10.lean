/- The walk of package dict's Sample at int. -/
import Derived.Test.YtkecipdonamjaaaDiW9
namespace Go.Proofs.Ytkecipdonamjaaa.Di
open Go.RowKit

def sampV (M : DM) (r : Nat) : Value := if M.n = 0 then .tuple #[.string ⟨#[]⟩, .bool false] else .tuple #[.string (drawM M r), .bool true]
theorem sample_none (w : World) (d : Nat) (M : DM) (r : Int) (h : DAt w d M) (hn : M.n = 0) :
    Calls Try.prog 33 #[.pointer (some ⟨d, 0, none⟩), .int .u64 r] w fun e w' => e = .returned (.tuple #[.string ⟨#[]⟩, .bool false]) ∧ w = w' := by
  obtain ⟨f0, f1, f2, f3, f4, f5⟩ := blk_field h.rep.head
  rw [hn] at f4
  have f4' : w.cell? ⟨d, 4, none⟩ = some (.int .i64 0) := f4
  clear f0 f1 f2 f3 f4 f5 h hn
  go_enter Try.func33, Try.ntmps33
  go_wp2
  go_ret2
  exact ⟨rfl, rfl⟩
theorem old_of_n {M : DM} (h : Inv M) (hn : M.n ≠ 0) : M.old ≠ [] := by
  intro ho
  have hy : M.young = [] := by
    cases hy : M.young with
    | nil => rfl
    | cons a l => exact absurd ho (old_of_young h (by rw [hy]; simp))
  rw [h.count] at hn
  unfold entries at hn
  rw [ho, hy] at hn
  exact hn rfl
theorem opn_len (M : DM) : (opn M).length = M.old.length - M.at_ + M.young.length := by simp [opn]
theorem opn_old (M : DM) (i : Nat) (h : i < M.old.length - M.at_) : (opn M)[i]? = M.old[M.at_ + i]? := by
  unfold opn
  rw [List.getElem?_append_left (by simp; omega), List.getElem?_drop]
theorem opn_young (M : DM) (i : Nat) (h : ¬ i < M.old.length - M.at_) : (opn M)[i]? = M.young[i - (M.old.length - M.at_)]? := by
  unfold opn
  rw [List.getElem?_append_right (by simp; omega)]
  simp
theorem quot_rem (r T P : Nat) (hr : r < 18446744073709551616) : Value.int .u64 ((IntKind.u64.wrap ((r : Int) / (T : Int))).tmod P) = Value.int .u64 ((r / T % P : Nat) : Int) := by
  have h : r / T < 18446744073709551616 := Nat.lt_of_le_of_lt (Nat.div_le_self _ _) hr
  have e : ((r : Int) / (T : Int)) = ((r / T : Nat) : Int) := by rw [Int.natCast_ediv]
  rw [e]
  generalize r / T = q at *
  rw [IntKind.wrap_u64, Int.emod_eq_of_lt (by omega) (by omega)]
  rfl
set_option maxRecDepth 100000 in
set_option maxHeartbeats 2000000 in
theorem sample_some (w : World) (d : Nat) (M : DM) (r : Nat) (hr : r < 18446744073709551616) (h : DAt w d M) (hn : M.n ≠ 0) (hn2 : M.n ≤ 4398046511104) :
    Calls Try.prog 33 #[.pointer (some ⟨d, 0, none⟩), .int .u64 (r : Int)] w fun e w' => e = .returned (.tuple #[.string (drawM M r), .bool true]) ∧ ∃ m, w' = w.drewN m := by
  obtain ⟨f0, f1, f2, f3, f4, f5⟩ := blk_field h.rep.head
  have ho := old_of_n h.inv hn
  have hat : M.at_ < M.old.length := by
    by_cases hy : M.young = []
    · rw [h.inv.still hy]; exact List.length_pos_iff.2 ho
    · exact h.inv.moving hy
  have hlo := h.lold
  have hly := h.lyoung
  have hT := opn_len M
  obtain ⟨T, hTe⟩ : ∃ T, (opn M).length = T := ⟨_, rfl⟩
  rw [hTe] at hT
  have hTpos : 0 < T := by omega
  rw [tv_of ho] at f1
  obtain ⟨a2, e2⟩ := len_tv w M.tyoung M.young
  rw [e2] at f2
  have E2 := Lib.hid e2; clear e2
  have hn0 : ((M.n : Int) == 0) = false := beq_eq_false_iff_ne.2 (by omega)
  have hpick := pick_some (opn M) (r % T) (by rw [hTe]; exact Nat.mod_lt _ hTpos) (opn_some h.inv hn)
  rw [hTe] at hpick
  obtain ⟨B, hB⟩ : ∃ B, pick (opn M) T (r % T) = B := ⟨_, rfl⟩
  rw [hB] at hpick
  have hdraw : drawM M r = match B[r / T % B.length]? with | some e => e.key | none => ⟨#[]⟩ := by
    unfold drawM
    simp only
    rw [hTe, hB]
    rfl
  have hch : ∀ (i : Nat) (c : List E), (opn M)[i]? = some c → ChainAt w c ∧ c.length ≤ M.n := by
    intro i c hc
    have hsub : ∀ e ∈ c, e ∈ entries M := fun e he => by rw [← opn_flatten h.inv]; exact List.mem_flatten.2 ⟨c, List.mem_of_getElem? hc, he⟩
    have hz : ∀ e ∈ c, e.val.length = 1 := fun e he => (h.sz e (hsub e he)).1
    refine ⟨?_, ?_⟩
    · by_cases hi : i < M.old.length - M.at_
      · rw [opn_old M i hi] at hc
        exact chain_of (tab_old h ho).1.chains hc hz
      · rw [opn_young M i hi] at hc
        have hy : M.young ≠ [] := by intro e; rw [e] at hc; simp at hc
        exact chain_of (tab_young h hy).1.chains hc hz
    · rw [h.inv.count, ← opn_flatten h.inv]
      exact (List.sublist_flatten_of_mem (List.mem_of_getElem? hc)).length_le
  have hold : ∀ (i : Nat) (c : List E), i < M.old.length - M.at_ → (opn M)[i]? = some c → w.cell? ⟨M.told, M.at_ + i, none⟩ = some (hp c) := by
    intro i c hi hc
    rw [opn_old M i hi] at hc
    obtain ⟨hl, hcc⟩ := List.getElem?_eq_some_iff.1 hc
    rw [row_cell (tab_old h ho).1.row (M.at_ + i) hl, hcc]
  have hyng : ∀ (i : Nat) (c : List E), ¬ i < M.old.length - M.at_ → (opn M)[i]? = some c → a2 = some ⟨M.tyoung, 0, none⟩ ∧ w.cell? ⟨M.tyoung, i - (M.old.length - M.at_), none⟩ = some (hp c) := by
    intro i c hi hc
    rw [opn_young M i hi] at hc
    obtain ⟨hl, hcc⟩ := List.getElem?_eq_some_iff.1 hc
    have hy : M.young ≠ [] := by intro e; rw [e] at hl; simp at hl
    refine ⟨?_, by rw [row_cell (tab_young h hy).1.row _ hl, hcc]⟩
    have := E2.out
    rw [tv_of hy] at this
    cases this; rfl
  have HCH := Lib.hid hch; clear hch
  have HO := Lib.hid hold; clear hold
  have HY := Lib.hid hyng; clear hyng
  have HD := Lib.hid hdraw; clear hdraw
  have HB := Lib.hid hB; clear hB
  have HTe := Lib.hid hTe; clear hTe
  have g0 : (0 : Int) ≤ M.at_ := by omega
  have g1 : (M.at_ : Int) ≤ M.old.length := by omega
  have g2 : (M.at_ : Int) < M.old.length := by omega
  have g3 : (0 : Int) ≤ r := by omega
  have g4 : (r : Int) < 18446744073709551616 := by omega
  have HR := Lib.hid hr
  clear f0 f5 h
  go_enter Try.func33, Try.ntmps33
  go_wp2
  go_quiet (fail)
  go_wp2
  obtain ⟨L1, hL1⟩ : ∃ L1, M.old.length - M.at_ = L1 := ⟨_, rfl⟩
  have hs8 : ((r : Int) % ((L1 : Nat) + (M.young.length : Int))) = ((r % T : Nat) : Int) := by
    rw [hT, hL1, Int.natCast_emod, Int.natCast_add]
  have hs7 : ((L1 : Nat) : Int) + (M.young.length : Int) = (T : Int) := by omega
  rw [hL1] at HO HY hT ⊢
  rw [hs8, hs7]
  have hTle : T ≤ 70368744177664 := by omega
  have hL1T : L1 ≤ T := by omega
  have hL1o : M.at_ + L1 = M.old.length := by omega
  have HL1 := Lib.hid hL1
  have HTT := Lib.hid hT
  clear hL1 hT hs8 hs7 hr g4
  go_loopg [8] T (fun n i wr => wr = w.drewN nq ∧ ∃ k ii : Nat, Hid (k = n) ∧ i = .int .u64 ii ∧ ii < T ∧ Hid (pick (opn M) k ii = B))
  case atStart => exact ⟨rfl, T, r % T, rfl, rfl, Nat.mod_lt _ hTpos, HB⟩
  case round =>
    obtain ⟨rfl, k, ii, HK, rfl, hii, HP⟩ := hrel
    cases k with
    | zero => exact absurd HP.out (fun e => hpick e.symm)
    | succ k =>
      obtain ⟨c, hc⟩ : ∃ c, (opn M)[ii]? = some c := ⟨_, List.getElem?_eq_getElem (by rw [HTe.out]; exact hii)⟩
      obtain ⟨hcc, hcn⟩ := HCH.out ii c hc
      have HC := Lib.hid hc
      have HCC := Lib.hid hcc
      clear hcc
      by_cases hi : ii < L1
      ·
        have hcell := HO.out ii c hi hc
        clear hc
        cases c with
        | nil =>
          have hcell' : w.cell? ⟨M.told, M.at_ + ii, none⟩ = some (.pointer none) := hcell
          clear hcell
          go_wp2
          go_roundg k
          case measure => have := HK.out; omega
          case rel =>
            refine ⟨rfl, k, (ii + 1) % T, rfl, ?_, Nat.mod_lt _ hTpos, ?_⟩
            · rw [Int.natCast_emod, Int.natCast_add]; rfl
            · show _ = _
              rw [← HP.out]
              conv => rhs; unfold pick
              rw [HC.out, HTe.out]
        | cons e c =>
          have hcell' : w.cell? ⟨M.told, M.at_ + ii, none⟩ = some (.pointer (some ⟨e.b, 0, none⟩)) := hcell
          clear hcell
          have hBc : e :: c = B := by
            rw [← HP.out]
            unfold pick
            rw [HC.out]
          clear hpick
          subst hBc
          have hlen : c.length + 1 ≤ M.n := hcn
          go_wp2
          go_loopg [10, 11] (c.length + 1) (fun n l p wr => wr = w.drewN nq ∧ ∃ pre post : List E, Hid (e :: c = pre ++ post) ∧ Hid (post.length = n) ∧ l = .int .u64 pre.length ∧ p = hp post)
          case atStart => exact ⟨rfl, [], e :: c, rfl, rfl, rfl, rfl⟩
          case round =>
            obtain ⟨rfl, pre, post, H1, H2, rfl, hpp⟩ := hrel
            have hpl : pre.length + post.length = c.length + 1 := by have := congrArg List.length H1.out; simp at this; omega
            cases post with
            | nil =>
              have hpp' : u11 = .pointer none := hpp
              subst hpp'
              clear hpp
              obtain ⟨P, hP⟩ : ∃ P, pre.length = P := ⟨_, rfl⟩
              rw [hP] at hpl ⊢
              have hPc : P = c.length + 1 := by simpa using hpl
              have HPC := Lib.hid hPc
              have hPpos : 0 < P := by omega
              have hP1 : (1 : Int) ≤ P := by omega
              have hT1 : (1 : Int) ≤ T := by omega
              clear hP hPc hpl H1 H2
              go_wp2
              go_loopg [9, 12] (r / T % P) (fun n h q wr => wr = w.drewN nq ∧ ∃ (kk : Nat) (pre : List E) (x : E) (post : List E), Hid (kk = n) ∧ q = .int .u64 kk ∧ h = .pointer (some ⟨x.b, 0, none⟩) ∧ Hid (e :: c = pre ++ x :: post) ∧ Hid (pre.length + kk = r / T % P))
              case atStart => exact ⟨rfl, r / T % P, [], e, c, rfl, quot_rem r T P HR.out, rfl, rfl, by show _ = _; simp⟩
              case round =>
                obtain ⟨rfl, kk, pre2, x, post2, G1, rfl, rfl, G2, G3⟩ := hrel
                obtain ⟨q1, q2⟩ := HCC.out pre2 x post2 G2.out
                cases kk with
                | zero =>
                  clear q2
                  go_wp2
                  go_ret2
                  refine ⟨?_, nq, rfl⟩
                  have hB : (e :: c)[r / T % (e :: c).length]? = some x := by
                    have e1 : r / T % (e :: c).length = pre2.length := by
                      have := G3.out
                      rw [HPC.out] at this
                      simp only [List.length_cons]
                      omega
                    rw [e1, G2.out, List.getElem?_append_right (Nat.le_refl _), Nat.sub_self]; rfl
                  rw [HD.out, hB]
                  rfl
                | succ kk =>
                  have hlt : r / T % P < P := Nat.mod_lt _ hPpos
                  have hl2 : pre2.length + (post2.length + 1) = c.length + 1 := by have := congrArg List.length G2.out; simp at this; omega
                  cases post2 with
                  | nil => exfalso; have := G3.out; have := HPC.out; simp at hl2; omega
                  | cons y post2 =>
                    have q2' : w.cell? ⟨x.b, 2, none⟩ = some (.pointer (some ⟨y.b, 0, none⟩)) := q2
                    have hkb : (kk : Int) < 17592186044416 := by have := G3.out; have := HPC.out; omega
                    clear q2 hl2 hlt
                    go_wp2
                    go_roundg kk
                    case measure => have := G1.out; omega
                    case rel =>
                      refine ⟨rfl, kk, pre2 ++ [x], y, post2, rfl, by go_num, rfl, ?_, ?_⟩
                      · show _ = _
                        rw [G2.out]; simp
                      · show _ = _
                        have := G3.out
                        simp; omega
            | cons x post =>
              have hpp' : u11 = .pointer (some ⟨x.b, 0, none⟩) := hpp
              subst hpp'
              clear hpp
              obtain ⟨q1, q2⟩ := HCC.out pre x post H1.out
              obtain ⟨pr, hpr⟩ := nx_ptr post
              rw [hpr] at q2
              have HPR := Lib.hid hpr; clear hpr
              have hple : (pre.length : Int) < 17592186044416 := by simp at hpl; omega
              clear hpl
              go_wp2
              go_roundg post.length
              case measure => have := H2.out; simp at this; omega
              case rel =>
                refine ⟨rfl, pre ++ [x], post, ?_, rfl, by first | rfl | simp | go_num, HPR.out.symm⟩
                show _ = _
                rw [H1.out]; simp
      ·
        obtain ⟨ha2, hcell⟩ := HY.out ii c hi hc
        subst ha2
        obtain ⟨j, hj⟩ : ∃ j, ii - L1 = j := ⟨_, rfl⟩
        rw [hj] at hcell
        have hsub : (ii : Int) - (L1 : Int) = (j : Int) := by omega
        have hjl : j < M.young.length := by
          have := HTT.out
          omega
        have hjl' : (j : Int) < M.young.length := by omega
        have hge : (L1 : Int) ≤ ii := by omega
        have hdi : decide (ii < L1) = false := by simpa using hi
        have HJ := Lib.hid hj
        clear hj hi
        clear hc
        cases c with
        | nil =>
          have hcell' : w.cell? ⟨M.tyoung, j, none⟩ = some (.pointer none) := hcell
          clear hcell
          go_wp2
          go_roundg k
          case measure => have := HK.out; omega
          case rel =>
            refine ⟨rfl, k, (ii + 1) % T, rfl, ?_, Nat.mod_lt _ hTpos, ?_⟩
            · rw [Int.natCast_emod, Int.natCast_add]; rfl
            · show _ = _
              rw [← HP.out]
              conv => rhs; unfold pick
              rw [HC.out, HTe.out]
        | cons e c =>
          have hcell' : w.cell? ⟨M.tyoung, j, none⟩ = some (.pointer (some ⟨e.b, 0, none⟩)) := hcell
          clear hcell
          have hBc : e :: c = B := by
            rw [← HP.out]
            unfold pick
            rw [HC.out]
          clear hpick
          subst hBc
          have hlen : c.length + 1 ≤ M.n := hcn
          go_wp2
          go_loopg [10, 11] (c.length + 1) (fun n l p wr => wr = w.drewN nq ∧ ∃ pre post : List E, Hid (e :: c = pre ++ post) ∧ Hid (post.length = n) ∧ l = .int .u64 pre.length ∧ p = hp post)
          case atStart => exact ⟨rfl, [], e :: c, rfl, rfl, rfl, rfl⟩
          case round =>
            obtain ⟨rfl, pre, post, H1, H2, rfl, hpp⟩ := hrel
            have hpl : pre.length + post.length = c.length + 1 := by have := congrArg List.length H1.out; simp at this; omega
            cases post with
            | nil =>
              have hpp' : u11 = .pointer none := hpp
              subst hpp'
              clear hpp
              obtain ⟨P, hP⟩ : ∃ P, pre.length = P := ⟨_, rfl⟩
              rw [hP] at hpl ⊢
              have hPc : P = c.length + 1 := by simpa using hpl
              have HPC := Lib.hid hPc
              have hPpos : 0 < P := by omega
              have hP1 : (1 : Int) ≤ P := by omega
              have hT1 : (1 : Int) ≤ T := by omega
              clear hP hPc hpl H1 H2
              go_wp2
              go_loopg [9, 12] (r / T % P) (fun n h q wr => wr = w.drewN nq ∧ ∃ (kk : Nat) (pre : List E) (x : E) (post : List E), Hid (kk = n) ∧ q = .int .u64 kk ∧ h = .pointer (some ⟨x.b, 0, none⟩) ∧ Hid (e :: c = pre ++ x :: post) ∧ Hid (pre.length + kk = r / T % P))
              case atStart => exact ⟨rfl, r / T % P, [], e, c, rfl, quot_rem r T P HR.out, rfl, rfl, by show _ = _; simp⟩
              case round =>
                obtain ⟨rfl, kk, pre2, x, post2, G1, rfl, rfl, G2, G3⟩ := hrel
                obtain ⟨q1, q2⟩ := HCC.out pre2 x post2 G2.out
                cases kk with
                | zero =>
                  clear q2
                  go_wp2
                  go_ret2
                  refine ⟨?_, nq, rfl⟩
                  have hB : (e :: c)[r / T % (e :: c).length]? = some x := by
                    have e1 : r / T % (e :: c).length = pre2.length := by
                      have := G3.out
                      rw [HPC.out] at this
                      simp only [List.length_cons]
                      omega
                    rw [e1, G2.out, List.getElem?_append_right (Nat.le_refl _), Nat.sub_self]; rfl
                  rw [HD.out, hB]
                  rfl
                | succ kk =>
                  have hlt : r / T % P < P := Nat.mod_lt _ hPpos
                  have hl2 : pre2.length + (post2.length + 1) = c.length + 1 := by have := congrArg List.length G2.out; simp at this; omega
                  cases post2 with
                  | nil => exfalso; have := G3.out; have := HPC.out; simp at hl2; omega
                  | cons y post2 =>
                    have q2' : w.cell? ⟨x.b, 2, none⟩ = some (.pointer (some ⟨y.b, 0, none⟩)) := q2
                    have hkb : (kk : Int) < 17592186044416 := by have := G3.out; have := HPC.out; omega
                    clear q2 hl2 hlt
                    go_wp2
                    go_roundg kk
                    case measure => have := G1.out; omega
                    case rel =>
                      refine ⟨rfl, kk, pre2 ++ [x], y, post2, rfl, by go_num, rfl, ?_, ?_⟩
                      · show _ = _
                        rw [G2.out]; simp
                      · show _ = _
                        have := G3.out
                        simp; omega
            | cons x post =>
              have hpp' : u11 = .pointer (some ⟨x.b, 0, none⟩) := hpp
              subst hpp'
              clear hpp
              obtain ⟨q1, q2⟩ := HCC.out pre x post H1.out
              obtain ⟨pr, hpr⟩ := nx_ptr post
              rw [hpr] at q2
              have HPR := Lib.hid hpr; clear hpr
              have hple : (pre.length : Int) < 17592186044416 := by simp at hpl; omega
              clear hpl
              go_wp2
              go_roundg post.length
              case measure => have := H2.out; simp at this; omega
              case rel =>
                refine ⟨rfl, pre ++ [x], post, ?_, rfl, by first | rfl | simp | go_num, HPR.out.symm⟩
                show _ = _
                rw [H1.out]; simp
theorem sample_any (w : World) (d : Nat) (M : DM) (r : Nat) (hr : r < 18446744073709551616) (h : DAt w d M) (hn2 : M.n ≤ 4398046511104) :
    Calls Try.prog 33 #[.pointer (some ⟨d, 0, none⟩), .int .u64 (r : Int)] w fun e w' => e = .returned (sampV M r) ∧ ∃ m, w' = w.drewN m := by
  unfold sampV
  by_cases hn : M.n = 0
  · rw [if_pos hn]
    exact (sample_none w d M r h hn).mono fun _ _ ⟨h1, h2⟩ => ⟨h1, 0, h2 ▸ rfl⟩
  · rw [if_neg hn]
    exact sample_some w d M r hr h hn hn2
end Go.Proofs.Ytkecipdonamjaaa.Di
