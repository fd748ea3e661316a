/- The walk of package dict's all at int: what it hands back goes through the buckets that may have keys, in their order. -/
import Derived.Test.YtkecipdonamjaaaDiW10
import Derived.Test.YtkecipdonamjaaaKeep
import Derived.Test.YtkecipdonamjaaaRangeV
import Derived.RangeFuncNested
import Derived.RangeFuncBound
import Derived.RangeFuncCalls
import Derived.RangeFuncLeaves
import Derived.RangeFuncBox
import Derived.Shelf.Abstract
import Derived.Shelf.RegionOpen
import Derived.OwnWalkIn
import Derived.TacticsInMore
import Derived.LoopNIn
import Derived.LoopIn
import Derived.RegionIn
import Derived.BigRegionIn
import Derived.Sort.QuietIn
import Derived.Outline
namespace Go.Proofs.Ytkecipdonamjaaa.Di
open Go.RowKit Go.Shelf
attribute [local go_sem] Oper.semAt_some
theorem DAt.keep {A B : World} {d : Nat} {M : DM} (h : DAt A d M) (hk : Keep (fun k _ => Bs (dictL d M) k) A B) : DAt B d M :=
  ⟨rep_keep h.rep hk, h.nd, h.sz, h.inv, h.lold, h.lyoung⟩
def bkE (c : List E) : Array Value := #[hp c]
set_option maxRecDepth 100000 in
theorem all_in (F : Fence) (n : Nat) (hF : F.fn 68) (hro : F.round = none) (d : Nat) (w : World) :
    CallsIn F n Try.prog 68 #[.pointer (some ⟨d, 0, none⟩)] w fun e w' => e = .returned (.func (.func 99) #[] #[.pointer (some ⟨w.heap.size, 0, none⟩)]) ∧ w' = w.alloc (.cells #[.pointer (some ⟨d, 0, none⟩)] 29) := by
  refine callsIn_of_wp Try.func68 rfl hF ?_ hro
  simp only [Try.ntmps68, List.size_toArray, List.length_cons, List.length_nil, Nat.reduceAdd, Nat.reduceSub, Array.replicate_succ, Array.replicate_zero, List.push_toArray, List.append_toArray, List.nil_append, List.cons_append]
  gi_wp2
  go_ret
  exact ⟨rfl, rfl⟩
/-- what the iterator keeps in sight -/
structure Al (d Bd : Nat) (M : DM) (W : World) : Prop where
  dat : DAt W d M
  box : W.heap[Bd]? = some (.cells #[ptr d] 29 (0, 0))
theorem Al.keep {A B : World} {d Bd : Nat} {M : DM} (h : Al d Bd M A) (hk : Keep (fun k _ => k = Bd ∨ Bs (dictL d M) k) A B) : Al d Bd M B :=
  ⟨h.dat.keep (hk.mono fun _ _ h => .inr h), hk Bd _ _ _ (.inl rfl) h.box⟩
set_option maxRecDepth 100000 in
set_option maxHeartbeats 4000000 in
theorem all1_in (F : Fence) (n : Nat) (hF : F.fn 99) (hro : F.round = none) (hn : 1 ≤ n) (l Bd d : Nat) (M : DM) (Kp : World → World → Prop)
    (hKp : ∀ A B, Kp A B → Keep (fun k _ => k = Bd ∨ Bs (dictL d M) k) A B) (J Jx : List (List E) → World → Prop)
    (hdr : ∀ pre W m, J pre W → J pre (W.drewN m))
    (hY : ∀ pre x W, J pre W → pre ++ [x] <+: opn M → YieldAt F (n - 1) Try.prog l (bkE x) W fun e W' =>
      (e = .returned (.bool true) ∧ J (pre ++ [x]) W' ∧ Kp W W') ∨ (e = .returned (.bool false) ∧ Jx (pre ++ [x]) W' ∧ Late 0 W W'))
    (W : World) (hA : Al d Bd M W) (h0 : J [] W) :
    CallsIn F n Try.prog 99 #[.func (.yield l) #[] #[], .pointer (some ⟨Bd, 0, none⟩)] W fun e W' => (∃ v, e = .returned v) ∧
      ((∃ xs, xs = opn M ∧ J xs W') ∨ (∃ pre, pre <+: opn M ∧ Jx pre W')) := by
  have HA := Lib.hid hA
  cases F
  dsimp only at hro
  subst hro
  obtain ⟨f0, f1, f2, f3, f4, f5⟩ := blk_field hA.dat.rep.head
  have hcb : W.cell? ⟨Bd, 0, none⟩ = some (.pointer (some ⟨d, 0, none⟩)) := by rw [cell_of_blk hA.box]; rfl
  have hlo := hA.dat.lold
  have hly := hA.dat.lyoung
  by_cases ho : M.old = []
  · have hy : M.young = [] := by
      by_cases hy : M.young = []
      · exact hy
      · have := hA.dat.inv.moving hy
        rw [ho] at this; simp at this
    have hat := hA.dat.inv.still hy
    have hop : opn M = [] := by unfold opn; rw [ho, hy]; simp
    rw [ho, tv_nil] at f1
    rw [hy, tv_nil] at f2
    rw [hat] at f3
    have f3' : W.cell? ⟨d, 3, none⟩ = some (.int .i64 0) := f3
    have HOP := Lib.hid hop
    have HDR := Lib.hid hdr
    have HJ0 := Lib.hid h0
    clear f0 f3 f4 f5 hA hKp hdr h0 ho hy hat hop
    refine callsIn_of_wp Try.func99 rfl hF ?_ rfl
    simp only [Try.ntmps99, List.size_toArray, List.length_cons, List.length_nil, Nat.reduceAdd, Nat.reduceSub, Array.replicate_succ, Array.replicate_zero, List.push_toArray, List.append_toArray, List.nil_append, List.cons_append]
    gi_wp2
    gi_quiet (fail)
    gi_wp2
    gi_loopw [17] (fun i wr => i = .int .i64 0 ∧ Hid (wr = W.drewN nq)) (fun _ _ => 0)
    case atStart => exact ⟨rfl, (show _ = _ from rfl)⟩
    case round =>
      obtain ⟨rfl, HW⟩ := hrel
      have c1 : wr.cell? ⟨Bd, 0, none⟩ = some (.pointer (some ⟨d, 0, none⟩)) := by rw [HW.out]; exact hcb
      have c2 : wr.cell? ⟨d, 2, none⟩ = some (.slice none 0 0) := by rw [HW.out]; exact f2
      gi_wp2
      gi_loopw [31] (fun i wq => i = .int .i64 0 ∧ Hid (wq = W.drewN nq)) (fun _ _ => 0)
      case atStart => exact ⟨rfl, HW⟩
      case round =>
        obtain ⟨rfl, HW2⟩ := hrel
        gi_wp2
        go_end0
        exact ⟨⟨_, rfl⟩, .inl ⟨[], HOP.out.symm, by rw [HW2.out]; exact HDR.out _ _ _ HJ0.out⟩⟩
  · have hat : M.at_ < M.old.length := by
      by_cases hy : M.young = []
      · rw [hA.dat.inv.still hy]; exact List.length_pos_iff.2 ho
      · exact hA.dat.inv.moving hy
    rw [tv_of ho] at f1
    have HKP := Lib.hid hKp
    have HDR := Lib.hid hdr
    have HO := Lib.hid ho
    have HF5 := Lib.hid f5
    have HJ0 := Lib.hid h0
    have g0 : (0 : Int) ≤ M.at_ := by omega
    have g1 : (M.at_ : Int) ≤ M.old.length := by omega
    have g2 : (M.at_ : Int) < M.old.length := by omega
    clear f0 f4 f5 hA hKp hdr h0 ho
    refine callsIn_of_wp Try.func99 rfl hF ?_ rfl
    simp only [Try.ntmps99, List.size_toArray, List.length_cons, List.length_nil, Nat.reduceAdd, Nat.reduceSub, Array.replicate_succ, Array.replicate_zero, List.push_toArray, List.append_toArray, List.nil_append, List.cons_append]
    gi_wp2
    gi_quiet (fail)
    gi_wp2
    have HJ1 := Lib.hid (HDR.out _ _ nq HJ0.out)
    have HA1 : Hid (Al d Bd M (W.drewN nq)) := HA.out.keep (fun _ _ _ _ _ h => h)
    have hlen := opn_len M
    obtain ⟨L1, hL1⟩ : ∃ L1, M.old.length - M.at_ = L1 := ⟨_, rfl⟩
    rw [hL1] at hlen ⊢
    have hL1' : M.at_ + L1 = M.old.length := by omega
    have hL1b : L1 ≤ 35184372088832 := by omega
    have HL1 := Lib.hid hL1
    have HL1' := Lib.hid hL1'
    have HLEN := Lib.hid hlen
    clear hL1 hL1' hlen
    have HCO : Hid (∀ (V : World) (k : Nat) (hk : k < L1), Al d Bd M V → ∃ c : List E, V.cell? ⟨M.told, M.at_ + k, none⟩ = some (hp c) ∧ (opn M)[k]? = some c) := by
      intro V k hk hv
      have hc := opn_old M k (by rw [HL1.out]; exact hk)
      have hlt : M.at_ + k < M.old.length := by have := HL1'.out; omega
      rw [List.getElem?_eq_getElem hlt] at hc
      refine ⟨M.old[M.at_ + k], ?_, hc⟩
      exact row_cell (tab_old hv.dat HO.out).1.row (M.at_ + k) hlt
    have HYO := Lib.hid hY
    clear HJ0 HA f1 f2 f3 hcb hY
    gi_loopw [4, 17] (fun _ i wr => ∃ (k : Nat) (pre : List (List E)), i = .int .i64 k ∧ k ≤ L1 ∧ Hid (pre = (opn M).take k) ∧ Hid (Al d Bd M wr) ∧ Hid (J pre wr)) (fun _ i _ => L1 - (intOf i).toNat)
    case atStart => exact ⟨0, [], rfl, by omega, (show _ = _ from rfl), HA1.out, HJ1.out⟩
    case round =>
      obtain ⟨k, pre, rfl, hk, HPR, HA2, HJ2⟩ := hrel
      clear HA1 HJ1
      by_cases hlt : k < L1
      · obtain ⟨x, hc, hx⟩ := HCO.out wr k hlt HA2.out
        have HPR2 : Hid (pre ++ [x] = (opn M).take (k + 1)) := by
          show _ = _
          rw [HPR.out, List.take_add_one, hx]
          rfl
        obtain ⟨fn, tmps, assign, body, hy, hR⟩ := HYO.out pre x wr HJ2.out (by rw [HPR2.out]; exact List.take_prefix _ _)
        dsimp only [bkE] at hy
        obtain ⟨v, hv⟩ : ∃ v, hp x = v := ⟨_, rfl⟩
        rw [hv] at hc hy
        have HR := Lib.hid hR
        have b0 : (0 : Int) ≤ (k : Int) := by omega
        have b1 : (k : Int) < (L1 : Int) := by omega
        clear hR hv hx
        gi_wp2
        refine HR.out.mono ?_
        rintro e W3 (⟨rfl, hJ3, hk3⟩ | ⟨rfl, hJx3, -⟩)
        · have HA3 := Lib.hid (HA2.out.keep (HKP.out _ _ hk3))
          have HJ3 := Lib.hid hJ3
          clear hJ3 hk3
          gi_wp2
          go_roundw
          case rel => exact ⟨k + 1, pre ++ [x], by go_num, by omega, HPR2, HA3, HJ3⟩
          case measure => simp [intOf]; omega
        · have HJ3 := Lib.hid hJx3
          clear hJx3
          gi_wp2
          refine bodyPost_ret (results_none rfl _ _ _) rfl ?_
          exact ⟨⟨_, rfl⟩, .inr ⟨pre ++ [x], by rw [HPR2.out]; exact List.take_prefix _ _, HJ3.out⟩⟩
      · obtain rfl : k = L1 := by omega
        obtain ⟨wo, rfl⟩ : ∃ wo, wo = wr := ⟨_, rfl⟩
        obtain ⟨f0, f1, f2, f3, f4, f5⟩ := blk_field HA2.out.dat.rep.head
        have hcb : wo.cell? ⟨Bd, 0, none⟩ = some (.pointer (some ⟨d, 0, none⟩)) := by rw [cell_of_blk HA2.out.box]; rfl
        obtain ⟨a2, e2⟩ := len_tv wo M.tyoung M.young
        rw [e2] at f2
        have HYC : Hid (∀ (V : World) (j : Nat) (hj : j < M.young.length), Al d Bd M V → ∃ c : List E, a2 = some ⟨M.tyoung, 0, none⟩ ∧ V.cell? ⟨M.tyoung, j, none⟩ = some (hp c) ∧ (opn M)[k + j]? = some c) := by
          intro V j hj hv
          have hy : M.young ≠ [] := by intro e; rw [e] at hj; simp at hj
          have hc := opn_young M (k + j) (by rw [HL1.out]; omega)
          rw [HL1.out, Nat.add_sub_cancel_left, List.getElem?_eq_getElem hj] at hc
          refine ⟨M.young[j], ?_, row_cell (tab_young hv.dat hy).1.row j hj, hc⟩
          rw [tv_of hy] at e2
          cases e2; rfl
        clear f0 f1 f3 f4 f5 e2
        gi_wp2
        clear hcb f2
        gi_loopw [6, 31] (fun _ i wr => ∃ (j : Nat) (pre : List (List E)), i = .int .i64 j ∧ j ≤ M.young.length ∧ Hid (pre = (opn M).take (k + j)) ∧ Hid (Al d Bd M wr) ∧ Hid (J pre wr)) (fun _ i _ => M.young.length - (intOf i).toNat)
        case atStart => exact ⟨0, pre, rfl, by omega, HPR.out, HA2.out, HJ2.out⟩
        case round =>
          obtain ⟨j, pre2, rfl, hj, HPR3, HA3, HJ3⟩ := hrel
          clear HPR HA2 HJ2
          by_cases hlt2 : j < M.young.length
          · obtain ⟨x, rfl, hc, hx⟩ := HYC.out wr j hlt2 HA3.out
            have HPR4 : Hid (pre2 ++ [x] = (opn M).take (k + (j + 1))) := by
              show _ = _
              rw [HPR3.out, ← Nat.add_assoc, List.take_add_one, hx]
              rfl
            obtain ⟨fn, tmps, assign, body, hy, hR⟩ := HYO.out pre2 x wr HJ3.out (by rw [HPR4.out]; exact List.take_prefix _ _)
            dsimp only [bkE] at hy
            obtain ⟨v, hv⟩ : ∃ v, hp x = v := ⟨_, rfl⟩
            rw [hv] at hc hy
            have HR := Lib.hid hR
            have b0 : (0 : Int) ≤ (j : Int) := by omega
            have b1 : (j : Int) < (M.young.length : Int) := by omega
            clear hR hv hx
            gi_wp2
            refine HR.out.mono ?_
            rintro e W3 (⟨rfl, hJ4, hk4⟩ | ⟨rfl, hJx4, -⟩)
            · have HA4 := Lib.hid (HA3.out.keep (HKP.out _ _ hk4))
              have HJ4 := Lib.hid hJ4
              clear hJ4 hk4
              gi_wp2
              go_roundw
              case rel => exact ⟨j + 1, pre2 ++ [x], by go_num, by omega, HPR4, HA4, HJ4⟩
              case measure => simp [intOf]; omega
            · have HJ4 := Lib.hid hJx4
              clear hJx4
              gi_wp2
              refine bodyPost_ret (results_none rfl _ _ _) rfl ?_
              exact ⟨⟨_, rfl⟩, .inr ⟨pre2 ++ [x], by rw [HPR4.out]; exact List.take_prefix _ _, HJ4.out⟩⟩
          · obtain rfl : j = M.young.length := by omega
            gi_wp2
            go_end0
            exact ⟨⟨_, rfl⟩, .inl ⟨pre2, by rw [HPR3.out, List.take_of_length_le (by rw [HLEN.out]; exact Nat.le_refl _)], HJ3.out⟩⟩
theorem all1_stops (F : Fence) (n : Nat) (hF : F.fn 99) (hro : F.round = none) (hn : 1 ≤ n) (Bd d : Nat) (M : DM) (Kp : World → World → Prop)
    (hKp : ∀ A B, Kp A B → Keep (fun k _ => k = Bd ∨ Bs (dictL d M) k) A B) (w : World) (hA : Al d Bd M w) :
    SeqV F n Try.prog 99 #[.pointer (some ⟨Bd, 0, none⟩)] bkE Kp (fun pre => pre <+: opn M) (fun xs => xs = opn M) (fun pre => pre <+: opn M) w := fun l J Jx W hW hJ _ hY h0 =>
  all1_in F n hF hro hn l Bd d M Kp hKp J Jx (fun pre A m h => hJ pre A _ none h ⟨rfl, rfl, rfl, Nat.le_refl _, fun _ _ _ => rfl⟩ (fun r e => by cases e)) hY W
    (hA.keep fun k cs t m hk h => (hW.block k (Array.getElem?_eq_some_iff.1 h).1).trans h) h0
end Go.Proofs.Ytkecipdonamjaaa.Di
