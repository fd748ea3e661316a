/- The walks of package dict's Clear, Bucket and Sample at int. -/
import Derived.Test.YtkecipdonamjaaaDiW7
import Derived.Laws.IdiomCopy
import Derived.Lib.SliceRun
import Derived.Deep.Upon
namespace Go.Proofs.Ytkecipdonamjaaa.Di
open Go.RowKit

theorem Fr.setCells (b : Nat) : ∀ (vs : List Value) (o : Nat) (w : World), Fr (fun k => k = b) w (w.setCells b o vs) := by
  intro vs
  induction vs with
  | nil => intro o w; exact Fr.refl _ w
  | cons v vs ih => intro o w; exact (Fr.setCell w ⟨b, o, none⟩ v).trans (ih (o + 1) (w.setCell ⟨b, o, none⟩ v)) (fun i hi _ => hi)
def clearM (M : DM) : DM := { M with old := [], young := [], at_ := 0, n := 0 }
theorem clear_inv (M : DM) : Inv (clearM M) ∧ tb (clearM M) = [] :=
  ⟨⟨Placed.nil _, Placed.nil _, List.nodup_nil, fun h => absurd rfl h, fun h => absurd rfl h, fun h => absurd rfl h, fun _ => rfl, fun i hi => absurd hi (Nat.not_lt_zero i), rfl⟩, rfl⟩
theorem clear_run (w : World) (t : Nat) (cs : List (List E)) (hne : cs ≠ []) (ht : w.heap[t]? = some (rowO 112 cs)) (ty : TypeId) :
    (Builtin.clear_ #[107] ty #[.slice (some ⟨t, 0, none⟩) cs.length cs.length]).run Try.prog w = .ok (.tuple #[]) (w.setCells t 0 (List.replicate cs.length (.pointer none))) :=
  Lib.run_clear_slice w 107 112 ty (.pointer none) Try.underlying107 (fun _ => by kernel_rfl) rfl rfl t 0 cs.length cs.length (List.length_pos_iff.2 hne)
    (fun j hj => by rw [Nat.zero_add, cell_of_blk ht]; simp [hj]) (fun j hj => by rw [Nat.zero_add]; exact free_of_blk ht j)
def ClearMid1 (w : World) (d : Nat) (M : DM) (wc : World) : Prop :=
  wc.heap[d]? = some (fieldsO 109 M) ∧ (M.young ≠ [] → wc.heap[M.tyoung]? = some (rowO 112 M.young)) ∧ Fr (Bs (dictL d M)) w wc
def ClearMid2 (w : World) (d : Nat) (M : DM) (wc : World) : Prop :=
  wc.heap[d]? = some (fieldsO 109 M) ∧ Fr (Bs (dictL d M)) w wc
theorem told_ne {w : World} {d : Nat} {M : DM} (h : DAt w d M) (ho : M.old ≠ []) : M.told ≠ d ∧ (M.young ≠ [] → M.tyoung ≠ M.told ∧ M.tyoung ≠ d) := by
  have hn := h.nd
  unfold dictL dictO at hn
  rw [tabO_of ho] at hn
  obtain ⟨h1, h2⟩ := Nd.cons_iff.1 hn
  refine ⟨fun e => h1 (by rw [e]; exact Bs.append_iff.2 (.inl (Bs.cons_iff.2 (.inl rfl)))), fun hy => ⟨fun e => ?_, fun e => ?_⟩⟩
  · obtain ⟨_, _, h3⟩ := Nd.append_iff.1 h2
    refine h3 M.told (Bs.cons_iff.2 (.inl rfl)) ?_
    rw [tabO_of hy, Bs.cons_iff]; exact .inl e.symm
  · exact h1 (by rw [tabO_of hy, ← e]; exact Bs.append_iff.2 (.inr (Bs.cons_iff.2 (.inl rfl))))
theorem tyoung_ne {w : World} {d : Nat} {M : DM} (h : DAt w d M) (hy : M.young ≠ []) : M.tyoung ≠ d := by
  have hn := h.nd
  unfold dictL dictO at hn
  rw [tabO_of hy] at hn
  obtain ⟨h1, h2⟩ := Nd.cons_iff.1 hn
  exact fun e => h1 (by rw [e]; exact Bs.append_iff.2 (.inr (Bs.cons_iff.2 (.inl rfl))))
theorem clear_mid1 {w : World} {d : Nat} {M : DM} (h : DAt w d M) (ho : M.old ≠ []) (W : World) (hW : W = w.setCells M.told 0 (List.replicate M.old.length (.pointer none))) : ClearMid1 w d M W := by
  have hf := Fr.setCells M.told (List.replicate M.old.length (.pointer none)) 0 w
  rw [← hW] at hf
  obtain ⟨n1, n2⟩ := told_ne h ho
  refine ⟨(hf.block d (h.rep.lt (in_d d M)) (fun e => n1 e.symm)).trans h.rep.head, fun hy => ?_, hf.mono (fun i hi _ => by subst hi; rw [dict_bs]; exact .inr (.inl ⟨ho, rfl⟩))⟩
  have hr := (dict_row_young h.rep hy).1
  exact (hf.block M.tyoung (Array.getElem?_eq_some_iff.1 hr).1 (n2 hy).1).trans hr
theorem clear_mid0 {w : World} {d : Nat} {M : DM} (h : DAt w d M) : ClearMid1 w d M w := ⟨h.rep.head, fun hy => (dict_row_young h.rep hy).1, Fr.refl _ _⟩
theorem clear_mid2 {w wc : World} {d : Nat} {M : DM} (h : DAt w d M) (hm : ClearMid1 w d M wc) (hy : M.young ≠ []) (W : World) (hW : W = wc.setCells M.tyoung 0 (List.replicate M.young.length (.pointer none))) : ClearMid2 w d M W := by
  have hf := Fr.setCells M.tyoung (List.replicate M.young.length (.pointer none)) 0 wc
  rw [← hW] at hf
  have hl : d < wc.heap.size := (Array.getElem?_eq_some_iff.1 hm.1).1
  exact ⟨(hf.block d hl (fun e => tyoung_ne h hy e.symm)).trans hm.1, hm.2.2.trans hf (fun i hi _ => by subst hi; rw [dict_bs]; exact .inr (.inr (.inl ⟨hy, rfl⟩)))⟩
theorem clear_end {w wc : World} {d : Nat} {M : DM} (h : DAt w d M) (hm : ClearMid2 w d M wc) (W : World)
    (hW : W = (((wc.setCell ⟨d, 1, none⟩ (.slice none 0 0)).setCell ⟨d, 2, none⟩ (.slice none 0 0)).setCell ⟨d, 3, none⟩ (.int .i64 0)).setCell ⟨d, 4, none⟩ (.int .i64 0)) : Turn w d M W (clearM M) := by
  have e1 : dictL d (clearM M) = [(d, fieldsO 109 (clearM M))] := by unfold dictL dictO; show _ :: (tabO _ _ _ [] ++ tabO _ _ _ []) = _; rw [tabO_nil, tabO_nil]; rfl
  have r0 : Rep wc [(d, fieldsO 109 M)] := Rep.cons hm.1 (Rep.nil _)
  have hnb : ¬ Bs ([] : Hl) d := fun hb => Bs.nil_iff.1 hb
  have h1 := Rep.setHead (cs := #[.int .u64 (wd M.seed), tv M.told M.old, tv M.tyoung M.young, .int .i64 M.at_, .int .i64 M.n]) r0 1 (.slice none 0 0) hnb
  have h2 := Rep.setHead h1 2 (.slice none 0 0) hnb
  have h3 := Rep.setHead h2 3 (.int .i64 0) hnb
  have h4 := Rep.setHead h3 4 (.int .i64 0) hnb
  refine ⟨⟨?_, ?_, (fun e he => by cases he), (clear_inv M).1, Nat.zero_le _, Nat.zero_le _⟩, ?_, fun k hk => ?_⟩
  · rw [e1, hW]
    refine Rep.cons ?_ (Rep.nil _)
    rw [h4.head]
    unfold fieldsO clearM
    simp [tv_nil]
  · rw [e1]; exact Nd.cons_iff.2 ⟨hnb, List.nodup_nil⟩
  · rw [hW]
    exact (((hm.2.thenSet _ _ (fun _ => in_d d M)).thenSet _ _ (fun _ => in_d d M)).thenSet _ _ (fun _ => in_d d M)).thenSet _ _ (fun _ => in_d d M)
  · rw [e1, Bs.cons_iff] at hk
    rcases hk with rfl | hk
    · exact .inl (in_d _ _)
    · exact absurd hk (fun hb => Bs.nil_iff.1 hb)
set_option maxRecDepth 100000 in
set_option maxHeartbeats 1000000 in
theorem clear_any (w : World) (d : Nat) (M : DM) (h : DAt w d M) :
    Calls Try.prog 25 #[.pointer (some ⟨d, 0, none⟩)] w fun e w' => e = .returned (.tuple #[]) ∧ Turn w d M w' (clearM M) := by
  have hnil : ∀ ty w, (Builtin.clear_ #[107] ty #[.slice none 0 0]).run Try.prog w = .ok (.tuple #[]) w := fun _ _ => by kernel_rfl
  have H := Lib.hid h
  clear h
  go_enter Try.func25, Try.ntmps25
  go_upto_region 1 with (fail)
  go_cut [] from 1 to 100 (fun wc => ClearMid1 w d M wc)
  case first =>
    obtain ⟨f0, f1, f2, f3, f4, f5⟩ := blk_field H.out.rep.head
    clear f0 f2 f3 f4 f5
    by_cases ho : M.old = []
    · rw [ho, tv_nil] at f1
      clear ho
      go_wp2
      go_meet
      case rel => exact clear_mid0 H.out
    · have hrun := fun ty => clear_run w M.told M.old ho (dict_row_old H.out.rep ho).1 ty
      rw [tv_of ho] at f1
      have HO := Lib.hid ho; clear ho
      go_wp2
      go_meet
      case rel => exact clear_mid1 H.out HO.out _ rfl
  case rest =>
    obtain ⟨we, rfl⟩ : ∃ we, we = wc := ⟨_, rfl⟩
    have HC := Lib.hid hcut
    clear hcut
    go_upto_region 2 with (fail)
    go_cut [] from 1 to 100 (fun wc => ClearMid2 w d M wc)
    case first =>
      obtain ⟨f0, f1, f2, f3, f4, f5⟩ := blk_field HC.out.1
      clear f0 f1 f3 f4 f5
      by_cases ho : M.young = []
      · rw [ho, tv_nil] at f2
        clear ho
        go_wp2
        go_meet
        case rel => exact ⟨HC.out.1, HC.out.2.2⟩
      · have hrun := fun ty => clear_run we M.tyoung M.young ho (HC.out.2.1 ho) ty
        rw [tv_of ho] at f2
        have HO := Lib.hid ho; clear ho
        go_wp2
        go_meet
        case rel => exact clear_mid2 H.out HC.out HO.out _ rfl
    case rest =>
      have HD := Lib.hid hcut
      obtain ⟨f0, f1, f2, f3, f4, f5⟩ := blk_field hcut.1
      clear hcut f0 HC
      go_wp2
      go_end0
      exact ⟨rfl, clear_end H.out HD.out _ rfl⟩
end Go.Proofs.Ytkecipdonamjaaa.Di
