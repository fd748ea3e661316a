/- The walk of package dict's Set at int. -/
import Derived.Test.YtkecipdonamjaaaDiW4
import Derived.Test.YtkecipdonamjaaaMake
import Derived.Test.YtkecipdonamjaaaDictP
import Derived.Laws.NewBlocks
namespace Go.Proofs.Ytkecipdonamjaaa.Di
open Go.RowKit

theorem put_dat {w : World} {d : Nat} {M : DM} (h : DAt w d M) (key : ByteArray) :
    (findA M key = none ∧ ∀ v, putM M key v = none) ∨ ∃ A e nx, findA M key = some A ∧ w.cell? A = some (.pointer (some ⟨e.b, 0, none⟩)) ∧ w.heap[e.b]? = some (entryObj 114 e nx) ∧ e.val.length = 1 ∧ Bs (dictL d M) e.b ∧
      ∀ x, ∃ N, putM M key (e.val.set 0 x) = some N ∧ DAt (w.setCell ⟨e.b, 1, none⟩ x) d N := by
  cases h1 : locT M.seed M.old key with
  | some y =>
    right
    obtain ⟨i, pre, e, post⟩ := y
    obtain ⟨c1, c2, c3, c4⟩ := loc_cells (d := d) (tab_old h) h1
    obtain ⟨g1, g2, g3, g4⟩ := locT_some h1
    obtain ⟨hpe, hqe⟩ := entries_old M key i pre post e h1
    have hmem : e ∈ entries M := hpe.mem_iff.2 (by simp)
    have hz := h.sz e hmem
    refine ⟨linkA M.told i pre, e, hp post, by unfold findA; rw [h1], c1, c2, hz.1, ?_, fun x => ?_⟩
    · rw [dict_bs]; exact .inr (.inr (.inr (List.mem_map_of_mem hmem)))
    · have hN : putM M key (e.val.set 0 x) = some { M with old := putT M.old i pre e post (e.val.set 0 x) } := by unfold putM; rw [h1]
      refine ⟨_, hN, ?_⟩
      obtain ⟨i1, i2, i3, i4, i5, i6, i7, i8, i9, i10⟩ := inv_put h.inv key _ hN
      have hne : ({ M with old := putT M.old i pre e post (e.val.set 0 x) } : DM).old ≠ [] := len_ne i4.symm c4
      obtain ⟨r1, r2⟩ := tab_val (h.rep.perm (dictL_old d M c4)) (h.nd.perm (dictL_old d M c4)) g2 0 x (by omega)
      have hf := fields_len M { M with old := putT M.old i pre e post (e.val.set 0 x) } i6 i9 i4 i10 i5 i8 i7
      have hL := dictL_old d { M with old := putT M.old i pre e post (e.val.set 0 x) } hne
      rw [hf] at hL
      refine ⟨r1.perm hL.symm, r2.perm hL.symm, fun z hz' => ?_, i1, by rw [i4]; exact h.lold, by rw [i5]; exact h.lyoung⟩
      rcases List.mem_cons.1 ((hqe _).mem_iff.1 hz') with rfl | hz'
      · exact ⟨by simp only [List.length_set]; exact hz.1, hz.2⟩
      · exact h.sz z (hpe.mem_iff.2 (by simp [hz']))
  | none =>
    cases h2 : locT M.seed M.young key with
    | none => exact .inl ⟨by unfold findA; rw [h1, h2]; rfl, fun v => by unfold putM; rw [h1, h2]⟩
    | some y =>
      right
      obtain ⟨i, pre, e, post⟩ := y
      obtain ⟨c1, c2, c3, c4⟩ := loc_cells (d := d) (tab_young h) h2
      obtain ⟨g1, g2, g3, g4⟩ := locT_some h2
      obtain ⟨hpe, hqe⟩ := entries_young M key i pre post e h2
      have hmem : e ∈ entries M := hpe.mem_iff.2 (by simp)
      have hz := h.sz e hmem
      refine ⟨linkA M.tyoung i pre, e, hp post, by unfold findA; rw [h1, h2]; rfl, c1, c2, hz.1, ?_, fun x => ?_⟩
      · rw [dict_bs]; exact .inr (.inr (.inr (List.mem_map_of_mem hmem)))
      · have hN : putM M key (e.val.set 0 x) = some { M with young := putT M.young i pre e post (e.val.set 0 x) } := by unfold putM; rw [h1, h2]
        refine ⟨_, hN, ?_⟩
        obtain ⟨i1, i2, i3, i4, i5, i6, i7, i8, i9, i10⟩ := inv_put h.inv key _ hN
        have hne : ({ M with young := putT M.young i pre e post (e.val.set 0 x) } : DM).young ≠ [] := len_ne i5.symm c4
        have hr := h.rep
        have hn := h.nd
        rw [dictL_young d M c4] at hr hn
        obtain ⟨r1, r2⟩ := tab_val hr hn g2 0 x (by omega)
        have hf := fields_len M { M with young := putT M.young i pre e post (e.val.set 0 x) } i6 i9 i4 i10 i5 i8 i7
        have hL := dictL_young d { M with young := putT M.young i pre e post (e.val.set 0 x) } hne
        rw [hf] at hL
        refine ⟨by rw [hL]; exact r1, by rw [hL]; exact r2, fun z hz' => ?_, i1, by rw [i4]; exact h.lold, by rw [i5]; exact h.lyoung⟩
        rcases List.mem_cons.1 ((hqe _).mem_iff.1 hz') with rfl | hz'
        · exact ⟨by simp only [List.length_set]; exact hz.1, hz.2⟩
        · exact h.sz z (hpe.mem_iff.2 (by simp [hz']))
/-- what a call on a dict makes of memory: the dict is another one, in its own blocks and new ones -/
structure Turn (w : World) (d : Nat) (M : DM) (w' : World) (M' : DM) : Prop where
  at_ : DAt w' d M'
  fr : Fr (Bs (dictL d M)) w w'
  bs : ∀ k, Bs (dictL d M') k → Bs (dictL d M) k ∨ w.heap.size ≤ k
theorem Turn.trans {a b c : World} {d : Nat} {M N K : DM} (h : Turn a d M b N) (k : Turn b d N c K) : Turn a d M c K :=
  ⟨k.at_, h.fr.wide k.fr h.bs, fun i hi => (k.bs i hi).elim (h.bs i) (fun hl => .inr (Nat.le_trans h.fr.size hl))⟩
theorem Turn.refl {w : World} {d : Nat} {M : DM} (h : DAt w d M) : Turn w d M w M := ⟨h, Fr.refl _ _, fun _ h => .inl h⟩
theorem DAt.fr {w w' : World} {S : Nat → Prop} {d : Nat} {M : DM} (h : DAt w d M) (hf : Fr S w w') (hd : ∀ k, Bs (dictL d M) k → ¬ S k) : DAt w' d M :=
  ⟨h.rep.fr hf hd, h.nd, h.sz, h.inv, h.lold, h.lyoung⟩
theorem DAt.drewN {w : World} {d : Nat} {M : DM} (h : DAt w d M) (n : Nat) : DAt (w.drewN n) d M := ⟨h.rep.drewN n, h.nd, h.sz, h.inv, h.lold, h.lyoung⟩
theorem DAt.drew {w : World} {d : Nat} {M : DM} (h : DAt w d M) : DAt w.drew d M := ⟨h.rep.drew, h.nd, h.sz, h.inv, h.lold, h.lyoung⟩
theorem step_turn (w : World) (d : Nat) (M : DM) (h : DAt w d M) :
    Calls Try.prog 63 #[.pointer (some ⟨d, 0, none⟩)] w fun x w' => x = .returned (.tuple #[]) ∧ Turn w d M w' (stepM M) :=
  (step_any w d M h).mono fun _ _ ⟨h1, h2, h3⟩ => ⟨h1, h2, h3, fun k hk => .inl (step_bs d M h.inv k hk)⟩
theorem get_turn (w : World) (d : Nat) (M : DM) (key : ByteArray) (hs : key.size ≤ maxLen) (h : DAt w d M) :
    Calls Try.prog 23 #[.pointer (some ⟨d, 0, none⟩), .string key] w fun x w' =>
      x = .returned (gotV (getM (stepM M) key)) ∧ Turn w d M w' (stepM M) :=
  (get_any w d M key hs h).mono fun _ _ ⟨h1, h2, h3⟩ => ⟨h1, h2, h3, fun k hk => .inl (step_bs d M h.inv k hk)⟩
/-- memory in which a dict's second half of Set begins: it has buckets, and the key is not there -/
theorem grow_dat {w w' : World} {d : Nat} {M : DM} (h : DAt w d M) (hn : M.n < 17592186044416) (t : Nat)
    (rep : Rep w' (dictL d (growM M t))) (nd : Nd (dictL d (growM M t))) : DAt w' d (growM M t) := by
  obtain ⟨g1, g2, g3, g4, g5⟩ := grow_inv h.inv t
  refine ⟨rep, nd, fun e he => h.sz e (by rw [g2] at he; exact he), g1, ?_, ?_⟩
  · unfold growM
    split
    · simp
    · split
      · exact h.lold
      · exact h.lold
  · unfold growM
    split
    · exact h.lyoung
    · split
      · simp only [List.length_replicate]; omega
      · exact h.lyoung
theorem moving_q (w : World) (n d t : Nat) (cs : List (List E)) (b : Bool) (hb : decide (cs ≠ []) = b) (hl : cs.length ≤ 9223372036854775807) (h : w.cell? ⟨d, 2, none⟩ = some (tv t cs)) :
    Calls Try.prog 65 #[.pointer (some ⟨d, 0, none⟩)] (w.drewN n) fun e w'' => e = .returned (.bool b) ∧ ∃ m, w'' = w.drewN m :=
  (moving_any (w.drewN n) d t cs hl h).mono fun _ _ ⟨h1, h2⟩ => ⟨by rw [h1, hb], n, h2.symm⟩
theorem put_bs {M N : DM} (d : Nat) (h : Inv M) (key : ByteArray) (v : List Value) (hN : putM M key v = some N) (k : Nat) (hk : Bs (dictL d N) k) : Bs (dictL d M) k := by
  obtain ⟨i1, i2, i3, i4, i5, i6, i7, i8, i9, i10⟩ := inv_put h key v hN
  rw [dict_bs] at hk ⊢
  rw [(put_blocks key v hN).mem_iff, i9, i10] at hk
  rcases hk with h1 | ⟨h1, h2⟩ | ⟨h1, h2⟩ | h1
  · exact .inl h1
  · exact .inr (.inl ⟨len_ne i4 h1, h2⟩)
  · exact .inr (.inr (.inl ⟨len_ne i5 h1, h2⟩))
  · exact .inr (.inr (.inr h1))
theorem has_put {M N : DM} (h : Inv M) (key : ByteArray) (v : List Value) (hN : putM (stepM M) key v = some N) : hasK (tb M) key = true := by
  obtain ⟨_, _, ⟨u, hu⟩, _⟩ := inv_put (inv_step M h) key v hN
  rw [← hasK_perm (tb_perm (step_perm M h))]
  simp only [hasK, List.any_eq_true, decide_eq_true_eq]
  exact ⟨_, hu, rfl⟩
theorem hasnt_of {M : DM} (h : Inv M) (key : ByteArray) (hn : ∀ e ∈ entries (stepM M), e.key ≠ key) : hasK (tb M) key = false := by
  rw [← hasK_perm (tb_perm (step_perm M h)), Bool.eq_false_iff]
  simp only [hasK, ne_eq, List.any_eq_true, decide_eq_true_eq, not_exists, not_and]
  intro x hx
  obtain ⟨e, he, rfl⟩ := List.mem_map.1 hx
  exact hn e he
/-- where the walk goes on behind growing -/
def GrowPost (w : World) (d : Nat) (M : DM) (wc : World) : Prop := ∃ t, Turn w d M wc (growM M t)
theorem grow_bs {G : DM} (h : Inv G) (d t k : Nat) (hk : Bs (dictL d (growM G t)) k) : Bs (dictL d G) k ∨ k = t := by
  obtain ⟨_, g2, _⟩ := grow_inv h t
  rw [dict_bs] at hk ⊢
  rw [g2] at hk
  unfold growM at hk
  by_cases ho : G.old = []
  · rw [if_pos ho] at hk
    rcases hk with h1 | ⟨_, h2⟩ | ⟨h1, h2⟩ | h1
    · exact .inl (.inl h1)
    · exact .inr h2
    · exact .inl (.inr (.inr (.inl ⟨h1, h2⟩)))
    · exact .inl (.inr (.inr (.inr h1)))
  · rw [if_neg ho] at hk
    by_cases hc : G.young = [] ∧ G.old.length ≤ G.n
    · rw [if_pos hc] at hk
      rcases hk with h1 | ⟨h1, h2⟩ | ⟨_, h2⟩ | h1
      · exact .inl (.inl h1)
      · exact .inl (.inr (.inl ⟨h1, h2⟩))
      · exact .inr h2
      · exact .inl (.inr (.inr (.inr h1)))
    · rw [if_neg hc] at hk; exact .inl hk
theorem in_d (d : Nat) (M : DM) : Bs (dictL d M) d := Bs.cons_iff.2 (.inl rfl)
theorem grow_turn1 {w : World} {d : Nat} {G : DM} (h : DAt w d G) (hn : G.n < 17592186044416) (ho : G.old = []) (W : World)
    (hW : W = (w.setCell ⟨d, 1, none⟩ (.slice (some ⟨w.heap.size, 0, none⟩) 4 4)).alloc (.cells #[.pointer none, .pointer none, .pointer none, .pointer none] 112)) : GrowPost w d G W := by
  rw [← World.setCell_alloc_past _ _ _ _ (h.rep.lt (in_d d G))] at hW
  have hg : growM G w.heap.size = { G with old := List.replicate 4 [], told := w.heap.size } := by unfold growM; rw [if_pos ho]
  obtain ⟨r1, r2⟩ := grow_old (n := 4) h.rep h.nd ho (by decide) rfl
  refine ⟨w.heap.size, grow_dat h hn _ ?_ ?_, ?_, fun k hk => (grow_bs h.inv d _ k hk).imp id (fun e => by rw [e]; exact Nat.le_refl _)⟩
  · rw [hg, hW]; exact r1
  · rw [hg]; exact r2
  · rw [hW]
    exact (Fr.alloc _ _ _).thenSet _ _ (fun _ => in_d d G)
theorem grow_turn2 {w : World} {d : Nat} {G : DM} (h : DAt w d G) (hn : G.n < 17592186044416) (ho : G.old ≠ []) (hy : G.young = []) (hl : G.old.length ≤ G.n) (W : World) (m : Nat)
    (hW : W = ((w.drewN m).alloc (.cells (Array.replicate (2 * G.old.length) (.pointer none)) 112)).setCell ⟨d, 2, none⟩ (.slice (some ⟨w.heap.size, 0, none⟩) (2 * G.old.length) (2 * G.old.length))) : GrowPost w d G W := by
  rw [show Array.replicate (2 * G.old.length) (Value.pointer none) = (List.replicate (2 * G.old.length) (Value.pointer none)).toArray by simp] at hW
  have hg : growM G w.heap.size = { G with young := List.replicate (2 * G.old.length) [], tyoung := w.heap.size } := by unfold growM; rw [if_neg ho, if_pos ⟨hy, hl⟩]
  have hpos := List.length_pos_iff.2 ho
  obtain ⟨r1, r2⟩ := grow_young (w := w.drewN m) (n := 2 * G.old.length) (h.rep.drewN m) h.nd hy (by omega) rfl
  refine ⟨w.heap.size, grow_dat h hn _ ?_ ?_, ?_, fun k hk => (grow_bs h.inv d _ k hk).imp id (fun e => by rw [e]; exact Nat.le_refl _)⟩
  · rw [hg, hW]; exact r1
  · rw [hg]; exact r2
  · rw [hW]
    exact (((Fr.refl _ w).thenDrewN m).thenAlloc _).thenSet _ _ (fun _ => in_d d G)
theorem grow_turn0 {w : World} {d : Nat} {G : DM} (h : DAt w d G) (ho : G.old ≠ []) (hl : ¬ (G.young = [] ∧ G.old.length ≤ G.n)) (W : World) (m : Nat) (hW : W = w.drewN m) : GrowPost w d G W := by
  have hg : growM G 0 = G := by unfold growM; rw [if_neg ho, if_neg hl]
  refine ⟨0, ?_⟩
  rw [hg, hW]
  exact ⟨h.drewN m, (Fr.refl _ w).thenDrewN m, fun k hk => .inl hk⟩
theorem add_turn {w : World} {d : Nat} {K K5 : DM} (h : DAt w d K) (hne : K.old ≠ []) (e : E) (heb : e.b = w.heap.size) (hz : e.val.length = 1 ∧ e.key.size ≤ maxLen) (hk : ∀ y ∈ entries K, y.key ≠ e.key)
    {w5 : World} (R5 : Rep w5 (dictL d K5)) (N5 : Nd (dictL d K5)) (hK5 : addM K e = { K5 with n := K.n + 1 }) (fr5 : Fr (Bs (dictL d K)) w w5) (bs5 : ∀ k, Bs (dictL d K5) k → Bs (dictL d K) k ∨ w.heap.size ≤ k)
    (W : World) (hW : W = w5.setCell ⟨d, 4, none⟩ (.int .i64 ((K.n + 1 : Nat) : Int))) : Turn w d K W (addM K e) := by
  obtain ⟨a1, a2⟩ := add_inv h.inv hne e hk
  have hl := add_lens K e
  refine ⟨⟨?_, ?_, fun y hy => ?_, a1, by rw [hl.1]; exact h.lold, by rw [hl.2.1]; exact h.lyoung⟩, ?_, ?_⟩
  · rw [hK5, hW]; exact dict_n R5 N5 (K.n + 1)
  · rw [hK5]; exact nd_at N5 K5.at_ (K.n + 1)
  · rcases List.mem_cons.1 (a2.mem_iff.1 hy) with rfl | hy
    · exact hz
    · exact h.sz y hy
  · rw [hW]; exact fr5.thenSet _ _ (fun _ => in_d d K)
  · rw [hK5]; exact bs5
end Go.Proofs.Ytkecipdonamjaaa.Di
