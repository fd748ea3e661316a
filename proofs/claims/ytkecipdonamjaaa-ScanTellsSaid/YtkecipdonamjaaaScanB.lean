/- Scanning where there is nothing to scan; and what each statement of the layer asks first. No condition. -/
import Derived.Test.YtkecipdonamjaaaScanX
import Derived.Test.YtkecipdonamjaaaScanQ
namespace Go.Proofs.Ytkecipdonamjaaa
open Go.RowKit Di
/-- a count above the number of keys: one call tells them all -/
theorem scan_whole {M : DM} (h : Inv M) (ho : M.old ≠ []) (count : Int) (hc : ((entries M).length : Int) < count) : ∃ l, scanK M 0 count = (0, l) ∧ l.Perm ((entries M).map E.key) := by
  have T := tabs h ho (max count 1).toNat
  have hp := seg_all h ho (max count 1).toNat
  unfold scanK
  rw [if_neg ho]
  obtain ⟨B, hB⟩ : ∃ B, scanT M (max count 1).toNat = B := ⟨_, rfl⟩
  have hcnt : B.cnt = (max count 1).toNat := by rw [← hB]; rfl
  rw [hB] at T hp ⊢
  have hJ : 0 < B.J := Nat.two_pow_pos _
  obtain ⟨j, h1, h2, h3, h4⟩ := B.nxt_seg T.le _ 0 rfl hJ []
  rw [Nat.zero_mul, tr_zero, List.nil_append] at h3
  rw [List.nil_append] at h4
  have hlen : (B.seg 0 j).length ≤ (B.seg 0 B.J).length := by rw [B.seg_append (Nat.zero_le j) h2, List.length_append]; omega
  have hall : (B.seg 0 B.J).length = (entries M).length := by rw [hp.length_eq, List.length_map]
  have hj : j = B.J := by
    by_cases hlt : j < B.J
    · have := h4 hlt; omega
    · omega
  subst hj
  rw [h3]
  refine ⟨_, ?_, hp⟩
  unfold TB.cur
  rw [if_pos rfl]
theorem old_ne {M : DM} (h : Inv M) (hn : entries M ≠ []) : M.old ≠ [] := by
  intro ho
  have hy : M.young = [] := by
    by_cases hy : M.young = []
    · exact hy
    · have := h.moving hy; rw [ho] at this; simp at this
  refine hn ?_
  unfold entries
  rw [ho, hy]
  rfl
/-- a list with one key: its scan -/
theorem scan_one {M : DM} {k : ByteArray} {x : Int} (h : Like M [(k, x)]) (count : Int) (hc : 1 < count) : scanK M 0 count = (0, [k]) := by
  have hlen : (entries M).length = 1 := by rw [← h.inv.count]; exact h.count
  obtain ⟨l, h1, h2⟩ := scan_whole h.inv (old_ne h.inv (fun e => by rw [e] at hlen; cases hlen)) count (by omega)
  have h3 : (entries M).map E.key = [k] := by
    have h4 := h.perm.map (·.1)
    rw [tb_keys] at h4
    exact List.perm_singleton.1 h4
  rw [h3] at h2
  rw [h1, List.perm_singleton.1 h2]
theorem newS_any (seed : UInt64) (w : World) : Calls Try.prog 37 #[.int .u64 (wd seed)] w fun e w' =>
    e = .returned (ptr w.heap.size) ∧ w.alloc (fieldsO 123 ⟨seed, 0, [], 0, [], 0, 0⟩) = w' := by
  go_enter Try.func37, Try.ntmps37
  go_wp2
  go_ret
  exact ⟨rfl, rfl⟩
theorem sizesS_none (w : World) : Calls Try.prog 45 #[.pointer none] w fun x w' => x = .returned (.tuple #[.int .i64 0, .int .i64 0, .int .i64 0]) ∧ ∃ m, w' = w.drewN m := by
  go_enter Try.func45, Try.ntmps45
  go_wp2
  go_ret3
  exact ⟨rfl, 0, rfl⟩
theorem sizesS_new (w : World) (d : Nat) (seed : UInt64) (h : w.heap[d]? = some (fieldsO 123 ⟨seed, 0, [], 0, [], 0, 0⟩)) :
    Calls Try.prog 45 #[.pointer (some ⟨d, 0, none⟩)] w fun x w' => x = .returned (.tuple #[.int .i64 0, .int .i64 0, .int .i64 0]) ∧ ∃ m, w' = w.drewN m := by
  have f1 : w.cell? ⟨d, 1, none⟩ = some (.slice none 0 0) := cell_of_blk h 1
  have f2 : w.cell? ⟨d, 2, none⟩ = some (.slice none 0 0) := cell_of_blk h 2
  have f3 : w.cell? ⟨d, 3, none⟩ = some (.int .i64 0) := cell_of_blk h 3
  clear h
  go_enter Try.func45, Try.ntmps45
  go_wp2
  go_quiet (fail)
  go_wp2
  go_ret3
  exact ⟨rfl, nq, rfl⟩
theorem nextS_any (w : World) (p : Value) (x count : Int) (h : ∀ W : World, (∃ a b, W = (w.alloc a).alloc b) → Calls Try.prog 45 #[p] W fun x w' => x = .returned (.tuple #[.int .i64 0, .int .i64 0, .int .i64 0]) ∧ ∃ m, w' = W.drewN m)
    (hp : ∃ a, p = .pointer a) :
    Calls Try.prog 36 #[p, .int .u64 x, .int .i64 count] w fun e w' => e = .returned (.tuple #[.int .u64 0, .slice none 0 0]) ∧ Below w.heap.size w w' := by
  obtain ⟨a, rfl⟩ := hp
  have HSZ := Lib.hid h
  clear h
  go_enter Try.func36, Try.ntmps36
  go_wp2_with fail
  refine (HSZ.out _ ⟨_, _, rfl⟩).mono ?_
  rintro e w1 ⟨rfl, m1, rfl⟩
  go_wp2_with fail
  go_ret2
  exact ⟨rfl, (((Below.refl _ _).alloc (Nat.le_refl _) _).alloc (by simp) _).trans ((Fr.drewN (fun _ => False) _ m1).below (by simp; omega) (fun _ h => h.elim))⟩
set_option maxRecDepth 100000 in
theorem wakes6_any (w : World) : Calls Try.prog 38 #[] w fun e w' => e = .returned (.bool true) ∧ Below w.heap.size w w' := by
  have hk : (⟨#[107]⟩ : ByteArray).size ≤ maxLen := by decide
  go_enter Try.func38, Try.ntmps38
  go_wp2_with fail
  refine (new_like _ 7 7 rfl).mono ?_
  rintro e w0 ⟨d, M0, rfl, D0, L0, -, -, -, -, HB0, hb0⟩
  have HBW := Lib.hid hb0
  clear hb0
  go_wp2_with fail
  refine (set_like _ d _ [] ⟨#[107]⟩ 1 hk D0 L0 (by decide)).mono ?_
  rintro e w1 ⟨rfl, M1, T1, L1, _⟩
  have H1 := Lib.hid T1
  have hone := scan_one L1 100 (by decide)
  have hn1 : M1.n ≤ 2199023255552 := by rw [L1.count]; decide
  have HNX := next_any w1 d M1 0 100 T1.at_ hn1 (by decide) (by decide)
  rw [show (0 : UInt64).toNat = 0 from rfl, hone] at HNX
  have HNX2 := Lib.hid HNX
  have HD1 := Lib.hid T1.at_
  clear D0 L0 T1 L1 hone HNX
  go_wp2_with fail
  refine HNX2.out.mono ?_
  rintro e w2 ⟨v, rfl, hrow, hb2⟩
  have HROW := Lib.hid hrow
  have HB2 := Lib.hid hb2
  obtain ⟨g, cap, rfl, hc0⟩ : ∃ g cap, v = .slice (some ⟨g, 0, none⟩) 1 cap ∧ w2.cell? ⟨g, 0, none⟩ = some (.string ⟨#[107]⟩) := by
    have h0 := hrow
    rcases hrow.2 with ⟨_, hz⟩ | ⟨g, cap, cur, rfl, hb, hg, hnc, hcm, hcs, htake⟩
    · cases hz
    · exact ⟨g, cap, rfl, h0.cells rfl 0 _ rfl⟩
  clear hrow hb2
  go_wp2_with fail
  refine (after_lit 0 0 4 8 w2 (by decide) rfl (by decide)).mono ?_
  rintro e w' ⟨rfl, rfl⟩
  go_wp2
  go_ret
  refine ⟨rfl, ?_⟩
  have F := H1.out.fr
  have b1 : Below w.heap.size w w1 := HBW.out.trans (F.below HBW.out.size HB0.out)
  exact b1.trans (HB2.out.mono b1.size)
end Go.Proofs.Ytkecipdonamjaaa
