/- pantrylaw14's unlike: the first of each key. No condition but its bytes. -/
import Derived.Test.YtpcjogmikgfgdaaSoonC
namespace Go.Proofs.Ytpcjogmikgfgdaa
open Go.RowKit Go.Sort
def hasK (l : List Cd) (k : ByteArray) : Bool := l.any fun c => c.key.toList == k.toList
def unlk : List Cd → List Cd → List Cd
  | acc, [] => acc
  | acc, c :: l => unlk (if hasK acc c.key then acc else acc ++ [c]) l
theorem unlk_snoc (acc l : List Cd) (c : Cd) : unlk acc (l ++ [c]) = if hasK (unlk acc l) c.key then unlk acc l else unlk acc l ++ [c] := by
  induction l generalizing acc with
  | nil => rfl
  | cons a l ih => exact ih _
theorem unlk_len (acc l : List Cd) : (unlk acc l).length ≤ acc.length + l.length := by
  induction l generalizing acc with
  | nil => exact Nat.le_refl _
  | cons a l ih =>
    refine Nat.le_trans (ih _) ?_
    split
    · simp
    · simp; omega
theorem clC_snoc (l : List Cd) (c : Cd) : clC (l ++ [c]) = clC l ++ [.string c.key, .int .u64 c.rank] := by unfold clC; rw [List.flatMap_append, List.flatMap_singleton]; rfl
def UnPost (w : World) (l : List Cd) (e : Ending) (w' : World) : Prop := ∃ v, e = .returned v ∧ w'.ownsRow w.heap.size 73 2 v l.length (clC l) ∧ Below w.heap.size w w'
set_option maxRecDepth 100000 in
set_option maxHeartbeats 4000000 in
theorem unlike_any (w : World) (v : Value) (l : List Cd) (h : RdC w 2 v l.length (clC l)) (hby : l.length * 24 ≤ 140737488355304) :
    Calls Try.prog 45 #[v] w (UnPost w (unlk [] l)) := by
  obtain ⟨i0, hi, hz0, hz1, hz2⟩ := info_parts infoC
  have HI := Lib.hid hi
  have HZ0 := Lib.hid hz0
  have HZ1 := Lib.hid hz1
  have HZ2 := Lib.hid hz2
  have H := Lib.hid h
  obtain ⟨-, a, c, rfl, -⟩ := h
  clear hi hz0 hz1 hz2
  go_enter Try.func45, Try.ntmps45
  go_wp2
  go_loopw [3, 11] (fun vs i wr => ∃ k : Nat, i = .int .i64 k ∧ k ≤ l.length ∧ Hid (wr.ownsRow w.heap.size 73 2 vs (unlk [] (l.take k)).length (clC (unlk [] (l.take k)))) ∧ Hid (Below w.heap.size w wr)) (fun _ i _ => l.length - (intOf i).toNat)
  case atStart => exact ⟨0, rfl, by omega, World.ownsRow_nil _ _ _ _, Below.refl _ _⟩
  case round =>
    obtain ⟨k, rfl, hk, HO, HB⟩ := hrel
    obtain ⟨wo, rfl⟩ : ∃ x, x = wr := ⟨_, rfl⟩
    obtain ⟨S, hS⟩ : ∃ S, unlk [] (l.take k) = S := ⟨_, rfl⟩
    have hsl : S.length ≤ k := by rw [← hS]; refine Nat.le_trans (unlk_len _ _) ?_; simp; omega
    rw [hS] at HO
    have HS := Lib.hid hS
    obtain ⟨sa, sc, rfl⟩ := owns_sliceN HO.out
    clear hS
    by_cases hlt : k < l.length
    · obtain ⟨g, off, rfl, d0, d1⟩ := cd_at (H.out.below HB.out) k hlt
      have hsn : unlk [] (l.take (k + 1)) = if hasK S l[k].key then S else S ++ [l[k]] := by rw [List.take_succ_eq_append_getElem hlt, unlk_snoc, HS.out]
      obtain ⟨x, hx⟩ : ∃ x, l[k] = x := ⟨_, rfl⟩
      rw [hx] at d0 d1 hsn
      have HSN := Lib.hid hsn
      have hb0 : (0 : Int) ≤ (k : Int) := by omega
      have hb1 : (k : Int) < (l.length : Int) := by omega
      obtain ⟨key, rank⟩ := x
      dsimp only at d0 d1
      clear hsn hx
      go_wp2_with fail
      go_loopw [6, 17] (fun b j wr => ∃ n : Nat, j = .int .i64 n ∧ n ≤ S.length ∧ b = .bool (!hasK (S.take n) key) ∧ Hid (Fr (fun _ => False) (wo.alloc (.cells #[.string key, .int .u64 rank] 73)) wr)) (fun _ j _ => S.length - (intOf j).toNat)
      case atStart => exact ⟨0, rfl, by omega, rfl, Fr.refl _ _⟩
      case round =>
        obtain ⟨n, rfl, hn, rfl, HF⟩ := hrel
        obtain ⟨wp, rfl⟩ : ∃ x, x = wr := ⟨_, rfl⟩
        have hbz := alloc_at wo (.cells #[.string key, .int .u64 rank] 73)
        have hbz2 := (HF.out.block _ (Array.getElem?_eq_some_iff.1 hbz).1 (fun h => h)).trans hbz
        have z0 : wp.cell? ⟨wo.heap.size, 0, none⟩ = some (.string key) := cell_of_blk hbz2 0
        have z1 : wp.cell? ⟨wo.heap.size, 1, none⟩ = some (.int .u64 rank) := cell_of_blk hbz2 1
        have hzl : wo.heap.size < wp.heap.size := (Array.getElem?_eq_some_iff.1 hbz2).1
        have HOW : Hid (wp.ownsRow w.heap.size 73 2 (.slice sa S.length sc) S.length (clC S)) := owns_fr HO.out ((Fr.alloc (fun _ => False) wo _).wide HF.out (fun _ h => h.elim)) (fun _ _ h => h)
        clear hbz hbz2
        by_cases hlt2 : n < S.length
        · obtain ⟨g2, o2, rfl, f0, f1⟩ := cd_at (RdC.of_owns HOW.out) n hlt2
          obtain ⟨y, hy⟩ : ∃ y, S[n] = y := ⟨_, rfl⟩
          have hnx : hasK (S.take (n + 1)) key = (hasK (S.take n) key || (y.key.toList == key.toList)) := by
            unfold hasK
            rw [List.take_succ_eq_append_getElem hlt2, List.any_append, hy]
            simp
          rw [hy] at f0 f1
          obtain ⟨yk, yr⟩ := y
          dsimp only at f0 f1 hnx
          have HNX := Lib.hid hnx
          obtain ⟨b, hb⟩ : ∃ b, hasK (S.take n) key = b := ⟨_, rfl⟩
          rw [hb] at HNX ⊢
          have hc0 : (0 : Int) ≤ (n : Int) := by omega
          have hc1 : (n : Int) < (S.length : Int) := by omega
          have HFA := Lib.hid (HF.out.thenAlloc (.cells #[.string yk, .int .u64 yr] 73))
          clear hy hnx hb
          cases b
          · by_cases hq : yk = key
            · have hqb : (yk.toList == key.toList) = true := by rw [str_beq]; simpa using hq
              have HR2 : Hid (hasK (S.take (n + 1)) key = true) := by show _ = _; rw [HNX.out, hqb]; rfl
              have hqt : yk.toList = key.toList := beq_iff_eq.1 hqb
              clear hqb hq
              go_wp2
              go_roundw
              case rel => exact ⟨n + 1, by go_num, by omega, by rw [HR2.out]; rfl, HFA.out⟩
              case measure => simp [intOf]; omega
            · have hqb : (yk.toList == key.toList) = false := by rw [str_beq]; simpa using hq
              have HR2 : Hid (hasK (S.take (n + 1)) key = false) := by show _ = _; rw [HNX.out, hqb]; rfl
              have hqt : ¬ yk.toList = key.toList := beq_eq_false_iff_ne.1 hqb
              have HQB := Lib.hid hqb
              clear hqb hq
              go_wp2
              go_roundw
              case rel => exact ⟨n + 1, by go_num, by omega, by rw [HR2.out, HQB.out], HFA.out⟩
              case measure => simp [intOf]; omega
          · have HR2 : Hid (hasK (S.take (n + 1)) key = true) := by show _ = _; rw [HNX.out]; rfl
            go_wp2
            go_roundw
            case rel => exact ⟨n + 1, by go_num, by omega, by rw [HR2.out]; rfl, HFA.out⟩
            case measure => simp [intOf]; omega
        · obtain rfl : n = S.length := by omega
          rw [List.take_length]
          have HBP : Hid (Below w.heap.size w wp) := (HB.out.alloc HB.out.size _).trans (HF.out.below (by have := HB.out.size; simp; omega) (fun _ h => h.elim))
          obtain ⟨b, hb⟩ : ∃ b, hasK S key = b := ⟨_, rfl⟩
          rw [hb]
          have HHB := Lib.hid hb
          have hbp := HBP.out.size
          clear hb
          cases b
          · have HNX : Hid (unlk [] (l.take (k + 1)) = S ++ [⟨key, rank⟩]) := by
              show _ = _
              rw [HSN.out]
              rw [HHB.out]
              rfl
            go_wp2_with (at_builtin; refine wpList_append_lies _ rfl (.tmp 31) (.tmp 33) 67 rfl w.heap.size 73 i0 (.agg #[.string ⟨#[]⟩, .int .u64 0]) 2 24 Try.underlying67 HI.out HZ0.out HZ1.out HZ2.out rfl (by decide) _ S.length (clC S) rfl (HOW.out.alloc _) ⟨wp.heap.size, 0, none⟩ 1 1 [.string key, .int .u64 rank] rfl rfl (cells_two_new _ _ _ _) (by simp [Value.oneCell']) (by decide) (by unfold maxLen; omega) (by omega) (by simp; omega) (wp.heap.size + 1) (by simp) ?_; intro g3 cap3 w4 hown hgrow hat hlt3; have HO4 := Lib.hid hown; have HB4 := Lib.hid ((HBP.out.alloc HBP.out.size _).grown hgrow (by simp; omega) (fun j hj => (own_blk HOW.out hj).1)); clear hown hgrow hat hlt3)
            go_roundw
            case rel => exact ⟨k + 1, by go_num, by omega, by rw [HNX.out, List.length_append, clC_snoc]; exact HO4.out, HB4.out⟩
            case measure => simp [intOf]; omega
          · have HNX : Hid (unlk [] (l.take (k + 1)) = S) := by
              show _ = _
              rw [HSN.out]
              rw [HHB.out]
              rfl
            go_wp2
            go_roundw
            case rel => exact ⟨k + 1, by go_num, by omega, by rw [HNX.out]; exact HOW.out, HBP.out⟩
            case measure => simp [intOf]; omega
    · obtain rfl : k = l.length := by omega
      have HFIN : Hid (unlk [] l = S) := by have h5 := HS.out; rwa [List.take_length] at h5
      go_wp2
      go_ret
      exact ⟨_, rfl, by rw [HFIN.out]; exact HO.out, HB.out⟩
end Go.Proofs.Ytpcjogmikgfgdaa
