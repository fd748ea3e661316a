/- The tables and the keys of a dictionary, as layer 6's statements gather them. No condition. -/
import Derived.Test.YtkecipdonamjaaaScanC
import Derived.Test.YtkecipdonamjaaaScanR
namespace Go.Proofs.Ytkecipdonamjaaa
open Go.ChangeShapes Go.WideShapes Go.ChangeAt Go.RowKit Di
theorem info_strs : (Try.prog.info? 47).map (fun i => (i.zero, i.size, i.bytes)) = some (some (.slice none 0 0), 1, 24) := by kernel_rfl
theorem fr_bel {w w' : World} (hb : Below w.heap.size w w') : Fr (fun _ => False) w w' := ⟨hb.os, hb.tape, hb.output, hb.size, fun k hk _ => hb.block k hk⟩
/-- a list of lists of texts, each a row of its own -/
structure TabV (B : Nat) (w : World) (v : Value) (Ls : List (List ByteArray)) (vals : List Value) : Prop where
  row : w.ownsRow B 47 1 v Ls.length vals
  len : vals.length = Ls.length
  one : ∀ u ∈ vals, u.oneCell' = true
  rows : ∀ (i : Nat) (u : Value) (l : List ByteArray), vals[i]? = some u → Ls[i]? = some l → RowS B w u l
theorem TabV.nil (B : Nat) (w : World) : TabV B w (.slice none 0 0) [] [] := ⟨World.ownsRow_nil _ _ _ _, rfl, (fun u h => by cases h), (fun i u l h _ => by cases i <;> cases h)⟩
theorem TabV.fr {B : Nat} {w w' : World} {v : Value} {Ls : List (List ByteArray)} {vals : List Value} (h : TabV B w v Ls vals) (hf : Fr (fun _ => False) w w') : TabV B w' v Ls vals :=
  ⟨owns_fr h.row hf (fun _ _ h => h), h.len, h.one, fun i u l h1 h2 => owns_fr (h.rows i u l h1 h2) hf (fun _ _ h => h)⟩
theorem TabV.mono {B B' : Nat} {w : World} {v : Value} {Ls : List (List ByteArray)} {vals : List Value} (h : TabV B w v Ls vals) (hB : B' ≤ B) : TabV B' w v Ls vals := by
  have key : ∀ {e : TypeId} {v : Value} {n : Nat} {xs : List Value}, w.ownsRow B e 1 v n xs → w.ownsRow B' e 1 v n xs := fun hr => by
    rcases hr with ⟨h1, h2 | ⟨g, cap, cur, rfl, hb, hg, hnc, hcm, hcs, htake⟩⟩
    · exact ⟨h1, .inl h2⟩
    · exact ⟨h1, .inr ⟨g, cap, cur, rfl, Nat.le_trans hB hb, hg, hnc, hcm, hcs, htake⟩⟩
  exact ⟨key h.row, h.len, h.one, fun i u l h1 h2 => key (h.rows i u l h1 h2)⟩
/-- one list more -/
theorem TabV.snoc {B : Nat} {w w' : World} {v v' u : Value} {Ls : List (List ByteArray)} {vals : List Value} {l : List ByteArray} (h : TabV B w v Ls vals) (hu : RowS B w u l) (h1 : u.oneCell' = true) (hg : w.grownBy w' v.ownBlock)
    (hr : w'.ownsRow B 47 1 v' (Ls.length + 1) (vals ++ [u])) : TabV B w' v' (Ls ++ [l]) (vals ++ [u]) := by
  have hf := Fr.of_grownBy hg
  have hlen := h.len
  refine ⟨by rw [List.length_append]; exact hr, by simp [hlen], fun x hx => ?_, fun i x m hx hm => ?_⟩
  · rcases List.mem_append.1 hx with hx | hx
    · exact h.one x hx
    · rw [List.mem_singleton.1 hx]; exact h1
  · have old : ∀ {x : Value} {m : List ByteArray}, RowS B w x m → RowS B w' x m := fun hrow => owns_fr hrow hf (fun g hg1 hg2 => rows_apart hrow h.row (by decide) g hg1 hg2)
    by_cases hi : i < vals.length
    · rw [List.getElem?_append_left hi] at hx
      rw [List.getElem?_append_left (by omega)] at hm
      exact old (h.rows i x m hx hm)
    · rw [List.getElem?_append_right (by omega)] at hx
      rw [List.getElem?_append_right (by omega)] at hm
      rw [hlen] at hx
      obtain ⟨hk, rfl⟩ := List.getElem?_eq_some_iff.1 hx
      obtain ⟨hk2, rfl⟩ := List.getElem?_eq_some_iff.1 hm
      simp only [List.length_singleton] at hk
      have : i - Ls.length = 0 := by omega
      simp only [this, List.getElem_cons_zero]
      exact old hu
/-- the list at a place -/
theorem TabV.at {B : Nat} {w : World} {a : Option Addr} {cap n : Nat} {Ls : List (List ByteArray)} {vals : List Value} (h : TabV B w (.slice a n cap) Ls vals) (k : Nat) (hk : k < Ls.length) :
    ∃ g u, a = some ⟨g, 0, none⟩ ∧ w.cell? ⟨g, k, none⟩ = some u ∧ RowS B w u Ls[k] := by
  have h0 := h.row
  have hl := h.len
  rcases h.row.2 with ⟨_, hz⟩ | ⟨g, cap', cur, hv, _, _, _, _, _, _⟩
  · omega
  · cases hv
    have hu : vals[k]? = some vals[k] := List.getElem?_eq_getElem (by omega)
    have hc := h0.cells rfl k _ hu
    rw [Addr.add_lit, Nat.zero_add] at hc
    exact ⟨g, _, rfl, hc, h.rows k _ _ hu (List.getElem?_eq_getElem hk)⟩
/-- a dictionary's buckets -/
def bkts (M : DM) (t n : Nat) : List (List ByteArray) := (List.range n).map fun i : Nat => bucketK M (t : Int) (i : Int)
theorem bkts_len (M : DM) (t n : Nat) : (bkts M t n).length = n := by simp [bkts]
theorem bkts_succ (M : DM) (t n : Nat) : bkts M t (n + 1) = bkts M t n ++ [bucketK M (t : Int) (n : Int)] := by unfold bkts; rw [List.range_succ, List.map_append]; rfl
theorem bkts_flat (M : DM) (t : Nat) (ht : t = 0 ∨ t = 1) : (bkts M t (tabOf M (t : Int)).length).flatten = (tabOf M (t : Int)).flatten.map E.key := by
  rw [← flat_keys M t ht]; unfold bkts; rw [List.flatMap_def]
structure Ts1 (w0 w : World) (d : Nat) (M : DM) (v1 : Value) (n1 : Nat) : Prop where
  dat : DAt w d M
  bel : Below w0.heap.size w0 w
  one : ∃ x, TabV w0.heap.size w v1 (bkts M 0 n1) x
theorem Ts1.fr {w0 w w' : World} {d n1 : Nat} {M : DM} {v1 : Value} (h : Ts1 w0 w d M v1 n1) (hf : Fr (fun _ => False) w w') : Ts1 w0 w' d M v1 n1 :=
  ⟨h.dat.fr hf (fun _ _ h => h), h.bel.trans (hf.below h.bel.size (fun _ h => h.elim)), h.one.imp fun _ h => h.fr hf⟩
structure Ts (w0 w : World) (B : Nat) (d : Nat) (M : DM) (v1 : Value) (n1 : Nat) (v2 : Value) (n2 : Nat) : Prop extends Ts1 w0 w d M v1 n1 where
  two : ∃ x, TabV B w v2 (bkts M 1 n2) x
  lo : w0.heap.size ≤ B
  hi : B ≤ w.heap.size
  dis : ∀ g, v1.ownBlock = some g → g < B
theorem Ts.fr {w0 w w' : World} {B d n1 n2 : Nat} {M : DM} {v1 v2 : Value} (h : Ts w0 w B d M v1 n1 v2 n2) (hf : Fr (fun _ => False) w w') : Ts w0 w' B d M v1 n1 v2 n2 :=
  ⟨h.toTs1.fr hf, h.two.imp fun _ h => h.fr hf, h.lo, Nat.le_trans h.hi hf.size, h.dis⟩
theorem TabV.keep {B : Nat} {w w' : World} {v : Value} {Ls : List (List ByteArray)} {vals : List Value} (h : TabV B w v Ls vals) {S : Nat → Prop} (hf : Fr S w w') (h1 : ∀ g, v.ownBlock = some g → ¬ S g)
    (h2 : ∀ (i : Nat) (u : Value), vals[i]? = some u → ∀ g, u.ownBlock = some g → ¬ S g) : TabV B w' v Ls vals :=
  ⟨owns_fr h.row hf h1, h.len, h.one, fun i u l hu hl => owns_fr (h.rows i u l hu hl) hf (h2 i u hu)⟩
theorem dat_apart {w : World} {d : Nat} {M : DM} (h : DAt w d M) {B : Nat} {v : Value} {n : Nat} {xs : List Value} (hr : w.ownsRow B 47 1 v n xs) : ∀ g, v.ownBlock = some g → ¬ Bs (dictL d M) g :=
  row_apart h hr (by decide)
set_option maxRecDepth 100000 in
set_option maxHeartbeats 4000000 in
theorem tables_any (w : World) (d : Nat) (M : DM) (h : DAt w d M) (hn : M.n ≤ 2199023255552) (ho : M.old.length ≤ 4194304) (hy : M.young.length ≤ 4194304) :
    Calls Try.prog 51 #[.pointer (some ⟨d, 0, none⟩)] w fun e w' => ∃ v1 v2, e = .returned (.tuple #[v1, v2]) ∧ ∃ B, Ts w w' B d M v1 M.old.length v2 M.young.length := by
  have H := Lib.hid h
  have HSZ := Lib.hid (Di.sizes_any w d M h)
  have HBK := Lib.hid (fun (W : World) (h : DAt W d M) (t i : Int) => Di.bucket_any W d M t i h (by omega))
  obtain ⟨A, hA⟩ : ∃ n, M.old.length = n := ⟨_, rfl⟩
  obtain ⟨Y, hY⟩ : ∃ n, M.young.length = n := ⟨_, rfl⟩
  rw [hA] at HSZ ho ⊢
  rw [hY] at HSZ hy ⊢
  obtain ⟨i0, hi, hz0, hz1, hz2⟩ := info_parts info_strs
  have HI := Lib.hid hi
  have HZ0 := Lib.hid hz0
  have HZ1 := Lib.hid hz1
  have HZ2 := Lib.hid hz2
  clear h hA hY hi hz0 hz1 hz2 hn
  go_enter Try.func51, Try.ntmps51
  go_wp2_with fail
  refine HSZ.out.mono ?_
  rintro e w1 ⟨rfl, m1, rfl⟩
  have HT0 : Hid (Ts1 w (w.drewN m1) d M (.slice none 0 0) 0) := by
    have hf := Fr.drewN (fun _ => False) w m1
    exact ⟨H.out.fr hf (fun _ _ h => h), hf.below (Nat.le_refl _) (fun _ h => h.elim), ⟨_, TabV.nil _ _⟩⟩
  clear H HSZ
  go_wp2_with fail
  go_loopw [7, 9] (fun v i wr => ∃ k : Nat, i = .int .i64 k ∧ k ≤ A ∧ Hid (Ts1 w wr d M v k)) (fun _ i _ => A - (intOf i).toNat)
  case atStart => exact ⟨0, rfl, by omega, HT0⟩
  case round =>
    obtain ⟨k, rfl, hk, HT⟩ := hrel
    obtain ⟨v, rfl⟩ : ∃ v, v = u7 := ⟨_, rfl⟩
    clear HT0
    by_cases hlt : k < A
    · have q1 : (k : Int) < 4194304 := by omega
      go_wp2_with fail
      refine (HBK.out _ HT.out.dat 0 (k : Int)).mono ?_
      rintro e w2 ⟨u, rfl, hu, hb2⟩
      obtain ⟨ua, uc, hue⟩ := owns_slice hu
      obtain ⟨Z, hZ⟩ : ∃ n, (bucketK M 0 (k : Int)).length = n := ⟨_, rfl⟩
      rw [hZ] at hue
      subst hue
      clear hZ
      have HT2 := Lib.hid (HT.out.fr (fr_bel hb2))
      have hu1 : (Value.slice ua Z uc).oneCell' = true := rfl
      have HU : Hid (RowS w.heap.size w2 (.slice ua Z uc) (bucketK M 0 (k : Int))) := by
        rcases hu with ⟨h1, h2 | ⟨g, cap, cur, e1, hb, hg, hnc, hcm, hcs, htake⟩⟩
        · exact ⟨h1, .inl h2⟩
        · exact ⟨h1, .inr ⟨g, cap, cur, e1, Nat.le_trans HT.out.bel.size hb, hg, hnc, hcm, hcs, htake⟩⟩
      have HU1 := Lib.hid hu1
      obtain ⟨x, hx⟩ := HT2.out.one
      have HX := Lib.hid hx
      have hrow := hx.row
      rw [bkts_len] at hrow
      have HROW := Lib.hid hrow
      clear hu hb2 hu1 hx hrow HT
      go_wp2_with (at_builtin; refine wpl_append rfl (.tmp 26) (.tmp 30) 85 rfl w.heap.size 47 i0 (.slice none 0 0) 1 24 Try.underlying85 HI.out HZ0.out HZ1.out HZ2.out rfl (by decide) _ k _ rfl (HROW.out.alloc _) _ 1 [.slice ua Z uc] rfl (RdC.of_owns (World.ownsRow_lit (e := 47) w2 #[.slice ua Z uc] 1 (Nat.le_refl _) (by decide) rfl)) (by simpa using HU1.out) (by unfold maxLen; omega) (by omega) (by have := HT2.out.bel.size; simp; omega) ?_; intro v' w8 hown hgrow; have HO8 := Lib.hid hown; have HG8 := Lib.hid hgrow; clear hown hgrow)
      have HT8 : Hid (Ts1 w w8 d M v' (k + 1)) := by
        have hal := Fr.alloc (fun _ => False) w2 (.cells #[.slice ua Z uc] 47)
        have h1 := HT2.out.fr hal
        have hx1 := HX.out.fr hal
        have hgr := Fr.of_grownBy HG8.out
        refine ⟨h1.dat.fr hgr (fun k hk e => dat_apart h1.dat hx1.row k e hk), h1.bel.trans (hgr.below h1.bel.size (fun i hi => (hx1.row.lt i hi).1)), ⟨x ++ [.slice ua Z uc], ?_⟩⟩
        rw [bkts_succ]
        refine hx1.snoc (owns_fr HU.out hal (fun _ _ h => h)) HU1.out HG8.out ?_
        rw [bkts_len]
        exact HO8.out
      go_roundw
      case rel => exact ⟨k + 1, by go_num, by omega, HT8⟩
      case measure => simp [intOf]; omega
    · obtain rfl : k = A := by omega
      go_wp2_with fail
      obtain ⟨B2, hB2⟩ : ∃ B, wr.heap.size = B := ⟨_, rfl⟩
      have HT0 : Hid (Ts w wr B2 d M v k (.slice none 0 0) 0) := by
        obtain ⟨x, hx⟩ := HT.out.one
        exact ⟨HT.out, ⟨_, TabV.nil _ _⟩, by rw [← hB2]; exact HT.out.bel.size, Nat.le_of_eq hB2.symm, fun g hg => by rw [← hB2]; exact (hx.row.lt g hg).2⟩
      clear hB2
      go_loopw [8, 10] (fun v2 i wr => ∃ j : Nat, i = .int .i64 j ∧ j ≤ Y ∧ Hid (Ts w wr B2 d M v k v2 j)) (fun _ i _ => Y - (intOf i).toNat)
      case atStart => exact ⟨0, rfl, by omega, HT0⟩
      case round =>
        obtain ⟨j, rfl, hj, HT2⟩ := hrel
        obtain ⟨v2, rfl⟩ : ∃ v, v = u8 := ⟨_, rfl⟩
        clear HT HT0
        by_cases hlt : j < Y
        · have q1 : (j : Int) < 4194304 := by omega
          go_wp2_with fail
          refine (HBK.out _ HT2.out.dat 1 (j : Int)).mono ?_
          rintro e w2 ⟨u, rfl, hu, hb2⟩
          obtain ⟨ua, uc, hue⟩ := owns_slice hu
          obtain ⟨Z, hZ⟩ : ∃ n, (bucketK M 1 (j : Int)).length = n := ⟨_, rfl⟩
          rw [hZ] at hue
          subst hue
          clear hZ
          have HT3 := Lib.hid (HT2.out.fr (fr_bel hb2))
          have hu1 : (Value.slice ua Z uc).oneCell' = true := rfl
          have HU : Hid (RowS B2 w2 (.slice ua Z uc) (bucketK M 1 (j : Int))) := by
            rcases hu with ⟨h1, h2 | ⟨g, cap, cur, e1, hb, hg, hnc, hcm, hcs, htake⟩⟩
            · exact ⟨h1, .inl h2⟩
            · exact ⟨h1, .inr ⟨g, cap, cur, e1, Nat.le_trans HT2.out.hi hb, hg, hnc, hcm, hcs, htake⟩⟩
          have HU1 := Lib.hid hu1
          obtain ⟨x, hx⟩ := HT3.out.two
          have HX := Lib.hid hx
          have hrow := hx.row
          rw [bkts_len] at hrow
          have HROW := Lib.hid hrow
          clear hu hb2 hu1 hx hrow HT2
          go_wp2_with (at_builtin; refine wpl_append rfl (.tmp 41) (.tmp 45) 85 rfl B2 47 i0 (.slice none 0 0) 1 24 Try.underlying85 HI.out HZ0.out HZ1.out HZ2.out rfl (by decide) _ j _ rfl (HROW.out.alloc _) _ 1 [.slice ua Z uc] rfl (RdC.of_owns (World.ownsRow_lit (e := 47) w2 #[.slice ua Z uc] 1 (Nat.le_refl _) (by decide) rfl)) (by simpa using HU1.out) (by unfold maxLen; omega) (by omega) (by have := HT3.out.hi; simp; omega) ?_; intro v' w8 hown hgrow; have HO8 := Lib.hid hown; have HG8 := Lib.hid hgrow; clear hown hgrow)
          have HT8 : Hid (Ts w w8 B2 d M v k v' (j + 1)) := by
            have hal := Fr.alloc (fun _ => False) w2 (.cells #[.slice ua Z uc] 47)
            have h1 := HT3.out.fr hal
            have hx1 := HX.out.fr hal
            have hgr := Fr.of_grownBy HG8.out
            have hb : ∀ g, v2.ownBlock = some g → B2 ≤ g := fun g hg => (hx1.row.lt g hg).1
            obtain ⟨y, hy⟩ := h1.one
            refine ⟨⟨h1.dat.fr hgr (fun k hk e => dat_apart h1.dat hx1.row k e hk), h1.bel.trans (hgr.below h1.bel.size (fun i hi => Nat.le_trans h1.lo (hb i hi))), ⟨y, hy.keep hgr (fun g hg e => by have := hb g e; have := h1.dis g hg; omega) (fun i u hu g hg e => ?_)⟩⟩, ⟨x ++ [.slice ua Z uc], ?_⟩, h1.lo, Nat.le_trans h1.hi hgr.size, h1.dis⟩
            · have hi : i < y.length := (List.getElem?_eq_some_iff.1 hu).1
              have hrow := hy.rows i u _ hu (List.getElem?_eq_getElem (by rw [← hy.len]; exact hi))
              exact rows_apart hrow hx1.row (by decide) g hg e
            · rw [bkts_succ]
              refine hx1.snoc (owns_fr HU.out hal (fun _ _ h => h)) HU1.out HG8.out ?_
              rw [bkts_len]
              exact HO8.out
          go_roundw
          case rel => exact ⟨j + 1, by go_num, by omega, HT8⟩
          case measure => simp [intOf]; omega
        · obtain rfl : j = Y := by omega
          go_wp2_with fail
          go_ret2
          exact ⟨_, _, rfl, B2, HT2.out⟩
end Go.Proofs.Ytkecipdonamjaaa
