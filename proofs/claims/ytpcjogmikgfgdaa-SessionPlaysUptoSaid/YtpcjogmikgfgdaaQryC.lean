/- The reference's session: Watched: the keys that are watched, put in their places one by one. No condition. -/
import Derived.Test.YtpcjogmikgfgdaaQryB
import Derived.Test.YtpcjogmikgfgdaaSessC
import Derived.Deep.QuietTactic
import Derived.BigQuiet
import Derived.IntWalk
import Derived.Laws.Cover1
namespace Go.Proofs.Ytpcjogmikgfgdaa
open Go.RowKit Go.Sort
theorem sortS_of {l l' : List ByteArray} (hp : l.Perm l') (hs : l'.Pairwise (fun a b => bytesL a ≤ bytesL b)) : sortS l = l' := by
  have tr : ∀ a b c : List UInt8, leB a b = true → leB b c = true → leB a c = true := fun a b c h1 h2 => by simp only [leB, decide_eq_true_eq] at *; exact List.le_trans h1 h2
  have tt : ∀ a b : List UInt8, (leB a b || leB b a) = true := fun a b => by simp only [leB, Bool.or_eq_true, decide_eq_true_eq]; exact List.le_total a b
  have h : (l.map bytesL).mergeSort leB = l'.map bytesL := by
    refine List.Perm.eq_of_pairwise (le := fun a b => leB a b = true) (fun a b _ _ h1 h2 => ?_) (List.pairwise_mergeSort tr tt _) (List.pairwise_map.2 (hs.imp (fun h => by simpa [leB] using h))) ((List.mergeSort_perm _ leB).trans (hp.map _))
    simp only [leB, decide_eq_true_eq] at h1 h2
    exact List.le_antisymm h1 h2
  unfold sortS
  rw [h, List.map_map]
  have e : (ofB ∘ bytesL) = id := by funext k; exact ofB_bytes k
  rw [e, List.map_id]
theorem sortS_pair (l : List ByteArray) : (sortS l).Pairwise (fun a b => bytesL a ≤ bytesL b) := by
  have tr : ∀ a b c : List UInt8, leB a b = true → leB b c = true → leB a c = true := fun a b c h1 h2 => by simp only [leB, decide_eq_true_eq] at *; exact List.le_trans h1 h2
  have tt : ∀ a b : List UInt8, (leB a b || leB b a) = true := fun a b => by simp only [leB, Bool.or_eq_true, decide_eq_true_eq]; exact List.le_total a b
  unfold sortS
  exact List.pairwise_map.2 ((List.pairwise_mergeSort tr tt (l.map bytesL)).imp (fun {a b} h => by simpa [leB, bytes_ofB] using h))
theorem sortS_permL (l : List ByteArray) : (sortS l).Perm l := by
  unfold sortS
  have h := (List.mergeSort_perm (l.map bytesL) leB).map ofB
  rw [List.map_map] at h
  have e : (ofB ∘ bytesL) = id := by funext k; exact ofB_bytes k
  rw [e, List.map_id] at h
  exact h
theorem sortS_nil : sortS [] = [] := by simp [sortS]
/-- a place found: all behind it are greater, and the one ahead is not -/
theorem sortS_ins {wt : List ByteArray} {k : ByteArray} (j : Nat) (hgt : ∀ x ∈ (sortS wt).drop j, bytesL k ≤ bytesL x) (hle : ∀ x ∈ (sortS wt).take j, bytesL x ≤ bytesL k) :
    sortS (wt ++ [k]) = (sortS wt).take j ++ k :: (sortS wt).drop j := by
  have hp := sortS_permL wt
  have hs := sortS_pair wt
  refine sortS_of ?_ ?_
  · refine (List.perm_append_singleton k wt).trans ((hp.symm.cons k).trans ?_)
    conv => lhs; rw [← List.take_append_drop j (sortS wt)]
    exact List.perm_middle.symm
  · have h1 : (sortS wt).take j ++ (sortS wt).drop j = sortS wt := List.take_append_drop j _
    rw [← h1] at hs
    obtain ⟨p1, p2, p3⟩ := List.pairwise_append.1 hs
    refine List.pairwise_append.2 ⟨p1, List.pairwise_cons.2 ⟨hgt, p2⟩, fun a ha b hb => ?_⟩
    rcases List.mem_cons.1 hb with rfl | hb
    · exact hle a ha
    · exact p3 a ha b hb
theorem take_le {l : List ByteArray} (hs : l.Pairwise (fun a b => bytesL a ≤ bytesL b)) {k : ByteArray} {j : Nat} (h : j < l.length) (hk : bytesL l[j] ≤ bytesL k) : ∀ x ∈ l.take (j + 1), bytesL x ≤ bytesL k := by
  intro x hx
  rw [List.take_succ_eq_append_getElem h, List.mem_append, List.mem_singleton] at hx
  rcases hx with hx | rfl
  · obtain ⟨i, hi, rfl⟩ := List.getElem_of_mem hx
    rw [List.length_take] at hi
    rw [List.getElem_take]
    exact List.le_trans (List.pairwise_iff_getElem.1 hs i j (by omega) h (by omega)) hk
  · exact hk
theorem own_put1 {w : World} {B : Nat} {e : TypeId} {g n cap i : Nat} {xs : List Value} (h : w.ownsRow B e 1 (.slice (some ⟨g, 0, none⟩) n cap) n xs) (hi : i < n) (x : Value) :
    (w.setCell ⟨g, i, none⟩ x).ownsRow B e 1 (.slice (some ⟨g, 0, none⟩) n cap) n (xs.set i x) := by
  obtain ⟨hl, ⟨h0, _⟩ | ⟨g', cap', cur, he, hbase, hb, h1, h2, h3, h4⟩⟩ := h
  · cases h0
  cases he
  refine ⟨by rw [List.length_set]; exact hl, .inr ⟨g, cap, _, rfl, hbase, heap_setCell_same w g i _ _ x hb, h1, h2, by rw [Array.size_setIfInBounds]; exact h3, ?_⟩⟩
  rw [Array.toList_setIfInBounds, List.take_set, h4]
theorem own_cell1 {w : World} {B : Nat} {e : TypeId} {g n cap i : Nat} {xs : List Value} (h : w.ownsRow B e 1 (.slice (some ⟨g, 0, none⟩) n cap) n xs) (hi : i < n) : w.cell? ⟨g, i, none⟩ = xs[i]? ∧ w.frozen? ⟨g, i, none⟩ = false ∧ g < w.heap.size := by
  obtain ⟨-, ⟨h9, _⟩ | ⟨g9, cap9, cur9, he9, _, hb9, k91, _, k93, k94⟩⟩ := h
  · cases h9
  cases he9
  exact ⟨by rw [cell_of_blk hb9, ← Array.getElem?_toList, ← List.getElem?_take_of_lt (show i < n * 1 by omega), k94], free_of_blk hb9 _, (Array.getElem?_eq_some_iff.1 hb9).1⟩
/-- while a key is put in its place -/
structure Ins (O X : List ByteArray) (k : ByteArray) (j : Nat) : Prop where
  len : X.length = O.length + 1
  hd : X.take j = O.take j
  tl : X.drop (j + 1) = O.drop j
  gt : ∀ x ∈ O.drop j, bytesL k ≤ bytesL x
  le : j ≤ O.length
theorem Ins.start (O : List ByteArray) (k x : ByteArray) : Ins O (O ++ [x]) k O.length :=
  ⟨by simp, by simp, by simp, fun x hx => by simp at hx, Nat.le_refl _⟩
theorem Ins.at_ {O X : List ByteArray} {k : ByteArray} {j : Nat} (h : Ins O X k (j + 1)) : ∃ h1 : j < O.length, ∃ h2 : j < X.length, X[j] = O[j] := by
  have h1 : j < O.length := h.le
  have h2 : j < X.length := by rw [h.len]; omega
  refine ⟨h1, h2, ?_⟩
  have e : (X.take (j + 1))[j]? = (O.take (j + 1))[j]? := by rw [h.hd]
  rw [List.getElem?_take_of_lt (by omega), List.getElem?_take_of_lt (by omega), List.getElem?_eq_getElem h1, List.getElem?_eq_getElem h2] at e
  exact Option.some.inj e
theorem Ins.step {O X : List ByteArray} {k : ByteArray} {j : Nat} (h : Ins O X k (j + 1)) (h1 : j < O.length) (hk : bytesL k ≤ bytesL O[j]) : Ins O (X.set (j + 1) O[j]) k j := by
  have hlx := h.len
  refine ⟨by rw [List.length_set]; exact h.len, ?_, ?_, fun x hx => ?_, by omega⟩
  · rw [List.take_set_of_le (by omega)]
    have e := congrArg (List.take j) h.hd
    rw [List.take_take, List.take_take, Nat.min_eq_left (by omega)] at e
    exact e
  · rw [List.drop_eq_getElem_cons (by rw [List.length_set]; omega), List.getElem_set_self, List.drop_set_of_lt (by omega), h.tl, ← List.drop_eq_getElem_cons h1]
  · rw [List.drop_eq_getElem_cons h1] at hx
    rcases List.mem_cons.1 hx with rfl | hx
    · exact hk
    · exact h.gt x hx
theorem Ins.done {O X : List ByteArray} {k : ByteArray} {j : Nat} (h : Ins O X k j) : X.set j k = O.take j ++ k :: O.drop j := by
  have hj : j < X.length := by rw [h.len]; have := h.le; omega
  rw [List.set_eq_take_append_cons_drop, if_pos hj, h.hd, h.tl]
set_option maxRecDepth 100000 in
set_option maxHeartbeats 4000000 in
theorem watchedR_any (w : World) (B q : Nat) (F : Nat → Prop) (vr : Value) (L : List Dd) (h : RefF w B F q vr L) :
    Calls Try.prog 76 #[.pointer (some ⟨q, 0, none⟩)] w (WPost w (run26 L).wt) := by
  have H := Lib.hid h
  have c1 := h.cell
  have hln := h.ln
  obtain ⟨a, c, rfl⟩ := owns_sliceN h.row
  obtain ⟨i0, hi, hz0, hz1, hz2⟩ := info_parts infoS
  have HI := Lib.hid hi
  have HZ0 := Lib.hid hz0
  have HZ1 := Lib.hid hz1
  have HZ2 := Lib.hid hz2
  clear h hi hz0 hz1 hz2
  go_enter Try.func76, Try.ntmps76
  go_wp2_with fail
  go_loopw [3, 14] (fun o i wr => ∃ t : Nat, i = .int .i64 t ∧ t ≤ L.length ∧ Hid (wr.ownsRow w.heap.size 9 1 o (run26 (L.take t)).wt.length ((sortS (run26 (L.take t)).wt).map .string)) ∧ Hid (Below w.heap.size w wr)) (fun _ i _ => L.length - (intOf i).toNat)
  case atStart =>
    have e0 : sortS (run26 (L.take 0)).wt = [] := by simp [run26, ss0, sortS]
    exact ⟨0, rfl, by omega, by rw [e0]; exact World.ownsRow_nil _ _ _ _, Below.refl _ _⟩
  case round =>
    obtain ⟨t, rfl, ht, HO, HB⟩ := hrel
    obtain ⟨wo, rfl⟩ : ∃ x, x = wr := ⟨_, rfl⟩
    obtain ⟨vv, hvv⟩ : ∃ v, v = u3 := ⟨_, rfl⟩
    subst hvv
    have hfb : Fr (fun _ => False) w wo := ⟨HB.out.os, HB.out.tape, HB.out.output, HB.out.size, fun k hk _ => HB.out.block k hk⟩
    by_cases hlt : t < L.length
    · obtain ⟨g, off, c', a2, c2, he, d0, d1, hv2, hrd⟩ := (H.out.quiet hfb).at_ t hlt
      cases he
      have hb0 : (0 : Int) ≤ (t : Int) := by omega
      have hb1 : (t : Int) < (L.length : Int) := by omega
      have hst := run26_take L t hlt
      have hwat := H.out.wat t hlt
      have hql := (H.out.wt_ok t (by omega)).1
      obtain ⟨d, hd⟩ : ∃ d, L[t] = d := ⟨_, rfl⟩
      rw [hd] at d0 d1 hst hrd hwat
      obtain ⟨S, hS⟩ : ∃ S, run26 (L.take t) = S := ⟨_, rfl⟩
      rw [hS] at hst hwat hql HO
      obtain ⟨kk, hkk⟩ : ∃ k, d.k = k := ⟨_, rfl⟩
      rw [hkk] at d0 hwat
      obtain ⟨W2, hW2⟩ : ∃ W, wo.alloc (.cells #[.int .i64 kk, .slice a2 d.ws.length c2] 118) = W := ⟨_, rfl⟩
      have hbx : W2.heap[wo.heap.size]? = some (.cells #[.int .i64 kk, .slice a2 d.ws.length c2] 118 (0, 0)) := by rw [← hW2]; exact alloc_at _ _
      have HFA : Hid (Fr (fun _ => False) wo W2) := by rw [← hW2]; exact Fr.alloc _ _ _
      have HO2 : Hid (W2.ownsRow w.heap.size 9 1 vv S.wt.length ((sortS S.wt).map .string)) := owns_fr HO.out HFA.out (fun _ _ h => h)
      have HB2 : Hid (Below w.heap.size w W2) := HB.out.trans (HFA.out.below HB.out.size (fun _ h => h.elim))
      have HRD : Hid (RdC W2 1 (.slice a2 d.ws.length c2) d.ws.length (d.ws.map .string)) := hrd.fr HFA.out (fun _ _ h => h)
      have x0 : W2.cell? ⟨wo.heap.size, 0, none⟩ = some (.int .i64 kk) := cell_of_blk hbx 0
      have x1 : W2.cell? ⟨wo.heap.size, 1, none⟩ = some (.slice a2 d.ws.length c2) := cell_of_blk hbx 1
      have hxl : wo.heap.size < W2.heap.size := (Array.getElem?_eq_some_iff.1 hbx).1
      obtain ⟨va, vc, rfl⟩ := owns_sliceN HO2.out
      have HBX := Lib.hid hbx
      by_cases h46 : kk = 4 ∨ kk = 6
      · have HST1 : Hid ((run26 (L.take (t + 1))).wt = []) := by show _ = _; rw [hst]; unfold st26; rcases h46 with h | h <;> simp [hkk, h]
        clear hst hkk hd hS hbx hrd hfb hv2 hwat
        rcases h46 with h | h
        all_goals
          subst h
          go_wp2_with fail
          go_roundw
          case rel => exact ⟨t + 1, by go_num, by omega, by rw [HST1.out, sortS_nil]; exact World.ownsRow_nil _ _ _ _, HB2.out⟩
          case measure => simp [intOf]; omega
      · have g4 : (kk == 4) = false := by rw [beq_eq_false_iff_ne]; omega
        have g6 : (kk == 6) = false := by rw [beq_eq_false_iff_ne]; omega
        by_cases h5 : kk = 5
        · obtain ⟨key, hws, hnk⟩ := hwat h5
          have HST1 : Hid ((run26 (L.take (t + 1))).wt = S.wt ++ [key]) := by show _ = _; rw [hst]; unfold st26; simp [hkk, h5, hws]
          have hone : d.ws.length = 1 := by rw [hws]; rfl
          obtain ⟨O, hO⟩ : ∃ O, sortS S.wt = O := ⟨_, rfl⟩
          have hOl : O.length = S.wt.length := by rw [← hO, sortS_len]
          have hmO : ∀ x ∈ O, x ≠ key := fun x hx e => by
            rw [← hO] at hx
            have := (sortS_permL S.wt).mem_iff.1 hx
            rw [e] at this
            rw [inL_iff.2 this] at hnk
            cases hnk
          have hamO : inL key O = false := inL_no (fun hm => hmO _ hm rfl)
          rw [hO, ← hOl] at HO2
          rw [← hOl] at hql
          have HAM := Lib.hid (amongR_any key _ O W2 (RdC.of_owns HO2.out))
          rw [hamO] at HAM
          have HOE := Lib.hid hO
          have HOL := Lib.hid hOl
          have HMO := Lib.hid hmO
          have hw0 := (H.out.wrd L[t] (List.getElem_mem hlt)).1
          rw [hv2, hd] at hw0
          obtain ⟨g2, o2, rfl, hc⟩ := hw0.at (by rw [hws]; simp)
          have HKC : Hid (∀ W, Below w.heap.size w W → W.cell? ⟨g2, o2, none⟩ = some (.string key)) := fun W hb => by
            have h8 := hc 0 (.string key) (by rw [hws]; rfl)
            rw [Nat.add_zero] at h8
            exact (hb.cell (World.block_lt_of_cell? w _ h8)).trans h8
          have hk0 := HKC.out W2 HB2.out
          have HG2 : Hid (g2 < w.heap.size) := by
            have h8 := hc 0 (.string key) (by rw [hws]; rfl)
            exact World.block_lt_of_cell? w _ h8
          rw [hone] at x1
          rw [← hOl]
          subst h5
          have hb2 : W2.heap[wo.heap.size]? = some (.cells #[.int .i64 5, .slice (some ⟨g2, o2, none⟩) 1 c2] 118 (0, 0)) := by rw [← hone]; exact HBX.out
          have HBX2 := Lib.hid hb2
          have HWO := Lib.hid HB.out.size
          clear hst hkk hd hS hbx hrd hfb hv2 hwat hc g4 g6 h46 hws hone hO hOl hmO hamO hnk hb2 HBX hw0
          go_wp2_with fail
          refine HAM.out.mono ?_
          rintro e w' ⟨rfl, rfl⟩
          clear HAM
          go_upto_region 12 with (at_builtin; refine wpList_append_lies _ rfl (.tmp 40) (.tmp 41) 41 rfl w.heap.size 9 i0 (.string ⟨#[]⟩) 1 16 Try.underlying41 HI.out HZ0.out HZ1.out HZ2.out rfl (by decide) _ O.length (O.map .string) rfl (HO2.out.alloc _) ⟨W2.heap.size, 0, none⟩ 1 1 [.string ⟨#[]⟩] rfl rfl (cell_one_new _ _ _) (by simp [Value.oneCell']) (by decide) (by unfold maxLen; omega) (by omega) (by have := HB2.out.size; simp; omega) (W2.heap.size + 1) (by simp) ?_; intro g3 cap3 w3 hown hgrow hat hlt3; have HO3 := Lib.hid hown; have HG := Lib.hid hgrow; have HAT := Lib.hid hat; clear hown hgrow hat hlt3)
          have HVO : Hid (∀ g, (Value.slice va O.length vc).ownBlock = some g → w.heap.size ≤ g ∧ g ≠ wo.heap.size) := fun g hg => ⟨(own_blk HO2.out hg).1, fun e => by
            obtain ⟨_, _, cs, hcs⟩ := own_blk HO2.out hg
            rw [e, HBX2.out] at hcs
            simp only [Option.some.injEq, Obj.cells.injEq] at hcs
            exact absurd hcs.2.1 (by decide)⟩
          have HF3 : Hid (Fr (fun i => (Value.slice va O.length vc).ownBlock = some i) W2 w3) := (Fr.alloc _ W2 _).wide (Fr.of_grownBy HG.out) (fun i hi => .inl hi)
          have HB3 : Hid (Below w.heap.size w w3) := HB2.out.trans (HF3.out.below HB2.out.size (fun i hi => (HVO.out i hi).1))
          have HX3 : Hid (w3.heap[wo.heap.size]? = some (.cells #[.int .i64 5, .slice (some ⟨g2, o2, none⟩) 1 c2] 118 (0, 0))) := (HF3.out.block _ (Array.getElem?_eq_some_iff.1 HBX2.out).1 (fun e => (HVO.out _ e).2 rfl)).trans HBX2.out
          have HG3 : Hid (w.heap.size ≤ g3) := by
            rcases HAT.out with h | h
            · exact (HVO.out g3 h).1
            · have := HB2.out.size; show _ ≤ _; omega
          have HG3X : Hid (g3 ≠ wo.heap.size) := by
            rcases HAT.out with h | h
            · exact (HVO.out g3 h).2
            · show _ ≠ _; omega
          have HO4 : Hid (w3.ownsRow w.heap.size 9 1 (.slice (some ⟨g3, 0, none⟩) (O.length + 1) cap3) (O.length + 1) ((O ++ [(⟨#[]⟩ : ByteArray)]).map .string)) := by rw [List.map_append]; exact HO3.out
          clear x0 x1 hk0 HO3 HG
          go_loopw [6] (fun i wr => ∃ (j : Nat) (X : List ByteArray), i = .int .i64 j ∧ j ≤ O.length ∧ Hid (Ins O X key j) ∧ Hid (wr.ownsRow w.heap.size 9 1 (.slice (some ⟨g3, 0, none⟩) (O.length + 1) cap3) (O.length + 1) (X.map .string)) ∧ Hid (Fr (fun i => i = g3) w3 wr)) (fun i _ => (intOf i).toNat)
          case atStart => exact ⟨O.length, O ++ [(⟨#[]⟩ : ByteArray)], rfl, Nat.le_refl _, Ins.start O key _, HO4.out, Fr.refl _ _⟩
          case round =>
            obtain ⟨j, X, rfl, hj, HI2, HOX, HFX⟩ := hrel
            obtain ⟨wq, rfl⟩ : ∃ x, x = wr := ⟨_, rfl⟩
            have HBq : Hid (Below w.heap.size w wq) := HB3.out.trans (HFX.out.below HB3.out.size (fun i hi => by rw [show i = g3 from hi]; exact HG3.out))
            have HXq : Hid (wq.heap[wo.heap.size]? = some (.cells #[.int .i64 5, .slice (some ⟨g2, o2, none⟩) 1 c2] 118 (0, 0))) := (HFX.out.block _ (Array.getElem?_eq_some_iff.1 HX3.out).1 (fun e => HG3X.out (Eq.symm (show wo.heap.size = g3 from e)))).trans HX3.out
            have x1 : wq.cell? ⟨wo.heap.size, 1, none⟩ = some (.slice (some ⟨g2, o2, none⟩) 1 c2) := cell_of_blk HXq.out 1
            have k1 := HKC.out wq HBq.out
            have hgo : g2 < wq.heap.size := Nat.lt_of_lt_of_le HG2.out HBq.out.size
            have hxq : wo.heap.size < wq.heap.size := (Array.getElem?_eq_some_iff.1 HXq.out).1
            have hg3q : g3 < wq.heap.size := (own_blk HOX.out (g := g3) rfl).2.1
            by_cases hz : j = 0
            · subst hz
              have gz : decide ((0 : Int) < 0) = false := by decide
              have HLE : Hid (∀ x ∈ O.take 0, bytesL x ≤ bytesL key) := fun x hx => by simp at hx
              go_wp2_with fail
              go_quiet (fail)
              obtain ⟨WD, hWD⟩ : ∃ W, wq.drewN nq = W := ⟨_, rfl⟩
              have HOD : Hid (WD.ownsRow w.heap.size 9 1 (.slice (some ⟨g3, 0, none⟩) (O.length + 1) cap3) (O.length + 1) (X.map .string)) := by rw [← hWD]; exact HOX.out
              have HBD : Hid (Below w.heap.size w WD) := by rw [← hWD]; exact HBq.out.trans ((Fr.drewN (fun _ => False) wq nq).below HBq.out.size (fun _ h => h.elim))
              have HBD2 : Hid (WD.heap[wo.heap.size]? = some (.cells #[.int .i64 5, .slice (some ⟨g2, o2, none⟩) 1 c2] 118 (0, 0))) := by rw [← hWD]; exact HXq.out
              rw [hWD]
              clear hWD x1 k1 hgo hxq hg3q
              have HIN : Hid (X.set 0 key = O.take 0 ++ key :: O.drop 0) := HI2.out.done
              have HSO : Hid (sortS (S.wt ++ [key]) = X.set 0 key) := by
                show _ = _
                rw [HIN.out, ← HOE.out]
                exact sortS_ins 0 (by rw [HOE.out]; exact HI2.out.gt) (by rw [HOE.out]; exact HLE.out)
              have HS1 := Lib.hid (own_put1 HOD.out (show 0 < O.length + 1 by omega) (.string key))
              obtain ⟨y0, yf0, hg3l⟩ := own_cell1 HOD.out (show 0 < O.length + 1 by omega)
              rw [List.getElem?_map, List.getElem?_eq_getElem (show 0 < X.length by rw [HI2.out.len]; omega)] at y0
              obtain ⟨zz, hzz⟩ : ∃ z, X[0]'(by rw [HI2.out.len]; omega) = z := ⟨_, rfl⟩
              rw [hzz] at y0
              dsimp only [Option.map_some] at y0
              have HBN : Hid (Below w.heap.size w (WD.setCell ⟨g3, 0, none⟩ (.string key))) := HBD.out.setCell (by exact HG3.out) _
              have HBY : Hid (∀ i, WD.cell? ⟨wo.heap.size, i, none⟩ = (#[.int .i64 5, .slice (some ⟨g2, o2, none⟩) 1 c2] : Array Value)[i]?) := fun i => cell_of_blk HBD2.out i
              have xx1 : WD.cell? ⟨wo.heap.size, 1, none⟩ = some (.slice (some ⟨g2, o2, none⟩) 1 c2) := HBY.out 1
              have kk1 : WD.cell? ⟨g2, o2, none⟩ = some (.string key) := HKC.out WD HBD.out
              have hj0 : (0 : Int) ≤ (0 : Int) := by omega
              have hj1 : (0 : Int) < (O.length : Int) + 1 := by omega
              clear hzz
              go_wp2_with fail
              go_roundw
              case rel =>
                refine ⟨t + 1, by go_num, by omega, ?_, HBN.out⟩
                rw [HST1.out, HSO.out, List.length_append, ← HOL.out, List.map_set]
                exact HS1.out
              case measure => simp [intOf]; omega
            · obtain ⟨j, rfl⟩ : ∃ q, j = q + 1 := ⟨j - 1, by omega⟩
              obtain ⟨h1, h2, hXO⟩ := HI2.out.at_
              obtain ⟨y0, yf0, _⟩ := own_cell1 HOX.out (show j < O.length + 1 by omega)
              rw [List.getElem?_map, List.getElem?_eq_getElem h2, hXO] at y0
              have hne := HMO.out O[j] (List.getElem_mem h1)
              obtain ⟨o, ho⟩ : ∃ o, O[j] = o := ⟨_, rfl⟩
              rw [ho] at y0 hne
              dsimp only [Option.map_some] at y0
              have hqb : (o.toList == key.toList) = false := by rw [str_beq]; simpa using hne
              have hqt : ¬ o.toList = key.toList := beq_eq_false_iff_ne.1 hqb
              have gz : decide (0 < j + 1) = true := by rw [decide_eq_true_eq]; omega
              have gz2 : decide ((0 : Int) < ((j + 1 : Nat) : Int)) = true := by rw [decide_eq_true_eq]; omega
              have hwr : IntKind.i64.wrap (j : Int) = (j : Int) := IntWalk.i64_in _ (by omega)
              have hj0 : (0 : Int) ≤ (j : Int) := by omega
              have hj1 : (j : Int) < (O.length : Int) + 1 := by omega
              have hbe : Op.bytesLess o.toList key.toList = decide (bytesL o < bytesL key) := by rw [bytesLess_eq, Go.ByteArray.toList_eq, Go.ByteArray.toList_eq]; rfl
              by_cases hlt4 : bytesL o < bytesL key
              · have hbl : Op.bytesLess o.toList key.toList = true := by rw [hbe, decide_eq_true hlt4]
                have HLE : Hid (∀ x ∈ O.take (j + 1), bytesL x ≤ bytesL key) := take_le (by rw [← HOE.out]; exact sortS_pair _) h1 (by rw [ho]; exact List.le_of_lt hlt4)
                clear hbe hlt4 ho hne hz hXO
                go_wp2_with fail
                go_quiet (fail)
                obtain ⟨WD, hWD⟩ : ∃ W, wq.drewN nq = W := ⟨_, rfl⟩
                have HOD : Hid (WD.ownsRow w.heap.size 9 1 (.slice (some ⟨g3, 0, none⟩) (O.length + 1) cap3) (O.length + 1) (X.map .string)) := by rw [← hWD]; exact HOX.out
                have HBD : Hid (Below w.heap.size w WD) := by rw [← hWD]; exact HBq.out.trans ((Fr.drewN (fun _ => False) wq nq).below HBq.out.size (fun _ h => h.elim))
                have HBD2 : Hid (WD.heap[wo.heap.size]? = some (.cells #[.int .i64 5, .slice (some ⟨g2, o2, none⟩) 1 c2] 118 (0, 0))) := by rw [← hWD]; exact HXq.out
                rw [hWD]
                clear hWD x1 k1 hgo hxq hg3q y0 yf0 hwr gz gz2 hj0 hj1 hbl hqb hqt
                have HIN : Hid (X.set (j + 1) key = O.take (j + 1) ++ key :: O.drop (j + 1)) := HI2.out.done
                have HSO : Hid (sortS (S.wt ++ [key]) = X.set (j + 1) key) := by
                  show _ = _
                  rw [HIN.out, ← HOE.out]
                  exact sortS_ins (j + 1) (by rw [HOE.out]; exact HI2.out.gt) (by rw [HOE.out]; exact HLE.out)
                have HS1 := Lib.hid (own_put1 HOD.out (show j + 1 < O.length + 1 by omega) (.string key))
                obtain ⟨y0, yf0, hg3l⟩ := own_cell1 HOD.out (show j + 1 < O.length + 1 by omega)
                rw [List.getElem?_map, List.getElem?_eq_getElem (show j + 1 < X.length by rw [HI2.out.len]; omega)] at y0
                obtain ⟨zz, hzz⟩ : ∃ z, X[j + 1]'(by rw [HI2.out.len]; omega) = z := ⟨_, rfl⟩
                rw [hzz] at y0
                dsimp only [Option.map_some] at y0
                have HBN : Hid (Below w.heap.size w (WD.setCell ⟨g3, j + 1, none⟩ (.string key))) := HBD.out.setCell (by exact HG3.out) _
                have HBY : Hid (∀ i, WD.cell? ⟨wo.heap.size, i, none⟩ = (#[.int .i64 5, .slice (some ⟨g2, o2, none⟩) 1 c2] : Array Value)[i]?) := fun i => cell_of_blk HBD2.out i
                have xx1 : WD.cell? ⟨wo.heap.size, 1, none⟩ = some (.slice (some ⟨g2, o2, none⟩) 1 c2) := HBY.out 1
                have kk1 : WD.cell? ⟨g2, o2, none⟩ = some (.string key) := HKC.out WD HBD.out
                have hj0 : (0 : Int) ≤ ((j : Int) + 1) := by omega
                have hj1 : ((j : Int) + 1) < (O.length : Int) + 1 := by omega
                clear hzz
                go_wp2_with fail
                go_roundw
                case rel =>
                  refine ⟨t + 1, by go_num, by omega, ?_, HBN.out⟩
                  rw [HST1.out, HSO.out, List.length_append, ← HOL.out, List.map_set]
                  exact HS1.out
                case measure => simp [intOf]; omega
              · have hbl : Op.bytesLess o.toList key.toList = false := by rw [hbe, decide_eq_false hlt4]
                have HIS : Hid (Ins O (X.set (j + 1) O[j]) key j) := HI2.out.step h1 (by rw [ho]; exact List.not_lt.1 hlt4)
                have HS1 : Hid (∀ n, ((wq.drewN n).setCell ⟨g3, j + 1, none⟩ (.string o)).ownsRow w.heap.size 9 1 (.slice (some ⟨g3, 0, none⟩) (O.length + 1) cap3) (O.length + 1) ((X.set (j + 1) O[j]).map .string)) := fun n => by
                  rw [List.map_set, ho]
                  exact own_put1 (w := wq.drewN n) HOX.out (show j + 1 < O.length + 1 by omega) (.string o)
                obtain ⟨z0, zf0, _⟩ := own_cell1 HOX.out (show j + 1 < O.length + 1 by omega)
                rw [List.getElem?_map, List.getElem?_eq_getElem (show j + 1 < X.length by rw [HI2.out.len]; omega)] at z0
                obtain ⟨zz, hzz⟩ : ∃ z, X[j + 1]'(by rw [HI2.out.len]; omega) = z := ⟨_, rfl⟩
                rw [hzz] at z0
                dsimp only [Option.map_some] at z0
                have HO' := Lib.hid ho
                clear hbe hlt4 ho hne hz hzz hXO
                go_wp2_with fail
                go_quiet (fail)
                go_wp2_with fail
                go_roundw
                case rel => exact ⟨j, X.set (j + 1) O[j], by go_num, by omega, HIS.out, HS1.out _, (HFX.out.thenDrewN nq).wide (Fr.setCell _ ⟨g3, j + 1, none⟩ _) (fun i hi => .inl hi)⟩
                case measure => simp [intOf]
        · have g5 : (kk == 5) = false := by rw [beq_eq_false_iff_ne]; exact h5
          have HST1 : Hid ((run26 (L.take (t + 1))).wt = S.wt) := by
            show _ = _
            rw [hst]
            unfold st26
            rw [hkk]
            repeat' split
            all_goals first | rfl | (exfalso; omega)
          clear hst hkk hd hS hbx hrd hfb hv2 hwat h46 h5
          go_wp2_with fail
          go_roundw
          case rel => exact ⟨t + 1, by go_num, by omega, by rw [HST1.out]; exact HO2.out, HB2.out⟩
          case measure => simp [intOf]; omega
    · obtain rfl : t = L.length := by omega
      rw [List.take_length] at HO
      obtain ⟨va, vc, rfl⟩ := owns_sliceN HO.out
      go_wp2_with fail
      go_ret
      exact ⟨_, rfl, HO.out, HB.out⟩
end Go.Proofs.Ytpcjogmikgfgdaa
