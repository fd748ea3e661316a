/- The walk of FlockAlgebra. No condition. -/
import Derived.Test.YtgomilodeaafdaaBk
namespace Go.Proofs.Ytgomilodeaafdaa
open Go.ChangeShapes Go.WideShapes Go.ChangeAt Go.RowKit Du
theorem info_flo : (Try.prog.info? 67).map (fun i => (i.zero, i.size, i.bytes)) = some (some (.pointer none), 1, 8) := by kernel_rfl
set_option maxRecDepth 100000 in
set_option maxHeartbeats 8000000 in
theorem flockAlgebra_walk (w : World) (v0 : Value) (l : List LsB) (hr0 : RdC w 1 v0 l.length (l.map (·.1))) (ho0 : ∀ x ∈ l, LsOk 1048576 w x) (hn0 : l.length ≤ 1048576) (hs0 : (l.map fun x => x.2.length).sum ≤ 1048576)
    (v1 : Value) (T0 : List ByteArray) (hr1 : LsOk 1048576 w (v1, T0)) :
    Calls Try.prog 9 #[v0, v1] w fun e w' => e = .returned (.bool true) ∧ Below w.heap.size w w' := by
  have HR0 := Lib.hid hr0
  have HO0 := Lib.hid ho0
  have HS0 := Lib.hid hs0
  obtain ⟨hr1, hn1, hz1⟩ := hr1
  dsimp only at hr1 hn1 hz1
  have HR1 := Lib.hid hr1
  have HZT := Lib.hid hz1
  obtain ⟨-, a0, c0, rfl, -⟩ := hr0
  obtain ⟨-, a1, c1, rfl, -⟩ := hr1
  obtain ⟨i0, hi, hz0, hz1, hz2⟩ := info_parts info_str
  have HI := Lib.hid hi
  have HZ0 := Lib.hid hz0
  have HZ1 := Lib.hid hz1
  have HZ2 := Lib.hid hz2
  obtain ⟨j0, hj, hy0, hy1, hy2⟩ := info_parts info_flo
  have HJ := Lib.hid hj
  have HY0 := Lib.hid hy0
  have HY1 := Lib.hid hy1
  have HY2 := Lib.hid hy2
  clear hi hz0 hz1 hz2 hj hy0 hy1 hy2 ho0 hs0
  go_enter Try.func9, Try.ntmps9
  go_wp2_with fail
  refine (wakes10_any w).mono ?_
  rintro e w0 ⟨rfl, hb0⟩
  have HB0 := Lib.hid hb0
  clear hb0
  have he0 : (w0.alloc (.cells #[] 9)).ownsRow w.heap.size 9 1 (.slice (some ⟨w0.heap.size, 0, none⟩) 0 0) 0 [] := World.ownsRow_lit (e := 9) w0 #[] 0 HB0.out.size (by decide) rfl
  have HE0 := Lib.hid he0
  have hq0 : Fr (fun _ => False) w0 (w0.alloc (.cells #[] 9)) := Fr.alloc _ _ _
  have HQ0 := Lib.hid hq0
  have hr1q := (HR1.out.below HB0.out).fr hq0 (fun _ _ h => h)
  have HR1Q := Lib.hid hr1q
  clear he0 hq0 hr1q
  go_wp2_with (at_builtin; refine wpl_append2 rfl (.tmp 27) (.tmp 28) 39 rfl w.heap.size 9 i0 (.string ⟨#[]⟩) 1 16 Try.underlying39 HI.out HZ0.out HZ1.out HZ2.out rfl (by decide) _ 0 _ rfl HE0.out _ T0.length _ rfl HR1Q.out (strs1 T0) (by unfold maxLen; omega) (by omega) (Nat.le_trans HB0.out.size HQ0.out.size) ?_; intro vt w1 hown hgrow hap)
  rw [Nat.zero_add, List.nil_append] at hown
  have HF1 : Hid (Fls 1048576 w w1 (.slice none 0 0) [] [(vt, T0)]) := by
    have hb2 : Below w.heap.size w (w0.alloc (.cells #[] 9)) := HB0.out.trans (HQ0.out.below HB0.out.size (fun _ h => h.elim))
    refine ⟨World.ownsRow_nil _ _ _ _, hb2.trans ((Fr.of_grownBy hgrow).below hb2.size fun i hi => (own_blk HE0.out hi).1), fun i f h => by simp at h, fun i j f g _ h => by simp at h, fun p hp => ?_⟩
    rw [List.mem_singleton.1 hp]
    exact ⟨hown, fun i f h => by simp at h⟩
  clear hown hgrow hap HE0 HQ0 HR1Q HB0
  go_wp2_with fail
  go_loopw [5, 6, 32] (fun vf vt i wr => ∃ (k : Nat) (fs : List (Option Fk)) (T : List ByteArray), i = .int .i64 k ∧ k ≤ l.length ∧ T.length ≤ 1048576 + ((l.take k).map fun x => x.2.length).sum ∧ Hid (Fls 1048576 w wr vf fs [(vt, T)]) ∧ fs.length = k ∧ Hid (fs.map oMem = (l.take k).map rowOf ∧ (∀ o ∈ fs, ∃ f, o = some f) ∧ ∀ x ∈ T, x.size ≤ 1048576)) (fun _ _ i _ => l.length - (intOf i).toNat)
  case atStart => exact ⟨0, [], T0, rfl, by omega, by simp; omega, HF1, rfl, rfl, (fun o ho => by cases ho), HZT.out⟩
  case round =>
    obtain ⟨k, fs, T, rfl, hk, hT, HF, rfl, HM⟩ := hrel
    obtain ⟨vf, rfl⟩ : ∃ v, v = u5 := ⟨_, rfl⟩
    obtain ⟨vt, rfl⟩ : ∃ v, v = u6 := ⟨_, rfl⟩
    obtain ⟨wo, rfl⟩ : ∃ wo, wo = wr := ⟨_, rfl⟩
    clear HF1
    by_cases hlt : fs.length < l.length
    · obtain ⟨g, off, rfl, hcell⟩ := (HR0.out.below HF.out.bel).at (by rw [List.length_map]; omega)
      obtain ⟨x, hx⟩ : ∃ x, l[fs.length]? = some x := ⟨_, List.getElem?_eq_getElem hlt⟩
      have hcp := hcell fs.length x.1 (by rw [List.getElem?_map, hx]; rfl)
      have hox := HO0.out x (List.mem_of_getElem? hx)
      have htk : l.take (fs.length + 1) = l.take fs.length ++ [x] := by
        rw [List.take_succ_eq_append_getElem hlt]
        rw [List.getElem?_eq_getElem hlt] at hx
        rw [Option.some.inj hx]
      have hsum : ((l.take fs.length).map fun x => x.2.length).sum + x.2.length ≤ 1048576 := by
        have h1 := HS0.out
        have h2 := List.take_append_drop (fs.length + 1) l
        rw [← h2, List.map_append, List.sum_append, htk, List.map_append, List.sum_append] at h1
        simp only [List.map_cons, List.map_nil, List.sum_cons, List.sum_nil] at h1
        omega
      obtain ⟨xv, S⟩ := x
      obtain ⟨hrx, hnx, hzx⟩ := hox
      dsimp only at hcp hrx hnx hzx hsum
      have hrx2 := hrx.below HF.out.bel
      obtain ⟨xa, xc, rfl⟩ := rd_sliceN hrx2
      have HTK := Lib.hid htk
      have HRX := Lib.hid hrx2
      have HZX := Lib.hid hzx
      have hfl : fs.length < 1048576 := by omega
      have e1 : IntKind.u64.wrap (fs.length : Int) = (fs.length : Int) := IntWalk.u64_in _ (by omega)
      have hnew := fc_new wo wo (UInt64.ofNat fs.length) (Below.refl _ _)
      rw [wd_nat fs.length (by omega)] at hnew
      have HNEW := Lib.hid hnew
      have b0 : (0 : Int) ≤ (fs.length : Int) := by omega
      have b1 : (fs.length : Int) < (l.length : Int) := by omega
      clear hcell hx htk hrx hrx2 hzx hnew
      go_wp2_with fail
      refine HNEW.out.mono ?_
      rintro e w2 ⟨r, d, M0, F0, rfl, h0, -, -, -⟩
      have H0 : Hid (Fc 0 wo w2 F0 r d M0 (addAll (S.take 0) [])) := h0
      clear h0 HNEW
      go_wp2_with fail
      go_loopw [42] (fun i wr => ∃ (j : Nat) (F : Nat → Prop) (M : DM), i = .int .i64 j ∧ j ≤ S.length ∧ Hid (Fc j wo wr F r d M (addAll (S.take j) []))) (fun i _ => S.length - (intOf i).toNat)
      case atStart => exact ⟨0, F0, M0, rfl, by omega, H0⟩
      case round =>
        obtain ⟨j, F, M, rfl, hj, HD⟩ := hrel
        obtain ⟨wz, rfl⟩ : ∃ wo, wo = wr := ⟨_, rfl⟩
        clear H0
        by_cases hlj : j < S.length
        · obtain ⟨g1, o1, rfl, c1⟩ := texts_at (HRX.out.below HD.out.bel) j hlj
          have hsz := HZX.out S[j] (List.getElem_mem hlj)
          obtain ⟨y, hy⟩ : ∃ x, S[j] = x := ⟨_, rfl⟩
          rw [hy] at c1 hsz
          have hnx2 : S.take j ++ [y] = S.take (j + 1) := by rw [List.take_succ_eq_append_getElem hlj, hy]
          have HNX := Lib.hid hnx2
          have HZ := Lib.hid hsz
          have b2 : (0 : Int) ≤ (j : Int) := by omega
          have b3 : (j : Int) < (S.length : Int) := by omega
          clear hy hnx2 hsz
          go_wp2_with fail
          refine (fc_add wo wz j F r d M _ y HD.out HZ.out (by omega)).mono ?_
          rintro e w4 ⟨rfl, M', h4, -, -⟩
          rw [← addAll_snoc, HNX.out] at h4
          have H4 := Lib.hid h4
          clear h4
          go_wp2_with fail
          go_roundw
          case rel => exact ⟨j + 1, _, M', by go_num, by omega, H4⟩
          case measure => simp [intOf]; omega
        · obtain rfl : j = S.length := by omega
          rw [List.take_length] at HD
          have HFZ := Lib.hid (HF.out.quiet (fr_bel HD.out.bel))
          have HTX := Lib.hid ((HFZ.out.side (vt, T) (List.mem_singleton.2 rfl)).1)
          have HRZ := Lib.hid (HRX.out.below HD.out.bel)
          have hsz5 := HFZ.out.bel.size
          have HSZ5 := Lib.hid hsz5
          clear HRX hsz5
          have HST : Hid (∀ (vt2 : Value) (w5 : World), RowS w.heap.size w5 vt2 (T ++ S) → wz.grownBy w5 vt.ownBlock → (∀ b, vt2.ownBlock = some b → vt.ownBlock = some b ∨ wz.heap.size ≤ b) → Fls 1048576 w w5 vf fs [(vt2, T ++ S)] ∧ Apart 1048576 w w5 vf fs [(vt2, T ++ S)] ⟨r, d, F, M, addAll S []⟩) := fun vt2 w5 h1 h2 h3 => HF.out.step ⟨r, d, F, M, addAll S []⟩ (HD.out.mono (by omega)) h1 h2 h3
          have hrc : ∀ w5 : World, RdC (w5.alloc (.cells #[.pointer (some ⟨r, 0, none⟩)] 67)) 1 (.slice (some ⟨w5.heap.size, 0, none⟩) 1 1) 1 [.pointer (some ⟨r, 0, none⟩)] := fun w5 => RdC.of_owns (World.ownsRow_lit (base := w5.heap.size) (e := 67) (size := 1) w5 #[.pointer (some ⟨r, 0, none⟩)] 1 (Nat.le_refl _) (by decide) rfl)
          have HRC := Lib.hid hrc
          clear hrc
          go_wp2_with (first | (at_builtin; refine wpl_append2 rfl (.tmp 50) (.tmp 51) 39 rfl w.heap.size 9 i0 (.string ⟨#[]⟩) 1 16 Try.underlying39 HI.out HZ0.out HZ1.out HZ2.out rfl (by decide) _ T.length _ rfl HTX.out _ S.length _ rfl HRZ.out (strs1 S) (by unfold maxLen; omega) (by omega) HSZ5.out ?_; intro vt2 w5 hown hgrow hap; have HP5 := Lib.hid (HST.out vt2 w5 (rowS_app hown) hgrow hap); clear hown hgrow hap) | (at_builtin; refine wpl_append2 rfl (.tmp 53) (.tmp 55) 83 rfl w.heap.size 67 j0 (.pointer none) 1 8 Try.underlying83 HJ.out HY0.out HY1.out HY2.out rfl (by decide) _ fs.length _ rfl (HP5.out.1.quiet (Fr.alloc _ _ _)).row _ 1 _ rfl (HRC.out w5) (by simp [Value.oneCell']) (by unfold maxLen; omega) (by omega) (HP5.out.1.quiet (Fr.alloc _ _ _)).bel.size ?_; intro vf2 w6 hown hgrow hap; have HF6 := Lib.hid ((HP5.out.1.quiet (Fr.alloc _ _ _)).app2 (HP5.out.2.quiet (Fr.alloc _ _ _)) hown hgrow hap); clear hown hgrow hap))
          have hM6 : Hid ((fs ++ [some (Fk.mk r d F M (addAll S []))]).map oMem = (l.take (fs.length + 1)).map rowOf ∧ (∀ o ∈ fs ++ [some (Fk.mk r d F M (addAll S []))], ∃ f, o = some f) ∧ ∀ x ∈ T ++ S, x.size ≤ 1048576) := by
            refine ⟨?_, fun o ho => ?_, fun x hx => ?_⟩
            · rw [HTK.out, List.map_append, List.map_append, HM.out.1]; rfl
            · rcases List.mem_append.1 ho with ho | ho
              · exact HM.out.2.1 o ho
              · exact ⟨_, List.mem_singleton.1 ho⟩
            · rcases List.mem_append.1 hx with hx | hx
              · exact HM.out.2.2 x hx
              · exact HZX.out x hx
          have hT6 : (T ++ S).length ≤ 1048576 + ((l.take (fs.length + 1)).map fun x => x.2.length).sum := by
            rw [HTK.out, List.map_append, List.sum_append, List.length_append]
            simp only [List.map_cons, List.map_nil, List.sum_cons, List.sum_nil]
            omega
          go_roundw
          case rel => exact ⟨fs.length + 1, _, T ++ S, by go_num, by omega, hT6, HF6, by simp, hM6⟩
          case measure => simp [intOf]; omega
    · obtain hkl : fs.length = l.length := by omega
      obtain ⟨Ls, hLs⟩ : ∃ Ls, l.map rowOf = Ls := ⟨_, rfl⟩
      obtain ⟨n, hn⟩ : ∃ n, l.length = n := ⟨_, rfl⟩
      have hAS : AlgS w wo vf n Ls [(vt, T)] := ⟨fs, hkl.trans hn, HF.out, by rw [HM.out.1, hkl, List.take_length, hLs], HM.out.2.1⟩
      have hfl : Ls.flatten.length ≤ 1048576 := by rw [← hLs]; exact Nat.le_trans (rows_len l) HS0.out
      have hTl : T.length ≤ 2097152 := by rw [hkl, List.take_length] at hT; have := HS0.out; omega
      have hnl : n ≤ 1048576 := by omega
      have hzt : ∀ x ∈ T, x.size ≤ 1048576 := HM.out.2.2
      obtain ⟨ps, hpl, hrows⟩ := hAS.rows
      have HA1 := Lib.hid hAS
      have HFL := Lib.hid hfl
      have HZT2 := Lib.hid hzt
      have HU := Lib.hid (union_any wo vf ps Ls hrows (by omega))
      have HSL : Hid (∃ a c, vf = .slice a n c) := hAS.slice
      rw [hkl, hn]
      clear hAS hfl hzt hrows hLs hkl hn HR0 HO0 HS0 HM HF hT hlt HR1 HZT hk
      clear ps hpl
      go_wp2_with fail
      refine HU.out.mono ?_
      rintro e wa ⟨vu, U, rfl, hU, hUl, hru, hfu⟩
      have HA2 := Lib.hid (HA1.out.fresh hfu hru)
      have HUR := Lib.hid hU
      have hUl2 : U.length ≤ 1048576 := Nat.le_trans hUl HFL.out
      obtain ⟨ps, hpl, hrows⟩ := HA2.out.rows
      have HN := Lib.hid (inter_any wa vf ps Ls hrows (by have := HFL.out; omega))
      clear hU hUl hru hfu HU HA1 hrows
      clear ps hpl
      go_wp2_with fail
      refine HN.out.mono ?_
      rintro e wb ⟨vn, rfl, hrn, hfn⟩
      have HA3 := Lib.hid (HA2.out.fresh hfn hrn)
      obtain ⟨ps, hpl, hrows⟩ := HA3.out.rows
      have HD := Lib.hid (diff_any wb vf ps Ls hrows (by have := HFL.out; omega))
      clear hrn hfn HN HA2 hrows
      clear ps hpl
      go_wp2_with fail
      refine HD.out.mono ?_
      rintro e wc ⟨vd, rfl, hrd, hfd⟩
      have HA4 := Lib.hid (HA3.out.fresh hfd hrd)
      clear hrd hfd HD HA3
      obtain ⟨N, hN⟩ : ∃ N, interL Ls = N := ⟨_, rfl⟩
      obtain ⟨D, hD⟩ : ∃ D, diffL Ls = D := ⟨_, rfl⟩
      rw [hN, hD] at HA4
      have HNE := Lib.hid hN
      have HDE := Lib.hid hD
      obtain ⟨fa, fc, rfl⟩ := HSL.out
      have hqvu : RowS w.heap.size wc vu U := HA4.out.texts (vu, U) (by simp)
      obtain ⟨ua, uc, rfl⟩ := owns_slice hqvu
      clear hqvu
      have hqvn : RowS w.heap.size wc vn N := HA4.out.texts (vn, N) (by simp)
      obtain ⟨na, nc, rfl⟩ := owns_slice hqvn
      clear hqvn
      have hqvd : RowS w.heap.size wc vd D := HA4.out.texts (vd, D) (by simp)
      obtain ⟨da, dc, rfl⟩ := owns_slice hqvd
      clear hqvd
      have hqvt : RowS w.heap.size wc vt T := HA4.out.texts (vt, T) (by simp)
      obtain ⟨ta, tc, rfl⟩ := owns_slice hqvt
      clear hqvt
      clear hN hD HSL
      by_cases hn0 : n = 0
      · subst hn0
        have hL0 : Ls = [] := List.length_eq_zero_iff.1 HA4.out.len
        subst hL0
        have hU0 : U = [] := List.eq_nil_iff_forall_not_mem.2 fun x hx => by have := (HUR.out.2 x).1 hx; simp at this
        have hN0 : N = [] := by rw [← HNE.out]; rfl
        have hD0 : D = [] := by rw [← HDE.out]; rfl
        subst hU0 hN0 hD0
        go_wp2_with fail
        go_ret
        exact ⟨rfl, HA4.out.bel⟩
      · have hn1 : ((n : Int) == 0) = false := beq_eq_false_iff_ne.2 (by omega)
        obtain ⟨sd, hsd⟩ : ∃ sd : List (Value × List ByteArray), [(.slice da D.length dc, D), (.slice na N.length nc, N), (.slice ua U.length uc, U), (.slice ta T.length tc, T)] = sd := ⟨_, rfl⟩
        have HSD : Hid (((.slice da D.length dc, D) : Value × List ByteArray) ∈ sd) := by rw [← hsd]; exact (show _ ∈ _ from by simp)
        have HSN : Hid (((.slice na N.length nc, N) : Value × List ByteArray) ∈ sd) := by rw [← hsd]; exact (show _ ∈ _ from by simp)
        have HSU : Hid (((.slice ua U.length uc, U) : Value × List ByteArray) ∈ sd) := by rw [← hsd]; exact (show _ ∈ _ from by simp)
        have HST : Hid (((.slice ta T.length tc, T) : Value × List ByteArray) ∈ sd) := by rw [← hsd]; exact (show _ ∈ _ from by simp)
        rw [hsd] at HA4
        obtain ⟨L0, Lr, hL0⟩ : ∃ L0 Lr, Ls = L0 :: Lr := by
          have := HA4.out.len
          cases Ls with
          | nil => exact absurd this.symm hn0
          | cons a b => exact ⟨a, b, rfl⟩
        have HL0 := Lib.hid hL0
        have hND : ∀ L ∈ Ls, L.Nodup := fun L hL => by
          obtain ⟨ps, hpl, hrows⟩ := HA4.out.rows
          obtain ⟨i, hi, hiL⟩ := List.getElem_of_mem hL
          have hi2 : i < ps.length := by rw [hpl, ← HA4.out.len]; exact hi
          exact (hrows.mem i ps[i] L (List.getElem?_eq_getElem hi2) (by rw [List.getElem?_eq_getElem hi, hiL])).size.2.1
        have HND := Lib.hid hND
        have HLN : Hid (Ls.length = n) := HA4.out.len
        clear hsd hL0 hND
        go_wp2_with fail
        go_loopw [82] (fun i wr => ∃ k : Nat, i = .int .i64 k ∧ k ≤ T.length ∧ Hid (AlgS w wr (.slice fa n fc) n Ls sd)) (fun i _ => T.length - (intOf i).toNat)
        case atStart => exact ⟨0, rfl, by omega, HA4⟩
        case round =>
          obtain ⟨k, rfl, hk, HA⟩ := hrel
          obtain ⟨wo, rfl⟩ : ∃ wo, wo = wr := ⟨_, rfl⟩
          clear HA4
          by_cases hlt : k < T.length
          · have hrt : RowS w.heap.size wo (.slice ta T.length tc) T := HA.out.texts _ HST.out
            obtain ⟨g1, o1, rfl, c1⟩ := texts_at (RdC.of_owns hrt) k hlt
            have hsz := HZT2.out T[k] (List.getElem_mem hlt)
            obtain ⟨x, hx⟩ : ∃ x, T[k] = x := ⟨_, rfl⟩
            rw [hx] at c1 hsz
            have HXS : Hid (x.size ≤ maxLen) := by show _ ≤ _; unfold maxLen; omega
            have b0 : (0 : Int) ≤ (k : Int) := by omega
            have b1 : (k : Int) < (T.length : Int) := by omega
            clear hrt hx hsz
            go_wp2_with fail
            go_loopw [17, 88] (fun cv i wr => ∃ j cc : Nat, i = .int .i64 j ∧ cv = .int .i64 cc ∧ j ≤ n ∧ cc ≤ j ∧ Hid (AlgS w wr (.slice fa n fc) n Ls sd) ∧ Hid (cn (Ls.take j).flatten x = cc)) (fun _ i _ => n - (intOf i).toNat)
            case atStart => exact ⟨0, 0, rfl, rfl, by omega, by omega, HA, rfl⟩
            case round =>
              obtain ⟨j, cc, rfl, rfl, hj, hcc, HAJ, HCN⟩ := hrel
              obtain ⟨wz, rfl⟩ : ∃ wo, wo = wr := ⟨_, rfl⟩
              clear HA
              by_cases hlj : j < n
              · obtain ⟨g2, o2, r, L, rfl, hcell, hLj, -, hhas⟩ := HAJ.out.at hlj
                have HHAS := Lib.hid (hhas x HXS.out)
                have hct := cn_take HND.out hLj x
                rw [HCN.out] at hct
                obtain ⟨b, hb⟩ : ∃ b, inL x L = b := ⟨_, rfl⟩
                rw [hb] at HHAS hct
                have b2 : (0 : Int) ≤ (j : Int) := by omega
                have b3 : (j : Int) < (n : Int) := by omega
                clear hhas hLj hb
                cases b with
                | false =>
                  have HCT : Hid (cn (Ls.take (j + 1)).flatten x = cc) := by show _ = _; rw [hct]; rfl
                  clear hct
                  go_wp2_with fail
                  refine HHAS.out.mono ?_
                  rintro e w4 ⟨rfl, h4⟩
                  have H4 := Lib.hid h4
                  clear h4
                  go_wp2_with fail
                  go_roundw
                  case rel => exact ⟨j + 1, cc, by go_num, rfl, by omega, by omega, H4, HCT⟩
                  case measure => simp [intOf]; omega
                | true =>
                  have HCT : Hid (cn (Ls.take (j + 1)).flatten x = cc + 1) := by show _ = _; rw [hct]; rfl
                  have e1 : IntKind.i64.wrap ((cc : Int) + 1) = (cc : Int) + 1 := IntWalk.i64_in _ (by omega)
                  clear hct
                  go_wp2_with fail
                  refine HHAS.out.mono ?_
                  rintro e w4 ⟨rfl, h4⟩
                  have H4 := Lib.hid h4
                  clear h4
                  go_wp2_with fail
                  go_roundw
                  case rel => exact ⟨j + 1, cc + 1, by go_num, by go_num, by omega, by omega, H4, HCT⟩
                  case measure => simp [intOf]; omega
              · obtain rfl : j = n := by omega
                rw [show Ls.take j = Ls by rw [← HLN.out, List.take_length]] at HCN
                have hpos : 0 < j := by omega
                obtain ⟨g2, o2, r, L, rfl, hcell, hLj, -, hhas⟩ := HAJ.out.at hpos
                rw [Nat.add_zero] at hcell
                obtain rfl : L = L0 := by rw [HL0.out] at hLj; exact (Option.some.inj hLj).symm
                have hND2 := HND.out
                have hCN2 := HCN.out
                rw [HL0.out] at hND2 hCN2
                have hbU := in_union HUR.out x
                rw [HCN.out] at hbU
                have hbN := in_inter hND2 x
                rw [← HL0.out, HNE.out, HL0.out, hCN2, ← HL0.out, HLN.out] at hbN
                have hbD : inL x D = (decide (cc = 1) && inL x L) := by
                  have := in_diff (L0 := L) (r := Lr) x
                  rw [← HL0.out, HDE.out, HCN.out] at this
                  exact this
                have HHU := Lib.hid (has10_any wz (.slice ua U.length uc) U x (RdC.of_owns (HAJ.out.texts _ HSU.out)))
                have HHN := Lib.hid (has10_any wz (.slice na N.length nc) N x (RdC.of_owns (HAJ.out.texts _ HSN.out)))
                have HHD := Lib.hid (has10_any wz (.slice da D.length dc) D x (RdC.of_owns (HAJ.out.texts _ HSD.out)))
                have HHAS := Lib.hid (hhas x HXS.out)
                obtain ⟨q1, hq1⟩ : ∃ b, decide (0 < cc) = b := ⟨_, rfl⟩
                obtain ⟨q2, hq2⟩ : ∃ b, decide (cc = j) = b := ⟨_, rfl⟩
                obtain ⟨q3, hq3⟩ : ∃ b, decide (cc = 1) = b := ⟨_, rfl⟩
                obtain ⟨q4, hq4⟩ : ∃ b, inL x L = b := ⟨_, rfl⟩
                have g1 : decide ((0 : Int) < (cc : Int)) = q1 := by rw [← hq1]; exact decide_eq_decide.2 (by omega)
                have g2 : ((cc : Int) == (j : Int)) = q2 := by rw [← hq2, Bool.eq_iff_iff, beq_iff_eq, decide_eq_true_eq]; omega
                have g3 : ((cc : Int) == 1) = q3 := by rw [← hq3, Bool.eq_iff_iff, beq_iff_eq, decide_eq_true_eq]; omega
                have g4 : (cc == j) = q2 := by rw [← hq2, Bool.eq_iff_iff, beq_iff_eq, decide_eq_true_eq]
                have g5 : (cc == 1) = q3 := by rw [← hq3, Bool.eq_iff_iff, beq_iff_eq, decide_eq_true_eq]
                have g6 := hq1
                have g7 := hq2
                have g8 := hq3
                rw [hbU, hq1] at HHU
                rw [hbN, hq2] at HHN
                rw [hbD, hq3, hq4] at HHD
                rw [hq4] at HHAS
                clear hbU hbN hbD hq1 hq2 hq3 hq4 hND2 hCN2 hLj hhas HCN
                cases q3 with
                | false =>
                  cases q1 <;> cases q2 <;>
                  · go_wp2_with fail
                    refine HHU.out.mono ?_
                    rintro e w' ⟨rfl, rfl⟩
                    go_wp2_with fail
                    refine HHN.out.mono ?_
                    rintro e w' ⟨rfl, rfl⟩
                    go_wp2_with fail
                    refine HHD.out.mono ?_
                    rintro e w' ⟨rfl, rfl⟩
                    go_wp2_with fail
                    go_roundw
                    case rel => exact ⟨k + 1, by go_num, by omega, HAJ⟩
                    case measure => simp [intOf]; omega
                | true =>
                  cases q1 <;> cases q2 <;> cases q4 <;>
                  · go_wp2_with fail
                    refine HHU.out.mono ?_
                    rintro e w' ⟨rfl, rfl⟩
                    go_wp2_with fail
                    refine HHN.out.mono ?_
                    rintro e w' ⟨rfl, rfl⟩
                    go_wp2_with fail
                    refine HHD.out.mono ?_
                    rintro e w' ⟨rfl, rfl⟩
                    go_wp2_with fail
                    refine HHAS.out.mono ?_
                    rintro e w4 ⟨rfl, h4⟩
                    have H4 := Lib.hid h4
                    clear h4
                    go_wp2_with fail
                    go_roundw
                    case rel => exact ⟨k + 1, by go_num, by omega, H4⟩
                    case measure => simp [intOf]; omega
          · obtain rfl : k = T.length := by omega
            obtain ⟨ps, hpl, hrows⟩ := HA.out.rows
            rw [HL0.out] at hrows
            obtain ⟨p0, pr, rfl⟩ : ∃ p0 pr, ps = p0 :: pr := by
              cases ps with
              | nil => exact absurd hpl.symm hn0
              | cons a b => exact ⟨a, b, rfl⟩
            have hnp : n = pr.length + 1 := by rw [← hpl]; rfl
            obtain ⟨g2, o2, rfl, hcell⟩ := (show RdC wo 1 (.slice fa n fc) n (p0 :: pr) by have := hrows.rd; rw [hpl] at this; exact this).at (by simp)
            have hc0 := hcell 0 p0 rfl
            obtain ⟨o0, rfl⟩ := (hrows.mem 0 p0 L0 rfl rfl).ptr
            rw [Nat.add_zero] at hc0
            have e1 : IntKind.i64.wrap ((n : Int) - 1) = (pr.length : Int) := by rw [IntWalk.i64_in _ (by omega)]; omega
            have b9 : (0 : Int) < (n : Int) := by omega
            have HROWS := Lib.hid hrows
            have hbk : (wo.alloc (.cells #[.pointer o0] 67)).ownsRow wo.heap.size 67 1 (.slice (some ⟨wo.heap.size, 0, none⟩) 1 1) 1 [.pointer o0] := World.ownsRow_lit (e := 67) wo #[.pointer o0] 1 (Nat.le_refl _) (by decide) rfl
            have HBK := Lib.hid hbk
            have hbb : Below wo.heap.size wo (wo.alloc (.cells #[.pointer o0] 67)) := (Below.refl _ _).alloc (Nat.le_refl _) _
            have HBB := Lib.hid hbb
            have HNP := Lib.hid hnp
            clear hcell hrows hbk hbb hpl hnp
            go_wp2_with fail
            go_loopw [20, 21] (fun bv i wr => ∃ (j m : Nat), i = .int .i64 j ∧ j + m = pr.length ∧ Hid (wr.ownsRow wo.heap.size 67 1 bv (m + 1) (.pointer o0 :: (pr.drop j).reverse)) ∧ Hid (Below wo.heap.size wo wr)) (fun _ i _ => (intOf i).toNat)
            case atStart => exact ⟨pr.length, 0, rfl, by omega, by rw [List.drop_length]; exact HBK, HBB⟩
            case round =>
              obtain ⟨j, m, rfl, hjm, HBV, HBW⟩ := hrel
              obtain ⟨bv, rfl⟩ : ∃ v, v = u20 := ⟨_, rfl⟩
              obtain ⟨wz, rfl⟩ : ∃ wo, wo = wr := ⟨_, rfl⟩
              clear HBK HBB hc0
              by_cases hj0 : 0 < j
              · have b0 : (0 : Int) ≤ (j : Int) := by omega
                have b1 : (j : Int) < (n : Int) := by have := HNP.out; omega
                have g1 : decide ((0 : Int) < (j : Int)) = true := decide_eq_true (by omega)
                have g2' : decide (0 < j) = true := decide_eq_true hj0
                have e2 : IntKind.i64.wrap ((j : Int) - 1) = ((j - 1 : Nat) : Int) := by rw [IntWalk.i64_in _ (by omega)]; omega
                have hrw := HROWS.out.quiet (fr_bel HBW.out)
                obtain ⟨g3, o3, e3, hcell⟩ := (show RdC wz 1 (.slice (some ⟨g2, o2, none⟩) n fc) n (.pointer o0 :: pr) by have := hrw.rd; rw [List.length_cons, ← HNP.out] at this; exact this).at (by simp)
                cases e3
                have hjl : j - 1 < pr.length := by omega
                obtain ⟨pj, hpj⟩ : ∃ p, pr[j - 1]? = some p := ⟨_, List.getElem?_eq_getElem hjl⟩
                have hps : (Value.pointer o0 :: pr)[j]? = some pj := by
                  rw [show j = (j - 1) + 1 by omega, List.getElem?_cons_succ]; exact hpj
                have hcj := hcell j pj hps
                obtain ⟨Lj, hLj⟩ : ∃ L, (L0 :: Lr)[j]? = some L := ⟨_, List.getElem?_eq_getElem (by rw [hrw.len, List.length_cons]; omega)⟩
                obtain ⟨oj, rfl⟩ := (hrw.mem j pj Lj hps hLj).ptr
                have hdr : pr.drop (j - 1) = .pointer oj :: pr.drop j := by
                  rw [List.drop_eq_getElem_cons hjl, show j - 1 + 1 = j by omega]
                  rw [List.getElem?_eq_getElem hjl] at hpj
                  rw [Option.some.inj hpj]
                have HDR : Hid ((Value.pointer o0 :: (pr.drop j).reverse) ++ [.pointer oj] = .pointer o0 :: (pr.drop (j - 1)).reverse) := by
                  show _ = _
                  rw [hdr, List.reverse_cons, List.cons_append]
                have hm : m ≤ 1048576 := by have := HNP.out; omega
                clear hrw hcell hpj hps hLj hdr
                go_wp2_with (at_builtin; refine wpl_append2 rfl (.tmp 141) (.tmp 146) 83 rfl wo.heap.size 67 j0 (.pointer none) 1 8 Try.underlying83 HJ.out HY0.out HY1.out HY2.out rfl (by decide) _ (m + 1) _ rfl (HBV.out.alloc _) _ 1 [.pointer oj] rfl (RdC.of_owns (World.ownsRow_lit (e := 67) wz #[.pointer oj] 1 (Nat.le_refl _) (by decide) rfl)) (by simp [Value.oneCell']) (by unfold maxLen; omega) (by omega) (by rw [World.size_alloc]; have := HBW.out.size; omega) ?_; intro bv2 w6 hown hgrow hap; rw [HDR.out] at hown; have HO6 := Lib.hid hown; have HG6 := Lib.hid hgrow; clear hown hgrow hap)
                have HB6 : Hid (Below wo.heap.size wo w6) := (HBW.out.alloc HBW.out.size _).trans ((Fr.of_grownBy HG6.out).below (by rw [World.size_alloc]; have := HBW.out.size; omega) (fun i hi => (own_blk HBV.out hi).1))
                go_roundw
                case rel => exact ⟨j - 1, m + 1, by go_num, by omega, HO6.out, HB6⟩
                case measure => simp [intOf]; omega
              · obtain rfl : j = 0 := by omega
                obtain rfl : m = pr.length := by omega
                have hbv := HBV.out
                rw [List.drop_zero] at hbv
                have hA5 := HA.out.quiet (fr_bel HBW.out)
                have hr5 := (HROWS.out.quiet (fr_bel HBW.out)).back (RdC.of_owns hbv)
                have hfb : (L0 :: Lr.reverse).flatten.length ≤ 1048576 := by rw [(back_perm L0 Lr).length_eq, ← HL0.out]; exact HFL.out
                have hUn := union_any wz bv _ _ hr5 (by omega)
                have HA5 := Lib.hid hA5
                have HR5 := Lib.hid hr5
                have HFB := Lib.hid hfb
                have HUN := Lib.hid hUn
                have h00 : decide ((0 : Int) < 0) = false := rfl
                clear hbv hA5 hr5 hfb hUn HBV HBW HA hj0
                go_wp2_with fail
                refine HUN.out.mono ?_
                rintro e wd1 ⟨v1, l1, rfl, hl1, -, hr1, hf1⟩
                obtain rfl : l1 = U := by have := HUR.out; rw [HL0.out] at this; exact back_union this hl1
                have HA6 := Lib.hid (HA5.out.quiet hf1)
                have HR6 := Lib.hid (HR5.out.quiet hf1)
                have HSM := Lib.hid (same10_any wd1 v1 (.slice ua l1.length uc) l1 l1 (RdC.of_owns hr1) (RdC.of_owns (HA6.out.texts _ HSU.out)))
                rw [decide_eq_true rfl] at HSM
                clear hl1 hr1 hf1 HA5 HR5 HUN
                go_wp2_with fail
                refine HSM.out.mono ?_
                rintro e w' ⟨rfl, m1, rfl⟩
                obtain ⟨we, hwe⟩ : ∃ we, wd1.drewN m1 = we := ⟨_, rfl⟩
                have hfe : Fr (fun _ => False) wd1 we := by rw [← hwe]; exact Fr.drewN _ _ _
                rw [hwe]
                have HA7 := Lib.hid (HA6.out.quiet hfe)
                have HR7 := Lib.hid (HR6.out.quiet hfe)
                have HIN := Lib.hid (inter_any we bv _ _ HR7.out (by have := HFB.out; omega))
                rw [back_inter, ← HL0.out, HNE.out] at HIN
                clear hwe hfe HA6 HR6 HSM
                go_wp2_with fail
                refine HIN.out.mono ?_
                rintro e wf ⟨v2, rfl, hr2, hf2⟩
                have HA8 := Lib.hid (HA7.out.quiet hf2)
                have HR8 := Lib.hid (HR7.out.quiet hf2)
                have HSM := Lib.hid (same10_any wf v2 (.slice na N.length nc) N N (RdC.of_owns hr2) (RdC.of_owns (HA8.out.texts _ HSN.out)))
                rw [decide_eq_true rfl] at HSM
                clear hr2 hf2 HA7 HR7 HIN
                go_wp2_with fail
                refine HSM.out.mono ?_
                rintro e w' ⟨rfl, m2, rfl⟩
                obtain ⟨wg, hwg⟩ : ∃ we, wf.drewN m2 = we := ⟨_, rfl⟩
                have hfg : Fr (fun _ => False) wf wg := by rw [← hwg]; exact Fr.drewN _ _ _
                rw [hwg]
                have HA9 := Lib.hid (HA8.out.quiet hfg)
                have HR9 := Lib.hid (HR8.out.quiet hfg)
                have HDI := Lib.hid (diff_any wg bv _ _ HR9.out (by have := HFB.out; omega))
                rw [back_diff, ← HL0.out, HDE.out] at HDI
                clear hwg hfg HA8 HR8 HSM
                go_wp2_with fail
                refine HDI.out.mono ?_
                rintro e wh ⟨v3, rfl, hr3, hf3⟩
                have HB1 := Lib.hid (HA9.out.quiet hf3)
                have HSM := Lib.hid (same10_any wh v3 (.slice da D.length dc) D D (RdC.of_owns hr3) (RdC.of_owns (HB1.out.texts _ HSD.out)))
                rw [decide_eq_true rfl] at HSM
                clear hr3 hf3 HA9 HR9 HDI
                go_wp2_with fail
                refine HSM.out.mono ?_
                rintro e w' ⟨rfl, m3, rfl⟩
                obtain ⟨wi, hwi⟩ : ∃ we, wh.drewN m3 = we := ⟨_, rfl⟩
                have hfi : Fr (fun _ => False) wh wi := by rw [← hwi]; exact Fr.drewN _ _ _
                rw [hwi]
                have HB2 := Lib.hid (HB1.out.quiet hfi)
                clear hwi hfi HB1 HSM
                obtain ⟨W, hW⟩ : ∃ W, wi.alloc (.cells #[.slice ua l1.length uc, .slice na N.length nc, .slice da D.length dc] 39) = W := ⟨_, rfl⟩
                have HB3 : Hid (AlgS w W (.slice (some ⟨g2, o2, none⟩) n fc) n Ls sd) := by rw [← hW]; exact HB2.out.quiet (Fr.alloc _ _ _)
                have HBW3 : Hid (W.heap[wi.heap.size]? = some (.cells #[.slice ua l1.length uc, .slice na N.length nc, .slice da D.length dc] 39 (0, 0))) := by rw [← hW]; exact alloc_new wi _
                clear HB2
                have hL0r : L0.Pairwise ltS := by
                  rcases HROWS.out.mem 0 _ L0 rfl rfl with ⟨_, h⟩ | ⟨_, _, _, _, _, _, _, _, _, h⟩
                  · rw [h]; exact List.Pairwise.nil
                  · exact h
                obtain ⟨r3, hr3⟩ : ∃ r3 : List (Value × List ByteArray), [(.slice ua l1.length uc, l1), (.slice na N.length nc, N), (.slice da D.length dc, D)] = r3 := ⟨_, rfl⟩
                have HRS : Hid (∀ p ∈ r3, p.2.Pairwise ltS ∧ p ∈ sd ∧ ∃ a c, p.1 = .slice a p.2.length c) := by
                  have hNr : N.Pairwise ltS := by rw [← HNE.out, HL0.out]; exact chosen_rises hL0r
                  have hDr : D.Pairwise ltS := by rw [← HDE.out, HL0.out]; exact chosen_rises hL0r
                  show ∀ p ∈ r3, _
                  rw [← hr3]
                  simp only [List.forall_mem_cons, List.not_mem_nil, false_implies, implies_true, and_true]
                  exact ⟨⟨HUR.out.1, HSU.out, _, _, rfl⟩, ⟨hNr, HSN.out, _, _, rfl⟩, ⟨hDr, HSD.out, _, _, rfl⟩⟩
                have HCL : Hid (∀ k, k < 3 → ∃ p ∈ r3, W.cell? ⟨wi.heap.size, k, none⟩ = some p.1) := by
                  intro k hk
                  match k, hk with
                  | 0, _ => exact ⟨_, by rw [← hr3]; exact List.mem_cons_self .., by rw [cell_of_blk HBW3.out]; rfl⟩
                  | 1, _ => exact ⟨_, by rw [← hr3]; exact List.mem_cons_of_mem _ (List.mem_cons_self ..), by rw [cell_of_blk HBW3.out]; rfl⟩
                  | 2, _ => exact ⟨_, by rw [← hr3]; exact List.mem_cons_of_mem _ (List.mem_cons_of_mem _ (List.mem_cons_self ..)), by rw [cell_of_blk HBW3.out]; rfl⟩
                have HBL : Hid (wi.heap.size < W.heap.size) := (Array.getElem?_eq_some_iff.1 HBW3.out).1
                have HF0 : Hid (Fr (fun _ => False) W W) := Fr.refl _ _
                clear hr3 hL0r HBW3
                go_wp2_with fail
                try rw [hW]
                clear hW
                go_loopw [172] (fun i wr => ∃ k : Nat, i = .int .i64 k ∧ k ≤ 3 ∧ Hid (Fr (fun _ => False) W wr)) (fun i _ => 3 - (intOf i).toNat)
                case atStart => exact ⟨0, rfl, by omega, HF0⟩
                case round =>
                  obtain ⟨k, rfl, hk3, HFK⟩ := hrel
                  obtain ⟨wk, rfl⟩ : ∃ wo, wo = wr := ⟨_, rfl⟩
                  clear HF0
                  by_cases hk4 : k < 3
                  · obtain ⟨⟨xv, X⟩, hp1, hcell⟩ := HCL.out k hk4
                    obtain ⟨hX1, hX2, xa, xc, hxv⟩ := HRS.out _ hp1
                    dsimp only at hX1 hxv hcell
                    subst hxv
                    have hck : wk.cell? ⟨wi.heap.size, k, none⟩ = some (.slice xa X.length xc) := HFK.out.cell hcell (fun h => h)
                    have HX1 := Lib.hid hX1
                    have HRX := Lib.hid (HB3.out.texts _ hX2)
                    have hXl : X.length ≤ 9223372036854775807 := by have := (RdC.of_owns HRX.out).len; unfold maxLen at this; exact this
                    have b0 : (0 : Int) ≤ (k : Int) := by omega
                    have b1 : (k : Int) < 3 := by omega
                    clear hp1 hcell hX1 hX2
                    go_wp2_with fail
                    go_loopw [24] (fun i wr => ∃ j : Nat, i = .int .i64 j ∧ 1 ≤ j ∧ (j ≤ X.length ∨ j = 1) ∧ Hid (Fr (fun _ => False) W wr)) (fun i _ => X.length + 1 - (intOf i).toNat)
                    case atStart => exact ⟨1, rfl, by omega, .inr rfl, HFK⟩
                    case round =>
                      obtain ⟨j, rfl, hj1, hj2, HFJ⟩ := hrel
                      obtain ⟨wz, rfl⟩ : ∃ wo, wo = wr := ⟨_, rfl⟩
                      clear HFK hck
                      by_cases hlj : j < X.length
                      · have hrz := RdC.of_owns (ow_fr HRX.out HFJ.out (fun _ _ h => h))
                        obtain ⟨gx, ox, rfl, cx⟩ := texts_at hrz j hlj
                        obtain ⟨gy, oy, ey, cy⟩ := texts_at hrz (j - 1) (by omega)
                        cases ey
                        have hlt2 := List.pairwise_iff_getElem.1 HX1.out (j - 1) j (by omega) hlj (by omega)
                        obtain ⟨x, hx⟩ : ∃ x, X[j] = x := ⟨_, rfl⟩
                        obtain ⟨y, hy⟩ : ∃ y, X[j - 1]'(by omega) = y := ⟨_, rfl⟩
                        rw [hx] at cx hlt2
                        rw [hy] at cy hlt2
                        have k1 : Op.bytesLess y.toList x.toList = true := by rw [bytesLess_eq]; exact decide_eq_true hlt2
                        have b2 : (0 : Int) ≤ (j : Int) := by omega
                        have b3 : (j : Int) < (X.length : Int) := by omega
                        have b6 : (j : Int) - 1 < (X.length : Int) := by omega
                        have b7 : (0 : Int) ≤ (j : Int) - 1 := by omega
                        have e7 : IntKind.i64.wrap ((j : Int) - 1) = (j : Int) - 1 := IntWalk.i64_in _ (by omega)
                        clear hrz hx hy hlt2
                        go_upto_region 46 with (fail)
                        go_quiet (fail)
                        have HF9 : Hid (Fr (fun _ => False) W (wz.drewN nq)) := HFJ.out.trans (Fr.drewN _ _ _) (fun _ h _ => h)
                        go_wp2_with fail
                        go_roundw
                        case rel => exact ⟨j + 1, by go_num, by omega, .inl (by omega), HF9⟩
                        case measure => simp [intOf]; omega
                      · have b3 : ¬ (j : Int) < (X.length : Int) := by omega
                        go_wp2_with fail
                        go_roundw
                        case rel => exact ⟨k + 1, by go_num, by omega, HFJ⟩
                        case measure => simp [intOf]; omega
                  · obtain rfl : k = 3 := by omega
                    have HB4 := Lib.hid (HB3.out.quiet HFK.out)
                    obtain ⟨g4, o4, r0, L4, e4, hcl, hL4, hmem, -⟩ := HB4.out.at (j := 0) (by omega)
                    cases e4
                    rw [HL0.out] at hL4
                    cases hL4
                    rw [Nat.add_zero] at hcl
                    have HCL4 := Lib.hid hcl
                    have HS : Hid (∀ w', Fr (fun _ => False) wk w' → w'.cell? ⟨g2, o2, none⟩ = some (.pointer (some ⟨r0, 0, none⟩)) ∧ Fr (fun _ => False) wk w') := fun w' h => ⟨h.cell HCL4.out (fun h => h), h⟩
                    have hsr : L0.Pairwise ltS := by
                      rcases hmem with ⟨_, h⟩ | ⟨_, _, _, _, _, _, _, _, _, h⟩
                      · rw [h]; exact List.Pairwise.nil
                      · exact h
                    have HMO := Lib.hid hmem
                    have hl0 : L0.length ≤ 1048576 := by
                      have h1 := HFL.out
                      rw [HL0.out, List.flatten_cons, List.length_append] at h1
                      omega
                    have hm2 : ∀ W, MemOf W (.pointer (some ⟨r0, 0, none⟩)) L0 → ∀ (i : Nat) (p : Value) (L : List ByteArray), [Value.pointer (some ⟨r0, 0, none⟩), .pointer (some ⟨r0, 0, none⟩)][i]? = some p → [L0, L0][i]? = some L → MemOf W p L := fun W h i p L h1 h2 => by
                      match i with
                      | 0 => cases h1; cases h2; exact h
                      | 1 => cases h1; cases h2; exact h
                      | i + 2 => simp at h1
                    have hfl2 : [L0, L0].flatten.length < 1099511627776 := by simp; omega
                    have HUL : Hid (∀ W, MemOf W (.pointer (some ⟨r0, 0, none⟩)) L0 → Calls Try.prog 43 #[.slice (some ⟨W.heap.size, 0, none⟩) 2 2] (W.alloc (.cells #[.pointer (some ⟨r0, 0, none⟩), .pointer (some ⟨r0, 0, none⟩)] 67)) (RdPost W L0)) :=
                      fun W h => union_lit W [.pointer (some ⟨r0, 0, none⟩), .pointer (some ⟨r0, 0, none⟩)] [L0, L0] L0 (by unfold maxLen; simp) rfl (hm2 W h) hfl2 ⟨hsr, by simp⟩
                    have HDL : Hid (∀ W, MemOf W (.pointer (some ⟨r0, 0, none⟩)) L0 → Calls Try.prog 45 #[.slice (some ⟨W.heap.size, 0, none⟩) 2 2] (W.alloc (.cells #[.pointer (some ⟨r0, 0, none⟩), .pointer (some ⟨r0, 0, none⟩)] 67)) (RdPost W [])) :=
                      fun W h => diff_lit W [.pointer (some ⟨r0, 0, none⟩), .pointer (some ⟨r0, 0, none⟩)] [L0, L0] [] (by unfold maxLen; simp) rfl (hm2 W h) hfl2 (twice_diff (ltS_nodup hsr))
                    clear hcl hmem hsr hm2 hfl2 HCL HRS
                    have b1 : (0 : Int) < (n : Int) := by omega
                    have b0 : 0 < n := by omega
                    go_upto_region 49 with (fail)
                    refine wp_region_held_drew (S := (fun w' => w'.cell? ⟨g2, o2, none⟩ = some (.pointer (some ⟨r0, 0, none⟩)) ∧ Fr (fun _ => False) wk w')) (by kernel_rfl) ?_ (fun hHeld => ?_)
                    · exact HS.out _ (Fr.drew _ _)
                    refine takeH (i := 0) (d := 193) (v := ?vz0) rfl (by kernel_rfl) (by kernel_rfl) (by kernel_rfl) (by kernel_rfl) (fun _ _ _ h => h) (Or.inl ⟨by kernel_rfl, ?hyz0⟩) hHeld ?restz0
                    case hyz0 =>
                      intro w hSw
                      try dsimp only at hSw
                      first | (go_simp; done) | (go_simp; with_reducible rfl)
                    try simp only [Act.put, List.setIfInBounds_toArray, List.set_cons_zero, List.set_cons_succ]
                    refine takeH (i := 1) (d := 194) (v := ?vz1) rfl (by kernel_rfl) (by kernel_rfl) (by kernel_rfl) (by kernel_rfl) (fun _ _ _ h => h) (Or.inl ⟨by kernel_rfl, ?hyz1⟩) hHeld ?restz1
                    case hyz1 =>
                      intro w hSw
                      try dsimp only at hSw
                      first | (go_simp; done) | (go_simp; with_reducible rfl)
                    try simp only [Act.put, List.setIfInBounds_toArray, List.set_cons_zero, List.set_cons_succ]
                    refine takeH (i := 2) (d := 195) (v := ?vz2) rfl (by kernel_rfl) (by kernel_rfl) (by kernel_rfl) (by kernel_rfl) (fun _ _ _ h => h) (Or.inl ⟨by kernel_rfl, ?hyz2⟩) hHeld ?restz2
                    case hyz2 =>
                      intro w hSw
                      try dsimp only at hSw
                      first | (go_simp; done) | (go_simp; with_reducible rfl)
                    try simp only [Act.put, List.setIfInBounds_toArray, List.set_cons_zero, List.set_cons_succ]
                    refine takeH (i := 3) (d := 196) (v := ?vz3) rfl (by kernel_rfl) (by kernel_rfl) (by kernel_rfl) (by kernel_rfl) (fun _ _ _ h => h) (Or.inl ⟨by kernel_rfl, ?hyz3⟩) hHeld ?restz3
                    case hyz3 =>
                      intro w hSw
                      try dsimp only at hSw
                      first | (go_simp; done) | (go_simp; with_reducible rfl)
                    try simp only [Act.put, List.setIfInBounds_toArray, List.set_cons_zero, List.set_cons_succ]
                    refine takeH (i := 4) (d := 197) (v := ?vz4) rfl (by kernel_rfl) (by kernel_rfl) (by kernel_rfl) (by kernel_rfl) (fun _ _ _ h => h) (Or.inl ⟨by kernel_rfl, ?hyz4⟩) hHeld ?restz4
                    case hyz4 =>
                      intro w hSw
                      try dsimp only at hSw
                      first | (go_simp; done) | (go_simp; with_reducible rfl)
                    try simp only [Act.put, List.setIfInBounds_toArray, List.set_cons_zero, List.set_cons_succ]
                    refine takeH (i := 5) (d := 198) (v := ?vz5) rfl (by kernel_rfl) (by kernel_rfl) (by kernel_rfl) (by kernel_rfl) (fun _ _ _ h => h) (Or.inl ⟨by kernel_rfl, ?hyz5⟩) hHeld ?restz5
                    case hyz5 =>
                      intro w hSw
                      try dsimp only at hSw
                      first | (go_simp; done) | (go_simp; with_reducible rfl)
                    try simp only [Act.put, List.setIfInBounds_toArray, List.set_cons_zero, List.set_cons_succ]
                    refine takeH (i := 8) (d := 201) (v := ?vz6) rfl (by kernel_rfl) (by kernel_rfl) (by kernel_rfl) (by kernel_rfl) (fun _ _ _ h => h) (Or.inl ⟨by kernel_rfl, ?hyz6⟩) hHeld ?restz6
                    case hyz6 =>
                      intro w hSw
                      try dsimp only at hSw
                      first | (go_simp; done) | (go_simp; with_reducible rfl)
                    try simp only [Act.put, List.setIfInBounds_toArray, List.set_cons_zero, List.set_cons_succ]
                    refine takeH (i := 9) (d := 202) (v := ?vz7) rfl (by kernel_rfl) (by kernel_rfl) (by kernel_rfl) (by kernel_rfl) (fun _ _ _ h => h) (Or.inl ⟨by kernel_rfl, ?hyz7⟩) hHeld ?restz7
                    case hyz7 =>
                      intro w hSw
                      try dsimp only at hSw
                      first | (go_simp; done) | (go_simp; with_reducible rfl)
                    try simp only [Act.put, List.setIfInBounds_toArray, List.set_cons_zero, List.set_cons_succ]
                    refine takeH (i := 10) (d := 203) (v := ?vz8) rfl (by kernel_rfl) (by kernel_rfl) (by kernel_rfl) (by kernel_rfl) (fun _ _ _ h => h) (Or.inl ⟨by kernel_rfl, ?hyz8⟩) hHeld ?restz8
                    case hyz8 =>
                      intro w hSw
                      try dsimp only at hSw
                      first | (go_simp; done) | (go_simp; with_reducible rfl)
                    try simp only [Act.put, List.setIfInBounds_toArray, List.set_cons_zero, List.set_cons_succ]
                    refine wpAnyH_ready (rs := [6]) (by kernel_rfl) (by simp) ?_
                    refine AllReadyH.cons rfl (fun K hK => ?_) AllReadyH.nil
                    have HH := Lib.hid hHeld
                    clear hHeld
                    go_simp
                    refine hK.out _ _ ?_ (fun hNew => ?_)
                    · exact HS.out _ ((Fr.drew _ _).trans (Fr.alloc (fun _ => False) _ _) (fun _ h _ => h))
                    clear hK K HH
                    have hHeld := hNew
                    clear hNew
                    try simp only [Act.put, List.setIfInBounds_toArray, List.set_cons_zero, List.set_cons_succ]
                    refine wpAnyH_ready (rs := [7]) (by kernel_rfl) (by simp) ?_
                    refine AllReadyH.cons rfl (fun K hK => ?_) AllReadyH.nil
                    have HH := Lib.hid hHeld
                    clear hHeld
                    go_simp
                    refine (HUL.out _ (HMO.out.quiet (Fr.drew _ _))).mono ?_
                    rintro e x5 ⟨qa, qc, rfl, hru, hfu⟩
                    have HRU := Lib.hid hru
                    have HFU := Lib.hid ((Fr.drew (fun _ => False) wk).trans hfu (fun _ h _ => h))
                    clear hru hfu
                    refine hK.out _ _ ?_ (fun hNew => ?_)
                    · exact HS.out _ HFU.out
                    clear hK K HH
                    have hHeld := hNew
                    clear hNew
                    try simp only [Act.put, List.setIfInBounds_toArray, List.set_cons_zero, List.set_cons_succ]
                    refine wpAnyH_ready (rs := [11]) (by kernel_rfl) (by simp) ?_
                    refine AllReadyH.cons rfl (fun K hK => ?_) AllReadyH.nil
                    have HH := Lib.hid hHeld
                    clear hHeld
                    go_simp
                    refine (memOf_any x5 _ L0 (HMO.out.quiet HFU.out)).mono ?_
                    rintro e x6 ⟨v6, rfl, hr6, hf6⟩
                    obtain ⟨ma, mc, rfl⟩ := ow_sliceN hr6
                    have HRU6 := Lib.hid (HRU.out.fr hf6 (fun _ _ h => h))
                    have HF6 := Lib.hid (HFU.out.trans hf6 (fun _ h _ => h))
                    have HSM := Lib.hid (same10_any x6 _ _ L0 L0 HRU6.out (RdC.of_owns hr6))
                    rw [decide_eq_true rfl] at HSM
                    clear hr6 hf6
                    refine hK.out _ _ ?_ (fun hNew => ?_)
                    · exact HS.out _ HF6.out
                    clear hK K HH
                    have hHeld := hNew
                    clear hNew
                    try simp only [Act.put, List.setIfInBounds_toArray, List.set_cons_zero, List.set_cons_succ]
                    refine wpAnyH_ready (rs := [12]) (by kernel_rfl) (by simp) ?_
                    refine AllReadyH.cons rfl (fun K hK => ?_) AllReadyH.nil
                    have HH := Lib.hid hHeld
                    clear hHeld
                    go_simp
                    refine HSM.out.mono ?_
                    rintro e x7 ⟨rfl, m7, rfl⟩
                    obtain ⟨x7, hx7⟩ : ∃ x7, x6.drewN m7 = x7 := ⟨_, rfl⟩
                    have HF7 : Hid (Fr (fun _ => False) wk x7) := by rw [← hx7]; exact HF6.out.thenDrewN _
                    rw [hx7]
                    clear hx7
                    refine hK.out _ _ ?_ (fun hNew => ?_)
                    · exact HS.out _ HF7.out
                    clear hK K HH
                    have hHeld := hNew
                    clear hNew
                    try simp only [Act.put, List.setIfInBounds_toArray, List.set_cons_zero, List.set_cons_succ]
                    refine takeH (i := 13) (d := 206) (v := ?vz9) rfl (by kernel_rfl) (by kernel_rfl) (by kernel_rfl) (by kernel_rfl) (fun _ _ _ h => h) (Or.inl ⟨by kernel_rfl, ?hyz9⟩) hHeld ?restz9
                    case hyz9 =>
                      intro w hSw
                      try dsimp only at hSw
                      first | (go_simp; done) | (go_simp; with_reducible rfl)
                    try simp only [Act.put, List.setIfInBounds_toArray, List.set_cons_zero, List.set_cons_succ]
                    refine takeH (i := 14) (d := 207) (v := ?vz10) rfl (by kernel_rfl) (by kernel_rfl) (by kernel_rfl) (by kernel_rfl) (fun _ _ _ h => h) (Or.inl ⟨by kernel_rfl, ?hyz10⟩) hHeld ?restz10
                    case hyz10 =>
                      intro w hSw
                      try dsimp only at hSw
                      first | (go_simp; done) | (go_simp; with_reducible rfl)
                    try simp only [Act.put, List.setIfInBounds_toArray, List.set_cons_zero, List.set_cons_succ]
                    refine takeH (i := 15) (d := 208) (v := ?vz11) rfl (by kernel_rfl) (by kernel_rfl) (by kernel_rfl) (by kernel_rfl) (fun _ _ _ h => h) (Or.inl ⟨by kernel_rfl, ?hyz11⟩) hHeld ?restz11
                    case hyz11 =>
                      intro w hSw
                      try dsimp only at hSw
                      first | (go_simp; done) | (go_simp; with_reducible rfl)
                    try simp only [Act.put, List.setIfInBounds_toArray, List.set_cons_zero, List.set_cons_succ]
                    refine takeH (i := 16) (d := 209) (v := ?vz12) rfl (by kernel_rfl) (by kernel_rfl) (by kernel_rfl) (by kernel_rfl) (fun _ _ _ h => h) (Or.inl ⟨by kernel_rfl, ?hyz12⟩) hHeld ?restz12
                    case hyz12 =>
                      intro w hSw
                      try dsimp only at hSw
                      first | (go_simp; done) | (go_simp; with_reducible rfl)
                    try simp only [Act.put, List.setIfInBounds_toArray, List.set_cons_zero, List.set_cons_succ]
                    refine takeH (i := 17) (d := 210) (v := ?vz13) rfl (by kernel_rfl) (by kernel_rfl) (by kernel_rfl) (by kernel_rfl) (fun _ _ _ h => h) (Or.inl ⟨by kernel_rfl, ?hyz13⟩) hHeld ?restz13
                    case hyz13 =>
                      intro w hSw
                      try dsimp only at hSw
                      first | (go_simp; done) | (go_simp; with_reducible rfl)
                    try simp only [Act.put, List.setIfInBounds_toArray, List.set_cons_zero, List.set_cons_succ]
                    refine takeH (i := 18) (d := 211) (v := ?vz14) rfl (by kernel_rfl) (by kernel_rfl) (by kernel_rfl) (by kernel_rfl) (fun _ _ _ h => h) (Or.inl ⟨by kernel_rfl, ?hyz14⟩) hHeld ?restz14
                    case hyz14 =>
                      intro w hSw
                      try dsimp only at hSw
                      first | (go_simp; done) | (go_simp; with_reducible rfl)
                    try simp only [Act.put, List.setIfInBounds_toArray, List.set_cons_zero, List.set_cons_succ]
                    refine takeH (i := 19) (d := 212) (v := ?vz15) rfl (by kernel_rfl) (by kernel_rfl) (by kernel_rfl) (by kernel_rfl) (fun _ _ _ h => h) (Or.inl ⟨by kernel_rfl, ?hyz15⟩) hHeld ?restz15
                    case hyz15 =>
                      intro w hSw
                      try dsimp only at hSw
                      first | (go_simp; done) | (go_simp; with_reducible rfl)
                    try simp only [Act.put, List.setIfInBounds_toArray, List.set_cons_zero, List.set_cons_succ]
                    refine wpAnyH_ready (rs := [20]) (by kernel_rfl) (by simp) ?_
                    refine AllReadyH.cons rfl (fun K hK => ?_) AllReadyH.nil
                    have HH := Lib.hid hHeld
                    clear hHeld
                    go_simp
                    refine hK.out _ _ ?_ (fun hNew => ?_)
                    · exact HS.out _ (HF7.out.trans (Fr.alloc (fun _ => False) _ _) (fun _ h _ => h))
                    clear hK K HH
                    have hHeld := hNew
                    clear hNew
                    try simp only [Act.put, List.setIfInBounds_toArray, List.set_cons_zero, List.set_cons_succ]
                    refine wpAnyH_ready (rs := [21]) (by kernel_rfl) (by simp) ?_
                    refine AllReadyH.cons rfl (fun K hK => ?_) AllReadyH.nil
                    have HH := Lib.hid hHeld
                    clear hHeld
                    go_simp
                    refine (HDL.out x7 (HMO.out.quiet HF7.out)).mono ?_
                    rintro e x8 ⟨da2, dc2, rfl, hrd, hfd⟩
                    have HF8 := Lib.hid (HF7.out.trans hfd (fun _ h _ => h))
                    clear hrd hfd
                    refine hK.out _ _ ?_ (fun hNew => ?_)
                    · exact HS.out _ HF8.out
                    clear hK K HH
                    have hHeld := hNew
                    clear hNew
                    try simp only [Act.put, List.setIfInBounds_toArray, List.set_cons_zero, List.set_cons_succ]
                    refine takeH (i := 22) (d := 215) (v := ?vz16) rfl (by kernel_rfl) (by kernel_rfl) (by kernel_rfl) (by kernel_rfl) (fun _ _ _ h => h) (Or.inl ⟨by kernel_rfl, ?hyz16⟩) hHeld ?restz16
                    case hyz16 =>
                      intro w hSw
                      try dsimp only at hSw
                      first | (go_simp; done) | (go_simp; with_reducible rfl)
                    try simp only [Act.put, List.setIfInBounds_toArray, List.set_cons_zero, List.set_cons_succ]
                    refine takeH (i := 23) (d := 216) (v := ?vz17) rfl (by kernel_rfl) (by kernel_rfl) (by kernel_rfl) (by kernel_rfl) (fun _ _ _ h => h) (Or.inl ⟨by kernel_rfl, ?hyz17⟩) hHeld ?restz17
                    case hyz17 =>
                      intro w hSw
                      try dsimp only at hSw
                      first | (go_simp; done) | (go_simp; with_reducible rfl)
                    try simp only [Act.put, List.setIfInBounds_toArray, List.set_cons_zero, List.set_cons_succ]
                    refine takeH (i := 24) (d := 217) (v := ?vz18) rfl (by kernel_rfl) (by kernel_rfl) (by kernel_rfl) (by kernel_rfl) (fun _ _ _ h => h) (Or.inl ⟨by kernel_rfl, ?hyz18⟩) hHeld ?restz18
                    case hyz18 =>
                      intro w hSw
                      try dsimp only at hSw
                      first | (go_simp; done) | (go_simp; with_reducible rfl)
                    try simp only [Act.put, List.setIfInBounds_toArray, List.set_cons_zero, List.set_cons_succ]
                    refine takeH (i := 25) (d := 4) (v := ?vz19) rfl (by kernel_rfl) (by kernel_rfl) (by kernel_rfl) (by kernel_rfl) (fun _ _ _ h => h) (Or.inl ⟨by kernel_rfl, ?hyz19⟩) hHeld ?restz19
                    case hyz19 =>
                      intro w hSw
                      try dsimp only at hSw
                      first | (go_simp; done) | (go_simp; with_reducible rfl)
                    try simp only [Act.put, List.setIfInBounds_toArray, List.set_cons_zero, List.set_cons_succ]
                    refine wpAnyH_done (by kernel_rfl) ?_ _
                    go_wp2_with fail
                    go_ret
                    exact ⟨rfl, HB4.out.bel.trans (HF8.out.below HB4.out.bel.size (fun _ h => h.elim))⟩
end Go.Proofs.Ytgomilodeaafdaa
