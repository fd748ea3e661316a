/- A hub's Tell. No condition. -/
import Derived.Test.YtleoeccjnchclaaDoorTellA
namespace Go.Proofs.YtleoeccjnchclaaDoor
open Go.RowKit
def msgL (s : Int) (k text : ByteArray) : Ot := (s, [⟨#[109, 101, 115, 115, 97, 103, 101]⟩, k, text])
def pmsgL (s : Int) (p k text : ByteArray) : Ot := (s, [⟨#[112, 109, 101, 115, 115, 97, 103, 101]⟩, p, k, text])
theorem own_uniq {w : World} {B B' : Nat} {e : TypeId} {size : Nat} {v : Value} {n : Nat} {xs ys : List Value} (h : w.ownsRow B e size v n xs) (h' : w.ownsRow B' e size v n ys) : xs = ys := by
  rcases h.2 with ⟨rfl, rfl⟩ | ⟨g, cap, cur, rfl, hb, hg, hnc, hcm, hcs, htake⟩
  · have h1 := h.1
    have h2 := h'.1
    rw [Nat.zero_mul] at h1 h2
    rw [List.length_eq_zero_iff.1 h1, List.length_eq_zero_iff.1 h2]
  · rcases h'.2 with ⟨he, _⟩ | ⟨g', cap', cur', he, hb', hg', hnc', hcm', hcs', htake'⟩
    · cases he
    · cases he
      rw [hg] at hg'
      cases hg'
      rw [← htake, ← htake']
theorem OutsAt.base {w : World} {B B' : Nat} {v : Value} {outs : List Ot} (h : OutsAt w B v outs) (hb : B' ≤ B) : OutsAt w B' v outs := by
  obtain ⟨vals, h1, h2, h3⟩ := h
  exact ⟨vals, h1, ow_baseT h2 hb, fun i o u a b => ow_baseT (h3 i o u a b) hb⟩
/-- what a session is told by its patterns -/
def patL (fp : Int → List ByteArray) (k text : ByteArray) (s : Int) : List Ot := ((sortS (fp s)).filter fun p => gm p k).map fun p => pmsgL s p k text
theorem flat_tot {L : List (Int × Nat)} {K : List Int} {fp : Int → List ByteArray} (hp : K.Perm (L.map (·.1))) (k text : ByteArray) : (K.flatMap (patL fp k text)).length ≤ tot L fp := by
  have h1 : ∀ M : List Int, (M.flatMap (patL fp k text)).length ≤ (M.map fun s => (fp s).length).sum := by
    intro M
    induction M with
    | nil => exact Nat.le_refl _
    | cons s M ih =>
      rw [List.flatMap_cons, List.length_append, List.map_cons, List.sum_cons]
      have : (patL fp k text s).length ≤ (fp s).length := by
        unfold patL
        rw [List.length_map]
        have := List.length_filter_le (fun p => gm p k) (sortS (fp s))
        rw [sortS_len] at this
        exact this
      omega
  have h2 : (K.map fun s => (fp s).length).sum = tot L fp := by
    unfold tot
    rw [(hp.map fun s => (fp s).length).sum_nat, List.map_map]
    rfl
  rw [← h2]
  exact h1 K
theorem flat_take {α β : Type} (K : List α) (f : α → List β) (n : Nat) : ((K.take n).flatMap f).length ≤ (K.flatMap f).length := by
  conv => rhs; rw [← List.take_append_drop n K]
  rw [List.flatMap_append, List.length_append]
  omega
theorem part_le (P : List ByteArray) (p : ByteArray → Bool) (q : Nat) : ((P.take q).filter p).length ≤ (P.filter p).length := by
  conv => rhs; rw [← List.take_append_drop q P]
  rw [List.filter_append, List.length_append]
  omega
set_option maxRecDepth 100000 in
set_option maxHeartbeats 4000000 in
theorem tell_any {w : World} {B N h : Nat} {F : Nat → Prop} {X : HX} {fb : ByteArray → List Int} {fc fp : Int → List ByteArray} (H : HubX w B F N h X fb fc fp) (ht : Tie fb fc) (hN : N ≤ 2199023255488) (k text : ByteArray) (hk : k.size < 4611686018427387904) (hp : ∀ s, ∀ p ∈ fp s, p.size < 4611686018427387904) :
    Calls Tryd.prog 15 #[.pointer (some ⟨h, 0, none⟩), .string k, .string text] w fun e w' => ∃ v, e = .returned v ∧ OutsAt w' w.heap.size v (tellL fb (X.pt.map (·.1)) fp k text) ∧ Fr (fun _ => False) w w' := by
  have hk2 : k.size ≤ maxLen := by unfold maxLen; omega
  have c0 := H.cell0
  have l0 := H.lookB k hk2
  have htl := H.told k
  have HR := Lib.hid (riseSetI H.b k (by omega))
  obtain ⟨v0, hv0⟩ : ∃ v, lookV eM k X.by_ = v := ⟨_, rfl⟩
  rw [hv0] at l0 HR
  have HH := Lib.hid H
  have HPS := Lib.hid hp
  obtain ⟨i0, hi, hz0, hz1, hz2⟩ := info_parts info_out
  have HI := Lib.hid hi
  have HZ0 := Lib.hid hz0
  have HZ1 := Lib.hid hz1
  have HZ2 := Lib.hid hz2
  have HTI := Lib.hid ht
  clear H hv0 hp hi hz0 hz1 hz2 ht
  go_enter Tryd.func15, Tryd.ntmps15
  go_wp2_with fail
  refine HR.out.mono ?_
  rintro e w1 ⟨vs, rfl, hr, hb⟩
  obtain ⟨sa, sc, rfl⟩ := ow_sliceN hr
  have hq1 : Fr (fun _ => False) w w1 := (Fr.of_below hb).mono fun _ hi hk => absurd hk (by omega)
  obtain ⟨S, hS⟩ : ∃ S, sortI (fb k) = S := ⟨_, rfl⟩
  have hSl : S.length = (fb k).length := by rw [← hS]; exact sortI_len _
  rw [hS, ← hSl] at hr
  rw [← hSl]
  rw [← hSl] at htl
  have HRS := Lib.hid hr
  have HQ1 := Lib.hid hq1
  have HSS := Lib.hid hS
  have hs1 := hq1.size
  clear hr hb hS hSl hq1
  go_wp2_with fail
  go_loopw [7, 24] (fun v i wr => ∃ j : Nat, i = .int .i64 j ∧ j ≤ S.length ∧ Hid (OutsAt wr w1.heap.size v ((S.take j).map fun s => msgL s k text)) ∧ Hid (Fr (fun _ => False) w1 wr)) (fun _ i _ => S.length - (intOf i).toNat)
  case atStart => exact ⟨0, rfl, by omega, OutsAt.nil _ _, Fr.refl _ _⟩
  case round =>
    obtain ⟨j, rfl, hj, HO, HF⟩ := hrel
    obtain ⟨vo, rfl⟩ : ∃ v, v = u7 := ⟨_, rfl⟩
    obtain ⟨wo, rfl⟩ : ∃ wo, wo = wr := ⟨_, rfl⟩
    by_cases hlt : j < S.length
    · have hrs := RdC.of_owns (ow_frT HRS.out HF.out (fun _ _ h => h))
      obtain ⟨g, off, e9, hc⟩ := hrs.at (by rw [List.length_map]; omega)
      cases e9
      obtain ⟨x, hx⟩ : ∃ x, S[j] = x := ⟨_, rfl⟩
      have ct := hc j (.int .i64 x) (by rw [List.getElem?_map, List.getElem?_eq_getElem hlt, hx]; rfl)
      have hts : (S.take (j + 1)).map (fun s => msgL s k text) = (S.take j).map (fun s => msgL s k text) ++ [msgL x k text] := by rw [List.take_succ_eq_append_getElem hlt, hx, List.map_append]; rfl
      have HTS := Lib.hid hts
      have hjl : ((S.take j).map fun s => msgL s k text).length = j := by rw [List.length_map, List.length_take]; omega
      obtain ⟨vals, q1, q2, q3⟩ := HO.out
      rw [hjl] at q1 q2
      obtain ⟨oa, oc, rfl⟩ := ow_sliceN q2
      have HJL := Lib.hid hjl
      have HQ2 := Lib.hid q2
      have hB9 : w1.heap.size ≤ wo.heap.size := HF.out.size
      have HBU := Lib.hid (bulks_any (wo.alloc (.cells #[.string ⟨#[109, 101, 115, 115, 97, 103, 101]⟩, .string k, .string text] 9)) (.slice (some ⟨wo.heap.size, 0, none⟩) 3 3) [⟨#[109, 101, 115, 115, 97, 103, 101]⟩, k, text] (RdC.of_owns (World.ownsRow_lit (base := 0) (e := 9) (size := 1) wo #[.string ⟨#[109, 101, 115, 115, 97, 103, 101]⟩, .string k, .string text] 3 (Nat.zero_le _) (by decide) rfl)) (by simp))
      have b0 : (0 : Int) ≤ (j : Int) := by omega
      have b1 : (j : Int) < (S.length : Int) := by omega
      clear hrs hc hx hts hjl q1 q2 q3
      go_wp2_with fail
      refine HBU.out.mono ?_
      rintro e w7 ⟨u, rfl, hu, hf7⟩
      obtain ⟨ua, uc, rfl⟩ := ow_sliceN hu
      have hf07 : Fr (fun _ => False) wo w7 := (Fr.alloc (fun _ => False) wo _).trans hf7 (fun _ h _ => h)
      have HU := Lib.hid (ow_baseT hu (show w1.heap.size ≤ _ by rw [World.size_alloc]; omega))
      have HF7 := Lib.hid hf07
      have hrow7 := ow_frT HQ2.out hf07 (fun _ _ h => h)
      have HR7 := Lib.hid hrow7
      have hs7 : w1.heap.size ≤ w7.heap.size := Nat.le_trans hB9 hf07.size
      clear hu hf7 hf07 hrow7
      go_wp2_with (at_builtin; refine wpl_append rfl (.tmp 28) (.tmp 35) 35 rfl w1.heap.size 41 i0 (.agg #[.int .i64 0, .int .i64 0, .string ⟨#[]⟩, .int .i64 0, .slice none 0 0]) 5 64 Tryd.underlying35 HI.out HZ0.out HZ1.out HZ2.out rfl (by decide) (.slice oa j oc) j _ rfl (HR7.out.alloc _) _ 1 [.int .i64 x, .int .i64 6, .string ⟨#[]⟩, .int .i64 0, .slice ua 3 uc] rfl (RdC.of_owns (World.ownsRow_lit (base := 0) (e := 41) (size := 5) w7 #[.int .i64 x, .int .i64 6, .string ⟨#[]⟩, .int .i64 0, .slice ua 3 uc] 1 (Nat.zero_le _) (by decide) rfl)) (by simp [Value.oneCell']) (by unfold maxLen; omega) (by omega) (by rw [World.size_alloc]; omega) ?_; intro v8 w8 hown hgrow; have HO8 := Lib.hid hown; have HG8 := Lib.hid hgrow; clear hown hgrow)
      have HO9 : Hid (OutsAt w8 w1.heap.size v8 ((S.take (j + 1)).map fun s => msgL s k text)) := by
        show OutsAt _ _ _ _
        rw [HTS.out]
        refine HO.out.snoc (w1 := w7.alloc (.cells #[.int .i64 x, .int .i64 6, .string ⟨#[]⟩, .int .i64 0, .slice ua 3 uc] 41)) (HF7.out.thenAlloc _) (u := .slice ua 3 uc) (HU.out.alloc _) (by rw [HJL.out]; exact HQ2.out) (by rw [HJL.out]; exact HO8.out) (fun vals h1 h2 => by rw [HJL.out] at h2; exact own_uniq h2 HQ2.out) HG8.out
      have HF9 : Hid (Fr (fun _ => False) w1 w8) := ((HF.out.wide HF7.out (fun _ h => h.elim)).thenAlloc _).wide (Fr.of_grownBy HG8.out) (fun i hi => .inr (ow_lt HR7.out i hi).1)
      go_roundw
      case rel => exact ⟨j + 1, by go_num, by omega, HO9, HF9⟩
      case measure => simp [intOf]; omega
    · obtain rfl : j = S.length := by omega
      have hq0 : Fr (fun _ => False) w wo := HQ1.out.wide HF.out (fun _ h => h.elim)
      have Hq := HH.out.quiet hq0
      have c2 := Hq.cell2
      have hlens := Hq.lens
      have HRN := Lib.hid (riseN_any wo X.mp X.pt Hq.p.top (by omega))
      obtain ⟨K, hK⟩ : ∃ K, sortI (X.pt.map (·.1)) = K := ⟨_, rfl⟩
      have hKp : K.Perm (X.pt.map (·.1)) := by rw [← hK]; exact sortI_perm _
      have hKl : (X.pt.map (·.1)).length = K.length := hKp.length_eq.symm
      have HKK := Lib.hid hK
      have HKP := Lib.hid hKp
      have HKO : Hid (∀ s ∈ K, kI.ok s) := fun s hs => by
        obtain ⟨x, hx, rfl⟩ := List.mem_map.1 (hKp.mem_iff.1 hs)
        exact HH.out.p.ok x hx
      have HKB : Hid (K.length ≤ N) := by show _ ≤ _; rw [← hKl, List.length_map]; omega
      rw [List.take_length] at HO
      have HO1 := HO
      clear Hq hq0 hK hKp
      go_wp2_with fail
      refine HRN.out.mono ?_
      rintro e w2 ⟨vk, rfl, hr2, hb2⟩
      rw [HKK.out] at hr2
      rw [hKl] at hr2
      obtain ⟨ka, kc, rfl⟩ := ow_sliceN hr2
      have hq2 : Fr (fun _ => False) wo w2 := (Fr.of_below hb2).mono fun _ hi hk => absurd hk (by omega)
      have HRK := Lib.hid hr2
      have HO2 := Lib.hid (HO1.out.quiet hq2)
      have HF2 := Lib.hid (HF.out.wide hq2 (fun _ h => h.elim))
      have hnk := HKB.out
      clear hr2 hb2 hq2 HO1 hKl hlens
      go_wp2_with fail
      go_loopw [7, 44] (fun v i wr => ∃ j : Nat, i = .int .i64 j ∧ j ≤ K.length ∧ Hid (OutsAt wr w1.heap.size v (S.map (fun s => msgL s k text) ++ (K.take j).flatMap (patL fp k text))) ∧ Hid (Fr (fun _ => False) w1 wr) ∧ Hid (wr.ownsRow wo.heap.size 3 1 (.slice ka K.length kc) K.length (K.map (.int .i64)))) (fun _ i _ => K.length - (intOf i).toNat)
      case atStart => exact ⟨0, rfl, by omega, (by show OutsAt _ _ _ _; rw [List.take_zero, List.flatMap_nil, List.append_nil]; exact HO2.out), HF2, HRK⟩
      case round =>
        obtain ⟨j2, rfl, hj2, HO3, HF3, HG3⟩ := hrel
        obtain ⟨vp, rfl⟩ : ∃ v, v = u7 := ⟨_, rfl⟩
        obtain ⟨wp, rfl⟩ : ∃ wo, wo = wr := ⟨_, rfl⟩
        by_cases hlt2 : j2 < K.length
        · obtain ⟨sx, hsx⟩ : ∃ x, K[j2] = x := ⟨_, rfl⟩
          have hrk := RdC.of_owns HG3.out
          obtain ⟨g, off, e9, hc⟩ := hrk.at (by rw [List.length_map]; omega)
          cases e9
          have ck := hc j2 (.int .i64 sx) (by rw [List.getElem?_map, List.getElem?_eq_getElem hlt2, hsx]; rfl)
          have hko : kI.ok sx := HKO.out sx (by rw [← hsx]; exact List.getElem_mem hlt2)
          have hq0 : Fr (fun _ => False) w wp := HQ1.out.wide HF3.out (fun _ h => h.elim)
          have HPT := Lib.hid (hubPatterns_any (w := wp) (B := B) (N := N) (h := h) (F := F) (fc := fc) (fp := fp) ⟨X, fb, HH.out.quiet hq0, HTI.out⟩ sx hko)
          obtain ⟨P, hP⟩ : ∃ P, sortS (fp sx) = P := ⟨_, rfl⟩
          have hPl : (fp sx).length = P.length := by rw [← hP, sortS_len]
          have HPM : Hid (∀ y ∈ P, y.size < 4611686018427387904) := fun y hy => HPS.out sx y (by rw [← hP] at hy; exact (sortS_perm _).mem_iff.1 hy)
          have hPB : P.length ≤ 1024 := by have := HH.out.few sx; omega
          obtain ⟨T, hT⟩ : ∃ T, S.map (fun s => msgL s k text) ++ (K.take j2).flatMap (patL fp k text) = T := ⟨_, rfl⟩
          have hnext : S.map (fun s => msgL s k text) ++ (K.take (j2 + 1)).flatMap (patL fp k text) = T ++ (P.filter fun p => gm p k).map fun p => pmsgL sx p k text := by
            rw [List.take_succ_eq_append_getElem hlt2, hsx, List.flatMap_append, List.flatMap_singleton, ← List.append_assoc, hT]
            unfold patL
            rw [hP]
          have hbnd : ∀ q, (T ++ ((P.take q).filter fun p => gm p k).map fun p => pmsgL sx p k text).length ≤ N := fun q => by
            have h1 := part_le P (fun p => gm p k) q
            have h2 := congrArg List.length hnext
            have h3 := flat_take K (patL fp k text) (j2 + 1)
            have h4 := flat_tot (fp := fp) HKP.out k text
            have htl2 := htl
            rw [List.length_append, List.length_append, List.length_map, List.length_map] at h2
            rw [List.length_append, List.length_map]
            omega
          have HNX := Lib.hid hnext
          have HBD := Lib.hid hbnd
          have HPP := Lib.hid hP
          have HO4 := Lib.hid HO3.out
          rw [hT] at HO4
          clear hrk hc hsx hko hq0 hP hT hnext hbnd HO3
          go_wp2_with fail
          refine HPT.out.mono ?_
          rintro e w3 ⟨vq, rfl, hr3, hb3⟩
          rw [HPP.out, hPl] at hr3
          obtain ⟨pa, pc, rfl⟩ := ow_sliceN hr3
          have hq3 : Fr (fun _ => False) wp w3 := (Fr.of_below hb3).mono fun _ hi hk => absurd hk (by omega)
          have HRP := Lib.hid hr3
          have HO5 := Lib.hid (HO4.out.quiet hq3)
          have HF5 := Lib.hid (HF3.out.wide hq3 (fun _ h => h.elim))
          have HG5 := Lib.hid (ow_frT HG3.out hq3 (fun _ _ h => h))
          clear hr3 hb3 hq3
          go_wp2_with fail
          go_loopw [7, 52] (fun v i wr => ∃ q : Nat, i = .int .i64 q ∧ q ≤ P.length ∧ Hid (OutsAt wr w1.heap.size v (T ++ ((P.take q).filter fun p => gm p k).map fun p => pmsgL sx p k text)) ∧ Hid (Fr (fun _ => False) w1 wr) ∧ Hid (wr.ownsRow wo.heap.size 3 1 (.slice (some ⟨g, off, none⟩) K.length kc) K.length (K.map (.int .i64))) ∧ Hid (wr.ownsRow wp.heap.size 9 1 (.slice pa P.length pc) P.length (P.map .string))) (fun _ i _ => P.length - (intOf i).toNat)
          case atStart => exact ⟨0, rfl, by omega, (by show OutsAt _ _ _ _; rw [List.take_zero, List.filter_nil, List.map_nil, List.append_nil]; exact HO5.out), HF5, HG5, HRP⟩
          case round =>
            obtain ⟨q, rfl, hq, HO6, HF6, HG6, HR6⟩ := hrel
            obtain ⟨vz, rfl⟩ : ∃ v, v = u7 := ⟨_, rfl⟩
            obtain ⟨wz, rfl⟩ : ∃ wo, wo = wr := ⟨_, rfl⟩
            by_cases hlt3 : q < P.length
            · obtain ⟨px, hpx⟩ : ∃ x, P[q] = x := ⟨_, rfl⟩
              obtain ⟨g5, off5, e9, cp⟩ := texts_at (RdC.of_owns HR6.out) q hlt3
              cases e9
              rw [hpx] at cp
              have hpz : px.size < 4611686018427387904 := HPM.out px (by rw [← hpx]; exact List.getElem_mem hlt3)
              have HMA := Lib.hid (match_any px k wz hpz hk)
              have hn := HBD.out q
              obtain ⟨n, hn2⟩ : ∃ n, (T ++ ((P.take q).filter fun p => gm p k).map fun p => pmsgL sx p k text).length = n := ⟨_, rfl⟩
              rw [hn2] at hn
              have HN2 := Lib.hid hn2
              have hts : ∀ b, gm px k = b → (T ++ ((P.take (q + 1)).filter fun p => gm p k).map fun p => pmsgL sx p k text) = (T ++ ((P.take q).filter fun p => gm p k).map fun p => pmsgL sx p k text) ++ (if b then [pmsgL sx px k text] else []) := fun b hb => by
                rw [List.take_succ_eq_append_getElem hlt3, hpx, List.filter_append, List.map_append, ← List.append_assoc]
                congr 1
                cases b <;> simp [hb]
              have b2 : (0 : Int) ≤ (q : Int) := by omega
              have b3 : (q : Int) < (P.length : Int) := by omega
              cases hg : gm px k with
              | false =>
                have HTS := Lib.hid (hts false hg)
                rw [hg] at HMA
                clear hts hg hpx hn2
                go_wp2_with fail
                refine HMA.out.mono ?_
                rintro e w4 ⟨rfl, m4, hm4⟩
                have hq4 : Fr (fun _ => False) wz w4 := by rw [hm4]; exact Fr.drewN (fun _ => False) wz m4
                have HO7 : Hid (OutsAt w4 w1.heap.size vz (T ++ ((P.take (q + 1)).filter fun p => gm p k).map fun p => pmsgL sx p k text)) := by
                  show OutsAt _ _ _ _
                  rw [HTS.out, if_neg (by decide), List.append_nil]
                  exact HO6.out.quiet hq4
                have HF7 := Lib.hid (HF6.out.wide hq4 (fun _ h => h.elim))
                have HG7 := Lib.hid (ow_frT HG6.out hq4 (fun _ _ h => h))
                have HR7 := Lib.hid (ow_frT HR6.out hq4 (fun _ _ h => h))
                clear hm4 hq4
                go_wp2_with fail
                go_roundw
                case rel => exact ⟨q + 1, by go_num, by omega, HO7, HF7, HG7, HR7⟩
                case measure => simp [intOf]; omega
              | true =>
                have HTS := Lib.hid (hts true hg)
                rw [hg] at HMA
                obtain ⟨vals, q1, q2, q3⟩ := HO6.out
                rw [hn2] at q1 q2
                obtain ⟨oa, oc, rfl⟩ := ow_sliceN q2
                have HQ2 := Lib.hid q2
                have hB9 : w1.heap.size ≤ wz.heap.size := HF6.out.size
                clear hts hg hpx hn2 q1 q2 q3
                go_wp2_with fail
                refine HMA.out.mono ?_
                rintro e w4 ⟨rfl, m4, hm4⟩
                have hq4 : Fr (fun _ => False) wz w4 := by rw [hm4]; exact Fr.drewN (fun _ => False) wz m4
                have HQ4 := Lib.hid hq4
                have hs4 := hq4.size
                have HBU := Lib.hid (bulks_any (w4.alloc (.cells #[.string ⟨#[112, 109, 101, 115, 115, 97, 103, 101]⟩, .string px, .string k, .string text] 9)) (.slice (some ⟨w4.heap.size, 0, none⟩) 4 4) [⟨#[112, 109, 101, 115, 115, 97, 103, 101]⟩, px, k, text] (RdC.of_owns (World.ownsRow_lit (base := 0) (e := 9) (size := 1) w4 #[.string ⟨#[112, 109, 101, 115, 115, 97, 103, 101]⟩, .string px, .string k, .string text] 4 (Nat.zero_le _) (by decide) rfl)) (by simp))
                clear hm4 hq4
                go_wp2_with fail
                refine HBU.out.mono ?_
                rintro e w7 ⟨u, rfl, hu, hf7⟩
                obtain ⟨ua, uc, rfl⟩ := ow_sliceN hu
                have hf07 : Fr (fun _ => False) wz w7 := (HQ4.out.trans (Fr.alloc (fun _ => False) w4 _) (fun _ h _ => h)).trans hf7 (fun _ h _ => h)
                have HU := Lib.hid (ow_baseT hu (show w1.heap.size ≤ _ by rw [World.size_alloc]; omega))
                have HF7 := Lib.hid hf07
                have hrow7 := ow_frT HQ2.out hf07 (fun _ _ h => h)
                have HR7 := Lib.hid hrow7
                have hs7 : w1.heap.size ≤ w7.heap.size := Nat.le_trans hB9 hf07.size
                clear hu hf7 hf07 hrow7
                go_wp2_with (at_builtin; refine wpl_append rfl (.tmp 59) (.tmp 67) 35 rfl w1.heap.size 41 i0 (.agg #[.int .i64 0, .int .i64 0, .string ⟨#[]⟩, .int .i64 0, .slice none 0 0]) 5 64 Tryd.underlying35 HI.out HZ0.out HZ1.out HZ2.out rfl (by decide) (.slice oa n oc) n _ rfl (HR7.out.alloc _) _ 1 [.int .i64 sx, .int .i64 6, .string ⟨#[]⟩, .int .i64 0, .slice ua 4 uc] rfl (RdC.of_owns (World.ownsRow_lit (base := 0) (e := 41) (size := 5) w7 #[.int .i64 sx, .int .i64 6, .string ⟨#[]⟩, .int .i64 0, .slice ua 4 uc] 1 (Nat.zero_le _) (by decide) rfl)) (by simp [Value.oneCell']) (by unfold maxLen; omega) (by omega) (by rw [World.size_alloc]; omega) ?_; intro v8 w8 hown hgrow; have HO8 := Lib.hid hown; have HG8 := Lib.hid hgrow; clear hown hgrow)
                have HO9 : Hid (OutsAt w8 w1.heap.size v8 (T ++ ((P.take (q + 1)).filter fun p => gm p k).map fun p => pmsgL sx p k text)) := by
                  show OutsAt _ _ _ _
                  rw [HTS.out]
                  simp only [if_true]
                  refine HO6.out.snoc (w1 := w7.alloc (.cells #[.int .i64 sx, .int .i64 6, .string ⟨#[]⟩, .int .i64 0, .slice ua 4 uc] 41)) (HF7.out.thenAlloc _) (u := .slice ua 4 uc) (HU.out.alloc _) (by rw [HN2.out]; exact HQ2.out) (by rw [HN2.out]; exact HO8.out) (fun vals h1 h2 => by rw [HN2.out] at h2; exact own_uniq h2 HQ2.out) HG8.out
                have hlow := ow_lt HR7.out
                have HRB := Lib.hid (ow_lt HR7.out)
                have HF9 : Hid (Fr (fun _ => False) w1 w8) := ((HF6.out.wide HF7.out (fun _ h => h.elim)).thenAlloc _).wide (Fr.of_grownBy HG8.out) (fun i hi => .inr (hlow i hi).1)
                have hz8 := HR7.out.alloc (.cells #[.int .i64 sx, .int .i64 6, .string ⟨#[]⟩, .int .i64 0, .slice ua 4 uc] 41)
                have hg8 := (ow_frT HG6.out HF7.out (fun _ _ h => h)).alloc (.cells #[.int .i64 sx, .int .i64 6, .string ⟨#[]⟩, .int .i64 0, .slice ua 4 uc] 41)
                have hr8 := (ow_frT HR6.out HF7.out (fun _ _ h => h)).alloc (.cells #[.int .i64 sx, .int .i64 6, .string ⟨#[]⟩, .int .i64 0, .slice ua 4 uc] 41)
                have HG9 := Lib.hid (ow_frT hg8 (Fr.of_grownBy HG8.out) (rows_apart hg8 hz8 (by decide)))
                have HR9 := Lib.hid (ow_frT hr8 (Fr.of_grownBy HG8.out) (rows_apart hr8 hz8 (by decide)))
                clear hz8 hg8 hr8
                go_roundw
                case rel => exact ⟨q + 1, by go_num, by omega, HO9, HF9, HG9, HR9⟩
                case measure => simp [intOf]; omega
            · obtain rfl : q = P.length := by omega
              have HO8 : Hid (OutsAt wz w1.heap.size vz (S.map (fun s => msgL s k text) ++ (K.take (j2 + 1)).flatMap (patL fp k text))) := by
                have h9 := HO6.out
                rw [List.take_length] at h9
                show OutsAt _ _ _ _
                rw [HNX.out]
                exact h9
              go_wp2_with fail
              go_roundw
              case rel => exact ⟨j2 + 1, by go_num, by omega, HO8, HF6, HG6⟩
              case measure => simp [intOf]; omega
        · obtain rfl : j2 = K.length := by omega
          have HFF : Hid (Fr (fun _ => False) w wp) := HQ1.out.wide HF3.out (fun _ h => h.elim)
          have HOO : Hid (OutsAt wp w.heap.size vp (tellL fb (X.pt.map (·.1)) fp k text)) := by
            have h9 := HO3.out
            rw [List.take_length] at h9
            show OutsAt _ _ _ _
            unfold tellL
            rw [HSS.out, HKK.out]
            exact h9.base hs1
          go_wp2_with fail
          go_ret
          exact ⟨vp, rfl, HOO.out, HFF.out⟩
end Go.Proofs.YtleoeccjnchclaaDoor
