/- The walk of FlockIsSet. No condition. -/
import Derived.Test.YtgomilodeaafdaaBf
namespace Go.Proofs.Ytgomilodeaafdaa
open Go.ChangeShapes Go.WideShapes Go.ChangeAt Go.RowKit Du
open Go.ChangeMaps (open_string shut_string)
/-- the members, as they came -/
def ks (A : List Me) : List ByteArray := A.map (·.1)
theorem ks_len (A : List Me) : (ks A).length = A.length := List.length_map ..
theorem ks_new {A : List Me} {f : ByteArray} (h : fdG f A = none) : ks (setG A f ()) = ks A ++ [f] := by unfold ks; rw [setG_none h, List.map_append]; rfl
theorem ks_old {A : List Me} {f : ByteArray} {i : Nat} (h : fdG f A = some i) : ks (setG A f ()) = ks A := by
  unfold ks
  obtain ⟨⟨⟩, hx⟩ := fdG_some h
  rw [setG_some h, List.map_set]
  refine List.ext_getElem? fun j => ?_
  rw [List.getElem?_set]
  split
  · next e => subst e; rw [List.getElem?_map, hx, if_pos (by rw [List.length_map]; exact fdG_lt h)]; rfl
  · rfl
/-- a flock, and its members in a row beside it -/
structure Ft (K : Nat) (w0 w : World) (r d : Nat) (F : Nat → Prop) (M : DM) (A : List Me) (v : Value) (S : List ByteArray) : Prop where
  fc : Fc K w0 w F r d M A
  row : RowS w0.heap.size w v S
  aw : Aw F v
section
variable {K K' : Nat} {w0 w w' : World} {r d : Nat} {F : Nat → Prop} {M : DM} {A A' : List Me} {v : Value} {S : List ByteArray}
theorem Ft.quiet (h : Ft K w0 w r d F M A v S) (hf : Fr (fun _ => False) w w') : Ft K w0 w' r d F M A v S := ⟨h.fc.quiet hf, ow_fr h.row hf (fun _ _ h => h), h.aw⟩
theorem Ft.mono (h : Ft K w0 w r d F M A v S) (hk : K ≤ K') : Ft K' w0 w r d F M A v S := ⟨h.fc.mono hk, h.row, h.aw⟩
theorem Ft.turn (h : Ft K w0 w r d F M A v S) {M' : DM} (hrc : Fc K' w0 w' (Grew F w w') r d M' A') (hfr : Fr F w w') : Ft K' w0 w' r d (Grew F w w') M' A' v S := ⟨hrc, ow_fr h.row hfr h.aw, h.aw.own h.row⟩
theorem Ft.app (h : Ft K w0 w r d F M A v S) {v' : Value} {S' : List ByteArray} (hr : RowS w0.heap.size w' v' S') (hg : w.grownBy w' v.ownBlock) (ha : ∀ g, v'.ownBlock = some g → v.ownBlock = some g ∨ w.heap.size ≤ g) : Ft K w0 w' r d F M A v' S' := by
  refine ⟨h.fc.other (Fr.of_grownBy hg) (fun i hi e => h.aw i e hi) (fun i e => (own_blk h.row e).1), hr, fun g hgv hF => ?_⟩
  rcases ha g hgv with h2 | h2
  · exact h.aw g h2 hF
  · have := (h.fc.ff.lt g hF).2
    omega
theorem Ft.fresh (h : Ft K w0 w r d F M A v S) (hf : Fr (fun _ => False) w w') {v' : Value} {S' : List ByteArray} (hr : RowS w.heap.size w' v' S') : Ft K w0 w' r d F M A v' S' :=
  ⟨h.fc.quiet hf, ow_base hr h.fc.bel.size, h.fc.away hr⟩
end
/-- what texts cost -/
def costK (S : List ByteArray) : Nat := costM (S.map fun x => (x, ()))
theorem costK_perm {S : List ByteArray} {A : List Me} (h : S.Perm (A.map (·.1))) : costK S = costM A := by
  unfold costK
  have h2 := h.map (fun x => ((x, ()) : Me))
  rw [List.map_map] at h2
  have e : ((fun x => ((x, ()) : Me)) ∘ fun x : Me => x.1) = id := funext fun x => by cases x; rfl
  rw [e, List.map_id] at h2
  exact costM_perm h2
theorem costK_take {S : List ByteArray} {j : Nat} (h : j < S.length) : costK (S.take (j + 1)) = costK (S.take j) + (24 + (S[j]).size) := by
  unfold costK
  rw [List.take_succ_eq_append_getElem h, List.map_append, List.map_singleton, costM_snoc]
  rfl
/-- the block of a call -/
def oBlk (who kd : Int) (f : ByteArray) (bg n ct : Int) : Obj := .cells #[.int .i64 who, .int .i64 kd, .string f, .int .i64 bg, .int .u64 n, .int .i64 ct] 74 (0, 0)
theorem oBlk_cells {w : World} {b : Nat} {who kd bg n ct : Int} {f : ByteArray} (h : w.heap[b]? = some (oBlk who kd f bg n ct)) : w.cell? ⟨b, 1, none⟩ = some (.int .i64 kd) ∧ w.cell? ⟨b, 2, none⟩ = some (.string f) :=
  ⟨cell_of_blk h 1, cell_of_blk h 2⟩
set_option maxRecDepth 100000 in
set_option maxHeartbeats 8000000 in
theorem flockIsSet_walk (w : World) (x0 : UInt64) (v1 : Value) (l : List So10B) (hr : RdC w 6 v1 l.length (l.flatMap so10)) (hby : l.length ≤ 1048576) :
    Calls Try.prog 12 #[.int .u64 (wd x0), v1] w fun e w' => e = .returned (.bool true) ∧ Below w.heap.size w w' := by
  have HR := Lib.hid hr
  obtain ⟨-, a1, c1, rfl, -⟩ := hr
  obtain ⟨i0, hi, hz0, hz1, hz2⟩ := info_parts info_str
  have HI := Lib.hid hi
  have HZ0 := Lib.hid hz0
  have HZ1 := Lib.hid hz1
  have HZ2 := Lib.hid hz2
  clear hi hz0 hz1 hz2
  go_enter Try.func12, Try.ntmps12
  go_wp2_with fail
  refine (wakes10_any w).mono ?_
  rintro e w0 ⟨rfl, hb0⟩
  have HBW := Lib.hid hb0
  clear hb0
  go_wp2_with fail
  refine (fc_new w w0 x0 HBW.out).mono ?_
  rintro e w1 ⟨r, d, M0, F0, rfl, h0, -, -, -⟩
  have H0 : Hid (Ft 0 w w1 r d F0 M0 [] (.slice none 0 0) (ks [])) := ⟨h0, World.ownsRow_nil _ _ _ _, fun g hg => by cases hg⟩
  clear h0
  go_wp2_with fail
  go_loopw [6, 27] (fun v i wr => ∃ (k : Nat) (F : Nat → Prop) (M : DM) (A : List Me), i = .int .i64 k ∧ k ≤ l.length ∧ Hid (Ft k w wr r d F M A v (ks A))) (fun _ i _ => l.length - (intOf i).toNat)
  case atStart => exact ⟨0, F0, M0, [], rfl, by omega, H0⟩
  case round =>
    obtain ⟨k, F, M, A, rfl, hk, HT⟩ := hrel
    obtain ⟨v, rfl⟩ : ∃ v, v = u6 := ⟨_, rfl⟩
    obtain ⟨wo, rfl⟩ : ∃ wo, wo = wr := ⟨_, rfl⟩
    clear H0 HBW
    by_cases h1 : k < l.length
    · obtain ⟨g, off, rfl, e0, e1, e2, e3, e4, e5⟩ := so10_at (HR.out.below HT.out.fc.bel) k h1
      obtain ⟨who, hwho⟩ : ∃ x, l[k].1.who = x := ⟨_, rfl⟩
      obtain ⟨kd, hkd⟩ : ∃ x, l[k].1.do_ = x := ⟨_, rfl⟩
      obtain ⟨f, hff⟩ : ∃ x, l[k].1.member = x := ⟨_, rfl⟩
      obtain ⟨bg, hbg⟩ : ∃ x, l[k].1.big = x := ⟨_, rfl⟩
      obtain ⟨nn, hnn⟩ : ∃ x, wd l[k].1.n = x := ⟨_, rfl⟩
      obtain ⟨ct, hct⟩ : ∃ x, l[k].1.count = x := ⟨_, rfl⟩
      have hfz : f.size ≤ maxLen := hff ▸ l[k].2.1
      rw [hwho] at e0
      rw [hkd] at e1
      rw [hff] at e2
      rw [hbg] at e3
      rw [hnn] at e4
      rw [hct] at e5
      obtain ⟨W, hW⟩ : ∃ W, wo.alloc (.cells #[.int .i64 who, .int .i64 kd, .string f, .int .i64 bg, .int .u64 nn, .int .i64 ct] 74) = W := ⟨_, rfl⟩
      have hblk : W.heap[wo.heap.size]? = some (oBlk who kd f bg nn ct) := by rw [← hW]; exact alloc_new wo _
      have HTW : Hid (Ft k w W r d F M A v (ks A)) := by rw [← hW]; exact HT.out.quiet (Fr.alloc _ _ _)
      have HBLK := Lib.hid hblk
      obtain ⟨d1, d2⟩ := oBlk_cells hblk
      have HFZ := Lib.hid hfz
      have HOUT : Hid (∀ i, F i → i < wo.heap.size) := fun i hi => (HT.out.fc.ff.lt i hi).2
      have hal : A.length ≤ k := HT.out.fc.few
      have hrow := HTW.out.row
      obtain ⟨va, vc, rfl⟩ := owns_slice hrow
      have HSH := Lib.hid (short_any W f hfz)
      have hhas := has10_any W (.slice va (ks A).length vc) (ks A) f (RdC.of_owns hrow)
      rw [show inL f (ks A) = (fdG f A).isSome from inL_fd] at hhas
      have HHAS := Lib.hid hhas
      have hkl := ks_len A
      have HKL := Lib.hid hkl
      rw [hkl]
      rw [hkl] at HHAS
      obtain ⟨q, hq⟩ : ∃ q, fdG f A = q := ⟨_, rfl⟩
      rw [hq] at HHAS
      have HQ := Lib.hid hq
      clear hwho hkd hff hbg hnn hct hblk hrow hhas HT hq hkl
      by_cases hsh : f.size ≤ 1048576
      · rw [decide_eq_true hsh] at HSH
        have hA20 : A.length < 1048576 := by omega
        have ga : ¬ (1048576 : Int) ≤ (A.length : Int) := by omega
        have ga2 : decide ((1048576 : Int) ≤ (A.length : Int)) = false := decide_eq_false ga
        have HSH2 := Lib.hid hsh
        clear hsh
        go_wp2_with fail
        try rw [hW]
        refine HSH.out.mono ?_
        rintro e w' ⟨rfl, rfl⟩
        clear HSH hW
        go_wp2_with fail
        refine HHAS.out.mono ?_
        rintro e w' ⟨rfl, rfl⟩
        have hblt := (Array.getElem?_eq_some_iff.1 HBLK.out).1
        have hkeep : ∀ w4, Fr F W w4 → w4.heap[wo.heap.size]? = some (oBlk who kd f bg nn ct) := fun w4 hf => (hf.block _ hblt (fun hF => absurd (HOUT.out _ hF) (Nat.lt_irrefl _))).trans HBLK.out
        have HKEEP := Lib.hid hkeep
        rw [HKL.out] at HTW
        clear hkeep hblt
        by_cases hadd : kd = 0 ∨ kd = 1 ∨ kd = 2
        · have hK : k < 1048576 := by omega
          rcases hadd with rfl | rfl | rfl
          all_goals
            go_wp2_with fail
            refine (fc_add w W k F r d M A f HTW.out.fc HSH2.out hK).mono ?_
            rintro e w4 ⟨rfl, M', hrc, -, hfr⟩
            rw [HQ.out]
            have H4 := Lib.hid (HTW.out.turn hrc hfr)
            have hb4 := HKEEP.out w4 hfr
            clear d1 d2
            obtain ⟨-, d2⟩ := oBlk_cells hb4
            have HSZ4 : Hid (w.heap.size ≤ w4.heap.size) := H4.out.fc.bel.size
            clear hrc hfr hb4
            cases q with
            | none =>
              have hkl := HKL.out
              go_wp2_with (at_builtin; refine wpl_append2 rfl (.tmp 72) (.tmp 75) 39 rfl w.heap.size 9 i0 (.string ⟨#[]⟩) 1 16 Try.underlying39 HI.out HZ0.out HZ1.out HZ2.out rfl (by decide) _ (ks A).length _ rfl (H4.out.row.alloc _) _ 1 [.string f] rfl (RdC.of_owns (World.ownsRow_lit (e := 9) w4 #[.string f] 1 (Nat.le_refl _) (by decide) rfl)) (by simp [Value.oneCell']) (by unfold maxLen; omega) (by omega) (by rw [World.size_alloc]; have := HSZ4.out; omega) ?_; intro v' w8 hown hgrow hap; have HO8 := Lib.hid hown; have HG8 := Lib.hid hgrow; have HA8 := Lib.hid hap; clear hown hgrow hap)
              have HT8 : Hid (Ft (k + 1) w w8 r d (Grew F W w4) M' (setG A f ()) v' (ks (setG A f ()))) := by
                show Ft _ _ _ _ _ _ _ _ _ _
                rw [ks_new HQ.out]
                exact (H4.out.quiet (Fr.alloc _ _ _)).app (rowS_app (K := [f]) HO8.out) HG8.out HA8.out
              go_roundw
              case rel => exact ⟨k + 1, _, M', _, by go_num, by omega, HT8⟩
              case measure => simp [intOf]; omega
            | some i =>
              have HT8 : Hid (Ft (k + 1) w w4 r d (Grew F W w4) M' (setG A f ()) (.slice va A.length vc) (ks (setG A f ()))) := by
                show Ft _ _ _ _ _ _ _ _ _ _
                rw [ks_old HQ.out]
                exact H4.out
              go_wp2_with fail
              go_roundw
              case rel => exact ⟨k + 1, _, M', _, by go_num, by omega, HT8⟩
              case measure => simp [intOf]; omega
        · have g0 : (kd == 0) = false := beq_eq_false_iff_ne.2 (fun e => hadd (.inl e))
          have g1 : (kd == 1) = false := beq_eq_false_iff_ne.2 (fun e => hadd (.inr (.inl e)))
          have g2 : (kd == 2) = false := beq_eq_false_iff_ne.2 (fun e => hadd (.inr (.inr e)))
          clear hadd
          by_cases hdel : kd = 3 ∨ kd = 4
          · have hq2 : (q.isSome != q.isSome) = false := by simp
            rcases hdel with rfl | rfl
            all_goals
              go_wp2_with fail
              refine (fc_del w W k F r d M A f HTW.out.fc HFZ.out).mono ?_
              rintro e w4 ⟨rfl, M', hrc, -, hfr⟩
              rw [HQ.out]
              have H4 := Lib.hid (HTW.out.turn hrc hfr)
              have HB4 := Lib.hid (HKEEP.out w4 hfr)
              obtain ⟨-, d2'⟩ := oBlk_cells HB4.out
              clear hrc hfr d1 d2
              go_wp2_with fail
              go_loopw [12, 88] (fun vl i wr => ∃ (j : Nat), i = .int .i64 j ∧ j ≤ A.length ∧ Hid (RowS w4.heap.size wr vl (((ks A).take j).filter fun x => !decide (x = f))) ∧ Hid (Fr (fun _ => False) w4 wr)) (fun _ i _ => A.length - (intOf i).toNat)
              case atStart => exact ⟨0, rfl, by omega, World.ownsRow_nil _ _ _ _, Fr.refl _ _⟩
              case round =>
                obtain ⟨j, rfl, hj, HRL, HFL⟩ := hrel
                obtain ⟨vl, rfl⟩ : ∃ v, v = u12 := ⟨_, rfl⟩
                obtain ⟨wz, rfl⟩ : ∃ wz, wz = wr := ⟨_, rfl⟩
                by_cases hlj : j < A.length
                · have hlj2 : j < (ks A).length := by rw [HKL.out]; exact hlj
                  have hr4 := RdC.of_owns (ow_fr H4.out.row HFL.out (fun _ _ h => h))
                  rw [HKL.out] at hr4
                  obtain ⟨gl, ol, rfl, c2⟩ := texts_at (l := ks A) (by rw [HKL.out]; exact hr4) j hlj2
                  obtain ⟨x, hx⟩ : ∃ x, (ks A)[j] = x := ⟨_, rfl⟩
                  rw [hx] at c2
                  have d3 : wz.cell? ⟨wo.heap.size, 2, none⟩ = some (.string f) := (oBlk_cells ((HFL.out.block _ (Array.getElem?_eq_some_iff.1 HB4.out).1 (fun h => h)).trans HB4.out)).2
                  have hsn : ((ks A).take (j + 1)).filter (fun x => !decide (x = f)) = ((ks A).take j).filter (fun x => !decide (x = f)) ++ if (!decide (x = f)) = true then [x] else [] := by
                    rw [List.take_succ_eq_append_getElem hlj2, hx, List.filter_append]
                    congr 1
                    simp only [List.filter_cons, List.filter_nil]
                  have HSN := Lib.hid hsn
                  have hfl : (((ks A).take j).filter fun x => !decide (x = f)).length ≤ 1048576 := Nat.le_trans (List.length_filter_le _ _) (by rw [List.length_take]; omega)
                  obtain ⟨S, hS⟩ : ∃ S, ((ks A).take j).filter (fun x => !decide (x = f)) = S := ⟨_, rfl⟩
                  rw [hS] at HRL HSN hfl
                  have hrl := HRL.out
                  obtain ⟨vla, vlc, rfl⟩ := owns_slice hrl
                  have b0 : (0 : Int) ≤ (j : Int) := by omega
                  have b1 : (j : Int) < (A.length : Int) := by omega
                  clear hr4 hx hsn hS hrl hlj2 ga ga2 d2' hq2
                  by_cases hxf : x = f
                  · have hq4 : (x.toList == f.toList) = true := by rw [str_beq]; simpa using hxf
                    have hq3 : (x.toList != f.toList) = false := by simp [bne, hq4]
                    have HS2 : Hid (((ks A).take (j + 1)).filter (fun x => !decide (x = f)) = S) := by show _ = _; rw [HSN.out, hxf]; simp
                    clear hxf
                    go_wp2_with fail
                    go_roundw
                    case rel => exact ⟨j + 1, by go_num, by omega, by rw [HS2.out]; exact HRL, HFL⟩
                    case measure => simp [intOf]; omega
                  · have hq4 : (x.toList == f.toList) = false := by rw [str_beq]; simpa using hxf
                    have hq3 : (x.toList != f.toList) = true := by simp [bne, hq4]
                    have HS2 : Hid (((ks A).take (j + 1)).filter (fun x => !decide (x = f)) = S ++ [x]) := by show _ = _; rw [HSN.out]; simp [hxf]
                    have HFZ2 := Lib.hid (HFL.out.thenAlloc (.cells #[.string x] 9))
                    have HSZ9 : Hid (w4.heap.size ≤ wz.heap.size) := HFL.out.size
                    clear hxf
                    go_wp2_with (at_builtin; refine wpl_append rfl (.tmp 96) (.tmp 98) 39 rfl w4.heap.size 9 i0 (.string ⟨#[]⟩) 1 16 Try.underlying39 HI.out HZ0.out HZ1.out HZ2.out rfl (by decide) _ S.length _ rfl (HRL.out.alloc _) _ 1 [.string x] rfl (RdC.of_owns (World.ownsRow_lit (e := 9) wz #[.string x] 1 (Nat.le_refl _) (by decide) rfl)) (by simp [Value.oneCell']) (by unfold maxLen; omega) (by omega) (by rw [World.size_alloc]; have := HSZ9.out; omega) ?_; intro v' w8 hown hgrow; have HO8 := Lib.hid hown; have HG8 := Lib.hid hgrow; clear hown hgrow)
                    go_roundw
                    case rel => exact ⟨j + 1, by go_num, by omega, by rw [HS2.out]; exact rowS_app (K := [x]) HO8.out, HFZ2.out.wide (Fr.of_grownBy HG8.out) (fun i hi => .inr (own_blk HRL.out hi).1)⟩
                    case measure => simp [intOf]; omega
                · obtain rfl : j = A.length := by omega
                  have hta : (ks A).take A.length = ks A := by rw [← HKL.out, List.take_length]
                  rw [hta, show (ks A).filter (fun x => !decide (x = f)) = ks (delG A f) from (delG_filter HTW.out.fc.ff.like.nodup).symm] at HRL
                  have HT8 : Hid (Ft (k + 1) w wz r d (Grew F W w4) M' (delG A f) vl (ks (delG A f))) := (H4.out.mono (Nat.le_succ k)).fresh HFL.out HRL.out
                  clear hta
                  go_wp2_with fail
                  go_roundw
                  case rel => exact ⟨k + 1, _, M', _, by go_num, by omega, HT8⟩
                  case measure => simp [intOf]; omega
          · have g3 : (kd == 3) = false := beq_eq_false_iff_ne.2 (fun e => hdel (.inl e))
            have g4 : (kd == 4) = false := beq_eq_false_iff_ne.2 (fun e => hdel (.inr e))
            have hq2 : (q.isSome != q.isSome) = false := by simp
            clear hdel
            go_wp2_with fail
            refine (fc_has w W k F r d M A f HTW.out.fc HFZ.out).mono ?_
            rintro e w4 ⟨rfl, M', hrc, -, hfr⟩
            rw [HQ.out]
            have H4 := Lib.hid ((HTW.out.turn hrc hfr).mono (Nat.le_succ k))
            clear hrc hfr d1 d2
            go_wp2_with fail
            go_roundw
            case rel => exact ⟨k + 1, _, M', _, by go_num, by omega, H4⟩
            case measure => simp [intOf]; omega
      · rw [decide_eq_false hsh] at HSH
        have HT2 : Hid (Ft (k + 1) w W r d F M A (.slice va A.length vc) (ks A)) := by rw [← HKL.out]; exact HTW.out.mono (Nat.le_succ _)
        clear hsh
        go_wp2_with fail
        try rw [hW]
        refine HSH.out.mono ?_
        rintro e w' ⟨rfl, rfl⟩
        go_wp2_with fail
        go_roundw
        case rel => exact ⟨k + 1, F, M, A, by go_num, by omega, HT2⟩
        case measure => simp [intOf]; omega
    · obtain rfl : k = l.length := by omega
      have hal : A.length ≤ 1048576 := Nat.le_trans HT.out.fc.few hby
      go_wp2_with fail
      refine (members_any wo _ F r d M A HT.out.fc.ff).mono ?_
      rintro e w5 ⟨vm, m, rfl, q1, q2, q3, q4⟩
      have hml : m.length = A.length := by rw [q1.length_eq, List.length_map]
      rw [← hml] at q3
      have HT5 := Lib.hid (HT.out.quiet q4)
      have HVM : Hid (RowS w.heap.size w5 vm m) := ow_base q3 HT.out.fc.bel.size
      have HAW : Hid (Aw F vm) := HT.out.fc.away q3
      have Q1 := Lib.hid q1
      have Q2 := Lib.hid q2
      have HML := Lib.hid hml
      have HCK : Hid (costK m = costM A) := costK_perm q1
      have HFIT : Hid (∀ x ∈ m, x.size ≤ 1048576) := fun x hx => by
        obtain ⟨y, hy, rfl⟩ := List.mem_map.1 (q1.mem_iff.1 hx)
        exact HT.out.fc.ff.fit y hy
      obtain ⟨ma, mc, rfl⟩ := ow_sliceN q3
      have hrow := HT5.out.row
      obtain ⟨va, vc, rfl⟩ := owns_slice hrow
      have HKL := Lib.hid (ks_len A)
      rw [HKL.out] at HT5
      rw [HKL.out]
      clear q1 q2 q3 q4 hml HT hrow HR hk h1
      have hm6 : m.length ≤ 1048576 := by rw [HML.out]; exact hal
      go_wp2_with fail
      go_loopw [16, 107] (fun c i wr => ∃ (j : Nat) (F : Nat → Prop) (M : DM), i = .int .i64 j ∧ j ≤ m.length ∧ Hid (c = .int .i64 (costK (m.take j) : Nat)) ∧ Hid (Ft l.length w wr r d F M A (.slice va A.length vc) (ks A)) ∧ Hid (RowS w.heap.size wr (.slice ma m.length mc) m) ∧ Hid (Aw F (.slice ma m.length mc))) (fun _ i _ => m.length - (intOf i).toNat)
      case atStart => exact ⟨0, F, M, rfl, by omega, rfl, HT5, HVM, HAW⟩
      case round =>
        obtain ⟨j, F, M, rfl, hj, HC, HT, HVM, HAW⟩ := hrel
        obtain ⟨cc, rfl⟩ : ∃ c, c = u16 := ⟨_, rfl⟩
        obtain ⟨wo, rfl⟩ : ∃ wo, wo = wr := ⟨_, rfl⟩
        have hcv := HC.out
        subst hcv
        clear HT5
        by_cases hlt : j < m.length
        · have hxA : fdG m[j] A = none ∨ (fdG m[j] A).isSome = true := by cases fdG m[j] A <;> simp
          obtain ⟨gm, om, hgm, cx⟩ := texts_at (RdC.of_owns HVM.out) j hlt
          have hcn := costK_take hlt
          have hxs := HFIT.out _ (List.getElem_mem hlt)
          have hxin : m[j] ∈ A.map (·.1) := Q1.out.mem_iff.1 (List.getElem_mem hlt)
          obtain ⟨x, hx⟩ : ∃ x, m[j] = x := ⟨_, rfl⟩
          have hpr : ∀ h0 : 0 < j, ltS (m[j - 1]'(by omega)) x := fun h0 => by
            have h1 := List.pairwise_iff_getElem.1 Q2.out (j - 1) j (by omega) hlt (by omega)
            rw [hx] at h1
            exact h1
          have HPR := Lib.hid hpr
          rw [hx] at cx hcn hxs hxin
          subst hgm
          have hinl : inL x (ks A) = true := inL_iff.2 hxin
          have hsome : (fdG x A).isSome = true := by rw [← inL_fd]; exact hinl
          have hhas := has10_any wo (.slice va A.length vc) (ks A) x (by have h9 := RdC.of_owns HT.out.row; exact h9)
          rw [hinl] at hhas
          have HHAS := Lib.hid hhas
          have hxk : x.size ≤ maxLen := by unfold maxLen; omega
          have HFH := Lib.hid (fc_has w wo l.length F r d M A x HT.out.fc hxk)
          rw [hsome] at HFH
          have hcle : costK (m.take j) + (24 + x.size) ≤ 1099536793600 := by
            have h1 := costM_le (A := (m.take (j + 1)).map fun x => ((x, ()) : Me)) (fun y hy => by
              obtain ⟨z, hz, rfl⟩ := List.mem_map.1 hy
              exact HFIT.out z (List.mem_of_mem_take hz))
            rw [List.length_map, List.length_take] at h1
            have h2 : costK (m.take (j + 1)) ≤ 1048576 * 1048600 := Nat.le_trans h1 (Nat.mul_le_mul_right _ (by omega))
            rw [hcn] at h2
            omega
          have HCN := Lib.hid hcn
          obtain ⟨cj, hcj⟩ : ∃ c, costK (m.take j) = c := ⟨_, rfl⟩
          rw [hcj] at hcle HCN ⊢
          have HJX : Hid (m[j]? = some x) := by show _ = _; rw [List.getElem?_eq_getElem hlt, hx]
          have b0 : (0 : Int) ≤ (j : Int) := by omega
          have b1 : (j : Int) < (m.length : Int) := by omega
          have e1 : IntKind.i64.wrap (24 + (x.size : Int)) = 24 + (x.size : Int) := IntWalk.i64_in _ (by omega)
          have e2 : IntKind.i64.wrap ((cj : Int) + (24 + (x.size : Int))) = (cj : Int) + (24 + (x.size : Int)) := IntWalk.i64_in _ (by omega)
          have e3 : IntKind.u64.wrap (j : Int) = (j : Int) := IntWalk.u64_in _ (by omega)
          have e4 : IntKind.u64.wrap (m.length : Int) = (m.length : Int) := IntWalk.u64_in _ (by omega)
          have e5 : IntKind.u64.wrap ((m.length : Int) * 7) = (m.length : Int) * 7 := IntWalk.u64_in _ (by omega)
          have e6 : IntKind.u64.wrap ((j : Int) + (m.length : Int) * 7) = (j : Int) + (m.length : Int) * 7 := IntWalk.u64_in _ (by omega)
          have HCE : Hid (((cj : Int) + (24 + (x.size : Int))) = ((costK (m.take (j + 1)) : Nat) : Int)) := by
            show _ = _
            rw [HCN.out]; omega
          have hsmp : ∀ (W : World) (F' : Nat → Prop) (M' : DM), Fc l.length w W F' r d M' A → Calls Try.prog 65 #[.pointer (some ⟨r, 0, none⟩), .int .u64 ((j : Int) + (m.length : Int) * 7)] W fun e w' => e = .returned (.tuple #[.string x, .bool true]) ∧ Fr (fun _ => False) W w' := by
            intro W F' M' hfc
            have h1 := floSample_any W _ F' r d M' A (UInt64.ofNat (j + m.length * 7)) hfc.ff m Q1.out Q2.out
            have hlt9 : j + m.length * 7 < 18446744073709551616 := by omega
            rw [wd_nat _ hlt9, sampM_at (k := j) (x := x) (by rw [u64_nat _ hlt9, Nat.add_mul_mod_self_left, Nat.mod_eq_of_lt hlt]) HJX.out] at h1
            rw [show ((j + m.length * 7 : Nat) : Int) = (j : Int) + (m.length : Int) * 7 by omega] at h1
            exact h1
          have HSMP := Lib.hid hsmp
          have hq : (x.toList != x.toList) = false := by simp
          clear hxA hcn hx hxin hpr hinl hsome hhas hxk hcle hcj hsmp HC
          by_cases h0 : 0 < j
          · have g0 : decide ((0 : Int) < (j : Int)) = true := by rw [decide_eq_true_eq]; omega
            have hlt2 := HPR.out h0
            obtain ⟨gm2, om2, hgm2, cy⟩ := texts_at (RdC.of_owns HVM.out) (j - 1) (by omega)
            cases hgm2
            obtain ⟨y, hy⟩ : ∃ y, m[j - 1]'(by omega) = y := ⟨_, rfl⟩
            rw [hy] at cy hlt2
            have k1 : Op.bytesLess y.toList x.toList = true := by rw [bytesLess_eq]; exact decide_eq_true hlt2
            have b6 : (j : Int) - 1 < (m.length : Int) := by omega
            have b7 : (0 : Int) ≤ (j : Int) - 1 := by omega
            have e7 : IntKind.i64.wrap ((j : Int) - 1) = (j : Int) - 1 := IntWalk.i64_in _ (by omega)
            clear hy hlt2
            go_wp2_with fail
            refine HHAS.out.mono ?_
            rintro e w' ⟨rfl, rfl⟩
            go_wp2_with fail
            refine HFH.out.mono ?_
            rintro e w7 ⟨rfl, M', hrc, -, hfr⟩
            have HT7 := Lib.hid (HT.out.turn hrc hfr)
            have HVM7 := Lib.hid (ow_fr HVM.out hfr HAW.out)
            have HAW7 : Hid (Aw (Grew F wo w7) (.slice (some ⟨gm, om, none⟩) m.length mc)) := HAW.out.own HVM.out
            have HS := Lib.hid (HSMP.out w7 _ M' hrc)
            clear hrc hfr
            go_wp2_with fail
            refine HS.out.mono ?_
            rintro e w8 ⟨rfl, hf8⟩
            have HT8 := Lib.hid (HT7.out.quiet hf8)
            have HVM8 := Lib.hid (ow_fr HVM7.out hf8 (fun _ _ h => h))
            clear hf8
            go_wp2_with fail
            go_roundw
            case rel => exact ⟨j + 1, _, M', by go_num, by omega, by show _ = _; rw [← HCE.out], HT8, HVM8, HAW7⟩
            case measure => simp [intOf]; omega
          · have g0 : decide ((0 : Int) < (j : Int)) = false := by rw [decide_eq_false_iff_not]; omega
            have g00 : decide (0 < j) = false := by rw [decide_eq_false_iff_not]; omega
            clear h0
            go_wp2_with fail
            refine HHAS.out.mono ?_
            rintro e w' ⟨rfl, rfl⟩
            go_wp2_with fail
            refine HFH.out.mono ?_
            rintro e w7 ⟨rfl, M', hrc, -, hfr⟩
            have HT7 := Lib.hid (HT.out.turn hrc hfr)
            have HVM7 := Lib.hid (ow_fr HVM.out hfr HAW.out)
            have HAW7 : Hid (Aw (Grew F wo w7) (.slice (some ⟨gm, om, none⟩) m.length mc)) := HAW.out.own HVM.out
            have HS := Lib.hid (HSMP.out w7 _ M' hrc)
            clear hrc hfr
            go_wp2_with fail
            refine HS.out.mono ?_
            rintro e w8 ⟨rfl, hf8⟩
            have HT8 := Lib.hid (HT7.out.quiet hf8)
            have HVM8 := Lib.hid (ow_fr HVM7.out hf8 (fun _ _ h => h))
            clear hf8
            go_wp2_with fail
            go_roundw
            case rel => exact ⟨j + 1, _, M', by go_num, by omega, by show _ = _; rw [← HCE.out], HT8, HVM8, HAW7⟩
            case measure => simp [intOf]; omega
        · obtain rfl : j = m.length := by omega
          rw [List.take_length, HCK.out]
          have HLEN := Lib.hid (floLen_any wo _ F r d M A HT.out.fc.ff)
          have HCOST := Lib.hid (floCost_any wo _ F r d M A HT.out.fc.ff)
          have g9 : ((m.length : Int) == (A.length : Int)) = true := by rw [beq_iff_eq, HML.out]
          have g8 : ((A.length : Int) == (A.length : Int)) = true := by simp
          obtain ⟨cA, hcA⟩ : ∃ c, costM A = c := ⟨_, rfl⟩
          rw [hcA] at HCOST ⊢
          have g7 : ((cA : Int) == (cA : Int)) = true := by simp
          clear hcA
          go_wp2_with fail
          refine HLEN.out.mono ?_
          rintro e w' ⟨rfl, rfl⟩
          go_wp2_with fail
          refine HCOST.out.mono ?_
          rintro e w' ⟨rfl, rfl⟩
          go_wp2_with fail
          go_ret
          exact ⟨rfl, HT.out.fc.bel⟩
end Go.Proofs.Ytgomilodeaafdaa
