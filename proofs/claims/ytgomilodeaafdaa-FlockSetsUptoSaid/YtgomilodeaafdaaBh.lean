/- The walk of FlockMissed. No condition. -/
import Derived.Test.YtgomilodeaafdaaBg
import Derived.Test.YtgomilodeaafdaaBr
namespace Go.Proofs.Ytgomilodeaafdaa
open Go.ChangeShapes Go.WideShapes Go.ChangeAt Go.RowKit Du
open Go.ChangeMaps (open_string shut_string)
/-- a text as it comes in -/
abbrev TmB := { x : ByteArray // x.size ≤ maxLen }
def tmb (x : TmB) : List Value := [.string x.1]
theorem tmb_len (x : TmB) : (tmb x).length = 1 := rfl
theorem tm_read {H : Type} {enc : TypeId × Value → H} {w : World} {base : Nat} {held : Bool} (n : Nat) (l : List Value) (y : DataW H × List MemPlace) (h : DataW.trod enc Try.prog w base (fun _ => true) held n 9 l = some y) : ∃ x : TmB, l = tmb x := by
  obtain ⟨x1, g1, _, hw1⟩ := DataW.trod_string Try.underlying9 h
  exact ⟨⟨x1, hw1⟩, g1⟩
theorem tm_flat (l : List TmB) : l.flatMap tmb = (l.map (·.1)).map .string := by
  induction l with
  | nil => rfl
  | cons x l ih => rw [List.flatMap_cons, ih]; rfl
abbrev CtB := { x : Int // InI x }
def ctb (x : CtB) : List Value := [.int .i64 x.1]
theorem ctb_len (x : CtB) : (ctb x).length = 1 := rfl
theorem ct_read {H : Type} {enc : TypeId × Value → H} {w : World} {base : Nat} {held : Bool} (n : Nat) (l : List Value) (y : DataW H × List MemPlace) (h : DataW.trod enc Try.prog w base (fun _ => true) held n 3 l = some y) : ∃ x : CtB, l = ctb x := by
  obtain ⟨x1, g1, _, hw1⟩ := DataW.trod_int Try.underlying3 h
  exact ⟨⟨x1, i64_of hw1⟩, g1⟩
theorem ct_flat (l : List CtB) : l.flatMap ctb = (l.map (·.1)).map (.int .i64) := by
  induction l with
  | nil => rfl
  | cons x l ih => rw [List.flatMap_cons, ih]; rfl
theorem minI {P : Program} (w : World) (ts : Array TypeId) (t : TypeId) (a b : Int) : (Builtin.min_ ts t #[.int .i64 a, .int .i64 b]).run P w = .ok (.int .i64 (min a b)) w := by
  have e : (if b < a then b else a) = min a b := by
    split <;> omega
  simp [Builtin.min_, Builtin.min2, e]
/-- told by now: whoever lies ahead of the cursor's place -/
def Tp (seed : UInt64) (c : Nat) (T S : List ByteArray) : Prop := ∀ x ∈ S, place seed x < tr 64 c → x ∈ T
theorem Tp.next {M : DM} {A : List Me} (hl : LikeG vl M A) (ho : M.old.length ≤ 35184372088832) (hy : M.young.length ≤ 35184372088832) {c : Nat} {T S : List ByteArray} (h : Tp M.seed c T S) (hs : ∀ x ∈ S, x ∈ A.map (·.1)) (count : Int) :
    Tld M.seed (scanK M c count).1 (T ++ (scanK M c count).2) S := by
  intro x hx hp
  by_cases hlt : place M.seed x < tr 64 c
  · exact List.mem_append_left _ (h x hx hlt)
  · obtain ⟨e, he, hek⟩ := List.mem_map.1 (hl.keys.mem_iff.2 (hs x hx))
    rw [← hek] at hp hlt ⊢
    exact List.mem_append_right _ (scan_tells hl.inv ho hy c count he (Nat.le_of_not_lt hlt) hp)
theorem Tp.start (seed : UInt64) (T S : List ByteArray) : Tp seed 0 T S := fun x _ h => by rw [tr_zero] at h; exact absurd h (Nat.not_lt_zero _)
structure Fm (K : Nat) (w0 w : World) (r d : Nat) (F : Nat → Prop) (M : DM) (A : List Me) (vs : Value) (S : List ByteArray) (vt : Value) (T : List ByteArray) : Prop where
  fc : Fc K w0 w F r d M A
  st : RowS w0.heap.size w vs S
  tl : RowS w0.heap.size w vt T
  sa : Aw F vs
  ta : Aw F vt
  dis : ∀ g, vs.ownBlock = some g → ¬ vt.ownBlock = some g
  sub : ∀ x ∈ S, x ∈ A.map (·.1)
section
variable {K K' : Nat} {w0 w w' : World} {r d : Nat} {F : Nat → Prop} {M : DM} {A A' : List Me} {vs vt : Value} {S T : List ByteArray}
theorem Fm.quiet (h : Fm K w0 w r d F M A vs S vt T) (hf : Fr (fun _ => False) w w') : Fm K w0 w' r d F M A vs S vt T := ⟨h.fc.quiet hf, ow_fr h.st hf (fun _ _ h => h), ow_fr h.tl hf (fun _ _ h => h), h.sa, h.ta, h.dis, h.sub⟩
theorem Fm.mono (h : Fm K w0 w r d F M A vs S vt T) (hk : K ≤ K') : Fm K' w0 w r d F M A vs S vt T := ⟨h.fc.mono hk, h.st, h.tl, h.sa, h.ta, h.dis, h.sub⟩
theorem Fm.turn (h : Fm K w0 w r d F M A vs S vt T) {M' : DM} (hrc : Fc K' w0 w' (Grew F w w') r d M' A') (hfr : Fr F w w') (hs : ∀ x ∈ S, x ∈ A'.map (·.1)) : Fm K' w0 w' r d (Grew F w w') M' A' vs S vt T :=
  ⟨hrc, ow_fr h.st hfr h.sa, ow_fr h.tl hfr h.ta, h.sa.own h.st, h.ta.own h.tl, h.dis, hs⟩
theorem Fm.told (h : Fm K w0 w r d F M A vs S vt T) {vt' : Value} {T' : List ByteArray} (hr : RowS w0.heap.size w' vt' T') (hg : w.grownBy w' vt.ownBlock) (ha : ∀ g, vt'.ownBlock = some g → vt.ownBlock = some g ∨ w.heap.size ≤ g) : Fm K w0 w' r d F M A vs S vt' T' := by
  refine ⟨h.fc.other (Fr.of_grownBy hg) (fun i hi e => h.ta i e hi) (fun i e => (own_blk h.tl e).1), ow_fr h.st (Fr.of_grownBy hg) (fun g h1 h2 => h.dis g h1 h2), hr, h.sa, fun g hgv hF => ?_, fun g h1 h2 => ?_, h.sub⟩
  · rcases ha g hgv with h2 | h2
    · exact h.ta g h2 hF
    · have := (h.fc.ff.lt g hF).2
      omega
  · rcases ha g h2 with h3 | h3
    · exact h.dis g h1 h3
    · have := (own_blk h.st h1).2.1
      omega
theorem Fm.stay (h : Fm K w0 w r d F M A vs S vt T) (hf : Fr (fun _ => False) w w') {vs' : Value} {S' : List ByteArray} (hr : RowS w.heap.size w' vs' S') (hs : ∀ x ∈ S', x ∈ A.map (·.1)) : Fm K w0 w' r d F M A vs' S' vt T := by
  have h1 := h.quiet hf
  refine ⟨h1.fc, ow_base hr h.fc.bel.size, h1.tl, h.fc.away hr, h.ta, fun g h2 h3 => ?_, hs⟩
  have h4 := (own_blk hr h2).1
  have h5 := (own_blk h.tl h3).2.1
  omega
theorem fc_small (h : Fc K w0 w F r d M A) (hK : K ≤ 131074) : M.old.length ≤ 262148 ∧ M.young.length ≤ 262148 ∧ M.n ≤ 131074 := by
  have h1 := h.lens.1
  have h2 := h.lens.2
  have h3 := h.count
  have h4 := h.few
  omega
end
set_option maxRecDepth 100000 in
set_option maxHeartbeats 8000000 in
theorem flockMissed_walk (w : World) (x0 : UInt64) (v1 : Value) (l : List TmB) (hr : RdC w 1 v1 l.length (l.flatMap tmb)) (_hby : l.length * 16 ≤ reachBytes) (v2 : Value) (l2 : List CtB) (hr2 : RdC w 1 v2 l2.length (l2.flatMap ctb)) (_hby2 : l2.length * 8 ≤ reachBytes) (v3 : Value) (l3 : List So10B) (hr3 : RdC w 6 v3 l3.length (l3.flatMap so10)) (_hby3 : l3.length * 56 ≤ reachBytes) :
    Calls Try.prog 13 #[.int .u64 (wd x0), v1, v2, v3] w fun e w' => e = .returned (.bool true) ∧ Below w.heap.size w w' := by
  have hll : l.length ≤ 9223372036854775807 := by have := hr.len; unfold maxLen at this; exact this
  have hll2 : l2.length ≤ 9223372036854775807 := by have := hr2.len; unfold maxLen at this; exact this
  have hll3 : l3.length ≤ 9223372036854775807 := by have := hr3.len; unfold maxLen at this; exact this
  have HR := Lib.hid hr
  have HR2 := Lib.hid hr2
  have HR3 := Lib.hid hr3
  obtain ⟨-, a1, c1, rfl, -⟩ := hr
  obtain ⟨-, a2, c2, rfl, -⟩ := hr2
  obtain ⟨-, a3, c3, rfl, -⟩ := hr3
  obtain ⟨i0, hi, hz0, hz1, hz2⟩ := info_parts info_str
  have HI := Lib.hid hi
  have HZ0 := Lib.hid hz0
  have HZ1 := Lib.hid hz1
  have HZ2 := Lib.hid hz2
  have hmin := @minI Try.prog
  have HMIN := Lib.hid hmin
  clear hi hz0 hz1 hz2 hmin
  go_enter Try.func13, Try.ntmps13
  go_wp2_with fail
  refine (wakes10_any w).mono ?_
  rintro e w0 ⟨rfl, hb0⟩
  have HBW := Lib.hid hb0
  clear hb0
  go_wp2_with fail
  refine (fc_new w w0 x0 HBW.out).mono ?_
  rintro e w1 ⟨r, d, M0, F0, rfl, h0, -, -, -⟩
  have H0 := Lib.hid h0
  clear h0
  go_wp2_with fail
  go_loopw [31] (fun i wr => ∃ (k K : Nat) (F : Nat → Prop) (M : DM) (A : List Me), i = .int .i64 k ∧ k ≤ l.length ∧ K ≤ k ∧ K ≤ 2000 ∧ Hid (Fc K w wr F r d M A)) (fun i _ => l.length - (intOf i).toNat)
  case atStart => exact ⟨0, 0, F0, M0, [], rfl, by omega, by omega, by omega, H0⟩
  case round =>
    obtain ⟨k, K, F, M, A, rfl, hk, hKk, hK2, HD⟩ := hrel
    obtain ⟨wo, rfl⟩ : ∃ wo, wo = wr := ⟨_, rfl⟩
    clear H0 HBW
    by_cases hlt : k < l.length
    · obtain ⟨g1, o1, rfl, hcell⟩ := (HR.out.below HD.out.bel).at (by rw [HR.out.1]; omega)
      have cx := hcell k (.string (l[k]).1) (by rw [tm_flat, List.getElem?_map, List.getElem?_map, List.getElem?_eq_getElem hlt]; rfl)
      obtain ⟨x, hx⟩ : ∃ x, l[k] = x := ⟨_, rfl⟩
      rw [hx] at cx
      obtain ⟨x, hxs⟩ := x
      dsimp only at cx
      have b0 : (0 : Int) ≤ (k : Int) := by omega
      have b1 : (k : Int) < (l.length : Int) := by omega
      clear hcell hx
      by_cases hk2 : k < 2000
      · have g2 : (k : Int) < 2000 := by omega
        by_cases hsh : x.size ≤ 1048576
        · have HSH := Lib.hid hsh
          clear hsh
          go_wp2_with fail
          refine (fc_add w wo K F r d M A x HD.out HSH.out (by omega)).mono ?_
          rintro e w4 ⟨rfl, M', h4, -, -⟩
          have H4 := Lib.hid h4
          clear h4
          go_wp2_with fail
          go_roundw
          case rel => exact ⟨k + 1, K + 1, _, M', _, by go_num, by omega, by omega, by omega, H4⟩
          case measure => simp [intOf]; omega
        · have HSH : Hid (1048576 < x.size) := Nat.lt_of_not_le hsh
          clear hsh
          go_wp2_with fail
          refine (floAdd_long wo r x hxs HSH.out).mono ?_
          rintro e w4 ⟨rfl, rfl⟩
          go_wp2_with fail
          go_roundw
          case rel => exact ⟨k + 1, K, F, M, A, by go_num, by omega, by omega, by omega, HD⟩
          case measure => simp [intOf]; omega
      · have g2 : ¬ (k : Int) < 2000 := by omega
        go_wp2_with fail
        go_roundw
        case rel => exact ⟨k + 1, K, F, M, A, by go_num, by omega, by omega, by omega, HD⟩
        case measure => simp [intOf]; omega
    · obtain rfl : k = l.length := by omega
      clear hKk hlt HR
      go_wp2_with fail
      refine (members_any wo _ F r d M A HD.out.ff).mono ?_
      rintro e w5 ⟨v5, S, rfl, q1, q2, q3, q4⟩
      have hSl : S.length = A.length := by rw [q1.length_eq, List.length_map]
      rw [← hSl] at q3
      have HM5 : Hid (Fm 2000 w w5 r d F M A v5 S (.slice none 0 0) []) := ⟨(HD.out.quiet q4).mono hK2, ow_base q3 HD.out.bel.size, World.ownsRow_nil _ _ _ _, HD.out.away q3, fun g hg => (by cases hg), fun g _ h => (by cases h), fun x hx => q1.mem_iff.1 hx⟩
      have hS6 : S.length ≤ 2000 := by rw [hSl]; have := HD.out.few; omega
      clear q1 q2 q3 q4 hSl HD hK2
      go_wp2_with fail
      go_loopw [12, 13, 14, 15] (fun vs vt cv i wr => ∃ (k K : Nat) (F : Nat → Prop) (M : DM) (A : List Me) (c : UInt64) (S T : List ByteArray), i = .int .i64 k ∧ cv = .int .u64 (wd c) ∧ k ≤ 100001 ∧ K ≤ 2000 + k ∧ S.length ≤ 2000 ∧ T.length ≤ k * 393222 ∧ Hid (Fm K w wr r d F M A vs S vt T) ∧ Hid (Tp M.seed c.toNat T S)) (fun _ _ _ i _ => 100002 - (intOf i).toNat)
      case atStart => exact ⟨0, 2000, F, M, A, 0, S, [], rfl, rfl, by omega, by omega, hS6, by simp, HM5, Tp.start _ _ _⟩
      case round =>
        obtain ⟨k, K, F, M, A, c, S, T, rfl, rfl, hk, hK, hS6, hT6, HM, HTP⟩ := hrel
        obtain ⟨wo, rfl⟩ : ∃ wo, wo = wr := ⟨_, rfl⟩
        clear HM5
        obtain ⟨vs, rfl⟩ : ∃ v, v = u12 := ⟨_, rfl⟩
        obtain ⟨vt, rfl⟩ : ∃ v, v = u13 := ⟨_, rfl⟩
        go_upto_if 49 with (fail)
        go_cut [16] from 46 to 54 (fun t wc => wc = wo ∧ ∃ ct : Int, InI ct ∧ t = .int .i64 ct)
        case first =>
          by_cases hc4 : k < l2.length
          · obtain ⟨g4, o4, e4, hcell⟩ := (HR2.out.below HM.out.fc.bel).at (by rw [HR2.out.1]; omega)
            have hcx := hcell k (.int .i64 (l2[k]).1) (by rw [ct_flat, List.getElem?_map, List.getElem?_map, List.getElem?_eq_getElem hc4]; rfl)
            subst e4
            obtain ⟨c0, hc0⟩ : ∃ c0, (l2[k]).1 = c0 := ⟨_, rfl⟩
            have hci : InI c0 := hc0 ▸ l2[k].2
            rw [hc0] at hcx
            have HCI : Hid (InI (min c0 1048576)) := by
              unfold InI at hci
              show InI _
              unfold InI
              omega
            have hmm := HMIN.out
            have b0 : (0 : Int) ≤ (k : Int) := by omega
            have b1 : (k : Int) < (l2.length : Int) := by omega
            clear hc0 hci hcell
            go_wp2
            go_meet
            case rel => exact ⟨rfl, _, HCI.out, rfl⟩
          · go_wp2
            go_meet
            case rel => exact ⟨rfl, 2, by unfold InI; omega, rfl⟩
        case rest =>
        obtain ⟨rfl, ct, hct, rfl⟩ := hcut
        obtain ⟨wo, rfl⟩ : ∃ x, x = wc := ⟨_, rfl⟩
        obtain ⟨n1, n2, n3⟩ := fc_small HM.out.fc (by omega)
        have hnx := floScan_any wo _ F r d M A c ct HM.out.fc.ff hct
        have htl := HTP.out.next HM.out.fc.ff.like (by omega) (by omega) HM.out.sub ct
        have hkl := scanK_len HM.out.fc.ff.like.inv (by omega) (by omega) c.toNat ct
        have hcu := scan_cur HM.out.fc.ff.like.inv (by omega) (by omega) c.toNat ct
        obtain ⟨R, hR⟩ : ∃ R, scanK M c.toNat ct = R := ⟨_, rfl⟩
        rw [hR] at hnx htl hkl hcu
        obtain ⟨R1, R2⟩ := R
        dsimp only at hkl hcu htl
        have HNX := Lib.hid hnx
        have HTL := Lib.hid htl
        have hr2 : R2.length ≤ 393222 := by omega
        have hT7 : T.length ≤ 39323000000 := by omega
        obtain ⟨cw, hcw⟩ : ∃ x, wd c = x := ⟨_, rfl⟩
        rw [hcw] at HNX ⊢
        clear hnx htl hR hct hkl n1 n2 n3 hcw HTP
        go_wp2_with fail
        refine HNX.out.mono ?_
        rintro e w6 ⟨v6, rfl, hr6, hb6⟩
        dsimp only at hr6 ⊢
        have HM6 := Lib.hid (HM.out.quiet (fr_bel hb6))
        have HRD := Lib.hid (RdC.of_owns hr6)
        have hrt := HM6.out.tl
        obtain ⟨vta, vtc, rfl⟩ := owns_slice hrt
        have HRT := Lib.hid hrt
        have HSZ6 := Lib.hid HM6.out.fc.bel.size
        obtain ⟨v6a, v6c, rfl⟩ := owns_slice hr6
        have hf5 : (T ++ R2).length ≤ (k + 1) * 393222 := by rw [List.length_append]; omega
        have F5 := Lib.hid hf5
        have hst := HM6.out.st
        obtain ⟨vsa, vsc, rfl⟩ := owns_slice hst
        clear hr6 hb6 hrt HNX HM hf5 hT6 hst
        by_cases hz : R1 = 0
        · subst hz
          have HALL : Hid (∀ x ∈ S, x ∈ T ++ R2) := fun x hx => HTL.out x hx (.inl rfl)
          go_wp2_with (at_builtin; refine wpl_append2 rfl (.tmp 62) (.tmp 63) 39 rfl w.heap.size 9 i0 (.string ⟨#[]⟩) 1 16 Try.underlying39 HI.out HZ0.out HZ1.out HZ2.out rfl (by decide) _ T.length _ rfl HRT.out _ R2.length _ rfl HRD.out (one_strs _) (by unfold maxLen; omega) (by omega) HSZ6.out ?_; intro v' w8 hown hgrow hap; have HM8 := Lib.hid (HM6.out.told (rowS_app hown) hgrow hap); clear hown hgrow hap)
          have HT8 := Lib.hid HM8.out.tl
          obtain ⟨TT, hTT⟩ : ∃ TT, T ++ R2 = TT := ⟨_, rfl⟩
          rw [hTT] at HM8 HALL HT8
          go_loopw [107] (fun i wr => ∃ (j : Nat), i = .int .i64 j ∧ j ≤ S.length ∧ Hid (wr = w8)) (fun i _ => S.length - (intOf i).toNat)
          case atStart => exact ⟨0, rfl, by omega, rfl⟩
          case round =>
            obtain ⟨j, rfl, hj, HW⟩ := hrel
            obtain ⟨wz, rfl⟩ : ∃ wz, wz = wr := ⟨_, rfl⟩
            have hwz := HW.out
            subst hwz
            by_cases hlj : j < S.length
            · obtain ⟨gs, os, hgs, cx⟩ := texts_at (RdC.of_owns HM8.out.st) j hlj
              have hin : S[j] ∈ TT := HALL.out _ (List.getElem_mem hlj)
              obtain ⟨x, hx⟩ : ∃ x, S[j] = x := ⟨_, rfl⟩
              rw [hx] at cx hin
              subst hgs
              have htl := HM8.out.tl
              obtain ⟨tva, tvc, rfl⟩ := owns_slice htl
              have hhas := has10_any wz (.slice tva TT.length tvc) TT x (RdC.of_owns htl)
              rw [inL_iff.2 hin] at hhas
              have HHAS := Lib.hid hhas
              have b0 : (0 : Int) ≤ (j : Int) := by omega
              have b1 : (j : Int) < (S.length : Int) := by omega
              clear hhas hin hx htl
              go_wp2_with fail
              refine HHAS.out.mono ?_
              rintro e w' ⟨rfl, rfl⟩
              go_wp2_with fail
              go_roundw
              case rel => exact ⟨j + 1, by go_num, by omega, trivial⟩
              case measure => simp [intOf]; omega
            · obtain rfl : j = S.length := by omega
              go_wp2_with fail
              go_ret
              exact ⟨rfl, HM8.out.fc.bel⟩
        · have q1 : ((R1 : Int) == 0) = false := beq_eq_false_iff_ne.2 (by omega)
          have HTP8 : Hid (Tp M.seed (UInt64.ofNat R1).toNat (T ++ R2) S) := by
            show Tp _ _ _ _
            rw [u64_nat R1 hcu]
            exact fun x hx hp => HTL.out x hx (.inr hp)
          have HW1 := Lib.hid (wd_nat R1 hcu)
          by_cases h100 : 100000 < k
          · have g100 : (100000 : Int) < (k : Int) := by omega
            go_wp2_with (at_builtin; refine wpl_append2 rfl (.tmp 62) (.tmp 63) 39 rfl w.heap.size 9 i0 (.string ⟨#[]⟩) 1 16 Try.underlying39 HI.out HZ0.out HZ1.out HZ2.out rfl (by decide) _ T.length _ rfl HRT.out _ R2.length _ rfl HRD.out (one_strs _) (by unfold maxLen; omega) (by omega) HSZ6.out ?_; intro v' w8 hown hgrow hap; have HM8 := Lib.hid (HM6.out.told (rowS_app hown) hgrow hap); clear hown hgrow hap)
            go_ret
            exact ⟨rfl, HM8.out.fc.bel⟩
          · have g100 : ¬ (100000 : Int) < (k : Int) := by omega
            by_cases hs3 : k < l3.length
            · obtain ⟨g, off, e9, -⟩ := so10_at (HR3.out.below HM6.out.fc.bel) k hs3
              subst e9
              obtain ⟨who, hwho⟩ : ∃ x, l3[k].1.who = x := ⟨_, rfl⟩
              obtain ⟨kd, hkd⟩ : ∃ x, l3[k].1.do_ = x := ⟨_, rfl⟩
              obtain ⟨f, hff⟩ : ∃ x, l3[k].1.member = x := ⟨_, rfl⟩
              obtain ⟨bg, hbg⟩ : ∃ x, l3[k].1.big = x := ⟨_, rfl⟩
              obtain ⟨nn, hnn⟩ : ∃ x, wd l3[k].1.n = x := ⟨_, rfl⟩
              obtain ⟨ct2, hct⟩ : ∃ x, l3[k].1.count = x := ⟨_, rfl⟩
              have hfz : f.size ≤ maxLen := hff ▸ l3[k].2.1
              have hcells : ∀ W, Below w.heap.size w W → W.cell? ⟨g, off + k * 6, none⟩ = some (.int .i64 who) ∧ W.cell? ⟨g, off + k * 6 + 1, none⟩ = some (.int .i64 kd) ∧ W.cell? ⟨g, off + k * 6 + 2, none⟩ = some (.string f) ∧ W.cell? ⟨g, off + k * 6 + 3, none⟩ = some (.int .i64 bg) ∧ W.cell? ⟨g, off + k * 6 + 4, none⟩ = some (.int .u64 nn) ∧ W.cell? ⟨g, off + k * 6 + 5, none⟩ = some (.int .i64 ct2) := fun W hb => by
                obtain ⟨g', off', e', k0, k1, k2, k3, k4, k5⟩ := so10_at (HR3.out.below hb) k hs3
                cases e'
                rw [hwho] at k0
                rw [hkd] at k1
                rw [hff] at k2
                rw [hbg] at k3
                rw [hnn] at k4
                rw [hct] at k5
                exact ⟨k0, k1, k2, k3, k4, k5⟩
              have CELLS := Lib.hid hcells
              have HFZ := Lib.hid hfz
              have b0 : (0 : Int) ≤ (k : Int) := by omega
              have b1 : (k : Int) < (l3.length : Int) := by omega
              have b2 : ¬ (l3.length : Int) ≤ (k : Int) := by omega
              clear hwho hkd hff hbg hnn hct hcells hfz
              by_cases hd3 : kd < 3
              · have gd3 : decide (kd < 3) = true := decide_eq_true hd3
                go_wp2_with (at_builtin; refine wpl_append2 rfl (.tmp 62) (.tmp 63) 39 rfl w.heap.size 9 i0 (.string ⟨#[]⟩) 1 16 Try.underlying39 HI.out HZ0.out HZ1.out HZ2.out rfl (by decide) _ T.length _ rfl HRT.out _ R2.length _ rfl HRD.out (one_strs _) (by unfold maxLen; omega) (by omega) HSZ6.out ?_; intro v' w8 hown hgrow hap; have HM8 := Lib.hid (HM6.out.told (rowS_app hown) hgrow hap); clear hown hgrow hap; obtain ⟨f0, f1, f2, f3, f4, f5⟩ := CELLS.out w8 HM8.out.fc.bel)
                obtain ⟨W, hW⟩ : ∃ W, w8.alloc (.cells #[.int .i64 who, .int .i64 kd, .string f, .int .i64 bg, .int .u64 nn, .int .i64 ct2] 74) = W := ⟨_, rfl⟩
                rw [hW]
                have HMW : Hid (Fm K w W r d F M A (.slice vsa S.length vsc) S v' (T ++ R2)) := by rw [← hW]; exact HM8.out.quiet (Fr.alloc _ _ _)
                clear hW f0 f1 f2 f3 f4 f5
                by_cases hsh : f.size ≤ 1048576
                · have HSH := Lib.hid hsh
                  clear hsh
                  refine (fc_add w W K F r d M A f HMW.out.fc HSH.out (by omega)).mono ?_
                  rintro e w4 ⟨rfl, M', hrc, hsd, hfr⟩
                  have H4 : Hid (Fm (K + 1) w w4 r d (Grew F W w4) M' (setG A f ()) (.slice vsa S.length vsc) S v' (T ++ R2)) := HMW.out.turn hrc hfr (fun x hx => setG_keys () (HMW.out.sub x hx))
                  have HTP9 : Hid (Tp M'.seed (UInt64.ofNat R1).toNat (T ++ R2) S) := by show Tp _ _ _ _; rw [hsd]; exact HTP8.out
                  clear hrc hsd hfr
                  go_wp2_with fail
                  go_roundw
                  case rel => exact ⟨k + 1, K + 1, _, M', _, UInt64.ofNat R1, S, T ++ R2, by go_num, by rw [HW1.out], by omega, by omega, hS6, F5.out, H4, HTP9⟩
                  case measure => simp [intOf]; omega
                · have HSH : Hid (1048576 < f.size) := Nat.lt_of_not_le hsh
                  clear hsh
                  refine (floAdd_long W r f HFZ.out HSH.out).mono ?_
                  rintro e w4 ⟨rfl, rfl⟩
                  go_wp2_with fail
                  go_roundw
                  case rel => exact ⟨k + 1, K, F, M, A, UInt64.ofNat R1, S, T ++ R2, by go_num, by rw [HW1.out], by omega, by omega, hS6, F5.out, HMW, HTP8⟩
                  case measure => simp [intOf]; omega
              · have gd3 : decide (kd < 3) = false := decide_eq_false hd3
                go_wp2_with (at_builtin; refine wpl_append2 rfl (.tmp 62) (.tmp 63) 39 rfl w.heap.size 9 i0 (.string ⟨#[]⟩) 1 16 Try.underlying39 HI.out HZ0.out HZ1.out HZ2.out rfl (by decide) _ T.length _ rfl HRT.out _ R2.length _ rfl HRD.out (one_strs _) (by unfold maxLen; omega) (by omega) HSZ6.out ?_; intro v' w8 hown hgrow hap; have HM8 := Lib.hid (HM6.out.told (rowS_app hown) hgrow hap); clear hown hgrow hap; obtain ⟨f0, f1, f2, f3, f4, f5⟩ := CELLS.out w8 HM8.out.fc.bel)
                obtain ⟨W, hW⟩ : ∃ W, w8.alloc (.cells #[.int .i64 who, .int .i64 kd, .string f, .int .i64 bg, .int .u64 nn, .int .i64 ct2] 74) = W := ⟨_, rfl⟩
                rw [hW]
                have HMW : Hid (Fm K w W r d F M A (.slice vsa S.length vsc) S v' (T ++ R2)) := by rw [← hW]; exact HM8.out.quiet (Fr.alloc _ _ _)
                have hblk : W.heap[w8.heap.size]? = some (oBlk who kd f bg nn ct2) := by rw [← hW]; exact alloc_new w8 _
                have HBLK := Lib.hid hblk
                have HOUT : Hid (∀ i, F i → i < w8.heap.size) := fun i hi => (HM8.out.fc.ff.lt i hi).2
                clear hW f0 f1 f2 f3 f4 f5 hblk
                refine (fc_del w W K F r d M A f HMW.out.fc HFZ.out).mono ?_
                rintro e w4 ⟨rfl, M', hrc, hsd, hfr⟩
                have hra := ow_fr HMW.out.st hfr HMW.out.sa
                have hrt := ow_fr HMW.out.tl hfr HMW.out.ta
                have hb4 : w4.heap[w8.heap.size]? = some (oBlk who kd f bg nn ct2) := (hfr.block _ (Array.getElem?_eq_some_iff.1 HBLK.out).1 (fun hF => absurd (HOUT.out _ hF) (Nat.lt_irrefl _))).trans HBLK.out
                have HRA := Lib.hid hra
                have HRT4 := Lib.hid hrt
                have HB4 := Lib.hid hb4
                have HRC := Lib.hid hrc
                have HTA : Hid (Aw (Grew F W w4) v') := HMW.out.ta.own HMW.out.tl
                have HTP9 : Hid (Tp M'.seed (UInt64.ofNat R1).toNat (T ++ R2) S) := by show Tp _ _ _ _; rw [hsd]; exact HTP8.out
                clear hrc hsd hfr hra hrt hb4
                go_wp2_with fail
                go_loopw [20, 91] (fun vl i wr => ∃ (j : Nat), i = .int .i64 j ∧ j ≤ S.length ∧ Hid (RowS w4.heap.size wr vl ((S.take j).filter fun x => !decide (x = f))) ∧ Hid (Fr (fun _ => False) w4 wr)) (fun _ i _ => S.length - (intOf i).toNat)
                case atStart => exact ⟨0, rfl, by omega, World.ownsRow_nil _ _ _ _, Fr.refl _ _⟩
                case round =>
                  obtain ⟨j, rfl, hj, HRL, HFL⟩ := hrel
                  obtain ⟨vl, rfl⟩ : ∃ v, v = u20 := ⟨_, rfl⟩
                  obtain ⟨wz, rfl⟩ : ∃ wz, wz = wr := ⟨_, rfl⟩
                  by_cases hlj : j < S.length
                  · obtain ⟨gl, ol, hgl, k2⟩ := texts_at (RdC.of_owns (ow_fr HRA.out HFL.out (fun _ _ h => h))) j hlj
                    obtain ⟨x, hx⟩ : ∃ x, S[j] = x := ⟨_, rfl⟩
                    have d3 : wz.cell? ⟨w8.heap.size, 2, none⟩ = some (.string f) := (oBlk_cells ((HFL.out.block _ (Array.getElem?_eq_some_iff.1 HB4.out).1 (fun h => h)).trans HB4.out)).2
                    have hsn : (S.take (j + 1)).filter (fun x => !decide (x = f)) = (S.take j).filter (fun x => !decide (x = f)) ++ if (!decide (x = f)) = true then [x] else [] := by
                      rw [List.take_succ_eq_append_getElem hlj, hx, List.filter_append]
                      congr 1
                      simp only [List.filter_cons, List.filter_nil]
                    rw [hx] at k2
                    subst hgl
                    have HSN := Lib.hid hsn
                    have hfl : ((S.take j).filter fun x => !decide (x = f)).length ≤ 2000 := Nat.le_trans (List.length_filter_le _ _) (by rw [List.length_take]; omega)
                    obtain ⟨SS, hSS⟩ : ∃ SS, (S.take j).filter (fun x => !decide (x = f)) = SS := ⟨_, rfl⟩
                    rw [hSS] at HRL HSN hfl
                    have hrl := HRL.out
                    obtain ⟨vla, vlc, rfl⟩ := owns_slice hrl
                    have c0 : (0 : Int) ≤ (j : Int) := by omega
                    have c1' : (j : Int) < (S.length : Int) := by omega
                    clear hx hsn hSS hrl g100 b2
                    by_cases hxf : x = f
                    · have hq4 : (x.toList == f.toList) = true := by rw [str_beq]; simpa using hxf
                      have hq3 : (x.toList != f.toList) = false := by simp [bne, hq4]
                      have HS2 : Hid ((S.take (j + 1)).filter (fun x => !decide (x = f)) = SS) := by show _ = _; rw [HSN.out, hxf]; simp
                      clear hxf
                      go_wp2_with fail
                      go_roundw
                      case rel => exact ⟨j + 1, by go_num, by omega, by rw [HS2.out]; exact HRL, HFL⟩
                      case measure => simp [intOf]; omega
                    · have hq4 : (x.toList == f.toList) = false := by rw [str_beq]; simpa using hxf
                      have hq3 : (x.toList != f.toList) = true := by simp [bne, hq4]
                      have HS2 : Hid ((S.take (j + 1)).filter (fun x => !decide (x = f)) = SS ++ [x]) := by show _ = _; rw [HSN.out]; simp [hxf]
                      have HFZ2 := Lib.hid (HFL.out.thenAlloc (.cells #[.string x] 9))
                      have HSZ9 : Hid (w4.heap.size ≤ wz.heap.size) := HFL.out.size
                      clear hxf
                      go_wp2_with (at_builtin; refine wpl_append rfl (.tmp 99) (.tmp 101) 39 rfl w4.heap.size 9 i0 (.string ⟨#[]⟩) 1 16 Try.underlying39 HI.out HZ0.out HZ1.out HZ2.out rfl (by decide) _ SS.length _ rfl (HRL.out.alloc _) _ 1 [.string x] rfl (RdC.of_owns (World.ownsRow_lit (e := 9) wz #[.string x] 1 (Nat.le_refl _) (by decide) rfl)) (by simp [Value.oneCell']) (by unfold maxLen; omega) (by omega) (by rw [World.size_alloc]; have := HSZ9.out; omega) ?_; intro v8' w9 hown hgrow; have HO8 := Lib.hid hown; have HG8 := Lib.hid hgrow; clear hown hgrow)
                      go_roundw
                      case rel => exact ⟨j + 1, by go_num, by omega, by rw [HS2.out]; exact rowS_app (K := [x]) HO8.out, HFZ2.out.wide (Fr.of_grownBy HG8.out) (fun i hi => .inr (own_blk HRL.out hi).1)⟩
                      case measure => simp [intOf]; omega
                  · obtain rfl : j = S.length := by omega
                    rw [List.take_length] at HRL
                    have hsub2 : ∀ x ∈ S.filter (fun x => !decide (x = f)), x ∈ S ∧ x ≠ f := fun x hx => by
                      rw [List.mem_filter] at hx
                      exact ⟨hx.1, by simpa using hx.2⟩
                    have H8 : Hid (Fm K w wz r d (Grew F W w4) M' (delG A f) vl (S.filter fun x => !decide (x = f)) v' (T ++ R2)) :=
                      ⟨HRC.out.quiet HFL.out, ow_base HRL.out HRC.out.bel.size, ow_fr HRT4.out HFL.out (fun _ _ h => h), HRC.out.away HRL.out, HTA.out, fun g h2 h3 => by
                        have h4 := (own_blk HRL.out h2).1
                        have h5 := (own_blk HRT4.out h3).2.1
                        omega, fun x hx => delG_keys (hsub2 x hx).2 (HMW.out.sub x (hsub2 x hx).1)⟩
                    have HTPA : Hid (Tp M'.seed (UInt64.ofNat R1).toNat (T ++ R2) (S.filter fun x => !decide (x = f))) := fun x hx hp => HTP9.out x (hsub2 x hx).1 hp
                    have HSL : Hid ((S.filter fun x => !decide (x = f)).length ≤ 2000) := Nat.le_trans (List.length_filter_le _ _) hS6
                    clear hsub2
                    go_wp2_with fail
                    go_roundw
                    case rel => exact ⟨k + 1, K, _, M', _, UInt64.ofNat R1, _, T ++ R2, by go_num, by rw [HW1.out], by omega, by omega, HSL.out, F5.out, H8, HTPA⟩
                    case measure => simp [intOf]; omega
            · have b2 : (l3.length : Int) ≤ (k : Int) := by omega
              go_wp2_with (at_builtin; refine wpl_append2 rfl (.tmp 62) (.tmp 63) 39 rfl w.heap.size 9 i0 (.string ⟨#[]⟩) 1 16 Try.underlying39 HI.out HZ0.out HZ1.out HZ2.out rfl (by decide) _ T.length _ rfl HRT.out _ R2.length _ rfl HRD.out (one_strs _) (by unfold maxLen; omega) (by omega) HSZ6.out ?_; intro v' w8 hown hgrow hap; have HM8 := Lib.hid (HM6.out.told (rowS_app hown) hgrow hap); clear hown hgrow hap)
              go_roundw
              case rel => exact ⟨k + 1, K, F, M, A, UInt64.ofNat R1, S, T ++ R2, by go_num, by rw [HW1.out], by omega, by omega, hS6, F5.out, HM8, HTP8⟩
              case measure => simp [intOf]; omega
end Go.Proofs.Ytgomilodeaafdaa
