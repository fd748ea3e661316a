/- The walks of strings.Trim at a star, and of glob.Match: whether a pattern means a name; The walk of glob.Match: it tells whether the pattern's signs mean the name. No condition but sizes. -/
import Derived.Test.YtleoeccjnchclaaGreatDoorZaj
import Derived.Deep.QuietTactic
import Derived.BigQuiet
namespace Go.Proofs.YtleoeccjnchclaaGreatDoor
open Go.RowKit

def mkS (l : Bytes) : ByteArray := ⟨l.toArray⟩
theorem bl_mk (l : Bytes) : bl (mkS l) = l := rfl
theorem mk_bl (s : ByteArray) (l : Bytes) (h : bl s = l) : s = mkS l := by
  subst h
  rfl
theorem mk_size (l : Bytes) : (mkS l).size = l.length := by simp [mkS, ByteArray.size]
def trR (l : Bytes) : Bytes := (l.reverse.dropWhile (· == 42)).reverse
def trL (l : Bytes) : Bytes := l.dropWhile (· == 42)
theorem dw_nil {l : Bytes} : l.dropWhile (· == 42) = [] ↔ ∀ x ∈ l, (x == 42) = true := by
  induction l with
  | nil => simp
  | cons a l ih =>
    by_cases h : a = 42
    · simp [h, ih]
    · simp [h]
theorem trim_nil (l : Bytes) : trL (trR l) = [] ↔ l.all (· == 42) = true := by
  unfold trL trR
  constructor
  · intro h
    by_cases hr : (l.reverse.dropWhile (· == 42)) = []
    · rw [dw_nil] at hr
      rw [List.all_eq_true]
      intro x hx
      exact hr x (List.mem_reverse.2 hx)
    · exfalso
      rw [dw_nil] at h
      have h1 := List.head_dropWhile_not (· == 42) hr
      have h2 := h ((l.reverse.dropWhile (· == 42)).head hr) (List.mem_reverse.2 (List.head_mem hr))
      rw [h2] at h1
      cases h1
  · intro h
    rw [List.all_eq_true] at h
    have hr : (l.reverse.dropWhile (· == 42)) = [] := by
      rw [dw_nil]
      intro x hx
      exact h x (List.mem_reverse.1 hx)
    rw [hr]; rfl
theorem trR_le (l : Bytes) : (trR l).length ≤ l.length := by
  unfold trR
  rw [List.length_reverse]
  have := (List.dropWhile_sublist (· == 42) (l := l.reverse)).length_le
  simpa using this
theorem trR_any (s : ByteArray) (w : World) (n : Nat) (hs : s.size < 4611686018427387904) :
    Calls Tryz.prog 56 #[.string s, .int .u8 42] (w.drewN n) fun e w' => e = .returned (.string (mkS (trR (bl s)))) ∧ ∃ m, w' = w.drewN m :=
  (trimRight_any s 42 (w.drewN n) hs).mono fun e w' ⟨⟨t, h1, _, h2⟩, h3⟩ => ⟨by rw [h1, mk_bl t _ h2]; rfl, n, h3.symm⟩
theorem trL_any (s : ByteArray) (w : World) (n : Nat) (hs : s.size < 4611686018427387904) :
    Calls Tryz.prog 55 #[.string s, .int .u8 42] (w.drewN n) fun e w' => e = .returned (.string (mkS (trL (bl s)))) ∧ ∃ m, w' = w.drewN m :=
  (trimLeft_any s 42 (w.drewN n) hs).mono fun e w' ⟨⟨t, h1, h2⟩, h3⟩ => ⟨by rw [h1, mk_bl t _ h2]; rfl, n, h3.symm⟩
def trimV (s : ByteArray) : Value := .string (if s.size = 0 then s else mkS (trL (trR (bl s))))
set_option maxRecDepth 100000 in
set_option maxHeartbeats 1000000 in
theorem trim_any (s : ByteArray) (w : World) (hs : s.size < 4611686018427387904) :
    Calls Tryz.prog 48 #[.string s, .string ⟨#[42]⟩] w fun e w' => e = .returned (trimV s) ∧ ∃ m, w' = w.drewN m := by
  unfold trimV
  by_cases h0 : s.size = 0
  · rw [if_pos h0]
    have hl : s.toList = [] := by
      rw [Go.ByteArray.toList_eq]
      exact List.length_eq_zero_iff.1 (by rw [show s.data.toList.length = s.size by simp]; exact h0)
    have hl2 : s.toList.isEmpty = true := by rw [hl]; rfl
    clear h0
    go_enter Tryz.func48, Tryz.ntmps48
    go_wp2
    go_ret
    exact ⟨rfl, 0, rfl⟩
  · rw [if_neg h0]
    have hl : s.toList.isEmpty = false := by
      rw [Go.ByteArray.toList_eq]
      cases hh : s.data.toList with
      | nil => exfalso; apply h0; have := congrArg List.length hh; simpa using this
      | cons a b => rfl
    have hle := trR_le (bl s)
    rw [bl_len] at hle
    have H1 := Lib.hid (fun n => trR_any s w n hs)
    have H2 := Lib.hid (fun n => trL_any (mkS (trR (bl s))) w n (by rw [mk_size]; omega))
    rw [bl_mk] at H2
    clear hle h0
    go_enter Tryz.func48, Tryz.ntmps48
    go_wp2
    go_quiet ((first | (go_at_call 56; exact H1.out _) | (go_at_call 55; exact H2.out _)))
    go_wp2
    go_ret
    exact ⟨rfl, nq, rfl⟩
end Go.Proofs.YtleoeccjnchclaaGreatDoor
namespace Go.Proofs.YtleoeccjnchclaaGreatDoor
open Go.RowKit

theorem meas0 (S p : Nat) : (S - 0) * (p + 1) + (p - 0) ≤ (S + 1) * (p + 1) := by
  rw [Nat.add_mul S 1, Nat.sub_zero]
  generalize S * (p + 1) = z
  omega
theorem meas1 (S p f f1 a a2 : Nat) (h1 : f ≤ f1) (h2 : a < a2) (h3 : a2 ≤ p) : (S - f1) * (p + 1) + (p - a2) < (S - f) * (p + 1) + (p - a) := by
  have : (S - f1) * (p + 1) ≤ (S - f) * (p + 1) := Nat.mul_le_mul_right _ (by omega)
  omega
theorem meas2 (S p f f1 a sa : Nat) (h1 : f ≤ f1) (h2 : f1 < S) : (S - (f1 + 1)) * (p + 1) + (p - sa) < (S - f) * (p + 1) + (p - a) := by
  have h3 : (S - f1) * (p + 1) ≤ (S - f) * (p + 1) := Nat.mul_le_mul_right _ (by omega)
  have h4 : (S - f1) * (p + 1) = (S - (f1 + 1)) * (p + 1) + (p + 1) := by
    rw [show S - f1 = (S - (f1 + 1)) + 1 by omega, Nat.add_mul]; omega
  omega
def gm (p s : ByteArray) : Bool := means (signs (bl p)) (bl s)
set_option maxRecDepth 100000 in
set_option maxHeartbeats 4000000 in
theorem match_any (p s : ByteArray) (w : World) (hp : p.size < 4611686018427387904) (hs : s.size < 4611686018427387904) :
    Calls Tryz.prog 37 #[.string p, .string s] w fun e w' => e = .returned (.bool (gm p s)) ∧ ∃ m, w' = w.drewN m := by
  have hst := rel_start (bl p) (bl s)
  unfold gm
  obtain ⟨W, hW⟩ : ∃ W, means (signs (bl p)) (bl s) = W := ⟨_, rfl⟩
  rw [hW] at hst ⊢
  have HST := Lib.hid hst
  clear hst hW
  go_enter Tryz.func37, Tryz.ntmps37
  go_wp2
  go_step3
  go_wp2
  go_step3
  go_wp2
  go_loopg [5, 6, 7, 8] ((s.size + 1) * (p.size + 1)) (fun gh a st f i wr => w = wr ∧ ∃ (a0 : Nat) (st0 : Int) (f0 i0 : Nat), a = .int .i64 a0 ∧ st = .int .i64 st0 ∧ f = .int .i64 f0 ∧ i = .int .i64 i0 ∧ a0 ≤ p.size ∧ i0 ≤ s.size ∧ f0 ≤ i0 ∧ Hid ((s.size - f0) * (p.size + 1) + (p.size - a0) ≤ gh) ∧ Hid (Rel (bl p) (bl s) W a0 st0 f0 i0))
  case atStart => exact ⟨rfl, 0, -1, 0, 0, rfl, rfl, rfl, rfl, by omega, by omega, by omega, meas0 _ _, HST⟩
  case round =>
    obtain ⟨rfl, a, st, f, i, rfl, rfl, rfl, rfl, ha, hi, hfi, HG, HR⟩ := hrel
    clear HST
    by_cases hlt : i < s.size
    case neg =>
      have hie : i = s.size := by omega
      have hend := HR.out
      rw [hie, ← bl_len] at hend
      have hW := rel_end hend
      have htr : trimV (p.extract a p.size) = .string (if (p.extract a p.size).size = 0 then p.extract a p.size else mkS (trL (trR (bl (p.extract a p.size))))) := rfl
      have hbl : bl (p.extract a p.size) = (bl p).drop a := by rw [bl_extract, List.take_of_length_le (by rw [bl_len]; exact Nat.le_refl _)]
      have hres : ∃ t : ByteArray, trimV (p.extract a p.size) = .string t ∧ t.toList.isEmpty = W := by
        refine ⟨_, htr, ?_⟩
        rw [Go.ByteArray.toList_eq]
        by_cases h0 : (p.extract a p.size).size = 0
        · rw [if_pos h0]
          have e : (bl (p.extract a p.size)) = [] := List.length_eq_zero_iff.1 (by rw [bl_len]; exact h0)
          have : (bl p).drop a = [] := by rw [← hbl]; exact e
          rw [hW, this]
          unfold bl at e
          rw [e]; rfl
        · rw [if_neg h0, hbl, hW]
          show (trL (trR ((bl p).drop a))).isEmpty = _
          rw [Bool.eq_iff_iff, List.isEmpty_iff, trim_nil]
      obtain ⟨t, ht1, ht2⟩ := hres
      have HC := Lib.hid (trim_any (p.extract a p.size) w (by rw [ByteArray.size_extract]; omega))
      rw [ht1] at HC
      have HT := Lib.hid ht2
      have g1 : decide (i < s.size) = false := by simpa using hlt
      clear hend hW htr hbl ht1 ht2 hie
      go_wp2_with fail
      refine HC.out.mono ?_
      rintro e w' ⟨rfl, m, rfl⟩
      go_wp2
      rw [Exit.noGoto_ret]
      go_ret
      refine ⟨?_, m, rfl⟩
      rw [← HT.out]
      rfl
    case pos =>
      obtain ⟨x, hx⟩ : ∃ x, s[i] = x := ⟨_, rfl⟩
      have hsd : (bl s).drop i = x :: (bl s).drop (i + 1) := by rw [bl_drop s i hlt, hx]
      have HSD := Lib.hid hsd
      have HX := Lib.hid hx
      clear hsd hx
      obtain ⟨wo, rfl⟩ : ∃ wo, wo = w := ⟨_, rfl⟩
      go_wp2
      go_loopg [5, 6, 7] (p.size - a) (fun gh a1' st1' f1' wr => wo = wr ∧ ∃ (a1 : Nat) (st1 : Int) (f1 : Nat), a1' = .int .i64 a1 ∧ st1' = .int .i64 st1 ∧ f1' = .int .i64 f1 ∧ a ≤ a1 ∧ Hid (a1 + gh = p.size) ∧ f ≤ f1 ∧ f1 ≤ i ∧ Hid (Rel (bl p) (bl s) W a1 st1 f1 i))
      case atStart => exact ⟨rfl, a, st, f, rfl, rfl, rfl, Nat.le_refl _, by show _ = _; omega, Nat.le_refl _, hfi, HR⟩
      case round =>
        obtain ⟨rfl, a1, st1, f1, rfl, rfl, rfl, haa, HG1, hff, hfi1, HR1⟩ := hrel
        clear HR hfi
        have ha1 : a1 ≤ p.size := by have := HG1.out; omega
        by_cases hstar : ∃ h : a1 < p.size, p[a1] = 42
        · obtain ⟨hlp, h42⟩ := hstar
          have g1 : (((p[a1].toNat : Nat) : Int) == 42) = true := by rw [h42]; rfl
          have hd : (bl p).drop a1 = 42 :: (bl p).drop (a1 + 1) := by rw [bl_drop p a1 hlp, h42]
          have HRN := Lib.hid (rel_star HR1.out _ hd)
          clear h42 hd
          go_wp2
          go_roundg (p.size - (a1 + 1))
          case measure => have := HG1.out; omega
          case rel => exact ⟨rfl, a1 + 1, ((a1 + 1 : Nat) : Int), i, by go_num, by go_num, rfl, by omega, by show _ = _; omega, by omega, Nat.le_refl _, HRN⟩
        · by_cases hlp : a1 < p.size
          · have h42 : p[a1] ≠ 42 := fun e => hstar ⟨hlp, e⟩
            have g1 : (((p[a1].toNat : Nat) : Int) == 42) = false := byte_ne _ 42 (by decide) h42
            have hd := bl_drop p a1 hlp
            have HC := Lib.hid (one_any p a1 x wo hp hlp)
            unfold oneV at HC
            have hsl := sign1_le ((bl p).drop a1) (by rw [hd]; simp)
            have hsp := sign1_pos ((bl p).drop a1)
            rw [List.length_drop, bl_len] at hsl
            obtain ⟨n, hn⟩ : ∃ n, (sign1 ((bl p).drop a1)).2 = n := ⟨_, rfl⟩
            obtain ⟨b, hb⟩ : ∃ b, (sign1 ((bl p).drop a1)).1 x = b := ⟨_, rfl⟩
            rw [hn, hb] at HC
            rw [hn] at hsl hsp
            have hx := HX.out
            cases b with
            | true =>
              have hadv := rel_adv HR1.out _ _ hd h42 x _ HSD.out hb
              rw [hn] at hadv
              have HADV := Lib.hid hadv
              have hms := meas1 s.size p.size f f1 a (a1 + n) hff (by omega) (by omega)
              have HMS := Lib.hid hms
              clear hd hn hb hadv hms h42 hstar
              go_wp2_with fail
              clear hx
              refine HC.out.mono ?_
              rintro e w' ⟨rfl, rfl⟩
              go_wp2
              go_roundg ((s.size - f1) * (p.size + 1) + (p.size - (a1 + n)))
              case measure => have := HG.out; have := HMS.out; omega
              case rel => exact ⟨rfl, a1 + n, st1, f1, i + 1, rfl, rfl, rfl, by go_num, by omega, by omega, by omega, Nat.le_refl _, HADV⟩
            | false =>
              have hstk := stuck_set _ _ hd h42 x _ HSD.out hb
              have HSTK := Lib.hid hstk
              clear hd hn hb hstk h42 hstar
              rcases rel_st HR1.out with ⟨rfl, rfl⟩ | ⟨sa, rfl, hsa, _⟩
              · have HWF := Lib.hid (rel_fail_no HR1.out HSTK.out)
                go_wp2_with fail
                clear hx
                refine HC.out.mono ?_
                rintro e w' ⟨rfl, rfl⟩
                go_wp2
                rw [Exit.noGoto_ret]
                go_ret
                exact ⟨by rw [HWF.out]; rfl, 0, rfl⟩
              · obtain ⟨hrf, hf1, hf2⟩ := rel_fail HR1.out HSTK.out (by rw [bl_len]; exact hlt)
                have HRF := Lib.hid hrf
                rw [bl_len] at hf2
                have HMS := Lib.hid (meas2 s.size p.size f f1 a sa hff (by omega))
                clear hrf hsa
                go_wp2_with fail
                clear hx
                refine HC.out.mono ?_
                rintro e w' ⟨rfl, rfl⟩
                go_wp2
                go_roundg ((s.size - (f1 + 1)) * (p.size + 1) + (p.size - sa))
                case measure => have := HG.out; have := HMS.out; omega
                case rel => exact ⟨rfl, sa, (sa : Int), f1 + 1, f1 + 1, rfl, rfl, by go_num, by go_num, by omega, by omega, Nat.le_refl _, Nat.le_refl _, HRF⟩
          · have hd := bl_end p a1 (by omega)
            have hstk := stuck_end hd x _ HSD.out
            have HSTK := Lib.hid hstk
            have g0 : decide (a1 < p.size) = false := by simpa using hlp
            clear hd hstk hstar
            rcases rel_st HR1.out with ⟨rfl, rfl⟩ | ⟨sa, rfl, hsa, _⟩
            · have HWF := Lib.hid (rel_fail_no HR1.out HSTK.out)
              go_wp2
              rw [Exit.noGoto_ret]
              go_ret
              exact ⟨by rw [HWF.out]; rfl, 0, rfl⟩
            · obtain ⟨hrf, hf1, hf2⟩ := rel_fail HR1.out HSTK.out (by rw [bl_len]; exact hlt)
              have HRF := Lib.hid hrf
              rw [bl_len] at hf2
              have HMS := Lib.hid (meas2 s.size p.size f f1 a sa hff (by omega))
              clear hrf hsa
              go_wp2
              go_roundg ((s.size - (f1 + 1)) * (p.size + 1) + (p.size - sa))
              case measure => have := HG.out; have := HMS.out; omega
              case rel => exact ⟨rfl, sa, (sa : Int), f1 + 1, f1 + 1, rfl, rfl, by go_num, by go_num, by omega, by omega, Nat.le_refl _, Nat.le_refl _, HRF⟩
end Go.Proofs.YtleoeccjnchclaaGreatDoor
