/- The reference's session: Dirty. No condition. -/
import Derived.Test.YtpcjogmikgfgdaaQryA
import Derived.Deep.Cut
import Derived.Deep.CutBlock
namespace Go.Proofs.Ytpcjogmikgfgdaa
open Go.RowKit
theorem RefF.wt_ok {w : World} {B q : Nat} {F : Nat → Prop} {vr : Value} {L : List Dd} (h : RefF w B F q vr L) (t : Nat) (ht : t ≤ L.length) : (run26 (L.take t)).wt.length ≤ t ∧ (run26 (L.take t)).wt.Nodup := by
  induction t with
  | zero => exact ⟨by simp [run26, ss0], by simp [run26, ss0]⟩
  | succ t ih =>
    obtain ⟨h1, h2⟩ := ih (by omega)
    rw [run26_take L t (by omega)]
    by_cases h5 : L[t].k = 5
    · obtain ⟨k, hk, hn⟩ := h.wat t (by omega) h5
      have e : (st26 (run26 (L.take t)) L[t]).wt = (run26 (L.take t)).wt ++ [k] := by unfold st26; simp [h5, hk]
      rw [e]
      refine ⟨by rw [List.length_append]; simp; exact h1, List.nodup_append.2 ⟨h2, by simp, fun a ha b hb => ?_⟩⟩
      rw [List.mem_singleton.1 hb]
      rintro rfl
      rw [inL_iff.2 ha] at hn
      cases hn
    · have e : (st26 (run26 (L.take t)) L[t]).wt = (run26 (L.take t)).wt ∨ (st26 (run26 (L.take t)) L[t]).wt = [] := by
        unfold st26
        repeat' split
        all_goals first | exact .inl rfl | exact .inr rfl | (exfalso; omega)
      rcases e with e | e
      · rw [e]; exact ⟨by omega, h2⟩
      · rw [e]; exact ⟨by simp, by simp⟩
set_option maxRecDepth 100000 in
set_option maxHeartbeats 2000000 in
theorem dirtyR_any (w : World) (B q : Nat) (F : Nat → Prop) (vr : Value) (L : List Dd) (h : RefF w B F q vr L) :
    Calls Try.prog 74 #[.pointer (some ⟨q, 0, none⟩)] w fun e w' => e = .returned (.bool (run26 L).di) ∧ Fr (fun _ => False) w w' := by
  have H := Lib.hid h
  have c1 := h.cell
  have hln := h.ln
  obtain ⟨a, c, rfl⟩ := owns_sliceN h.row
  obtain ⟨i0, hi, hz0, hz1, hz2⟩ := info_parts infoS
  have HI := Lib.hid hi
  have HZ0 := Lib.hid hz0
  have HZ1 := Lib.hid hz1
  have HZ2 := Lib.hid hz2
  clear h hi hz0 hz1 hz2
  go_enter Try.func74, Try.ntmps74
  go_wp2_with fail
  go_loopw [3, 4, 16] (fun dv o i wr => ∃ t : Nat, i = .int .i64 t ∧ t ≤ L.length ∧ dv = .bool (run26 (L.take t)).di ∧ Hid (wr.ownsRow w.heap.size 9 1 o (run26 (L.take t)).wt.length ((run26 (L.take t)).wt.map .string)) ∧ Hid (Below w.heap.size w wr)) (fun _ _ i _ => L.length - (intOf i).toNat)
  case atStart => exact ⟨0, rfl, by omega, rfl, World.ownsRow_nil _ _ _ _, Below.refl _ _⟩
  case round =>
    obtain ⟨t, rfl, ht, rfl, HO, HB⟩ := hrel
    obtain ⟨wo, rfl⟩ : ∃ x, x = wr := ⟨_, rfl⟩
    obtain ⟨vv, hvv⟩ : ∃ v, v = u4 := ⟨_, rfl⟩
    subst hvv
    have hfb : Fr (fun _ => False) w wo := ⟨HB.out.os, HB.out.tape, HB.out.output, HB.out.size, fun k hk _ => HB.out.block k hk⟩
    by_cases hlt : t < L.length
    · obtain ⟨g, off, c', a2, c2, he, d0, d1, hv2, hrd⟩ := (H.out.quiet hfb).at_ t hlt
      cases he
      have hb0 : (0 : Int) ≤ (t : Int) := by omega
      have hb1 : (t : Int) < (L.length : Int) := by omega
      have hst := run26_take L t hlt
      have hwat := H.out.wat t hlt
      have hql := (H.out.wt_ok t (by omega)).1
      obtain ⟨d, hd⟩ : ∃ d, L[t] = d := ⟨_, rfl⟩
      rw [hd] at d0 d1 hst hrd hwat
      obtain ⟨S, hS⟩ : ∃ S, run26 (L.take t) = S := ⟨_, rfl⟩
      rw [hS] at hst hwat hql HO ⊢
      obtain ⟨kk, hkk⟩ : ∃ k, d.k = k := ⟨_, rfl⟩
      rw [hkk] at d0 hwat
      obtain ⟨W2, hW2⟩ : ∃ W, wo.alloc (.cells #[.int .i64 kk, .slice a2 d.ws.length c2] 118) = W := ⟨_, rfl⟩
      have hbx : W2.heap[wo.heap.size]? = some (.cells #[.int .i64 kk, .slice a2 d.ws.length c2] 118 (0, 0)) := by rw [← hW2]; exact alloc_at _ _
      have HFA : Hid (Fr (fun _ => False) wo W2) := by rw [← hW2]; exact Fr.alloc _ _ _
      have HO2 : Hid (W2.ownsRow w.heap.size 9 1 vv S.wt.length (S.wt.map .string)) := owns_fr HO.out HFA.out (fun _ _ h => h)
      have HB2 : Hid (Below w.heap.size w W2) := HB.out.trans (HFA.out.below HB.out.size (fun _ h => h.elim))
      have HRD : Hid (RdC W2 1 (.slice a2 d.ws.length c2) d.ws.length (d.ws.map .string)) := hrd.fr HFA.out (fun _ _ h => h)
      have x0 : W2.cell? ⟨wo.heap.size, 0, none⟩ = some (.int .i64 kk) := cell_of_blk hbx 0
      have x1 : W2.cell? ⟨wo.heap.size, 1, none⟩ = some (.slice a2 d.ws.length c2) := cell_of_blk hbx 1
      have hxl : wo.heap.size < W2.heap.size := (Array.getElem?_eq_some_iff.1 hbx).1
      obtain ⟨va, vc, rfl⟩ := owns_sliceN HO2.out
      by_cases h46 : kk = 4 ∨ kk = 6
      · have HST1 : Hid ((run26 (L.take (t + 1))).wt = []) := by show _ = _; rw [hst]; unfold st26; rcases h46 with h | h <;> simp [hkk, h]
        have HST2 : Hid ((run26 (L.take (t + 1))).di = false) := by show _ = _; rw [hst]; unfold st26; rcases h46 with h | h <;> simp [hkk, h]
        clear hst hkk hd hS hbx hrd hfb hv2 hwat
        rcases h46 with h | h
        all_goals
          subst h
          go_wp2_with fail
          go_roundw
          case rel => exact ⟨t + 1, by go_num, by omega, by rw [HST2.out], by rw [HST1.out]; exact World.ownsRow_nil _ _ _ _, HB2.out⟩
          case measure => simp [intOf]; omega
      · have g4 : (kk == 4) = false := by rw [beq_eq_false_iff_ne]; omega
        have g6 : (kk == 6) = false := by rw [beq_eq_false_iff_ne]; omega
        by_cases h5 : kk = 5
        · obtain ⟨key, hws, _⟩ := hwat h5
          have HST1 : Hid ((run26 (L.take (t + 1))).wt = S.wt ++ [key]) := by show _ = _; rw [hst]; unfold st26; simp [hkk, h5, hws]
          have HST2 : Hid ((run26 (L.take (t + 1))).di = S.di) := by show _ = _; rw [hst]; unfold st26; simp [hkk, h5]
          have hone : d.ws.length = 1 := by rw [hws]; rfl
          obtain ⟨g2, o2, rfl, hc⟩ := HRD.out.at (by rw [hws]; simp)
          have hk0 := hc 0 (.string key) (by rw [hws]; rfl)
          rw [Nat.add_zero] at hk0
          rw [hone] at x1
          subst h5
          clear hst hkk hd hS hbx hrd hfb hv2 hwat hc g4 g6 h46 hws
          have hone' := Lib.hid hone
          clear hone
          go_wp2_with (at_builtin; refine wpList_append_own _ rfl (.tmp 27) (.tmp 32) 41 rfl w.heap.size 9 i0 (.string ⟨#[]⟩) 1 16 Try.underlying41 HI.out HZ0.out HZ1.out HZ2.out rfl (by decide) _ S.wt.length (S.wt.map .string) rfl (HO2.out.alloc _) ⟨W2.heap.size, 0, none⟩ 1 1 [.string key] rfl rfl (cell_one_new _ _ _) (by simp [Value.oneCell']) (by unfold maxLen; omega) (by omega) (by have := HB2.out.size; simp; omega) ?_; intro v' w2 hown hgrow _; have HO3 := Lib.hid hown; have HG := Lib.hid hgrow; clear hown hgrow)
          go_roundw
          case rel =>
            refine ⟨t + 1, by go_num, by omega, by rw [HST2.out], ?_, ?_⟩
            · rw [HST1.out, List.length_append, List.map_append]; exact HO3.out
            · exact (HB2.out.alloc HB2.out.size _).grown HG.out (by have := HB2.out.size; simp; omega) (fun g hg => (own_blk HO2.out hg).1)
          case measure => simp [intOf]; omega
        · have g5 : (kk == 5) = false := by rw [beq_eq_false_iff_ne]; exact h5
          by_cases h7 : kk = 7
          · have HST1 : Hid ((run26 (L.take (t + 1))).wt = S.wt) := by show _ = _; rw [hst]; unfold st26; simp [hkk, h7]
            have HST2 : Hid ((run26 (L.take (t + 1))).di = (S.di || d.ws.any (fun k => inL k S.wt))) := by show _ = _; rw [hst]; unfold st26; simp [hkk, h7]
            subst h7
            have hml := HRD.out.len
            unfold maxLen at hml
            clear hst hkk hd hS hbx hrd hfb hv2 hwat g4 g6 h46 h5 g5
            go_wp2_with fail
            go_loopw [3, 39] (fun dv i wr => ∃ j : Nat, i = .int .i64 j ∧ j ≤ d.ws.length ∧ dv = .bool (S.di || (d.ws.take j).any (fun k => inL k S.wt)) ∧ Hid (wr = W2)) (fun _ i _ => d.ws.length - (intOf i).toNat)
            case atStart => exact ⟨0, rfl, by omega, by simp, rfl⟩
            case round =>
              obtain ⟨j, rfl, hj, rfl, HE⟩ := hrel
              obtain ⟨wq, rfl⟩ : ∃ x, x = wr := ⟨_, rfl⟩
              obtain rfl := HE.out
              by_cases hlt2 : j < d.ws.length
              · obtain ⟨g2, o2, rfl, hc⟩ := HRD.out.at (by simp; omega)
                have hk0 := hc j (.string d.ws[j]) (by rw [List.getElem?_map, List.getElem?_eq_getElem hlt2]; rfl)
                have hsn : (d.ws.take (j + 1)).any (fun k => inL k S.wt) = ((d.ws.take j).any (fun k => inL k S.wt) || inL d.ws[j] S.wt) := by rw [List.take_succ_eq_append_getElem hlt2, List.any_append]; simp
                obtain ⟨x, hx⟩ : ∃ x, d.ws[j] = x := ⟨_, rfl⟩
                rw [hx] at hk0 hsn
                have HAM := Lib.hid (amongR_any x _ S.wt wq (RdC.of_owns HO2.out))
                obtain ⟨b0, hb0'⟩ : ∃ b, (S.di || (d.ws.take j).any (fun k => inL k S.wt)) = b := ⟨_, rfl⟩
                have HNX : Hid ((S.di || (d.ws.take (j + 1)).any (fun k => inL k S.wt)) = (b0 || inL x S.wt)) := by show _ = _; rw [hsn, ← Bool.or_assoc, hb0']
                rw [hb0']
                have hj0 : (0 : Int) ≤ (j : Int) := by omega
                have hj1 : (j : Int) < (d.ws.length : Int) := by omega
                clear hc hsn hx hb0'
                cases b0
                · go_wp2_with fail
                  refine HAM.out.mono ?_
                  rintro e w' ⟨rfl, rfl⟩
                  go_wp2_with fail
                  go_roundw
                  case rel => exact ⟨j + 1, by go_num, by omega, by rw [HNX.out]; rfl, by first | exact HE.out | trivial⟩
                  case measure => simp [intOf]; omega
                · go_wp2_with fail
                  go_roundw
                  case rel => exact ⟨j + 1, by go_num, by omega, by rw [HNX.out]; rfl, by first | exact HE.out | trivial⟩
                  case measure => simp [intOf]; omega
              · obtain rfl : j = d.ws.length := by omega
                rw [List.take_length]
                go_wp2_with fail
                go_roundw
                case rel => exact ⟨t + 1, by go_num, by omega, by rw [HST2.out], by rw [HST1.out]; exact HO2.out, HB2.out⟩
                case measure => simp [intOf]; omega
          · have g7 : (kk == 7) = false := by rw [beq_eq_false_iff_ne]; exact h7
            have HST1 : Hid ((run26 (L.take (t + 1))).wt = S.wt) := by
              show _ = _
              rw [hst]
              unfold st26
              rw [hkk]
              repeat' split
              all_goals first | rfl | (exfalso; omega)
            have HST2 : Hid ((run26 (L.take (t + 1))).di = S.di) := by
              show _ = _
              rw [hst]
              unfold st26
              rw [hkk]
              repeat' split
              all_goals first | rfl | (exfalso; omega)
            clear hst hkk hd hS hbx hrd hfb hv2 hwat h46 h5 h7
            go_wp2_with fail
            go_roundw
            case rel => exact ⟨t + 1, by go_num, by omega, by rw [HST2.out], by rw [HST1.out]; exact HO2.out, HB2.out⟩
            case measure => simp [intOf]; omega
    · obtain rfl : t = L.length := by omega
      rw [List.take_length]
      go_wp2_with fail
      go_ret
      exact ⟨rfl, hfb⟩
end Go.Proofs.Ytpcjogmikgfgdaa
