/- pantrylaw26's spoilLists: it writes in the list of lists, in the lists, and in new memory alone. No condition. -/
import Derived.Test.YtpcjogmikgfgdaaSpT26
namespace Go.Proofs.Ytpcjogmikgfgdaa
open Go.RowKit
theorem LRow.tb {w : World} {B n g : Nat} {v : Value} (h : LRow w B 9 v n) (hg : v.ownBlock = some g) : TB w g := by
  obtain ⟨xs, h⟩ := h
  exact (own_blk h hg).2.2
/-- lists that may be spoilt -/
def LQ (w : World) (B : Nat) (qs : List Value) : Prop := ∀ u ∈ qs, ∃ m, LRow w B 9 u m ∧ m * 16 ≤ 140737488351232
theorem LQ.kept {w w' : World} {B : Nat} {qs : List Value} (h : LQ w B qs) (hk : SizeKept 9 w w') : LQ w' B qs := fun u hu => by
  obtain ⟨m, h1, h2⟩ := h u hu
  exact ⟨m, h1.kept hk, h2⟩
theorem rd_list1 (w : World) (x : ByteArray) : RdC ((w.alloc (.cells #[.string x] 9)).alloc (.cells #[.slice (some ⟨w.heap.size, 0, none⟩) 1 1] 41)) 1 (.slice (some ⟨w.heap.size + 1, 0, none⟩) 1 1) 1 [.slice (some ⟨w.heap.size, 0, none⟩) 1 1] := by
  have h := World.ownsRow_lit (base := 0) (e := 41) (size := 1) (w.alloc (.cells #[.string x] 9)) #[.slice (some ⟨w.heap.size, 0, none⟩) 1 1] 1 (Nat.zero_le _) (by decide) rfl
  rw [World.size_alloc] at h
  exact RdC.of_owns h
def SlT (v : Value) (qs : List Value) (i : Nat) : Prop := v.ownBlock = some i ∨ ∃ u ∈ qs, u.ownBlock = some i
def SlF (v : Value) (qs : List Value) (w : World) (e : Ending) (w' : World) : Prop := (∃ u, e = .returned u) ∧ Fr (SlT v qs) w w'
set_option maxRecDepth 100000 in
set_option maxHeartbeats 4000000 in
theorem spoilL_any (w : World) (B B2 : Nat) (v : Value) (n : Nat) (qs : List Value) (h : w.ownsRow B 41 1 v n qs) (hq : LQ w B2 qs) (hn : n ≤ 1099511627776) (hB : B ≤ w.heap.size) (hB2 : B2 ≤ w.heap.size) :
    Calls Try.prog 68 #[v] w (SlF v qs w) := by
  obtain ⟨i0, hi, hz0, hz1, hz2⟩ := info_parts infoL
  have HI := Lib.hid hi
  have HZ0 := Lib.hid hz0
  have HZ1 := Lib.hid hz1
  have HZ2 := Lib.hid hz2
  have H := Lib.hid h
  have HQ := Lib.hid hq
  have hqn : qs.length = n := by have := h.1; omega
  have HQN := Lib.hid hqn
  obtain ⟨a, c, rfl⟩ := owns_sliceN h
  clear h hq hi hz0 hz1 hz2 hqn
  go_enter Try.func68, Try.ntmps68
  go_wp2_with fail
  go_loopw [10] (fun i wr => ∃ k : Nat, i = .int .i64 k ∧ k ≤ n ∧ Hid (wr.ownsRow B 41 1 (.slice a n c) n qs) ∧ Hid (LQ wr B2 qs) ∧ Hid (Fr (SlT (.slice a n c) qs) w wr)) (fun i _ => n - (intOf i).toNat)
  case atStart => exact ⟨0, rfl, by omega, H.out, HQ.out, Fr.refl _ _⟩
  case round =>
    obtain ⟨k, rfl, hk, HO, HL, HF⟩ := hrel
    obtain ⟨wo, rfl⟩ : ∃ x, x = wr := ⟨_, rfl⟩
    by_cases hlt : k < n
    · have hO := HO.out
      obtain ⟨-, ⟨h9, h99⟩ | ⟨g, rc, cur, he, _⟩⟩ := hO
      · omega
      cases he
      have hql : k < qs.length := by rw [HQN.out]; exact hlt
      obtain ⟨y0, yf0, hgl⟩ := own_cell1 HO.out hlt
      rw [List.getElem?_eq_getElem hql] at y0
      have hmem : qs[k] ∈ qs := List.getElem_mem hql
      obtain ⟨m, hlr, hmb⟩ := HL.out _ hmem
      obtain ⟨u, hu⟩ : ∃ u, qs[k] = u := ⟨_, rfl⟩
      rw [hu] at y0 hmem hlr
      obtain ⟨a2, c2, rfl⟩ := hlr.slice
      have HLR := Lib.hid hlr
      have HMEM := Lib.hid hmem
      have hb0 : (0 : Int) ≤ (k : Int) := by omega
      have hb1 : (k : Int) < (n : Int) := by omega
      clear hu hmem hlr
      go_wp2_with fail
      go_loopw [16] (fun i wr => ∃ j : Nat, i = .int .i64 j ∧ j ≤ m ∧ Hid (wr.ownsRow B 41 1 (.slice (some ⟨g, 0, none⟩) n c) n qs) ∧ Hid (LQ wr B2 qs) ∧ Hid (LRow wr B2 9 (.slice a2 m c2) m) ∧ Hid (Fr (SlT (.slice (some ⟨g, 0, none⟩) n c) qs) w wr)) (fun i _ => m - (intOf i).toNat)
      case atStart => exact ⟨0, rfl, by omega, HO.out, HL.out, HLR.out, HF.out⟩
      case round =>
        obtain ⟨j, rfl, hj, HO2, HL2, HR2, HF2⟩ := hrel
        obtain ⟨wq, rfl⟩ : ∃ x, x = wr := ⟨_, rfl⟩
        by_cases hlt2 : j < m
        · have HTB : Hid (∀ x, (Value.slice a2 m c2).ownBlock = some x → TB wq x) := fun x hx => HR2.out.tb hx
          obtain ⟨g2, c3, he2, hcells⟩ := HR2.out.form (by omega)
          cases he2
          obtain ⟨⟨q0, z0⟩, zf0, hgl2⟩ := hcells j hlt2
          have hc0 : (0 : Int) ≤ (j : Int) := by omega
          have hc1 : (j : Int) < (m : Int) := by omega
          have HS := Lib.hid (SizeKept.setCell 9 wq g2 j (.string ⟨#[126]⟩))
          have HO3 : Hid ((wq.setCell ⟨g2, j, none⟩ (.string ⟨#[126]⟩)).ownsRow B 41 1 (.slice (some ⟨g, 0, none⟩) n c) n qs) := owns_fr HO2.out (Fr.setCell wq ⟨g2, j, none⟩ _) (fun x hx e => by
            obtain ⟨_, _, cs, hcs⟩ := own_blk HO2.out hx
            rw [show x = g2 from e] at hcs
            exact not_tb hcs (by decide) (HTB.out g2 rfl))
          have HF3 : Hid (Fr (SlT (.slice (some ⟨g, 0, none⟩) n c) qs) w (wq.setCell ⟨g2, j, none⟩ (.string ⟨#[126]⟩))) := HF2.out.wide (Fr.setCell wq ⟨g2, j, none⟩ _) (fun i hi => .inl (.inr ⟨_, HMEM.out, by rw [show i = g2 from hi]; rfl⟩))
          clear hcells
          go_wp2_with fail
          go_roundw
          case rel => exact ⟨j + 1, by go_num, by omega, HO3.out, HL2.out.kept HS.out, HR2.out.kept HS.out, HF3.out⟩
          case measure => simp [intOf]; omega
        · obtain rfl : j = m := by omega
          go_wp2_with fail
          go_roundw
          case rel => exact ⟨k + 1, by go_num, by omega, HO2.out, HL2.out, HF2.out⟩
          case measure => simp [intOf]; omega
    · obtain rfl : k = n := by omega
      go_wp2_with fail
      go_loopw [26] (fun i wr => ∃ t : Nat, i = .int .i64 t ∧ t ≤ k ∧ Hid (wr.ownsRow B 41 1 (.slice a k c) k qs) ∧ Hid (LQ wr B2 qs) ∧ Hid (Fr (SlT (.slice a k c) qs) w wr)) (fun i _ => k - (intOf i).toNat)
      case atStart => exact ⟨0, rfl, by omega, HO.out, HL.out, HF.out⟩
      case round =>
        obtain ⟨t, rfl, ht, HO1, HL1, HF1⟩ := hrel
        obtain ⟨wp, rfl⟩ : ∃ x, x = wr := ⟨_, rfl⟩
        by_cases hlt : t < k
        · have hO := HO1.out
          obtain ⟨-, ⟨h9, h99⟩ | ⟨g, rc, cur, he, _⟩⟩ := hO
          · omega
          cases he
          have hql : t < qs.length := by rw [HQN.out]; exact hlt
          obtain ⟨y0, yf0, hgl⟩ := own_cell1 HO1.out hlt
          rw [List.getElem?_eq_getElem hql] at y0
          have hmem : qs[t] ∈ qs := List.getElem_mem hql
          obtain ⟨m, hlr, hmb⟩ := HL1.out _ hmem
          obtain ⟨u, hu⟩ : ∃ u, qs[t] = u := ⟨_, rfl⟩
          rw [hu] at y0 hmem hlr
          have HSP := Lib.hid (spoilT_any wp B2 u m hlr hmb (Nat.le_trans hB2 HF1.out.size))
          have HTB : Hid (∀ x, u.ownBlock = some x → TB wp x) := fun x hx => hlr.tb hx
          obtain ⟨a2, c2, rfl⟩ := hlr.slice
          have HMEM := Lib.hid hmem
          have hb0 : (0 : Int) ≤ (t : Int) := by omega
          have hb1 : (t : Int) < (k : Int) := by omega
          clear hu hmem hlr
          go_wp2_with fail
          refine HSP.out.mono ?_
          rintro e w2 ⟨⟨u2, rfl⟩, hf2, hs2⟩
          have HO3 : Hid (w2.ownsRow B 41 1 (.slice (some ⟨g, 0, none⟩) k c) k qs) := owns_fr HO1.out hf2 (fun x hx e => by
            obtain ⟨_, _, cs, hcs⟩ := own_blk HO1.out hx
            exact not_tb hcs (by decide) (HTB.out x e))
          have HL3 := Lib.hid (HL1.out.kept hs2)
          have HF3 : Hid (Fr (SlT (.slice (some ⟨g, 0, none⟩) k c) qs) w w2) := HF1.out.wide hf2 (fun i hi => .inl (.inr ⟨_, HMEM.out, hi⟩))
          clear hf2 hs2 y0
          go_wp2_with fail
          go_roundw
          case rel => exact ⟨t + 1, by go_num, by omega, HO3.out, HL3.out, HF3.out⟩
          case measure => simp [intOf]; omega
        · obtain rfl : t = k := by omega
          go_wp2_with fail
          go_loopw [35] (fun i wr => ∃ (j : Nat) (zs : List Value), i = .int .i64 j ∧ j ≤ t ∧ Hid (wr.ownsRow B 41 1 (.slice a t c) t zs) ∧ Hid (Fr (SlT (.slice a t c) qs) w wr)) (fun i _ => t - (intOf i).toNat)
          case atStart => exact ⟨0, qs, rfl, by omega, HO1.out, HF1.out⟩
          case round =>
            obtain ⟨j, zs, rfl, hj, HOZ, HFZ⟩ := hrel
            obtain ⟨wz, rfl⟩ : ∃ x, x = wr := ⟨_, rfl⟩
            by_cases hlt : j < t
            · have hO := HOZ.out
              obtain ⟨hzl, ⟨h9, h99⟩ | ⟨g, rc, cur, he, _⟩⟩ := hO
              · omega
              cases he
              obtain ⟨y0, yf0, hgl⟩ := own_cell1 HOZ.out hlt
              rw [List.getElem?_eq_getElem (by omega)] at y0
              obtain ⟨z, hz⟩ : ∃ z, zs[j]'(by omega) = z := ⟨_, rfl⟩
              rw [hz] at y0
              have HS1 := Lib.hid (own_put1 HOZ.out hlt (.slice none 0 0))
              have HF3 : Hid (Fr (SlT (.slice (some ⟨g, 0, none⟩) t c) qs) w (wz.setCell ⟨g, j, none⟩ (.slice none 0 0))) := HFZ.out.wide (Fr.setCell wz ⟨g, j, none⟩ _) (fun i hi => .inl (.inl (by rw [show i = g from hi]; rfl)))
              have hc0 : (0 : Int) ≤ (j : Int) := by omega
              have hc1 : (j : Int) < (t : Int) := by omega
              clear hz hzl
              go_wp2_with fail
              go_roundw
              case rel => exact ⟨j + 1, _, by go_num, by omega, HS1.out, HF3.out⟩
              case measure => simp [intOf]; omega
            · obtain rfl : j = t := by omega
              go_wp2_with fail
              go_loopw [0, 42] (fun v2 i wr => ∃ (j2 m : Nat) (xs : List Value), i = .int .i64 j2 ∧ j2 ≤ 20 ∧ m ≤ j + j2 ∧ Hid (wr.ownsRow B 41 1 v2 m xs) ∧ Hid (∀ g, v2.ownBlock = some g → (Value.slice a j c).ownBlock = some g ∨ w.heap.size ≤ g) ∧ Hid (Fr (SlT (.slice a j c) qs) w wr)) (fun _ i _ => 20 - (intOf i).toNat)
              case atStart => exact ⟨0, j, zs, rfl, by omega, Nat.le_refl _, HOZ.out, fun g hg => .inl hg, HFZ.out⟩
              case round =>
                obtain ⟨j2, m, xs, rfl, hj2, hm, HO2, HG2, HF2⟩ := hrel
                obtain ⟨wy, rfl⟩ : ∃ x, x = wr := ⟨_, rfl⟩
                obtain ⟨vv, hvv⟩ : ∃ v, v = u0 := ⟨_, rfl⟩
                subst hvv
                obtain ⟨a2, c2, rfl⟩ := owns_sliceN HO2.out
                have hbq : B ≤ wy.heap.size := Nat.le_trans hB HF2.out.size
                by_cases hlt2 : j2 < 20
                · have g1 : decide ((j2 : Int) < 20) = true := by rw [decide_eq_true_eq]; omega
                  have hlt3 : (j2 : Int) < 20 := by omega
                  go_wp2_with (at_builtin; refine wpl_append3 rfl (.tmp 44) (.tmp 46) 40 rfl B 41 i0 (.slice none 0 0) 1 24 Try.underlying40 HI.out HZ0.out HZ1.out HZ2.out rfl (by decide) _ m xs rfl ((HO2.out.alloc _).alloc _) _ 1 _ rfl (rd_list1 _ _) (by simp [Value.oneCell']) (by unfold maxLen; omega) (by omega) (by simp; omega) ?_; intro v4 w4 hown hgrow hat hsz; have HO4 := Lib.hid hown; have HAT := Lib.hid hat; have HF4 := Lib.hid (HF2.out.wide (T := fun k => (Value.slice a2 m c2).ownBlock = some k) (((Fr.alloc _ wy _).thenAlloc _).wide (Fr.of_grownBy hgrow) (fun i hi => .inl hi)) (fun i hi => (HG2.out i hi).imp .inl id)); clear hown hgrow hat hsz)
                  go_roundw
                  case rel => exact ⟨j2 + 1, m + 1, _, by go_num, by omega, by omega, HO4.out, fun g hg => by
                    rcases HAT.out g hg with h6 | h6
                    · have h7 : (Value.slice a2 m c2).ownBlock = some g := h6
                      exact HG2.out g h7
                    · exact .inr (by have := HF2.out.size; simp at h6; omega), HF4.out⟩
                  case measure => simp [intOf]; omega
                · have hj20 : j2 = 20 := by omega
                  subst hj20
                  go_wp2_with fail
                  go_end0
                  exact ⟨⟨_, rfl⟩, HF2.out⟩
end Go.Proofs.Ytpcjogmikgfgdaa
