/- pantrylaw26's spoilTexts. No condition. -/
import Derived.Test.YtpcjogmikgfgdaaApp3
namespace Go.Proofs.Ytpcjogmikgfgdaa
open Go.RowKit
theorem madeCells_one26 (v : Value) (n : Nat) : madeCells #[v] n = (List.replicate n v).toArray := by
  unfold madeCells
  apply Array.ext
  · simp
  · intro i h1 h2
    simp [Nat.mod_one]
def many70 : Array Value := (List.replicate 70 (.string ⟨#[]⟩)).toArray
theorem mk_70 (w : World) : (Instr.makeSlice 41 (.int .i64 70) (.int .i64 70)).run Try.prog w = .ok (.slice (some ⟨w.heap.size, 0, none⟩) 70 70) (w.alloc (.cells many70 9)) := by
  obtain ⟨i0, hi, hz0, hz1, hz2⟩ := info_parts infoS
  have h := run_make (P := Try.prog) w 41 9 i0 (.string ⟨#[]⟩) Try.underlying41 hi hz0 .i64 .i64 70 70 (by omega) (Int.le_refl _) (by rw [hz2]; decide) (by omega)
  have e : (Value.string ⟨#[]⟩).cells = #[.string ⟨#[]⟩] := rfl
  rw [h, hz1, Nat.mul_one, e, madeCells_one26]
  rfl
/-- what a spoiler turns -/
def SpF (v : Value) (w : World) (e : Ending) (w' : World) : Prop := (∃ u, e = .returned u) ∧ Fr (fun i => v.ownBlock = some i) w w' ∧ SizeKept 9 w w'
theorem rd_one (w : World) (x : ByteArray) : RdC (w.alloc (.cells #[.string x] 9)) 1 (.slice (some ⟨w.heap.size, 0, none⟩) 1 1) 1 [.string x] :=
  RdC.of_owns (World.ownsRow_lit (base := 0) w _ 1 (Nat.zero_le _) (by decide) rfl)
theorem LRow.form {w : World} {B n : Nat} {e : TypeId} {v : Value} (h : LRow w B e v n) (hn : 0 < n) : ∃ g c, v = .slice (some ⟨g, 0, none⟩) n c ∧ ∀ i, i < n → (∃ q, w.cell? ⟨g, i, none⟩ = some q) ∧ w.frozen? ⟨g, i, none⟩ = false ∧ g < w.heap.size := by
  obtain ⟨xs, h1, ⟨rfl, h0⟩ | ⟨g, cap, cur, rfl, hb, hg, hnc, hcm, hcs, htake⟩⟩ := h
  · omega
  · exact ⟨g, cap, rfl, fun i hi => ⟨⟨cur[i]'(by omega), by rw [cell_of_blk hg]; exact Array.getElem?_eq_getElem _⟩, free_of_blk hg _, (Array.getElem?_eq_some_iff.1 hg).1⟩⟩
theorem LRow.slice {w : World} {B n : Nat} {e : TypeId} {v : Value} (h : LRow w B e v n) : ∃ a c, v = .slice a n c := by obtain ⟨xs, h⟩ := h; exact owns_sliceN h
theorem one_any {w : World} {B n : Nat} {e : TypeId} {v : Value} (h : LRow w B e v n) : ∃ xs, w.ownsRow B e 1 v n xs := h
set_option maxRecDepth 100000 in
set_option maxHeartbeats 4000000 in
theorem spoilT_any (w : World) (B : Nat) (v : Value) (n : Nat) (h : LRow w B 9 v n) (hn : n * 16 ≤ 140737488351232) (hB : B ≤ w.heap.size) :
    Calls Try.prog 65 #[v] w (SpF v w) := by
  obtain ⟨i0, hi, hz0, hz1, hz2⟩ := info_parts infoS
  have HI := Lib.hid hi
  have HZ0 := Lib.hid hz0
  have HZ1 := Lib.hid hz1
  have HZ2 := Lib.hid hz2
  have hmk := mk_70
  have H := Lib.hid h
  obtain ⟨a, c, rfl⟩ := h.slice
  clear h hi hz0 hz1 hz2
  go_enter Try.func65, Try.ntmps65
  go_wp2_with fail
  go_loopw [8] (fun i wr => ∃ j : Nat, i = .int .i64 j ∧ j ≤ n ∧ Hid (LRow wr B 9 (.slice a n c) n) ∧ Hid (SizeKept 9 w wr) ∧ Hid (Fr (fun i => (Value.slice a n c).ownBlock = some i) w wr)) (fun i _ => n - (intOf i).toNat)
  case atStart => exact ⟨0, rfl, by omega, H.out, SizeKept.refl _ _, Fr.refl _ _⟩
  case round =>
    obtain ⟨j, rfl, hj, HO, HS, HF⟩ := hrel
    obtain ⟨wo, rfl⟩ : ∃ x, x = wr := ⟨_, rfl⟩
    by_cases hlt : j < n
    · obtain ⟨g, c', he, hcells⟩ := HO.out.form (by omega)
      cases he
      obtain ⟨⟨q0, y0⟩, yf0, hgl⟩ := hcells j hlt
      have hc0 : (0 : Int) ≤ (j : Int) := by omega
      have hc1 : (j : Int) < (n : Int) := by omega
      have HS2 : Hid (SizeKept 9 wo (wo.setCell ⟨g, j, none⟩ (.string ⟨#[126]⟩))) := SizeKept.setCell _ _ _ _ _
      have HF2 : Hid (Fr (fun i => (Value.slice (some ⟨g, 0, none⟩) n c).ownBlock = some i) w (wo.setCell ⟨g, j, none⟩ (.string ⟨#[126]⟩))) := HF.out.wide (Fr.setCell wo ⟨g, j, none⟩ _) (fun i hi => .inl (by rw [show i = g from hi]; rfl))
      clear hcells
      go_wp2_with fail
      go_roundw
      case rel => exact ⟨j + 1, by go_num, by omega, HO.out.kept HS2.out, HS.out.trans HS2.out, HF2.out⟩
      case measure => simp [intOf]; omega
    · obtain rfl : j = n := by omega
      go_wp2_with fail
      go_loopw [3, 16] (fun v2 i wr => ∃ (j2 m : Nat), i = .int .i64 j2 ∧ j2 ≤ 20 ∧ m = j + j2 ∧ Hid (LRow wr B 9 v2 m) ∧ Hid (LRow wr B 9 (.slice a j c) j) ∧ Hid (SizeKept 9 w wr) ∧ Hid (∀ g, v2.ownBlock = some g → (Value.slice a j c).ownBlock = some g ∨ w.heap.size ≤ g) ∧ Hid (Fr (fun i => (Value.slice a j c).ownBlock = some i) w wr)) (fun _ i _ => 20 - (intOf i).toNat)
      case atStart => exact ⟨0, j, rfl, by omega, rfl, HO.out, HO.out, HS.out, fun g hg => .inl hg, HF.out⟩
      case round =>
        obtain ⟨j2, m, rfl, hj2, hm, HO2, HL2, HS2, HG2, HF2⟩ := hrel
        obtain ⟨wq, rfl⟩ : ∃ x, x = wr := ⟨_, rfl⟩
        obtain ⟨vv, hvv⟩ : ∃ v, v = u3 := ⟨_, rfl⟩
        subst hvv
        have hmb : m ≤ j + 20 := by omega
        have HM := Lib.hid hm
        clear hm
        obtain ⟨a2, c2, rfl⟩ := HO2.out.slice
        have hbq : B ≤ wq.heap.size := Nat.le_trans hB HF2.out.size
        by_cases hlt2 : j2 < 20
        · have g1 : decide ((j2 : Int) < 20) = true := by rw [decide_eq_true_eq]; omega
          have hlt3 : (j2 : Int) < 20 := by omega
          obtain ⟨xs, hxs⟩ := HO2.out
          have HXS := Lib.hid hxs
          clear hxs
          go_wp2_with (at_builtin; refine wpl_append3 rfl (.tmp 18) (.tmp 19) 41 rfl B 9 i0 (.string ⟨#[]⟩) 1 16 Try.underlying41 HI.out HZ0.out HZ1.out HZ2.out rfl (by decide) _ m xs rfl (HXS.out.alloc _) _ 1 [.string ⟨#[126]⟩] rfl (rd_one _ _) (by simp [Value.oneCell']) (by unfold maxLen; omega) (by omega) (by simp; omega) ?_; intro v4 w4 hown hgrow hat hsz; have HO4 : Hid (LRow w4 B 9 v4 (m + 1)) := ⟨_, hown⟩; have HS4 := Lib.hid ((SizeKept.alloc 9 wq (.cells #[.string ⟨#[126]⟩] 9)).trans hsz); have HAT := Lib.hid hat; have HF4 := Lib.hid (HF2.out.wide (T := fun k => (Value.slice a2 m c2).ownBlock = some k) ((Fr.alloc _ wq _).wide (Fr.of_grownBy hgrow) (fun i hi => .inl hi)) (fun i hi => HG2.out i hi)); clear hown hgrow hat hsz)
          go_roundw
          case rel => exact ⟨j2 + 1, m + 1, by go_num, by omega, by have := HM.out; omega, HO4.out, HL2.out.kept HS4.out, HS2.out.trans HS4.out, fun g hg => by
            rcases HAT.out g hg with h6 | h6
            · have h7 : (Value.slice a2 m c2).ownBlock = some g := h6
              exact HG2.out g h7
            · exact .inr (by have := HF2.out.size; simp at h6; omega), HF4.out⟩
          case measure => simp [intOf]; omega
        · have hj20 : j2 = 20 := by omega
          subst hj20
          go_wp2_with fail
          have HB5 : Hid (wq.heap.size < (wq.alloc (.cells many70 9)).heap.size) := by show _ < _; simp
          have HM5 : Hid ((wq.alloc (.cells many70 9)).ownsRow wq.heap.size 9 1 (.slice (some ⟨wq.heap.size, 0, none⟩) 70 70) 70 ((List.replicate 70 (⟨#[]⟩ : ByteArray)).map .string)) := by
            rw [List.map_replicate]
            exact World.ownsRow_lit (base := wq.heap.size) wq many70 70 (Nat.le_refl _) (by decide) (by simp [many70])
          have HS5 : Hid (SizeKept 9 wq (wq.alloc (.cells many70 9))) := SizeKept.alloc _ _ _
          have HF5 : Hid (Fr (fun _ => False) wq (wq.alloc (.cells many70 9))) := Fr.alloc _ _ _
          obtain ⟨W5, hW5⟩ : ∃ W, wq.alloc (.cells many70 9) = W := ⟨_, rfl⟩
          rw [hW5] at HM5 HS5 HF5 HB5
          obtain ⟨g5, hg5⟩ : ∃ g, wq.heap.size = g := ⟨_, rfl⟩
          rw [hg5] at HM5 HB5
          have HG5 := Lib.hid hg5
          rw [hW5, hg5]
          clear hW5 hg5 hmk
          go_loopw [25] (fun i wr => ∃ (j3 : Nat) (Z : List ByteArray), i = .int .i64 j3 ∧ j3 ≤ 70 ∧ Hid (Z.length = 70) ∧ Hid (wr.ownsRow g5 9 1 (.slice (some ⟨g5, 0, none⟩) 70 70) 70 (Z.map .string)) ∧ Hid (SizeKept 9 W5 wr) ∧ Hid (Fr (fun i => i = g5) W5 wr)) (fun i _ => 70 - (intOf i).toNat)
          case atStart => exact ⟨0, List.replicate 70 (⟨#[]⟩ : ByteArray), rfl, by omega, by show _ = _; simp, HM5.out, SizeKept.refl _ _, Fr.refl _ _⟩
          case round =>
            obtain ⟨j3, Z, rfl, hj3, HZL, HOZ, HSZ, HFZ⟩ := hrel
            obtain ⟨wz, rfl⟩ : ∃ x, x = wr := ⟨_, rfl⟩
            by_cases hlt5 : j3 < 70
            · have g1 : decide ((j3 : Int) < 70) = true := by rw [decide_eq_true_eq]; omega
              have hc0 : (0 : Int) ≤ (j3 : Int) := by omega
              have hc1 : (j3 : Int) < 70 := by omega
              obtain ⟨y0, yf0, hgl⟩ := own_cell1 HOZ.out hlt5
              rw [List.getElem?_map, List.getElem?_eq_getElem (show j3 < Z.length by rw [HZL.out]; exact hlt5)] at y0
              obtain ⟨zz, hzz⟩ : ∃ z, Z[j3]'(by rw [HZL.out]; exact hlt5) = z := ⟨_, rfl⟩
              rw [hzz] at y0
              dsimp only [Option.map_some] at y0
              have HS1 := Lib.hid (own_put1 HOZ.out hlt5 (.string ⟨#[126]⟩))
              rw [← List.map_set] at HS1
              have HS2 : Hid (SizeKept 9 W5 (wz.setCell ⟨g5, j3, none⟩ (.string ⟨#[126]⟩))) := HSZ.out.trans (SizeKept.setCell _ _ _ _ _)
              have HF2' : Hid (Fr (fun i => i = g5) W5 (wz.setCell ⟨g5, j3, none⟩ (.string ⟨#[126]⟩))) := HFZ.out.wide (Fr.setCell wz ⟨g5, j3, none⟩ _) (fun i hi => .inl hi)
              clear hzz
              go_wp2_with fail
              go_roundw
              case rel => exact ⟨j3 + 1, Z.set j3 ⟨#[126]⟩, by go_num, by omega, by show _ = _; rw [List.length_set]; exact HZL.out, HS1.out, HS2.out, HF2'.out⟩
              case measure => simp [intOf]; omega
            · have hj70 : j3 = 70 := by omega
              subst hj70
              have HSW : Hid (SizeKept 9 w wz) := (HS2.out.trans HS5.out).trans HSZ.out
              have HFW : Hid (Fr (fun i => (Value.slice a j c).ownBlock = some i) w wz) := (HF2.out.wide HF5.out (fun _ h => h.elim)).wide HFZ.out (fun i hi => .inr (by rw [show i = g5 from hi, ← HG5.out]; exact HF2.out.size))
              have HLW : Hid (LRow wz B 9 (.slice a j c) j) := (HL2.out.kept HS5.out).kept HSZ.out
              obtain ⟨xs, hxs⟩ := HLW.out
              have HXS := Lib.hid hxs
              have hbz : B ≤ wz.heap.size := Nat.le_trans hB HFW.out.size
              clear hxs
              go_wp2_with (at_builtin; refine wpl_append3 rfl (.tmp 32) (.tmp 33) 41 rfl B 9 i0 (.string ⟨#[]⟩) 1 16 Try.underlying41 HI.out HZ0.out HZ1.out HZ2.out rfl (by decide) _ j xs rfl HXS.out _ 70 (Z.map .string) rfl (RdC.of_owns HOZ.out) (one_strs Z) (by unfold maxLen; omega) (by omega) hbz ?_; intro v6 w6 hown hgrow hat hsz; obtain ⟨g6, c6, rfl, hcells⟩ := LRow.form (e := 9) (w := w6) (B := B) (n := j + 70) (v := v6) ⟨_, hown⟩ (by omega); obtain ⟨⟨q0, y0⟩, yf0, hgl⟩ := hcells 0 (by omega); have HAT := Lib.hid hat; have HSS := Lib.hid (HSW.out.trans hsz); have HFF := Lib.hid (HFW.out.wide (Fr.of_grownBy hgrow) (fun i hi => .inl hi)); clear hcells hown hgrow hat hsz)
              have hj1 : (0 : Int) < (j : Int) + 70 := by omega
              have HGG : Hid ((Value.slice a j c).ownBlock = some g6 ∨ w.heap.size ≤ g6) := by
                rcases HAT.out g6 rfl with h6 | h6
                · exact .inl h6
                · exact .inr (Nat.le_trans HFW.out.size h6)
              have g7 : decide (0 < j + 70) = true := by rw [decide_eq_true_eq]; omega
              go_wp2_with fail
              go_end0
              exact ⟨⟨_, rfl⟩, HFF.out.wide (Fr.setCell w6 ⟨g6, 0, none⟩ _) (fun i hi => by rw [show i = g6 from hi]; exact HGG.out), HSS.out.trans (SizeKept.setCell _ _ _ _ _)⟩
end Go.Proofs.Ytpcjogmikgfgdaa
