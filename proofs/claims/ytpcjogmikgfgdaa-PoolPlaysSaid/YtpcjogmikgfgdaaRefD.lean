/- The reference's Candidates: its list, sorted. No condition. -/
import Derived.Test.YtpcjogmikgfgdaaRefC
import Derived.Laws.MakeOwn
namespace Go.Proofs.Ytpcjogmikgfgdaa
open Go.RowKit Go.Sort
theorem made_C (n : Nat) : madeCells (Value.agg #[.string ⟨#[]⟩, .int .u64 0]).cells (n * 2) = (clC (List.replicate n ⟨⟨#[]⟩, 0⟩)).toArray := by
  refine Array.ext_getElem? (fun j => ?_)
  rw [show ((clC (List.replicate n ⟨⟨#[]⟩, 0⟩)).toArray)[j]? = (clC (List.replicate n ⟨⟨#[]⟩, 0⟩))[j]? from List.getElem?_toArray]
  by_cases hj : j < n * 2
  · have h1 := flat_at encC 2 (fun _ => rfl) (List.replicate n (⟨⟨#[]⟩, 0⟩ : Cd)) (j / 2) (j % 2) (by rw [List.length_replicate]; omega) (Nat.mod_lt _ (by decide))
    rw [show j / 2 * 2 + j % 2 = j by omega, List.getElem_replicate] at h1
    rw [show (clC (List.replicate n ⟨⟨#[]⟩, 0⟩))[j]? = _ from h1]
    unfold madeCells
    rw [Array.getElem?_map, Array.getElem?_range, if_pos hj]
    rcases (show j % 2 = 0 ∨ j % 2 = 1 by omega) with h | h <;> simp [Value.cells, h, encC]
  · rw [Array.getElem?_eq_none (by rw [size_madeCells]; omega), List.getElem?_eq_none (by rw [clC_len, List.length_replicate]; omega)]
theorem mk_C (n : Nat) (hn : n ≤ 17) (w : World) : (Instr.makeSlice 67 (.int .i64 n) (.int .i64 n)).run Try.prog w = .ok (.slice (some ⟨w.heap.size, 0, none⟩) n n) (w.alloc (.cells (clC (List.replicate n ⟨⟨#[]⟩, 0⟩)).toArray 73)) := by
  obtain ⟨i0, hi, hz0, hz1, hz2⟩ := info_parts infoC
  have h := run_make (P := Try.prog) w 67 73 i0 (.agg #[.string ⟨#[]⟩, .int .u64 0]) Try.underlying67 hi hz0 .i64 .i64 n n (by omega) (Int.le_refl _) (by rw [hz2]; omega) (by omega)
  rw [h, hz1, Int.toNat_natCast, made_C]
set_option maxRecDepth 100000 in
set_option maxHeartbeats 4000000 in
theorem candR_any (w : World) (B p cap : Nat) (vr : Value) (A : List Cd) (h : RefAt w B p cap vr A) (hn : A.Nodup) :
    Calls Try.prog 87 #[.pointer (some ⟨p, 0, none⟩)] w (CPostC w (sortC A)) := by
  have H := Lib.hid h
  have HN := Lib.hid hn
  have hpw := h.lt
  have hll := h.len
  have c1 : w.cell? ⟨p, 1, none⟩ = some vr := h.cell 1
  obtain ⟨a1, rc, rfl⟩ := owns_sliceN h.row
  have hmk := mk_C A.length hll
  have hcz := World.ownsRow_lit (base := w.heap.size) (e := 73) (size := 2) w (clC (List.replicate A.length ⟨⟨#[]⟩, 0⟩)).toArray A.length (Nat.le_refl _) (by unfold maxLen; omega) (by simp [clC_len])
  have HOW : Hid ((w.alloc (.cells (clC (List.replicate A.length ⟨⟨#[]⟩, 0⟩)).toArray 73)).ownsRow w.heap.size 73 2 (.slice (some ⟨w.heap.size, 0, none⟩) A.length A.length) A.length (clC (List.replicate A.length ⟨⟨#[]⟩, 0⟩))) := hcz
  have HFL : Hid (Fil A (List.replicate A.length ⟨⟨#[]⟩, 0⟩) 0) := ⟨by simp, fun j hj h => by omega⟩
  have HBL : Hid (Below w.heap.size w (w.alloc (.cells (clC (List.replicate A.length ⟨⟨#[]⟩, 0⟩)).toArray 73))) := (Below.refl _ _).alloc (Nat.le_refl _) _
  obtain ⟨Z, hZ⟩ : ∃ Z, List.replicate A.length (⟨⟨#[]⟩, 0⟩ : Cd) = Z := ⟨_, rfl⟩
  rw [hZ] at hmk HOW HFL HBL
  clear h hcz hZ hn
  go_enter Try.func87, Try.ntmps87
  go_wp2_with fail
  obtain ⟨W1, hW1⟩ : ∃ W, w.alloc (.cells (clC Z).toArray 73) = W := ⟨_, rfl⟩
  rw [hW1] at HOW HBL ⊢
  clear hW1 hmk
  obtain ⟨g0, hg0⟩ : ∃ g, w.heap.size = g := ⟨_, rfl⟩
  have HG0 := Lib.hid hg0
  rw [hg0] at hpw HOW HBL ⊢
  clear hg0
  go_loopw [22] (fun i wr => ∃ (k : Nat) (O : List Cd), i = .int .i64 k ∧ k ≤ A.length ∧ Hid (Fil A O k) ∧ Hid (wr.ownsRow g0 73 2 (.slice (some ⟨g0, 0, none⟩) A.length A.length) A.length (clC O)) ∧ Hid (Below g0 w wr)) (fun i _ => A.length - (intOf i).toNat)
  case atStart => exact ⟨0, Z, rfl, by omega, HFL.out, HOW.out, HBL.out⟩
  case round =>
    obtain ⟨k, O, rfl, hk, HF, HO, HB⟩ := hrel
    obtain ⟨wo, rfl⟩ : ∃ x, x = wr := ⟨_, rfl⟩
    clear HFL HOW HBL
    have HLR := fun (W : World) (hb : Below g0 w W) => H.out.later (by rw [HG0.out]; exact hb)
    by_cases hlt : k < A.length
    · have h1 := HLR wo HB.out
      have c1o : wo.cell? ⟨p, 1, none⟩ = some (.slice a1 A.length rc) := h1.cell 1
      obtain ⟨g, off, rfl, d0, d1⟩ := cd_at (RdC.of_owns h1.row) k hlt
      obtain ⟨x, hx⟩ : ∃ x, A[k] = x := ⟨_, rfl⟩
      rw [hx] at d0 d1
      have HX := Lib.hid hx
      have hb0 : (0 : Int) ≤ (k : Int) := by omega
      have hb1 : (k : Int) < (A.length : Int) := by omega
      have hpo : p < wo.heap.size := h1.lt
      clear hx h1 c1
      go_wp2_with fail
      obtain ⟨W2, hW2⟩ : ∃ W, wo.alloc (.cells #[.string x.key, .int .u64 x.rank] 73) = W := ⟨_, rfl⟩
      have hbx : W2.heap[wo.heap.size]? = some (.cells #[.string x.key, .int .u64 x.rank] 73 (0, 0)) := by rw [← hW2]; exact alloc_at _ _
      have HBX := Lib.hid hbx
      have HF2 : Hid (Fr (fun _ => False) wo W2) := by rw [← hW2]; exact Fr.alloc _ _ _
      rw [hW2]
      clear hW2 hbx d0 d1 c1o
      have HB2 : Hid (Below g0 w W2) := HB.out.trans (HF2.out.below (by have h := HB.out.size; have := HG0.out; omega) (fun _ h => h.elim))
      have hsz2 : wo.heap.size < W2.heap.size := (Array.getElem?_eq_some_iff.1 HBX.out).1
      go_loopw [6, 31] (fun cnt j wr => ∃ m : Nat, j = .int .i64 m ∧ m ≤ A.length ∧ cnt = .int .i64 (cntC x (A.take m)) ∧ Hid (Fr (fun _ => False) W2 wr)) (fun _ j _ => A.length - (intOf j).toNat)
      case atStart => exact ⟨0, rfl, by omega, rfl, Fr.refl _ _⟩
      case round =>
        obtain ⟨m, rfl, hm, rfl, HG⟩ := hrel
        obtain ⟨wq, rfl⟩ : ∃ x, x = wr := ⟨_, rfl⟩
        have HBq : Hid (Below g0 w wq) := HB2.out.trans (HG.out.below (by have h := HB2.out.size; have := HG0.out; omega) (fun _ h => h.elim))
        have hbq := (HG.out.block _ (Array.getElem?_eq_some_iff.1 HBX.out).1 (fun h => h)).trans HBX.out
        have x0 : wq.cell? ⟨wo.heap.size, 0, none⟩ = some (.string x.key) := cell_of_blk hbq 0
        have x1 : wq.cell? ⟨wo.heap.size, 1, none⟩ = some (.int .u64 x.rank) := cell_of_blk hbq 1
        have hxl : wo.heap.size < wq.heap.size := (Array.getElem?_eq_some_iff.1 hbq).1
        have hcl := cntC_le x A m
        clear hbq
        by_cases hlt2 : m < A.length
        · have h2 := HLR wq HBq.out
          obtain ⟨g2, o2, he2, f0, f1⟩ := cd_at (RdC.of_owns h2.row) m hlt2
          cases he2
          have hc1 := cntC_take x A m hlt2
          obtain ⟨y, hy⟩ : ∃ y, A[m] = y := ⟨_, rfl⟩
          rw [hy] at f0 f1 hc1
          obtain ⟨cn, hcn⟩ : ∃ cn, cntC x (A.take m) = cn := ⟨_, rfl⟩
          rw [hcn] at hc1 hcl ⊢
          have HC1 := Lib.hid hc1
          have hm0 : (0 : Int) ≤ (m : Int) := by omega
          have hm1 : (m : Int) < (A.length : Int) := by omega
          clear hy hc1 hcn h2
          go_wp2_with fail
          refine (soonerR_any y x _).mono ?_
          rintro e w8 ⟨rfl, hf8⟩
          have HG8 : Hid (Fr (fun _ => False) W2 w8) := (HG.out.thenAlloc _).wide hf8 (fun _ h => h.elim)
          obtain ⟨bs, hbs⟩ : ∃ b, decide (ltC y x) = b := ⟨_, rfl⟩
          have HC2 : Hid (cntC x (A.take (m + 1)) = cn + (if bs then 1 else 0)) := by show _ = _; rw [HC1.out, ← hbs]; simp
          rw [hbs]
          clear hf8 hbs x0 x1 f0 f1
          cases bs
          all_goals
            go_wp2
            go_roundw
            case rel => exact ⟨m + 1, by go_num, by omega, by rw [HC2.out]; go_num, HG8.out⟩
            case measure => simp [intOf]; omega
        · obtain rfl : m = A.length := by omega
          rw [List.take_length] at hcl ⊢
          have hcA : cntC x A < A.length := by rw [← HX.out]; exact cnt_lt HN.out (List.getElem_mem hlt)
          have HOq : Hid (wq.ownsRow g0 73 2 (.slice (some ⟨g0, 0, none⟩) A.length A.length) A.length (clC O)) := owns_fr HO.out (HF2.out.wide HG.out (fun _ h => h.elim)) (fun _ _ h => h)
          have HFN : Hid (Fil A (O.set (cntC x A) x) (k + 1)) := by have h := HF.out.step HN.out hlt; rw [HX.out] at h; exact h
          obtain ⟨cn, hcn⟩ : ∃ cn, cntC x A = cn := ⟨_, rfl⟩
          rw [hcn] at hcA HFN ⊢
          obtain ⟨⟨q0, y0⟩, yf0, hg0q⟩ := row_cell HOq.out (show cn * 2 < A.length * 2 by omega)
          obtain ⟨⟨q1, y1⟩, yf1, _⟩ := row_cell HOq.out (show cn * 2 + 1 < A.length * 2 by omega)
          have HS1 := Lib.hid (own_putK HOq.out (show cn * 2 < A.length * 2 by omega) (.string x.key))
          have HS2 := Lib.hid (own_putK HS1.out (show cn * 2 + 1 < A.length * 2 by omega) (.int .u64 x.rank))
          have hc0 : (0 : Int) ≤ (cn : Int) := by omega
          have hc1 : (cn : Int) < (A.length : Int) := by omega
          have hgne : g0 ≠ wo.heap.size := by have h5 : g0 < wo.heap.size := (own_blk HO.out (g := g0) rfl).2.1; omega
          have HBN : Hid (Below g0 w ((wq.setCell ⟨g0, cn * 2, none⟩ (.string x.key)).setCell ⟨g0, cn * 2 + 1, none⟩ (.int .u64 x.rank))) := (HBq.out.setCell (Nat.le_refl _) _).setCell (Nat.le_refl _) _
          clear hcn hcl
          go_wp2_with fail
          go_roundw
          case rel => exact ⟨k + 1, O.set cn x, by go_num, by omega, HFN.out, by rw [← clC_set]; exact HS2.out, HBN.out⟩
          case measure => simp [intOf]; omega
    · obtain rfl : k = A.length := by omega
      have HD : Hid (O = sortC A) := HF.out.done HN.out
      go_wp2_with fail
      go_ret
      refine ⟨_, rfl, ?_, by rw [HG0.out]; exact HB.out⟩
      rw [← HD.out, HF.out.len, HG0.out]
      exact HO.out
end Go.Proofs.Ytpcjogmikgfgdaa
