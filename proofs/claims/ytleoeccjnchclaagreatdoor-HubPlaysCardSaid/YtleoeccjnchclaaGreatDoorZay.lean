/- The walk of pantryref03's Match: row by row, which fronts of a name the signs so far mean. No condition but sizes. -/
import Derived.Test.YtleoeccjnchclaaGreatDoorZaw
import Derived.StillTailTactics
import Derived.Laws.MakeOwn
import Derived.BigQuiet
import Derived.BigRegion
import Derived.Deep.QuietTactic
namespace Go.Proofs.YtleoeccjnchclaaGreatDoor
open Go.RowKit
/-- a row of Booleans: those of F below k, else those of G -/
def rowB (m : Nat) (F : Nat → Bool) : Array Value := ((List.range m).map fun q => Value.bool (F q)).toArray
def updN (F G : Nat → Bool) (k : Nat) : Nat → Bool := fun q => if q < k then F q else G q
theorem rowB_at (m : Nat) (F : Nat → Bool) (k : Nat) (h : k < m) : (rowB m F)[k]? = some (.bool (F k)) := by
  unfold rowB
  rw [List.getElem?_toArray, List.getElem?_map, List.getElem?_range h]; rfl
theorem rowB_rep (m : Nat) : rowB m (fun _ => false) = (List.replicate m (Value.bool false)).toArray := by
  unfold rowB
  rw [List.map_const', List.length_range]
theorem rowB_set (m : Nat) (F G : Nat → Bool) (k : Nat) (h : k < m) : (rowB m (updN F G k)).setIfInBounds k (.bool (F k)) = rowB m (updN F G (k + 1)) := by
  apply Array.ext_getElem?
  intro i
  rw [Array.getElem?_setIfInBounds]
  by_cases hi : i < m
  · rw [rowB_at m _ i hi, rowB_at m _ i hi]
    by_cases hk : k = i
    · subst hk
      rw [if_pos rfl, if_pos (by simp [rowB]; exact h)]
      simp [updN]
    · rw [if_neg hk]
      unfold updN
      by_cases h1 : i < k
      · rw [if_pos h1, if_pos (by omega)]
      · rw [if_neg h1, if_neg (by omega)]
  · by_cases hk : k = i
    · omega
    · rw [if_neg hk]
      have e : ∀ F, (rowB m F)[i]? = none := fun F => Array.getElem?_eq_none (by simp [rowB]; omega)
      rw [e, e]
theorem updN_all (m : Nat) (F G : Nat → Bool) (k : Nat) (h : m ≤ k) : rowB m (updN F G k) = rowB m F := by
  unfold rowB
  congr 1
  apply List.map_congr_left
  intro q hq
  have := List.mem_range.1 hq
  unfold updN
  rw [if_pos (by omega)]
def RowAt (w : World) (g m : Nat) (F : Nat → Bool) : Prop := w.heap[g]? = some (.cells (rowB m F) 4 (0, 0))
theorem RowAt.cell {w : World} {g m : Nat} {F : Nat → Bool} (h : RowAt w g m F) (k : Nat) (hk : k < m) : w.cell? ⟨g, k, none⟩ = some (.bool (F k)) := by
  unfold RowAt at h
  unfold World.cell?
  rw [h]
  exact rowB_at m F k hk
theorem RowAt.free {w : World} {g m : Nat} {F : Nat → Bool} (h : RowAt w g m F) (k : Nat) : w.frozen? ⟨g, k, none⟩ = false := by
  unfold RowAt at h
  simp [World.frozen?, h]
theorem RowAt.fr {w w' : World} {g m : Nat} {F : Nat → Bool} (h : RowAt w g m F) {S : Nat → Prop} (hf : Fr S w w') (hd : ¬ S g) : RowAt w' g m F := (hf.block g (Array.getElem?_eq_some_iff.1 h).1 hd).trans h
theorem RowAt.put {w : World} {g m : Nat} {F G : Nat → Bool} {k : Nat} (h : RowAt w g m (updN F G k)) (hk : k < m) (b : Bool) (hb : b = F k) : RowAt (w.setCell ⟨g, k, none⟩ (.bool b)) g m (updN F G (k + 1)) := by
  subst hb
  unfold RowAt at h ⊢
  rw [heap_setCell_same w g k _ _ _ h, rowB_set m F G k hk]
theorem mk_bools (n : Nat) (hn : n ≤ 281474976710656) (w : World) :
    (Instr.makeSlice 80 (.int .i64 n) (.int .i64 n)).run Tryz.prog w = .ok (.slice (some ⟨w.heap.size, 0, none⟩) n n) (w.alloc (.cells (rowB n fun _ => false) 4)) := by
  obtain ⟨i0, hi, hz0, hz1, hz2⟩ := info_parts (show (Tryz.prog.info? 4).map (fun i => (i.zero, i.size, i.bytes)) = some (some (.bool false), 1, 1) from by kernel_rfl)
  have h := run_make (P := Tryz.prog) w 80 4 i0 (.bool false) Tryz.underlying80 hi hz0 .i64 .i64 n n (by omega) (Int.le_refl _) (by rw [hz2]; omega) (by omega)
  rw [h, hz1, Nat.mul_one, Int.toNat_natCast, rowB_rep]
  clear h hn hi hz0 hz1 hz2
  congr 4
  unfold madeCells
  apply Array.ext
  · simp
  · intro i h1 h2
    simp [Value.cells, Nat.mod_one]
theorem rowB_congr (m : Nat) (F G : Nat → Bool) (h : ∀ q, q < m → F q = G q) : rowB m F = rowB m G := by
  unfold rowB
  congr 1
  apply List.map_congr_left
  intro q hq
  rw [h q (List.mem_range.1 hq)]
theorem RowAt.congr {w : World} {g m : Nat} {F G : Nat → Bool} (h : RowAt w g m F) (he : ∀ q, q < m → F q = G q) : RowAt w g m G := by
  unfold RowAt at h ⊢
  rw [h, rowB_congr m F G he]
theorem RowAt.new (w : World) (m : Nat) (F : Nat → Bool) : RowAt (w.alloc (.cells (rowB m F) 4)) w.heap.size m F := heap_alloc_new w _
theorem flat_at {α : Type} (f : α → List Value) (n : Nat) (hf : ∀ x, (f x).length = n) (l : List α) (k j : Nat) (hk : k < l.length) (hj : j < n) : (l.flatMap f)[k * n + j]? = (f l[k])[j]? := by
  induction l generalizing k with
  | nil => simp at hk
  | cons x l ih =>
    rw [List.flatMap_cons]
    cases k with
    | zero =>
      rw [Nat.zero_mul, Nat.zero_add, List.getElem?_append_left (by rw [hf]; exact hj)]
      rfl
    | succ k =>
      have := ih k (by simpa using hk)
      rw [List.getElem?_append_right (by rw [hf, Nat.succ_mul]; omega), hf, show (k + 1) * n + j - n = k * n + j by rw [Nat.succ_mul]; omega]
      exact this
theorem sign_at {w : World} {a : Option Addr} {cap : Nat} {R : List RS} (h : RdC w 259 (.slice a R.length cap) R.length (R.flatMap rsC)) (i : Nat) (hi : i < R.length) :
    ∃ g off, a = some ⟨g, off, none⟩ ∧ w.cell? ⟨g, off + i * 259, none⟩ = some (.bool R[i].st) ∧ ∀ b : UInt8, w.cell? ⟨g, off + i * 259 + 1 + b.toNat, none⟩ = some (.bool (R[i].T b)) := by
  have hpos : 0 < (R.flatMap rsC).length := by
    have h1 := flat_at rsC 259 rsC_len R i 0 hi (by decide)
    rw [show (rsC R[i])[0]? = some (.bool R[i].st) from rfl] at h1
    have := (List.getElem?_eq_some_iff.1 h1).1
    omega
  obtain ⟨g, off, rfl, hc⟩ := h.at hpos
  refine ⟨g, off, rfl, ?_, fun b => ?_⟩
  · have h1 := flat_at rsC 259 rsC_len R i 0 hi (by decide)
    rw [show (rsC R[i])[0]? = some (.bool R[i].st) from rfl] at h1
    have := hc _ _ h1
    rwa [show off + (i * 259 + 0) = off + i * 259 by omega] at this
  · have hb : b.toNat < 256 := b.toNat_lt
    have h2 := flat_at rsC 259 rsC_len R i (1 + b.toNat) hi (by omega)
    rw [show (rsC R[i])[1 + b.toNat]? = some (.bool (R[i].T (UInt8.ofNat b.toNat))) from signC_at _ _ _ _ _ hb] at h2
    rw [show UInt8.ofNat b.toNat = b from UInt8.toNat_inj.1 (ofNat_toNat _ hb)] at h2
    have := hc _ _ h2
    rwa [show off + (i * 259 + (1 + b.toNat)) = off + i * 259 + 1 + b.toNat by omega] at this
/-- which fronts of a name a row of signs means -/
def frn (L : List Sg) (s : Bytes) (k : Nat) : Bool := means L (s.take k)
theorem frn_nil (s : Bytes) (k : Nat) (hk : k ≤ s.length) : frn [] s k = decide (k = 0) := fr_nil s k hk
set_option maxRecDepth 100000 in
set_option maxHeartbeats 4000000 in
theorem match_ref (p s : ByteArray) (w : World) (hp : p.size ≤ 274877906944) (hs : s.size ≤ 140737488361472) : Calls Tryz.prog 33 #[.string p, .string s] w fun e w' => e = .returned (.bool (means (signs (bl p)) (bl s))) ∧ Below w.heap.size w w' := by
  obtain ⟨m, hm⟩ : ∃ m, s.size + 1 = m := ⟨_, rfl⟩
  have hmi : (s.size : Int) + 1 = (m : Int) := by omega
  have hmk := mk_bools m (by omega)
  go_enter Tryz.func33, Tryz.ntmps33
  go_wp2_with fail
  refine (signs_ref p _ hp).mono ?_
  rintro e w1 ⟨v, rfl, hr, hb1⟩
  have HB1 := Lib.hid hb1
  have HR := Lib.hid (RdC.of_owns hr)
  obtain ⟨va, vc, rfl⟩ := owns_slice hr
  have hvl := HR.out.len
  unfold maxLen at hvl
  clear hr hb1
  obtain ⟨R, hR⟩ : ∃ R, rs (bl p) = R := ⟨_, rfl⟩
  have hsg : R.map toSg = signs (bl p) := by rw [← hR]; exact rs_signs _ _ (Nat.le_refl _)
  rw [hR] at HR hvl
  rw [hR]
  have HSG := Lib.hid hsg
  clear hsg hR
  go_upto_region 3 with (fail)
  have hrow0 := RowAt.new w1 m (fun _ => false)
  have hb0 : Below w1.heap.size w1 (w1.alloc (.cells (rowB m fun _ => false) 4)) := (Below.refl _ _).alloc (Nat.le_refl _) _
  obtain ⟨g, hg⟩ : ∃ g, w1.heap.size = g := ⟨_, rfl⟩
  rw [hg] at hrow0 hb0
  have HGE := Lib.hid hg
  obtain ⟨w2, hw2⟩ : ∃ w2, w1.alloc (.cells (rowB m fun _ => false) 4) = w2 := ⟨_, rfl⟩
  rw [hw2] at hrow0 hb0
  have hmp : 0 < m := by omega
  have c0 := hrow0.cell 0 hmp
  have z0 := hrow0.free 0
  have hput := (show RowAt w2 g m (updN (fun q => decide (q = 0)) (fun _ => false) 0) from hrow0).put hmp true rfl
  have hrow1 : RowAt (w2.setCell ⟨g, 0, none⟩ (.bool true)) g m (frn [] (bl s)) := hput.congr (fun q hq => by
    rw [frn_nil _ _ (by rw [bl_len]; omega)]
    unfold updN
    by_cases h : q = 0
    · subst h; rfl
    · rw [if_neg (by omega)]; simp [h])
  have hb1 : Below g w1 (w2.setCell ⟨g, 0, none⟩ (.bool true)) := hb0.setCell (p := ⟨g, 0, none⟩) (Nat.le_refl _) _
  have HROW := Lib.hid hrow1
  have HBB := Lib.hid hb1
  rw [hw2]
  clear hw2 hrow0 hb0 hput hrow1 hb1
  rw [hg]
  clear hg
  go_wp2
  go_loopw [6, 7] (fun can i wr => ∃ (k gc : Nat), can = .slice (some ⟨gc, 0, none⟩) m m ∧ i = .int .i64 k ∧ k ≤ R.length ∧ g ≤ gc ∧ Hid (RowAt wr gc m (frn ((R.map toSg).take k) (bl s))) ∧ Hid (Below g w1 wr)) (fun _ i _ => R.length - (intOf i).toNat)
  case atStart => exact ⟨0, g, rfl, rfl, by omega, Nat.le_refl _, HROW, HBB⟩
  case round =>
    obtain ⟨i, gc, rfl, rfl, hi, hgc, HRW, HB⟩ := hrel
    clear HROW HBB c0 z0
    by_cases hlt : i < R.length
    case neg =>
      obtain rfl : i = R.length := by omega
      have c9 := HRW.out.cell s.size (by omega)
      rw [show (R.map toSg).take R.length = signs (bl p) by rw [← HSG.out, List.take_of_length_le (by simp)]] at c9
      have e9 : frn (signs (bl p)) (bl s) s.size = means (signs (bl p)) (bl s) := by unfold frn; rw [List.take_of_length_le (by rw [bl_len]; exact Nat.le_refl _)]
      rw [e9] at c9
      have hsm : (s.size : Int) < m := by omega
      have HBF := Lib.hid (HB1.out.trans (by have h := HB.out; rw [← HGE.out] at h; exact h.mono HB1.out.size))
      clear e9
      go_wp2
      go_ret
      exact ⟨rfl, HBF.out⟩
    case pos =>
      have hF' : (R.map toSg).take (i + 1) = (R.map toSg).take i ++ [toSg R[i]] := by
        rw [List.take_succ_eq_append_getElem (by simpa using hlt)]; simp
      obtain ⟨F, hF⟩ : ∃ F, frn ((R.map toSg).take i) (bl s) = F := ⟨_, rfl⟩
      obtain ⟨F', hFF⟩ : ∃ F', frn ((R.map toSg).take (i + 1)) (bl s) = F' := ⟨_, rfl⟩
      rw [hF] at HRW
      obtain ⟨gs, off, rfl, d0, d1⟩ := sign_at (HR.out.below (by have h := HB.out; rw [← HGE.out] at h; exact h)) i hlt
      have hgs : gs < g := by have := World.block_lt_of_cell? w1 _ ((HB.out.cell (p := ⟨gs, off + i * 259, none⟩) (by
        have h1 := HR.out
        obtain ⟨gs', off', e, e0, _⟩ := sign_at h1 i hlt
        cases e
        have := World.block_lt_of_cell? w1 _ e0
        rw [HGE.out] at this; exact this)).symm.trans d0); rw [HGE.out] at this; exact this
      obtain ⟨st, hst⟩ : ∃ st, R[i].st = st := ⟨_, rfl⟩
      obtain ⟨T, hT⟩ : ∃ T, R[i].T = T := ⟨_, rfl⟩
      rw [hst] at d0
      rw [hT] at d1
      have hstar : st = true → (F' 0 = F 0 ∧ ∀ k, k + 1 ≤ s.size → F' (k + 1) = (F (k + 1) || F' k)) := fun h => by
        rw [← hFF, ← hF, hF']
        unfold toSg
        rw [if_pos (hst.trans h)]
        exact ⟨fr_star0 _ _, fun k hk => fr_star _ _ k (by rw [bl_len]; exact hk)⟩
      have hset : st = false → (F' 0 = false ∧ ∀ k (hk : k < s.size), F' (k + 1) = (F k && T s[k])) := fun h => by
        rw [← hFF, ← hF, hF']
        unfold toSg
        rw [if_neg (by rw [hst, h]; decide), hT]
        exact ⟨fr_set0 _ _ _, fun k hk => by
          have := fr_set ((R.map toSg).take i) T (bl s) k (by rw [bl_len]; exact hk)
          exact this⟩
      have HSTAR := Lib.hid hstar
      have HSET := Lib.hid hset
      have HFF := Lib.hid hFF
      have HD1 := Lib.hid d1
      clear hstar hset hFF hF hst hT d1 hF'
      go_upto_region 8 with (fail)
      have hrn := RowAt.new wr m (fun _ => false)
      have hbn : Below wr.heap.size wr (wr.alloc (.cells (rowB m fun _ => false) 4)) := (Below.refl _ _).alloc (Nat.le_refl _) _
      obtain ⟨gn, hgn⟩ : ∃ gn, wr.heap.size = gn := ⟨_, rfl⟩
      have hgcn : gc < gn := by have := (Array.getElem?_eq_some_iff.1 HRW.out).1; omega
      have hggn : g ≤ gn := by omega
      rw [hgn] at hrn hbn
      have HRN := Lib.hid hrn
      have HBN := Lib.hid hbn
      clear hrn hbn
      obtain ⟨wn, hwn⟩ : ∃ wn, wr.alloc (.cells (rowB m fun _ => false) 4) = wn := ⟨_, rfl⟩
      rw [hwn] at HRN HBN ⊢
      rw [hgn]
      have HGN := Lib.hid hgn
      clear hwn hgn hmk
      go_wp2_with fail
      go_loopg [9] m (fun gh x wx => ∃ (k : Nat), Hid (k + gh = m) ∧ x = .int .i64 k ∧ Hid (RowAt wx gn m (updN F' (fun _ => false) k)) ∧ Hid (Below gn wr wx))
      case atStart => exact ⟨0, by show _ = _; omega, rfl, HRN, HBN⟩
      case round =>
        obtain ⟨wi, rfl⟩ : ∃ wi, wi = wr := ⟨_, rfl⟩
        obtain ⟨k, HK, rfl, HX, HBX⟩ := hrel
        by_cases hk : k < m
        case neg =>
          obtain rfl : k = m := by have := HK.out; omega
          have g1 : (s.size : Int) < k := by omega
          have HX2 : Hid (RowAt wi gn k (frn ((R.map toSg).take (i + 1)) (bl s))) := by
            have := HX.out
            unfold RowAt at this
            rw [updN_all k F' _ k (Nat.le_refl _)] at this
            rw [HFF.out]
            exact this
          have HB2 : Hid (Below g w1 wi) := HB.out.trans (HBX.out.mono hggn)
          go_wp2
          go_roundw
          case rel => exact ⟨i + 1, gn, rfl, by go_num, by omega, hggn, HX2, HB2⟩
          case measure => simp [intOf]; omega
        case pos =>
          have g1 : (k : Int) ≤ s.size := by omega
          have d0' : wi.cell? ⟨gs, off + i * 259, none⟩ = some (.bool st) := (HBX.out.cell (p := ⟨gs, off + i * 259, none⟩) (by show gs < gn; omega)).trans d0
          have HCF : Hid (∀ q, q < m → wi.cell? ⟨gc, q, none⟩ = some (.bool (F q))) := fun q hq => (HRW.out.fr (Fr.of_below HBX.out) (by omega)).cell q hq
          have HCN : Hid (∀ q, q < k → wi.cell? ⟨gn, q, none⟩ = some (.bool (F' q))) := fun q hq => by
            have := HX.out.cell q (by omega)
            rw [this]; unfold updN; rw [if_pos hq]
          have ck : wi.cell? ⟨gn, k, none⟩ = some (.bool false) := by
            have := HX.out.cell k hk
            rw [this]; unfold updN; rw [if_neg (by omega)]
          have fk := HX.out.free k
          cases st with
          | true =>
            obtain ⟨e0, e1⟩ := HSTAR.out rfl
            cases k with
            | zero =>
              have c1 := HCF.out 0 hk
              obtain ⟨fb, hfb⟩ : ∃ fb, F 0 = fb := ⟨_, rfl⟩
              rw [hfb] at c1
              have HP1 : Hid (RowAt (wi.setCell ⟨gn, 0, none⟩ (.bool fb)) gn m (updN F' (fun _ => false) (0 + 1))) := HX.out.put hk _ (by rw [e0, hfb])
              have HP2 : Hid (Below gn wr (wi.setCell ⟨gn, 0, none⟩ (.bool fb))) := HBX.out.setCell (p := ⟨gn, 0, none⟩) (Nat.le_refl _) _
              clear e0 e1 hfb
              cases fb with
              | true =>
                go_wp2
                go_roundg (m - (0 + 1))
                case measure => have := HK.out; omega
                case rel => exact ⟨0 + 1, by show _ = _; omega, by go_num, HP1, HP2⟩
              | false =>
                go_wp2
                go_roundg (m - (0 + 1))
                case measure => have := HK.out; omega
                case rel => exact ⟨0 + 1, by show _ = _; omega, by go_num, HP1, HP2⟩
            | succ k =>
              have e1 := e1 k (by omega)
              have c1 := HCF.out (k + 1) hk
              have c2 := HCN.out k (by omega)
              obtain ⟨fb, hfb⟩ : ∃ fb, F (k + 1) = fb := ⟨_, rfl⟩
              obtain ⟨fc, hfc⟩ : ∃ fc, F' k = fc := ⟨_, rfl⟩
              rw [hfb] at c1
              rw [hfc] at c2
              have HP1 : Hid (RowAt (wi.setCell ⟨gn, k + 1, none⟩ (.bool (fb || fc))) gn m (updN F' (fun _ => false) (k + 1 + 1))) := HX.out.put hk _ (by rw [e1, hfb, hfc])
              have HP2 : Hid (Below gn wr (wi.setCell ⟨gn, k + 1, none⟩ (.bool (fb || fc)))) := HBX.out.setCell (p := ⟨gn, k + 1, none⟩) (Nat.le_refl _) _
              clear e0 e1 hfb hfc
              cases fb with
              | true =>
                go_wp2
                go_roundg (m - (k + 1 + 1))
                case measure => have := HK.out; omega
                case rel => exact ⟨k + 1 + 1, by show _ = _; omega, by go_num, HP1, HP2⟩
              | false =>
                go_wp2
                go_roundg (m - (k + 1 + 1))
                case measure => have := HK.out; omega
                case rel => exact ⟨k + 1 + 1, by show _ = _; omega, by go_num, HP1, HP2⟩
          | false =>
            obtain ⟨e0, e1⟩ := HSET.out rfl
            cases k with
            | zero =>
              have HP1 : Hid (RowAt (wi.setCell ⟨gn, 0, none⟩ (.bool false)) gn m (updN F' (fun _ => false) (0 + 1))) := HX.out.put hk _ (by rw [e0])
              have HP2 : Hid (Below gn wr (wi.setCell ⟨gn, 0, none⟩ (.bool false))) := HBX.out.setCell (p := ⟨gn, 0, none⟩) (Nat.le_refl _) _
              clear e0 e1
              go_upto_region 13 with (fail)
              go_region
              all_goals
                go_wp2
                go_roundg (m - (0 + 1))
                case measure => have := HK.out; omega
                case rel => exact ⟨0 + 1, by show _ = _; omega, by go_num, HP1, by show Below _ _ _; exact ⟨HP2.out.os, HP2.out.tape, HP2.out.output, HP2.out.size, HP2.out.block⟩⟩
            | succ k =>
              have hks : k < s.size := by omega
              have e1 := e1 k hks
              have c1 := HCF.out k (by omega)
              have d2 : wi.cell? ⟨gs, off + i * 259 + 1 + s[k].toNat, none⟩ = some (.bool (T s[k])) := (HBX.out.cell (p := ⟨gs, off + i * 259 + 1 + s[k].toNat, none⟩) (by show gs < gn; omega)).trans (HD1.out s[k])
              obtain ⟨fb, hfb⟩ : ∃ fb, F k = fb := ⟨_, rfl⟩
              obtain ⟨fc, hfc⟩ : ∃ fc, T s[k] = fc := ⟨_, rfl⟩
              rw [hfb] at c1
              rw [hfc] at d2
              have HP1 : Hid (RowAt (wi.setCell ⟨gn, k + 1, none⟩ (.bool (fb && fc))) gn m (updN F' (fun _ => false) (k + 1 + 1))) := HX.out.put hk _ (by rw [e1, hfb, hfc])
              have HP2 : Hid (Below gn wr (wi.setCell ⟨gn, k + 1, none⟩ (.bool (fb && fc)))) := HBX.out.setCell (p := ⟨gn, k + 1, none⟩) (Nat.le_refl _) _
              have hx8 : s[k].toNat < 256 := s[k].toNat_lt
              clear e0 e1 hfb hfc
              cases fb with
              | true =>
                go_upto_region 13 with (fail)
                go_region
                all_goals
                  go_wp2
                  go_roundg (m - (k + 1 + 1))
                  case measure => have := HK.out; omega
                  case rel => exact ⟨k + 1 + 1, by show _ = _; omega, by go_num, HP1, by show Below _ _ _; exact ⟨HP2.out.os, HP2.out.tape, HP2.out.output, HP2.out.size, HP2.out.block⟩⟩
              | false =>
                go_upto_region 13 with (fail)
                go_region
                all_goals
                  go_wp2
                  go_roundg (m - (k + 1 + 1))
                  case measure => have := HK.out; omega
                  case rel => exact ⟨k + 1 + 1, by show _ = _; omega, by go_num, HP1, by show Below _ _ _; exact ⟨HP2.out.os, HP2.out.tape, HP2.out.output, HP2.out.size, HP2.out.block⟩⟩
end Go.Proofs.YtleoeccjnchclaaGreatDoor
