/- hub's rising at map[string]struct {}: the keys, rising; hub's rising at map[int]struct {}: the keys, rising; hub's rising at map[int]hub.names: the keys, rising. No condition but sizes. -/
import Derived.Test.YtleoeccjnchclaaGreatDoorZal
import Derived.Maps.AppendAt
import Derived.Laws.MakeOwn
import Derived.OwnWalk
namespace Go.Proofs.YtleoeccjnchclaaGreatDoor
open Go.RowKit
set_option maxRecDepth 100000 in
theorem riseS_nil (w : World) : Calls Tryz.prog 39 #[.map none] w fun e w' => ∃ v, e = .returned v ∧ w'.ownsRow w.heap.size 9 1 v 0 [] ∧ Below w.heap.size w w' := by
  obtain ⟨i0, hi, hz0, hz1, hz2⟩ := info_parts info_str
  have hln : ∀ ty w, (Builtin.len_ #[64] ty #[.map none]).run Tryz.prog w = .ok (.int .i64 0) w := fun ty w => Maps.len_nil Tryz.underlying64 ty
  have hrg : ∀ w : World, (Instr.range 64 (.map none)).run Tryz.prog w = .ok (.pointer (some ⟨w.heap.size, 0, none⟩)) (w.alloc (.mapIter none 0 #[] 0)) := fun w => run_range_nilMap w _ _ _ Tryz.underlying64
  obtain ⟨cs, hcs, hmk⟩ : ∃ cs : Array Value, cs.size = 0 ∧ ∀ w : World, (Instr.makeSlice 53 (.int .i64 0) (.int .i64 0)).run Tryz.prog w = .ok (.slice (some ⟨w.heap.size, 0, none⟩) 0 0) (w.alloc (.cells cs 9)) := by
    refine ⟨madeCells (Value.string ⟨#[]⟩).cells (0 * i0.size), by rw [size_madeCells, hz1], fun w => ?_⟩
    exact run_make (P := Tryz.prog) (w := w) 53 9 i0 (Value.string ⟨#[]⟩) Tryz.underlying53 hi hz0 .i64 .i64 0 0 (by omega) (by omega) (by rw [hz2]; omega) (by omega)
  have HCS := Lib.hid hcs
  have hrow := World.ownsRow_made (base := w.heap.size) (e := 9) (size := 1) w cs 0 (by omega) (by unfold maxLen; omega) HCS.out
  have HSO := Lib.hid (sortS_any ((w.alloc (.cells cs 9)).alloc (.mapIter none 0 #[] 0)) w.heap.size (.slice (some ⟨w.heap.size, 0, none⟩) 0 0) [] (hrow.alloc _) (by decide))
  have hnx : ∀ ty, (Instr.next (.pointer (some ⟨w.heap.size + 1, 0, none⟩)) false ty).run Tryz.prog ((w.alloc (.cells cs 9)).alloc (.mapIter none 0 #[] 0)) = .ok (.tuple #[.bool false]) ((w.alloc (.cells cs 9)).alloc (.mapIter none 0 #[] 0)) := fun ty => by
    have := run_next_nilMap (P := Tryz.prog) (w.alloc (.cells cs 9)) ty 0 0 #[]
    rwa [World.size_alloc] at this
  clear hi hz0 hz1 hz2 hcs hrow
  go_enter Tryz.func39, Tryz.ntmps39
  go_wp2_with fail
  obtain ⟨W, hW⟩ : ∃ W, ((w.alloc (.cells cs 9)).alloc (.mapIter none 0 #[] 0)) = W := ⟨_, rfl⟩
  have HW := Lib.hid hW
  rw [hW] at hnx HSO
  rw [hW]
  clear hW hmk hrg hln
  go_loopw [3] (fun v wr => Hid (wr = W) ∧ v = .slice (some ⟨w.heap.size, 0, none⟩) 0 0) (fun _ _ => 0)
  case atStart => exact ⟨rfl, rfl⟩
  case round =>
    obtain ⟨HR, rfl⟩ := hrel
    obtain rfl := HR.out
    go_wp2_with fail
    refine HSO.out.mono ?_
    rintro e w' ⟨rfl, h1, h2⟩
    have HF : Hid (Below w.heap.size w w') := by
      have h3 : Fr (fun _ => False) w wr := by rw [← HW.out]; exact (Fr.alloc (fun _ => False) w _).trans (Fr.alloc (fun _ => False) _ _) (fun _ h _ => h)
      have h4 : Fr (fun k => w.heap.size ≤ k) w w' := (h3.mono (fun _ h _ => h.elim)).trans h2 (fun i hi _ => by cases hi; exact Nat.le_refl _)
      exact h4.below (Nat.le_refl _) (fun i hi => hi)
    have HO := Lib.hid h1
    clear h1 h2
    go_wp2_with fail
    go_ret
    refine ⟨_, rfl, ?_, HF.out⟩
    have := HO.out
    rwa [show (sortS []).map (Value.string) = [] from by simp [sortS]] at this
/-- what rising hands back -/
def RPriseS (w : World) (keys : List ByteArray) (e : Ending) (w' : World) : Prop := ∃ v, e = .returned v ∧ w'.ownsRow w.heap.size 9 1 v keys.length ((sortS keys).map (Value.string)) ∧ Below w.heap.size w w'
set_option maxRecDepth 100000 in
set_option maxHeartbeats 2000000 in
theorem riseS_any (w : World) (m : Nat) (L : List (ByteArray × Unit)) (h : MAt kS eU w m L) (hn : L.length ≤ 4398046511104) : Calls Tryz.prog 39 #[.map (some m)] w (RPriseS w (L.map (·.1))) := by
  have hlen : ∀ ty, (Builtin.len_ #[64] ty #[.map (some m)]).run Tryz.prog w = .ok (.int .i64 L.length) w := fun ty => h.len tSU ty
  obtain ⟨D0, hown0, hset⟩ := h
  have hown : w.ownsMap Tryz.prog 9 unitElem m L.length D0 := hown0
  have hbl := hown.lt
  have hsz : Maps.size D0 = L.length := hset.size
  have HSET := Lib.hid hset
  have HSZ := Lib.hid hsz
  have HNN := Lib.hid hn
  obtain ⟨i0, hi, hz0, hz1, hz2⟩ := info_parts info_str
  have HI := Lib.hid hi
  have HZ0 := Lib.hid hz0
  have HZ1 := Lib.hid hz1
  have HZ2 := Lib.hid hz2
  obtain ⟨cs, hcs, hmk⟩ : ∃ cs : Array Value, cs.size = L.length ∧ ∀ w : World, (Instr.makeSlice 53 (.int .i64 0) (.int .i64 L.length)).run Tryz.prog w = .ok (.slice (some ⟨w.heap.size, 0, none⟩) 0 L.length) (w.alloc (.cells cs 9)) := by
    refine ⟨madeCells (Value.string ⟨#[]⟩).cells (L.length * i0.size), by rw [size_madeCells, hz1, Nat.mul_one], fun w => ?_⟩
    exact run_make (P := Tryz.prog) (w := w) 53 9 i0 (Value.string ⟨#[]⟩) Tryz.underlying53 hi hz0 .i64 .i64 0 L.length (by omega) (by omega) (by rw [hz2]; omega) (by omega)
  have HCS := Lib.hid hcs
  have hrow0 := World.ownsRow_made (base := w.heap.size) (e := 9) (size := 1) w cs L.length (by omega) (by unfold maxLen; omega) (by rw [hcs, Nat.mul_one])
  have hown1 : (w.alloc (.cells cs 9)).ownsMap Tryz.prog 9 unitElem m L.length D0 := hown.alloc _
  have HR0 := Lib.hid hrow0
  clear hset hsz hi hz0 hz1 hz2 hcs hrow0 hown0 hown hn
  go_enter Tryz.func39, Tryz.ntmps39
  go_wp2_with (at_range; refine wpList_range_own _ rfl _ 64 rfl 9 62 kS_ok.law Tryz.underlying64 _ m L.length D0 rfl hown1 ?_; intro w0 hrg0 hg0 hs0)
  go_simp
  rw [World.size_alloc] at hrg0
  have hro0 := HR0.out.kept hg0 (.inr (by intro e; cases e))
  have hbe0 : Below w.heap.size w w0 := (((Below.refl _ w).alloc (Nat.le_refl _) _).grown hg0 (by simp) (fun j hj => by cases hj))
  have HRO0 := Lib.hid hro0
  have HBE0 := Lib.hid hbe0
  clear hro0 hbe0 hg0 hs0 hmk hlen
  go_loopw [3] (fun v wr => ∃ (left : Lit → Bool) (cnt : Nat) (ss : List ByteArray), wr.ranges Tryz.prog 9 unitElem m (w.heap.size + 1) L.length D0 left cnt ∧ ss.length + cnt ≤ L.length ∧
      wr.ownsRow w.heap.size 9 1 v ss.length (ss.map (Value.string)) ∧ Coll kS D0 left ss ∧ Below w.heap.size w wr)
    (fun _ wr => wr.rangeLeft m (w.heap.size + 1))
  case atStart =>
    exact ⟨_, _, [], hrg0, by rw [HSZ.out]; simp, HRO0.out, Coll.start D0, HBE0.out⟩
  case round =>
    obtain ⟨left, cnt, ss, hrg, hcs, hrow, hC, hnx⟩ := hrel
    clear hrg0
    go_wp2_with (at_next; refine wpList_next_ranges _ rfl _ rfl 9 kS_ok.law unitElem (Value.string) (fun v : Value => v) (fun key kl hk => by obtain ⟨x, hx, _⟩ := kS_ok.inv _ _ hk; exact ⟨x, hx⟩) (fun v y _ => ⟨v, rfl⟩) m (w.heap.size + 1) L.length _ _ _ rfl hrg ?_ ?_)
    · intro hc0 hl0
      have hlp : ss.Perm (L.map (·.1)) := hC.done hl0 HSET.out
      have hll := hlp.length_eq
      have HSO := Lib.hid (sortS_any wr _ u3 ss hrow (by rw [List.length_map] at hll; have := HNN.out; omega))
      have HB := Lib.hid hnx
      have HEQ := Lib.hid (sortS_of hlp hC.1)
      have HLL := Lib.hid hll
      have HOB : Hid (∀ i, u3.ownBlock = some i → w.heap.size ≤ i) := fun i hi => (hrow.lt i hi).1
      clear hrow hcs hnx hrg hC hl0 hlp hll
      go_wp2_with fail
      refine HSO.out.mono ?_
      rintro e w' ⟨rfl, h1, h2⟩
      have HBX : Hid (Below w.heap.size w w') := (((Fr.of_below HB.out).trans (T := fun k => w.heap.size ≤ k) (h2.mono (fun i hi _ => HOB.out i hi)) (fun i hi _ => hi)).below (Nat.le_refl _) (fun i hi => hi))
      have HRX := Lib.hid h1
      clear h1 h2
      go_wp2_with fail
      go_ret
      refine ⟨_, rfl, ?_, HBX.out⟩
      have := HRX.out
      rw [HEQ.out, HLL.out] at this
      exact this
    · intro x c kl yd yp w2 cnt2 hkey hlk hv hat hrg2 hlt hg2 hs2 hen
      obtain ⟨x', ex, rfl, _⟩ := kS_ok.inv _ _ hkey
      obtain rfl : x = x' := by injection ex
      have hrow2 := hrow.kept hg2 (Or.inr (row_ne_iter hrow hrg).symm)
      have HB2 := Lib.hid (hnx.grown hg2 hnx.size (fun j hj => by cases hj; omega))
      have HR2 := Lib.hid hrg2
      have HRW := Lib.hid hrow2
      have HST := Lib.hid (hC.step kS_ok hlk hat)
      have HRG := Lib.hid hrg
      clear hs2 hrow hC hlk hat hkey hv hg2 hnx hrg hrg2 hrow2 ex
      go_wp2_with (at_builtin; refine wpList_append_own _ rfl (.tmp 14) (.tmp 16) 53 rfl w.heap.size 9 i0 (Value.string ⟨#[]⟩) 1 16 Tryz.underlying53 HI.out HZ0.out HZ1.out HZ2.out rfl (by decide) _ _ _ rfl (HRW.out.alloc _) ⟨w2.heap.size, 0, none⟩ 1 1 [.string x] rfl rfl (cell_one_new _ _ _) (by simp [Value.oneCell']) (by have := HNN.out; unfold maxLen; omega) (by have := HNN.out; omega) (by have := HB2.out.size; simp; omega) ?_; intro v' w3 hown' hg3 hnil3)
      have hrg3 := (HR2.out.alloc _).kept hg3 (row_ne_low HRW.out hbl) (row_ne_iter HRW.out HR2.out)
      have HR3 := Lib.hid hrg3
      have HO3 := Lib.hid hown'
      have HG3 := Lib.hid hg3
      clear hown' hg3 hnil3 hrg3
      go_roundw
      case rel =>
        exact ⟨_, cnt2, ss ++ [x], HR3.out, by simp; omega, by simpa using HO3.out, HST.out, (HB2.out.alloc HB2.out.size _).grown HG3.out (by have := HB2.out.size; simp; omega) (fun j hj => (HRW.out.lt j hj).1)⟩
      case measure => rw [HR3.out.left_eq, HRG.out.left_eq]; exact hlt
end Go.Proofs.YtleoeccjnchclaaGreatDoor
namespace Go.Proofs.YtleoeccjnchclaaGreatDoor
open Go.RowKit
set_option maxRecDepth 100000 in
theorem riseI_nil (w : World) : Calls Tryz.prog 34 #[.map none] w fun e w' => ∃ v, e = .returned v ∧ w'.ownsRow w.heap.size 3 1 v 0 [] ∧ Below w.heap.size w w' := by
  obtain ⟨i0, hi, hz0, hz1, hz2⟩ := info_parts info_int
  have hln : ∀ ty w, (Builtin.len_ #[61] ty #[.map none]).run Tryz.prog w = .ok (.int .i64 0) w := fun ty w => Maps.len_nil Tryz.underlying61 ty
  have hrg : ∀ w : World, (Instr.range 61 (.map none)).run Tryz.prog w = .ok (.pointer (some ⟨w.heap.size, 0, none⟩)) (w.alloc (.mapIter none 0 #[] 0)) := fun w => run_range_nilMap w _ _ _ Tryz.underlying61
  obtain ⟨cs, hcs, hmk⟩ : ∃ cs : Array Value, cs.size = 0 ∧ ∀ w : World, (Instr.makeSlice 69 (.int .i64 0) (.int .i64 0)).run Tryz.prog w = .ok (.slice (some ⟨w.heap.size, 0, none⟩) 0 0) (w.alloc (.cells cs 3)) := by
    refine ⟨madeCells (Value.int .i64 0).cells (0 * i0.size), by rw [size_madeCells, hz1], fun w => ?_⟩
    exact run_make (P := Tryz.prog) (w := w) 69 3 i0 (Value.int .i64 0) Tryz.underlying69 hi hz0 .i64 .i64 0 0 (by omega) (by omega) (by rw [hz2]; omega) (by omega)
  have HCS := Lib.hid hcs
  have hrow := World.ownsRow_made (base := w.heap.size) (e := 3) (size := 1) w cs 0 (by omega) (by unfold maxLen; omega) HCS.out
  have HSO := Lib.hid (sortI_any ((w.alloc (.cells cs 3)).alloc (.mapIter none 0 #[] 0)) w.heap.size (.slice (some ⟨w.heap.size, 0, none⟩) 0 0) [] (hrow.alloc _) (by decide))
  have hnx : ∀ ty, (Instr.next (.pointer (some ⟨w.heap.size + 1, 0, none⟩)) false ty).run Tryz.prog ((w.alloc (.cells cs 3)).alloc (.mapIter none 0 #[] 0)) = .ok (.tuple #[.bool false]) ((w.alloc (.cells cs 3)).alloc (.mapIter none 0 #[] 0)) := fun ty => by
    have := run_next_nilMap (P := Tryz.prog) (w.alloc (.cells cs 3)) ty 0 0 #[]
    rwa [World.size_alloc] at this
  clear hi hz0 hz1 hz2 hcs hrow
  go_enter Tryz.func34, Tryz.ntmps34
  go_wp2_with fail
  obtain ⟨W, hW⟩ : ∃ W, ((w.alloc (.cells cs 3)).alloc (.mapIter none 0 #[] 0)) = W := ⟨_, rfl⟩
  have HW := Lib.hid hW
  rw [hW] at hnx HSO
  rw [hW]
  clear hW hmk hrg hln
  go_loopw [3] (fun v wr => Hid (wr = W) ∧ v = .slice (some ⟨w.heap.size, 0, none⟩) 0 0) (fun _ _ => 0)
  case atStart => exact ⟨rfl, rfl⟩
  case round =>
    obtain ⟨HR, rfl⟩ := hrel
    obtain rfl := HR.out
    go_wp2_with fail
    refine HSO.out.mono ?_
    rintro e w' ⟨rfl, h1, h2⟩
    have HF : Hid (Below w.heap.size w w') := by
      have h3 : Fr (fun _ => False) w wr := by rw [← HW.out]; exact (Fr.alloc (fun _ => False) w _).trans (Fr.alloc (fun _ => False) _ _) (fun _ h _ => h)
      have h4 : Fr (fun k => w.heap.size ≤ k) w w' := (h3.mono (fun _ h _ => h.elim)).trans h2 (fun i hi _ => by cases hi; exact Nat.le_refl _)
      exact h4.below (Nat.le_refl _) (fun i hi => hi)
    have HO := Lib.hid h1
    clear h1 h2
    go_wp2_with fail
    go_ret
    refine ⟨_, rfl, ?_, HF.out⟩
    have := HO.out
    rwa [show (sortI []).map (Value.int .i64) = [] from by simp [sortI]] at this
/-- what rising hands back -/
def RPriseI (w : World) (keys : List Int) (e : Ending) (w' : World) : Prop := ∃ v, e = .returned v ∧ w'.ownsRow w.heap.size 3 1 v keys.length ((sortI keys).map (Value.int .i64)) ∧ Below w.heap.size w w'
set_option maxRecDepth 100000 in
set_option maxHeartbeats 2000000 in
theorem riseI_any (w : World) (m : Nat) (L : List (Int × Unit)) (h : MAt kI eU w m L) (hn : L.length ≤ 4398046511104) : Calls Tryz.prog 34 #[.map (some m)] w (RPriseI w (L.map (·.1))) := by
  have hlen : ∀ ty, (Builtin.len_ #[61] ty #[.map (some m)]).run Tryz.prog w = .ok (.int .i64 L.length) w := fun ty => h.len tIU ty
  obtain ⟨D0, hown0, hset⟩ := h
  have hown : w.ownsMap Tryz.prog 3 unitElem m L.length D0 := hown0
  have hbl := hown.lt
  have hsz : Maps.size D0 = L.length := hset.size
  have HSET := Lib.hid hset
  have HSZ := Lib.hid hsz
  have HNN := Lib.hid hn
  obtain ⟨i0, hi, hz0, hz1, hz2⟩ := info_parts info_int
  have HI := Lib.hid hi
  have HZ0 := Lib.hid hz0
  have HZ1 := Lib.hid hz1
  have HZ2 := Lib.hid hz2
  obtain ⟨cs, hcs, hmk⟩ : ∃ cs : Array Value, cs.size = L.length ∧ ∀ w : World, (Instr.makeSlice 69 (.int .i64 0) (.int .i64 L.length)).run Tryz.prog w = .ok (.slice (some ⟨w.heap.size, 0, none⟩) 0 L.length) (w.alloc (.cells cs 3)) := by
    refine ⟨madeCells (Value.int .i64 0).cells (L.length * i0.size), by rw [size_madeCells, hz1, Nat.mul_one], fun w => ?_⟩
    exact run_make (P := Tryz.prog) (w := w) 69 3 i0 (Value.int .i64 0) Tryz.underlying69 hi hz0 .i64 .i64 0 L.length (by omega) (by omega) (by rw [hz2]; omega) (by omega)
  have HCS := Lib.hid hcs
  have hrow0 := World.ownsRow_made (base := w.heap.size) (e := 3) (size := 1) w cs L.length (by omega) (by unfold maxLen; omega) (by rw [hcs, Nat.mul_one])
  have hown1 : (w.alloc (.cells cs 3)).ownsMap Tryz.prog 3 unitElem m L.length D0 := hown.alloc _
  have HR0 := Lib.hid hrow0
  clear hset hsz hi hz0 hz1 hz2 hcs hrow0 hown0 hown hn
  go_enter Tryz.func34, Tryz.ntmps34
  go_wp2_with (at_range; refine wpList_range_own _ rfl _ 61 rfl 3 62 kI_ok.law Tryz.underlying61 _ m L.length D0 rfl hown1 ?_; intro w0 hrg0 hg0 hs0)
  go_simp
  rw [World.size_alloc] at hrg0
  have hro0 := HR0.out.kept hg0 (.inr (by intro e; cases e))
  have hbe0 : Below w.heap.size w w0 := (((Below.refl _ w).alloc (Nat.le_refl _) _).grown hg0 (by simp) (fun j hj => by cases hj))
  have HRO0 := Lib.hid hro0
  have HBE0 := Lib.hid hbe0
  clear hro0 hbe0 hg0 hs0 hmk hlen
  go_loopw [3] (fun v wr => ∃ (left : Lit → Bool) (cnt : Nat) (ss : List Int), wr.ranges Tryz.prog 3 unitElem m (w.heap.size + 1) L.length D0 left cnt ∧ ss.length + cnt ≤ L.length ∧
      wr.ownsRow w.heap.size 3 1 v ss.length (ss.map (Value.int .i64)) ∧ Coll kI D0 left ss ∧ Below w.heap.size w wr)
    (fun _ wr => wr.rangeLeft m (w.heap.size + 1))
  case atStart =>
    exact ⟨_, _, [], hrg0, by rw [HSZ.out]; simp, HRO0.out, Coll.start D0, HBE0.out⟩
  case round =>
    obtain ⟨left, cnt, ss, hrg, hcs, hrow, hC, hnx⟩ := hrel
    clear hrg0
    go_wp2_with (at_next; refine wpList_next_ranges _ rfl _ rfl 3 kI_ok.law unitElem (Value.int .i64) (fun v : Value => v) (fun key kl hk => by obtain ⟨x, hx, _⟩ := kI_ok.inv _ _ hk; exact ⟨x, hx⟩) (fun v y _ => ⟨v, rfl⟩) m (w.heap.size + 1) L.length _ _ _ rfl hrg ?_ ?_)
    · intro hc0 hl0
      have hlp : ss.Perm (L.map (·.1)) := hC.done hl0 HSET.out
      have hll := hlp.length_eq
      have HSO := Lib.hid (sortI_any wr _ u3 ss hrow (by rw [List.length_map] at hll; have := HNN.out; omega))
      have HB := Lib.hid hnx
      have HEQ := Lib.hid (sortI_of hlp hC.1)
      have HLL := Lib.hid hll
      have HOB : Hid (∀ i, u3.ownBlock = some i → w.heap.size ≤ i) := fun i hi => (hrow.lt i hi).1
      clear hrow hcs hnx hrg hC hl0 hlp hll
      go_wp2_with fail
      refine HSO.out.mono ?_
      rintro e w' ⟨rfl, h1, h2⟩
      have HBX : Hid (Below w.heap.size w w') := (((Fr.of_below HB.out).trans (T := fun k => w.heap.size ≤ k) (h2.mono (fun i hi _ => HOB.out i hi)) (fun i hi _ => hi)).below (Nat.le_refl _) (fun i hi => hi))
      have HRX := Lib.hid h1
      clear h1 h2
      go_wp2_with fail
      go_ret
      refine ⟨_, rfl, ?_, HBX.out⟩
      have := HRX.out
      rw [HEQ.out, HLL.out] at this
      exact this
    · intro x c kl yd yp w2 cnt2 hkey hlk hv hat hrg2 hlt hg2 hs2 hen
      obtain ⟨x', ex, rfl, _⟩ := kI_ok.inv _ _ hkey
      obtain rfl : x = x' := by injection ex
      have hrow2 := hrow.kept hg2 (Or.inr (row_ne_iter hrow hrg).symm)
      have HB2 := Lib.hid (hnx.grown hg2 hnx.size (fun j hj => by cases hj; omega))
      have HR2 := Lib.hid hrg2
      have HRW := Lib.hid hrow2
      have HST := Lib.hid (hC.step kI_ok hlk hat)
      have HRG := Lib.hid hrg
      clear hs2 hrow hC hlk hat hkey hv hg2 hnx hrg hrg2 hrow2 ex
      go_wp2_with (at_builtin; refine wpList_append_own _ rfl (.tmp 14) (.tmp 16) 69 rfl w.heap.size 3 i0 (Value.int .i64 0) 1 8 Tryz.underlying69 HI.out HZ0.out HZ1.out HZ2.out rfl (by decide) _ _ _ rfl (HRW.out.alloc _) ⟨w2.heap.size, 0, none⟩ 1 1 [.int .i64 x] rfl rfl (cell_one_new _ _ _) (by simp [Value.oneCell']) (by have := HNN.out; unfold maxLen; omega) (by have := HNN.out; omega) (by have := HB2.out.size; simp; omega) ?_; intro v' w3 hown' hg3 hnil3)
      have hrg3 := (HR2.out.alloc _).kept hg3 (row_ne_low HRW.out hbl) (row_ne_iter HRW.out HR2.out)
      have HR3 := Lib.hid hrg3
      have HO3 := Lib.hid hown'
      have HG3 := Lib.hid hg3
      clear hown' hg3 hnil3 hrg3
      go_roundw
      case rel =>
        exact ⟨_, cnt2, ss ++ [x], HR3.out, by simp; omega, by simpa using HO3.out, HST.out, (HB2.out.alloc HB2.out.size _).grown HG3.out (by have := HB2.out.size; simp; omega) (fun j hj => (HRW.out.lt j hj).1)⟩
      case measure => rw [HR3.out.left_eq, HRG.out.left_eq]; exact hlt
end Go.Proofs.YtleoeccjnchclaaGreatDoor
namespace Go.Proofs.YtleoeccjnchclaaGreatDoor
open Go.RowKit
set_option maxRecDepth 100000 in
theorem riseN_nil (w : World) : Calls Tryz.prog 36 #[.map none] w fun e w' => ∃ v, e = .returned v ∧ w'.ownsRow w.heap.size 3 1 v 0 [] ∧ Below w.heap.size w w' := by
  obtain ⟨i0, hi, hz0, hz1, hz2⟩ := info_parts info_int
  have hln : ∀ ty w, (Builtin.len_ #[32] ty #[.map none]).run Tryz.prog w = .ok (.int .i64 0) w := fun ty w => Maps.len_nil Tryz.underlying32 ty
  have hrg : ∀ w : World, (Instr.range 32 (.map none)).run Tryz.prog w = .ok (.pointer (some ⟨w.heap.size, 0, none⟩)) (w.alloc (.mapIter none 0 #[] 0)) := fun w => run_range_nilMap w _ _ _ Tryz.underlying32
  obtain ⟨cs, hcs, hmk⟩ : ∃ cs : Array Value, cs.size = 0 ∧ ∀ w : World, (Instr.makeSlice 69 (.int .i64 0) (.int .i64 0)).run Tryz.prog w = .ok (.slice (some ⟨w.heap.size, 0, none⟩) 0 0) (w.alloc (.cells cs 3)) := by
    refine ⟨madeCells (Value.int .i64 0).cells (0 * i0.size), by rw [size_madeCells, hz1], fun w => ?_⟩
    exact run_make (P := Tryz.prog) (w := w) 69 3 i0 (Value.int .i64 0) Tryz.underlying69 hi hz0 .i64 .i64 0 0 (by omega) (by omega) (by rw [hz2]; omega) (by omega)
  have HCS := Lib.hid hcs
  have hrow := World.ownsRow_made (base := w.heap.size) (e := 3) (size := 1) w cs 0 (by omega) (by unfold maxLen; omega) HCS.out
  have HSO := Lib.hid (sortI_any ((w.alloc (.cells cs 3)).alloc (.mapIter none 0 #[] 0)) w.heap.size (.slice (some ⟨w.heap.size, 0, none⟩) 0 0) [] (hrow.alloc _) (by decide))
  have hnx : ∀ ty, (Instr.next (.pointer (some ⟨w.heap.size + 1, 0, none⟩)) false ty).run Tryz.prog ((w.alloc (.cells cs 3)).alloc (.mapIter none 0 #[] 0)) = .ok (.tuple #[.bool false]) ((w.alloc (.cells cs 3)).alloc (.mapIter none 0 #[] 0)) := fun ty => by
    have := run_next_nilMap (P := Tryz.prog) (w.alloc (.cells cs 3)) ty 0 0 #[]
    rwa [World.size_alloc] at this
  clear hi hz0 hz1 hz2 hcs hrow
  go_enter Tryz.func36, Tryz.ntmps36
  go_wp2_with fail
  obtain ⟨W, hW⟩ : ∃ W, ((w.alloc (.cells cs 3)).alloc (.mapIter none 0 #[] 0)) = W := ⟨_, rfl⟩
  have HW := Lib.hid hW
  rw [hW] at hnx HSO
  rw [hW]
  clear hW hmk hrg hln
  go_loopw [3] (fun v wr => Hid (wr = W) ∧ v = .slice (some ⟨w.heap.size, 0, none⟩) 0 0) (fun _ _ => 0)
  case atStart => exact ⟨rfl, rfl⟩
  case round =>
    obtain ⟨HR, rfl⟩ := hrel
    obtain rfl := HR.out
    go_wp2_with fail
    refine HSO.out.mono ?_
    rintro e w' ⟨rfl, h1, h2⟩
    have HF : Hid (Below w.heap.size w w') := by
      have h3 : Fr (fun _ => False) w wr := by rw [← HW.out]; exact (Fr.alloc (fun _ => False) w _).trans (Fr.alloc (fun _ => False) _ _) (fun _ h _ => h)
      have h4 : Fr (fun k => w.heap.size ≤ k) w w' := (h3.mono (fun _ h _ => h.elim)).trans h2 (fun i hi _ => by cases hi; exact Nat.le_refl _)
      exact h4.below (Nat.le_refl _) (fun i hi => hi)
    have HO := Lib.hid h1
    clear h1 h2
    go_wp2_with fail
    go_ret
    refine ⟨_, rfl, ?_, HF.out⟩
    have := HO.out
    rwa [show (sortI []).map (Value.int .i64) = [] from by simp [sortI]] at this
/-- what rising hands back -/
def RPriseN (w : World) (keys : List Int) (e : Ending) (w' : World) : Prop := ∃ v, e = .returned v ∧ w'.ownsRow w.heap.size 3 1 v keys.length ((sortI keys).map (Value.int .i64)) ∧ Below w.heap.size w w'
set_option maxRecDepth 100000 in
set_option maxHeartbeats 2000000 in
theorem riseN_any (w : World) (m : Nat) (L : List (Int × Nat)) (h : MAt kI eN w m L) (hn : L.length ≤ 4398046511104) : Calls Tryz.prog 36 #[.map (some m)] w (RPriseN w (L.map (·.1))) := by
  have hlen : ∀ ty, (Builtin.len_ #[32] ty #[.map (some m)]).run Tryz.prog w = .ok (.int .i64 L.length) w := fun ty => h.len tIN ty
  obtain ⟨D0, hown0, hset⟩ := h
  have hown : w.ownsMap Tryz.prog 3 refR m L.length D0 := hown0
  have hbl := hown.lt
  have hsz : Maps.size D0 = L.length := hset.size
  have HSET := Lib.hid hset
  have HSZ := Lib.hid hsz
  have HNN := Lib.hid hn
  obtain ⟨i0, hi, hz0, hz1, hz2⟩ := info_parts info_int
  have HI := Lib.hid hi
  have HZ0 := Lib.hid hz0
  have HZ1 := Lib.hid hz1
  have HZ2 := Lib.hid hz2
  obtain ⟨cs, hcs, hmk⟩ : ∃ cs : Array Value, cs.size = L.length ∧ ∀ w : World, (Instr.makeSlice 69 (.int .i64 0) (.int .i64 L.length)).run Tryz.prog w = .ok (.slice (some ⟨w.heap.size, 0, none⟩) 0 L.length) (w.alloc (.cells cs 3)) := by
    refine ⟨madeCells (Value.int .i64 0).cells (L.length * i0.size), by rw [size_madeCells, hz1, Nat.mul_one], fun w => ?_⟩
    exact run_make (P := Tryz.prog) (w := w) 69 3 i0 (Value.int .i64 0) Tryz.underlying69 hi hz0 .i64 .i64 0 L.length (by omega) (by omega) (by rw [hz2]; omega) (by omega)
  have HCS := Lib.hid hcs
  have hrow0 := World.ownsRow_made (base := w.heap.size) (e := 3) (size := 1) w cs L.length (by omega) (by unfold maxLen; omega) (by rw [hcs, Nat.mul_one])
  have hown1 : (w.alloc (.cells cs 3)).ownsMap Tryz.prog 3 refR m L.length D0 := hown.alloc _
  have HR0 := Lib.hid hrow0
  clear hset hsz hi hz0 hz1 hz2 hcs hrow0 hown0 hown hn
  go_enter Tryz.func36, Tryz.ntmps36
  go_wp2_with (at_range; refine wpList_range_own _ rfl _ 32 rfl 3 65 kI_ok.law Tryz.underlying32 _ m L.length D0 rfl hown1 ?_; intro w0 hrg0 hg0 hs0)
  go_simp
  rw [World.size_alloc] at hrg0
  have hro0 := HR0.out.kept hg0 (.inr (by intro e; cases e))
  have hbe0 : Below w.heap.size w w0 := (((Below.refl _ w).alloc (Nat.le_refl _) _).grown hg0 (by simp) (fun j hj => by cases hj))
  have HRO0 := Lib.hid hro0
  have HBE0 := Lib.hid hbe0
  clear hro0 hbe0 hg0 hs0 hmk hlen
  go_loopw [3] (fun v wr => ∃ (left : Lit → Bool) (cnt : Nat) (ss : List Int), wr.ranges Tryz.prog 3 refR m (w.heap.size + 1) L.length D0 left cnt ∧ ss.length + cnt ≤ L.length ∧
      wr.ownsRow w.heap.size 3 1 v ss.length (ss.map (Value.int .i64)) ∧ Coll kI D0 left ss ∧ Below w.heap.size w wr)
    (fun _ wr => wr.rangeLeft m (w.heap.size + 1))
  case atStart =>
    exact ⟨_, _, [], hrg0, by rw [HSZ.out]; simp, HRO0.out, Coll.start D0, HBE0.out⟩
  case round =>
    obtain ⟨left, cnt, ss, hrg, hcs, hrow, hC, hnx⟩ := hrel
    clear hrg0
    go_wp2_with (at_next; refine wpList_next_ranges _ rfl _ rfl 3 kI_ok.law refR (Value.int .i64) (fun v : Value => v) (fun key kl hk => by obtain ⟨x, hx, _⟩ := kI_ok.inv _ _ hk; exact ⟨x, hx⟩) (fun v y _ => ⟨v, rfl⟩) m (w.heap.size + 1) L.length _ _ _ rfl hrg ?_ ?_)
    · intro hc0 hl0
      have hlp : ss.Perm (L.map (·.1)) := hC.done hl0 HSET.out
      have hll := hlp.length_eq
      have HSO := Lib.hid (sortI_any wr _ u3 ss hrow (by rw [List.length_map] at hll; have := HNN.out; omega))
      have HB := Lib.hid hnx
      have HEQ := Lib.hid (sortI_of hlp hC.1)
      have HLL := Lib.hid hll
      have HOB : Hid (∀ i, u3.ownBlock = some i → w.heap.size ≤ i) := fun i hi => (hrow.lt i hi).1
      clear hrow hcs hnx hrg hC hl0 hlp hll
      go_wp2_with fail
      refine HSO.out.mono ?_
      rintro e w' ⟨rfl, h1, h2⟩
      have HBX : Hid (Below w.heap.size w w') := (((Fr.of_below HB.out).trans (T := fun k => w.heap.size ≤ k) (h2.mono (fun i hi _ => HOB.out i hi)) (fun i hi _ => hi)).below (Nat.le_refl _) (fun i hi => hi))
      have HRX := Lib.hid h1
      clear h1 h2
      go_wp2_with fail
      go_ret
      refine ⟨_, rfl, ?_, HBX.out⟩
      have := HRX.out
      rw [HEQ.out, HLL.out] at this
      exact this
    · intro x c kl yd yp w2 cnt2 hkey hlk hv hat hrg2 hlt hg2 hs2 hen
      obtain ⟨x', ex, rfl, _⟩ := kI_ok.inv _ _ hkey
      obtain rfl : x = x' := by injection ex
      have hrow2 := hrow.kept hg2 (Or.inr (row_ne_iter hrow hrg).symm)
      have HB2 := Lib.hid (hnx.grown hg2 hnx.size (fun j hj => by cases hj; omega))
      have HR2 := Lib.hid hrg2
      have HRW := Lib.hid hrow2
      have HST := Lib.hid (hC.step kI_ok hlk hat)
      have HRG := Lib.hid hrg
      clear hs2 hrow hC hlk hat hkey hv hg2 hnx hrg hrg2 hrow2 ex
      go_wp2_with (at_builtin; refine wpList_append_own _ rfl (.tmp 14) (.tmp 16) 69 rfl w.heap.size 3 i0 (Value.int .i64 0) 1 8 Tryz.underlying69 HI.out HZ0.out HZ1.out HZ2.out rfl (by decide) _ _ _ rfl (HRW.out.alloc _) ⟨w2.heap.size, 0, none⟩ 1 1 [.int .i64 x] rfl rfl (cell_one_new _ _ _) (by simp [Value.oneCell']) (by have := HNN.out; unfold maxLen; omega) (by have := HNN.out; omega) (by have := HB2.out.size; simp; omega) ?_; intro v' w3 hown' hg3 hnil3)
      have hrg3 := (HR2.out.alloc _).kept hg3 (row_ne_low HRW.out hbl) (row_ne_iter HRW.out HR2.out)
      have HR3 := Lib.hid hrg3
      have HO3 := Lib.hid hown'
      have HG3 := Lib.hid hg3
      clear hown' hg3 hnil3 hrg3
      go_roundw
      case rel =>
        exact ⟨_, cnt2, ss ++ [x], HR3.out, by simp; omega, by simpa using HO3.out, HST.out, (HB2.out.alloc HB2.out.size _).grown HG3.out (by have := HB2.out.size; simp; omega) (fun j hj => (HRW.out.lt j hj).1)⟩
      case measure => rw [HR3.out.left_eq, HRG.out.left_eq]; exact hlt
end Go.Proofs.YtleoeccjnchclaaGreatDoor
