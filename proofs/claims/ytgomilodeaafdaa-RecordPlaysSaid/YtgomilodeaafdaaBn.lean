/- Records beside rows; no record. No condition. -/
import Derived.Test.YtgomilodeaafdaaBb
import Derived.Test.YtgomilodeaafdaaBa
import Derived.Deep.Cut
import Derived.Deep.CutBlock
import Derived.Deep.QuietTactic
import Derived.BigQuiet
import Derived.Test.YtgomilodeaafdaaBr
namespace Go.Proofs.Ytgomilodeaafdaa
open Go.RowKit
set_option maxRecDepth 100000 in
set_option maxHeartbeats 1000000 in
theorem same9_any (w : World) (v1 v2 : Value) (l1 l2 : List ByteArray) (h1 : RdC w 1 v1 l1.length (l1.map .string)) (h2 : RdC w 1 v2 l2.length (l2.map .string)) :
    Calls Try.prog 130 #[v1, v2] w fun e w' => e = .returned (.bool (decide (l1 = l2))) ∧ ∃ m, w' = w.drewN m := by
  have hm1 := h1.len
  have hm2 := h2.len
  unfold maxLen at hm1 hm2
  have H1 := Lib.hid h1
  have H2 := Lib.hid h2
  obtain ⟨-, a1, c1, rfl, -⟩ := h1
  obtain ⟨-, a2, c2, rfl, -⟩ := h2
  by_cases hl : l1.length = l2.length
  case neg =>
    have hne : decide (l1 = l2) = false := decide_eq_false (fun e => hl (by rw [e]))
    have g : ((l1.length : Int) != l2.length) = true := by rw [bne_iff_ne]; omega
    rw [hne]
    clear hne hl
    go_enter Try.func130, Try.ntmps130
    go_wp2
    go_ret
    exact ⟨rfl, 0, rfl⟩
  case pos =>
    have g : ((l1.length : Int) != l2.length) = false := by rw [bne_eq_false_iff_eq]; omega
    have HL := Lib.hid hl
    clear hl
    go_enter Try.func130, Try.ntmps130
    go_wp2
    go_loopw [5] (fun i wr => ∃ k m : Nat, i = .int .i64 k ∧ k ≤ l1.length ∧ Hid (wr = w.drewN m) ∧ Hid (l1.take k = l2.take k)) (fun i _ => l1.length - (intOf i).toNat)
    case atStart => exact ⟨0, 0, rfl, by omega, (show w = w.drewN 0 from rfl), (show _ = _ from rfl)⟩
    case round =>
      obtain ⟨k, m, rfl, hk, HW, HE⟩ := hrel
      obtain ⟨wo, rfl⟩ : ∃ wo, wo = wr := ⟨_, rfl⟩
      by_cases hlt : k < l1.length
      · have hlt2 : k < l2.length := by have := HL.out; omega
        have hb1 : (k : Int) < (l1.length : Int) := by omega
        have hb2 : (k : Int) < (l2.length : Int) := by omega
        have hb0 : (0 : Int) ≤ (k : Int) := by omega
        obtain ⟨g1, o1, rfl, c1⟩ := texts_at H1.out k hlt
        obtain ⟨g2, o2, rfl, c2⟩ := texts_at H2.out k hlt2
        have c1' : wo.cell? ⟨g1, o1 + k, none⟩ = some (.string l1[k]) := by rw [HW.out]; exact c1
        have c2' : wo.cell? ⟨g2, o2 + k, none⟩ = some (.string l2[k]) := by rw [HW.out]; exact c2
        obtain ⟨x, hx⟩ : ∃ x, l1[k] = x := ⟨_, rfl⟩
        obtain ⟨y, hy⟩ : ∃ y, l2[k] = y := ⟨_, rfl⟩
        rw [hx] at c1'
        rw [hy] at c2'
        have HX := Lib.hid hx
        have HY := Lib.hid hy
        clear c1 c2 hx hy
        by_cases hxy : x = y
        · have hq : (x.toList == y.toList) = true := by rw [str_beq]; simpa using hxy
          have hq2 : (x.toList != y.toList) = false := by simp [bne, hq]
          have hts : Hid (l1.take (k + 1) = l2.take (k + 1)) := by
            show _ = _
            rw [List.take_succ_eq_append_getElem hlt, List.take_succ_eq_append_getElem hlt2, HE.out, HX.out, HY.out, hxy]
          clear hxy
          go_upto_region 6 with (fail)
          go_quiet (fail)
          go_wp2
          go_roundw
          case rel => exact ⟨k + 1, m + nq, by go_num, by omega, (show wo.drewN nq = _ by rw [HW.out]; exact drewN_drewN _ _ _), hts⟩
          case measure => simp [intOf]; omega
        · have hq : (x.toList == y.toList) = false := by rw [str_beq]; simpa using hxy
          have hq2 : (x.toList != y.toList) = true := by simp [bne, hq]
          have hne : decide (l1 = l2) = false := decide_eq_false (fun e => hxy (by rw [← HX.out, ← HY.out]; subst e; rfl))
          have HNE := Lib.hid hne
          clear hne hxy
          go_upto_region 6 with (fail)
          go_quiet (fail)
          go_wp2
          go_ret
          exact ⟨by rw [HNE.out]; rfl, m + nq, by rw [HW.out]; exact drewN_drewN _ _ _⟩
      · obtain rfl : k = l1.length := by omega
        have heq : decide (l1 = l2) = true := decide_eq_true (by have := HE.out; rwa [List.take_length, HL.out, List.take_length] at this)
        have HNE := Lib.hid heq
        clear heq
        go_wp2
        go_ret
        exact ⟨by rw [HNE.out]; rfl, m, HW.out⟩
end Go.Proofs.Ytgomilodeaafdaa
namespace Go.Proofs.Ytgomilodeaafdaa
open Go.RowKit
theorem refLen_nil (w : World) : Calls Try.prog 62 #[.pointer none] w fun e w' => e = .returned (.int .i64 0) ∧ w = w' := by
  go_enter Try.func62, Try.ntmps62
  go_wp2
  go_ret
  exact ⟨rfl, rfl⟩
theorem refGet_nil (k : ByteArray) (w : World) : Calls Try.prog 125 #[.pointer none, .string k] w fun e w' => e = .returned (.tuple #[.string ⟨#[]⟩, .bool false]) ∧ w = w' := by
  go_enter Try.func125, Try.ntmps125
  go_wp2
  go_ret2
  exact ⟨rfl, rfl⟩
theorem refSet_nil (k s : ByteArray) (w : World) : Calls Try.prog 124 #[.pointer none, .string k, .string s] w fun e w' => e = .returned (.tuple #[.bool false, .int .i64 1]) ∧ w = w' := by
  go_enter Try.func124, Try.ntmps124
  go_wp2
  go_ret2
  exact ⟨rfl, rfl⟩
theorem refDel_nil (k : ByteArray) (w : World) : Calls Try.prog 126 #[.pointer none, .string k] w fun e w' => e = .returned (.bool false) ∧ w = w' := by
  go_enter Try.func126, Try.ntmps126
  go_wp2
  go_ret
  exact ⟨rfl, rfl⟩
theorem refPairs_nil (w : World) : Calls Try.prog 60 #[.pointer none] w fun e w' => e = .returned (.slice none 0 0) ∧ w = w' := by
  go_enter Try.func60, Try.ntmps60
  go_wp2
  go_ret
  exact ⟨rfl, rfl⟩
theorem refSample_nil (n : Int) (w : World) : Calls Try.prog 128 #[.pointer none, .int .u64 n] w fun e w' => e = .returned (.tuple #[.string ⟨#[]⟩, .bool false]) ∧ w = w' := by
  go_enter Try.func128, Try.ntmps128
  go_wp2
  go_ret2
  exact ⟨rfl, rfl⟩
theorem refScan_nil (c n : Int) (w : World) : Calls Try.prog 129 #[.pointer none, .int .u64 c, .int .i64 n] w fun e w' => e = .returned (.tuple #[.int .u64 0, .slice none 0 0]) ∧ w = w' := by
  go_enter Try.func129, Try.ntmps129
  go_wp2
  go_ret2
  exact ⟨rfl, rfl⟩
theorem refCost_nil (w : World) : Calls Try.prog 61 #[.pointer none] w fun e w' => e = .returned (.int .i64 0) ∧ w = w' := by
  go_enter Try.func61, Try.ntmps61
  go_wp2
  go_ret
  exact ⟨rfl, rfl⟩
theorem samePairs_nil (w : World) : Calls Try.prog 59 #[.slice none 0 0, .slice none 0 0] w fun e w' => e = .returned (.bool true) ∧ w = w' := by
  go_enter Try.func59, Try.ntmps59
  go_wp2
  go_loopw [5] (fun i wr => i = .int .i64 0 ∧ Hid (w = wr)) (fun i _ => 0)
  case atStart => exact ⟨rfl, rfl⟩
  case round =>
    obtain ⟨rfl, HW⟩ := hrel
    go_wp2
    go_ret
    exact ⟨rfl, HW.out⟩
theorem flat_put (x y : ByteArray) : ∀ (l : List Pr) (k : Nat), k < l.length → (((l.flatMap encP).set (k * 2) (.string x)).set (k * 2 + 1) (.string y)) = (l.set k (x, y)).flatMap encP := by
  intro l
  induction l with
  | nil => intro k hk; simp at hk
  | cons p l ih =>
    intro k hk
    cases k with
    | zero => simp [encP]
    | succ k =>
      have h := ih k (by simpa using hk)
      have e : (k + 1) * 2 = k * 2 + 1 + 1 := by omega
      simp only [List.flatMap_cons, List.set_cons_succ, encP, List.cons_append, List.nil_append, e]
      rw [← h]
theorem flat_put2 (y : ByteArray) : ∀ (l : List Pr) (k : Nat) (hk : k < l.length), ((l.flatMap encP).set (k * 2 + 1) (.string y)) = (l.set k ((l[k]).1, y)).flatMap encP := by
  intro l
  induction l with
  | nil => intro k hk; simp at hk
  | cons p l ih =>
    intro k hk
    cases k with
    | zero => simp [encP]
    | succ k =>
      have h := ih k (by simpa using hk)
      have e : (k + 1) * 2 = k * 2 + 1 + 1 := by omega
      simp only [List.flatMap_cons, List.set_cons_succ, encP, List.cons_append, List.nil_append, e, List.getElem_cons_succ]
      rw [← h]
theorem rowP_put {B : Nat} {w : World} {g n cap : Nat} {L : List Pr} (h : w.ownsRow B 51 2 (.slice (some ⟨g, 0, none⟩) n cap) n (L.flatMap encP)) (hn : n = L.length) (k : Nat) (hk : k < L.length) (x y : ByteArray) :
    ((w.setCell ⟨g, k * 2, none⟩ (.string x)).setCell ⟨g, k * 2 + 1, none⟩ (.string y)).ownsRow B 51 2 (.slice (some ⟨g, 0, none⟩) n cap) n ((L.set k (x, y)).flatMap encP) := by
  rcases h with ⟨h1, ⟨h2, _⟩ | ⟨g', cap', cur, he, hb, hg, hnc, hcm, hcs, htake⟩⟩
  · cases h2
  · cases he
    have e1 := heap_setCell_same w g (k * 2) cur _ (.string x) hg
    have e2 := heap_setCell_same _ g (k * 2 + 1) _ _ (.string y) e1
    have hfl : ((L.set k (x, y)).flatMap encP).length = (L.flatMap encP).length := by rw [← flat_put x y L k hk]; simp
    refine ⟨by rw [hfl, h1], .inr ⟨g, cap, _, rfl, hb, e2, hnc, hcm, by simpa using hcs, ?_⟩⟩
    rw [← flat_put x y L k hk, ← htake]
    simp only [Array.toList_setIfInBounds, List.take_set]
theorem rowP_put2 {B : Nat} {w : World} {g n cap : Nat} {L : List Pr} (h : w.ownsRow B 51 2 (.slice (some ⟨g, 0, none⟩) n cap) n (L.flatMap encP)) (k : Nat) (hk : k < L.length) (y : ByteArray) :
    (w.setCell ⟨g, k * 2 + 1, none⟩ (.string y)).ownsRow B 51 2 (.slice (some ⟨g, 0, none⟩) n cap) n ((L.set k ((L[k]).1, y)).flatMap encP) := by
  rcases h with ⟨h1, ⟨h2, _⟩ | ⟨g', cap', cur, he, hb, hg, hnc, hcm, hcs, htake⟩⟩
  · cases h2
  · cases he
    have e1 := heap_setCell_same w g (k * 2 + 1) cur _ (.string y) hg
    have hfl : ((L.set k ((L[k]).1, y)).flatMap encP).length = (L.flatMap encP).length := by rw [← flat_put2 y L k hk]; simp
    refine ⟨by rw [hfl, h1], .inr ⟨g, cap, _, rfl, hb, e1, hnc, hcm, by simpa using hcs, ?_⟩⟩
    rw [← flat_put2 y L k hk, ← htake]
    simp only [Array.toList_setIfInBounds, List.take_set]
/-- a pair of an own row -/
theorem rowP_at {B : Nat} {w : World} {a : Option Addr} {n cap : Nat} {L : List Pr} (h : w.ownsRow B 51 2 (.slice a n cap) n (L.flatMap encP)) (hn : n = L.length) (k : Nat) (hk : k < L.length) :
    ∃ g, a = some ⟨g, 0, none⟩ ∧ w.cell? ⟨g, k * 2, none⟩ = some (.string (L[k]).1) ∧ w.cell? ⟨g, k * 2 + 1, none⟩ = some (.string (L[k]).2) ∧ w.frozen? ⟨g, k * 2, none⟩ = false ∧ w.frozen? ⟨g, k * 2 + 1, none⟩ = false := by
  obtain ⟨g, off, rfl, c1, c2⟩ := pr_at (by rw [hn] at h; have := RdC.of_owns h; exact this) k hk
  rcases h with ⟨h1, ⟨h2, _⟩ | ⟨g', cap', cur, he, hb, hg, hnc, hcm, hcs, htake⟩⟩
  · cases h2
  · cases he
    rw [Nat.zero_add] at c1 c2
    exact ⟨g, rfl, c1, c2, free_of_blk hg _, free_of_blk hg _⟩
set_option maxRecDepth 100000 in
set_option maxHeartbeats 1000000 in
/-- spoiling: written are the row itself, and new blocks -/
theorem spoilP_any (w : World) (B : Nat) (v : Value) (l : List Pr) (h : RowP B w v l) (hB : B ≤ w.heap.size) (hl : l.length ≤ 1099511627776) :
    Calls Try.prog 127 #[v] w fun e w' => (∃ u, e = .returned u) ∧ Fr (fun k => v.ownBlock = some k) w w' := by
  have H1 := Lib.hid h
  obtain ⟨i0, hi, hz0, hz1, hz2⟩ := info_parts infoPr
  have HI := Lib.hid hi
  have HZ0 := Lib.hid hz0
  have HZ1 := Lib.hid hz1
  have HZ2 := Lib.hid hz2
  have HBB := Lib.hid hB
  clear hi hz0 hz1 hz2
  obtain ⟨va, vc, rfl⟩ := ow_sliceN h
  obtain ⟨ob, hob⟩ : ∃ ob, (Value.slice va l.length vc).ownBlock = ob := ⟨_, rfl⟩
  rw [hob]
  have HOB := Lib.hid hob
  clear h hob
  go_enter Try.func127, Try.ntmps127
  go_wp2
  go_loopw [2] (fun i wr => ∃ (k : Nat) (l' : List Pr), i = .int .i64 k ∧ k ≤ l.length ∧ Hid (l'.length = l.length) ∧ Hid (wr.ownsRow B 51 2 (.slice va l.length vc) l.length (l'.flatMap encP)) ∧ Hid (Fr (fun k => ob = some k) w wr)) (fun i _ => l.length - (intOf i).toNat)
  case atStart => exact ⟨0, l, rfl, by omega, rfl, H1, Fr.refl _ _⟩
  case round =>
    obtain ⟨k, l', rfl, hk, HLL, HR, HF⟩ := hrel
    obtain ⟨wo, rfl⟩ : ∃ wo, wo = wr := ⟨_, rfl⟩
    by_cases hlt : k < l.length
    · obtain ⟨g, rfl, c1, c2, z1, z2⟩ := rowP_at HR.out HLL.out.symm k (by rw [HLL.out]; exact hlt)
      have z3 : (wo.setCell ⟨g, k * 2, none⟩ (.string ⟨#[63, 33]⟩)).frozen? ⟨g, k * 2 + 1, none⟩ = false := (World.frozen?_setCell wo _ _ _).trans z2
      have hput := rowP_put HR.out HLL.out.symm k (by rw [HLL.out]; exact hlt) ⟨#[63, 33]⟩ ⟨#[33, 63]⟩
      have HP := Lib.hid hput
      have hob : ob = some g := HOB.out.symm
      subst hob
      have HF2 : Hid (Fr (fun k => some g = some k) w ((wo.setCell ⟨g, k * 2, none⟩ (.string ⟨#[63, 33]⟩)).setCell ⟨g, k * 2 + 1, none⟩ (.string ⟨#[33, 63]⟩))) := (HF.out.thenSet _ _ (fun _ => rfl)).thenSet _ _ (fun _ => rfl)
      have HL2 : Hid ((l'.set k (⟨#[63, 33]⟩, ⟨#[33, 63]⟩)).length = l.length) := by show _ = _; rw [List.length_set]; exact HLL.out
      clear hput
      go_wp2
      go_roundw
      case rel => exact ⟨k + 1, _, by go_num, by omega, HL2, HP, HF2⟩
      case measure => simp [intOf]; omega
    · go_wp2
      go_loopw [0, 3] (fun v i wr => ∃ (k : Nat) (l' : List Pr), i = .int .i64 k ∧ k ≤ 40 ∧ Hid (l'.length ≤ l.length + k) ∧ Hid (RowP B wr v l') ∧ Hid (∀ g, v.ownBlock = some g → ob = some g ∨ w.heap.size ≤ g) ∧ Hid (Fr (fun k => ob = some k) w wr)) (fun _ i _ => 40 - (intOf i).toNat)
      case atStart => exact ⟨0, l', rfl, by omega, (show _ ≤ _ by have := HLL.out; omega), (show World.ownsRow _ _ _ _ _ _ _ by rw [HLL.out]; exact HR.out), (fun g hg => .inl (HOB.out.symm.trans hg)), HF⟩
      case round =>
        obtain ⟨k2, l2, rfl, hk2, HL2, HR2, HO2, HF2⟩ := hrel
        obtain ⟨v, rfl⟩ : ∃ v, v = u0 := ⟨_, rfl⟩
        obtain ⟨wo, rfl⟩ : ∃ wo, wo = wr := ⟨_, rfl⟩
        clear HF HR
        by_cases hlt2 : k2 < 40
        · have hr0 := HR2.out
          obtain ⟨vb, vd, rfl⟩ := ow_sliceN hr0
          have HA2 : Hid (Fr (fun k => ob = some k) w (wo.alloc (.cells #[.string ⟨#[33]⟩, .string ⟨#[]⟩] 51))) := HF2.out.thenAlloc _
          have hl2 : l2.length ≤ 1099511627816 := by have := HL2.out; omega
          have HSZ : Hid (B ≤ (wo.alloc (.cells #[.string ⟨#[33]⟩, .string ⟨#[]⟩] 51)).heap.size) := Nat.le_trans HBB.out HA2.out.size
          clear hr0
          go_wp2_with (at_builtin; refine wpl_append2 rfl (.tmp 18) (.tmp 20) 47 rfl B 51 i0 (.agg #[.string ⟨#[]⟩, .string ⟨#[]⟩]) 2 32 Try.underlying47 HI.out HZ0.out HZ1.out HZ2.out rfl (by decide) _ l2.length _ rfl (HR2.out.alloc _) _ 1 [.string ⟨#[33]⟩, .string ⟨#[]⟩] rfl (RdC.of_owns (World.ownsRow_lit (e := 51) wo #[.string ⟨#[33]⟩, .string ⟨#[]⟩] 1 (Nat.le_refl _) (by decide) rfl)) (by simp [Value.oneCell']) (by unfold maxLen; omega) (by omega) HSZ.out ?_; intro v' w8 hown hgrow hap; have HO8 := Lib.hid hown; have HG8 := Lib.hid hgrow; have HA8 := Lib.hid hap; clear hown hgrow hap)
          go_roundw
          case rel =>
            refine ⟨k2 + 1, l2 ++ [(⟨#[33]⟩, ⟨#[]⟩)], by go_num, by omega, ?_, ?_, ?_, ?_⟩
            · show _ ≤ _; have := HL2.out; simp; omega
            · exact rowP_app (K := [(⟨#[33]⟩, ⟨#[]⟩)]) HO8.out
            · intro g hg
              rcases HA8.out g hg with h1 | h1
              · exact HO2.out g h1
              · exact .inr (Nat.le_trans HA2.out.size h1)
            · exact HA2.out.wide (Fr.of_grownBy HG8.out) (fun i hi => HO2.out i hi)
          case measure => simp [intOf]; omega
        · go_wp2
          go_end0
          exact ⟨⟨_, rfl⟩, HF2.out⟩
/-- what is asked of no record is answered as the document does -/
theorem agg_box (w : World) (o : St9B) : ∃ kd who f s n ct, st9 o = [.int .i64 kd, .int .i64 who, .string f, .string s, .int .u64 n, .int .i64 ct] ∧ o.1.do_ = kd := ⟨_, _, _, _, _, _, rfl, rfl⟩
set_option maxRecDepth 100000 in
set_option maxHeartbeats 2000000 in
theorem asked_nil (w : World) (o : St9B) : Calls Try.prog 58 #[.pointer none, .pointer none, .agg (st9 o).toArray] w fun e w' => e = .returned (.bool true) ∧ Below w.heap.size w w' := by
  obtain ⟨kd, who, f, s, n, ct, ho, -⟩ := agg_box w o
  rw [ho]
  clear ho
  obtain ⟨W0, hW0⟩ : ∃ W0, w.alloc (.cells #[.int .i64 kd, .int .i64 who, .string f, .string s, .int .u64 n, .int .i64 ct] 55) = W0 := ⟨_, rfl⟩
  have hb : W0.heap[w.heap.size]? = some (.cells #[.int .i64 kd, .int .i64 who, .string f, .string s, .int .u64 n, .int .i64 ct] 55 (0, 0)) := by rw [← hW0]; exact alloc_new w _
  have HB0 : Hid (Below w.heap.size w W0) := by rw [← hW0]; exact (Below.refl _ _).alloc (Nat.le_refl _) _
  have d0 : W0.cell? ⟨w.heap.size, 0, none⟩ = some (.int .i64 kd) := cell_of_blk hb 0
  have d2 : W0.cell? ⟨w.heap.size, 2, none⟩ = some (.string f) := cell_of_blk hb 2
  have d3 : W0.cell? ⟨w.heap.size, 3, none⟩ = some (.string s) := cell_of_blk hb 3
  have d4 : W0.cell? ⟨w.heap.size, 4, none⟩ = some (.int .u64 n) := cell_of_blk hb 4
  have d5 : W0.cell? ⟨w.heap.size, 5, none⟩ = some (.int .i64 ct) := cell_of_blk hb 5
  clear hb
  go_enter Try.func58, Try.ntmps58
  by_cases h0 : kd = 0
  · subst h0
    go_wp2_with fail
    refine (recSet_nil _ _ _).mono ?_
    rintro e w' ⟨rfl, rfl⟩
    go_wp2_with fail
    refine (refSet_nil _ _ _).mono ?_
    rintro e w' ⟨rfl, rfl⟩
    go_wp2_with fail
    go_ret
    exact ⟨rfl, HB0.out⟩
  have g0 : (kd == 0) = false := beq_eq_false_iff_ne.2 h0
  by_cases h1 : kd = 1
  · subst h1
    go_wp2_with fail
    refine (recGet_nil _ _).mono ?_
    rintro e w' ⟨rfl, rfl⟩
    go_wp2_with fail
    refine (refGet_nil _ _).mono ?_
    rintro e w' ⟨rfl, rfl⟩
    go_wp2_with fail
    go_ret
    exact ⟨rfl, HB0.out⟩
  have g1 : (kd == 1) = false := beq_eq_false_iff_ne.2 h1
  by_cases h2 : kd = 2
  · subst h2
    go_wp2_with fail
    refine (recDel_nil _ _).mono ?_
    rintro e w' ⟨rfl, rfl⟩
    go_wp2_with fail
    refine (refDel_nil _ _).mono ?_
    rintro e w' ⟨rfl, rfl⟩
    go_wp2_with fail
    go_ret
    exact ⟨rfl, HB0.out⟩
  have g2 : (kd == 2) = false := beq_eq_false_iff_ne.2 h2
  by_cases h3 : kd = 3
  · subst h3
    go_wp2_with fail
    refine (pairs_nil _).mono ?_
    rintro e w' ⟨rfl, rfl⟩
    go_wp2_with fail
    refine (pairs_nil _).mono ?_
    rintro e w' ⟨rfl, rfl⟩
    go_wp2_with fail
    refine (refPairs_nil _).mono ?_
    rintro e w' ⟨rfl, rfl⟩
    go_wp2_with fail
    refine (samePairs_nil _).mono ?_
    rintro e w' ⟨rfl, rfl⟩
    go_wp2_with fail
    refine (samePairs_nil _).mono ?_
    rintro e w' ⟨rfl, rfl⟩
    go_wp2_with fail
    refine (spoilP_any W0 w.heap.size (.slice none 0 0) [] (World.ownsRow_nil _ _ _ _) HB0.out.size (by decide)).mono ?_
    rintro e w1 ⟨⟨u1, rfl⟩, hf1⟩
    have HB1 := Lib.hid (HB0.out.trans (hf1.below HB0.out.size (fun i hi => by cases hi)))
    clear hf1
    go_wp2_with fail
    refine (samePairs_nil _).mono ?_
    rintro e w' ⟨rfl, rfl⟩
    go_wp2_with fail
    refine (spoilP_any w1 w.heap.size (.slice none 0 0) [] (World.ownsRow_nil _ _ _ _) HB1.out.size (by decide)).mono ?_
    rintro e w2 ⟨⟨u2, rfl⟩, hf2⟩
    have HB2 := Lib.hid (HB1.out.trans (hf2.below HB1.out.size (fun i hi => by cases hi)))
    clear hf2
    go_wp2_with fail
    refine (pairs_nil _).mono ?_
    rintro e w' ⟨rfl, rfl⟩
    go_wp2_with fail
    refine (samePairs_nil _).mono ?_
    rintro e w' ⟨rfl, rfl⟩
    go_wp2_with fail
    go_ret
    exact ⟨rfl, HB2.out⟩
  have g3 : (kd == 3) = false := beq_eq_false_iff_ne.2 h3
  by_cases h4 : kd = 4
  · subst h4
    go_wp2_with fail
    refine (sample_nil _ _).mono ?_
    rintro e w' ⟨rfl, rfl⟩
    go_wp2_with fail
    refine (refSample_nil _ _).mono ?_
    rintro e w' ⟨rfl, rfl⟩
    go_wp2_with fail
    go_ret
    exact ⟨rfl, HB0.out⟩
  have g4 : (kd == 4) = false := beq_eq_false_iff_ne.2 h4
  by_cases h5 : kd = 5
  · subst h5
    go_wp2_with fail
    refine (recScan_nil _ _ _).mono ?_
    rintro e w' ⟨rfl, rfl⟩
    go_wp2_with fail
    refine (refScan_nil _ _ _).mono ?_
    rintro e w' ⟨rfl, rfl⟩
    go_wp2_with fail
    refine (same9_any W0 (.slice none 0 0) (.slice none 0 0) [] [] (RdC.nil _ _) (RdC.nil _ _)).mono ?_
    rintro e w' ⟨rfl, m, rfl⟩
    go_wp2_with fail
    go_ret
    exact ⟨rfl, HB0.out.trans ((Fr.drewN (fun _ => False) W0 m).below HB0.out.size (fun _ h => h.elim))⟩
  have g5 : (kd == 5) = false := beq_eq_false_iff_ne.2 h5
  by_cases h6 : kd = 6
  · subst h6
    go_wp2_with fail
    refine (recCost_nil _).mono ?_
    rintro e w' ⟨rfl, rfl⟩
    go_wp2_with fail
    refine (refCost_nil _).mono ?_
    rintro e w' ⟨rfl, rfl⟩
    go_wp2_with fail
    go_ret
    exact ⟨rfl, HB0.out⟩
  have g6 : (kd == 6) = false := beq_eq_false_iff_ne.2 h6
  go_wp2_with fail
  refine (recLen_nil _).mono ?_
  rintro e w' ⟨rfl, rfl⟩
  go_wp2_with fail
  refine (refLen_nil _).mono ?_
  rintro e w' ⟨rfl, rfl⟩
  go_wp2_with fail
  go_ret
  exact ⟨rfl, HB0.out⟩
end Go.Proofs.Ytgomilodeaafdaa
