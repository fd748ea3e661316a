/- The walk of GlobOne. -/
import Derived.Test.YthiamkfghnopgaaDoorGlobQ
import Derived.Test.YthiamkfghnopgaaDoorGlobD
import Derived.Deep.RegionHeld3
namespace Go.Proofs.YthiamkfghnopgaaDoor
open Go.RowKit
theorem gm_writ (k : Int) (a b : UInt8) (o : Bytes) (s : ByteArray) : gm (mkS (writ k a b o)) s = means [sgOf k a b o] (bl s) := by
  unfold gm
  have h := signs_writ k a b o []
  rw [List.append_nil, signs_nil] at h
  rw [show bl (mkS (writ k a b o)) = writ k a b o from rfl, h]
/-- what region 7 keeps: the sign's block, its set, and that nothing that was there is written -/
def OneS (w : World) (k : Int) (a b : UInt8) (v3 : Value) (o : Bytes) (w' : World) : Prop := BoxS w' w.heap.size k a b v3 ∧ RdC w' 1 v3 o.length (o.map u8) ∧ Below w.heap.size w w' ∧ w.heap.size < w'.heap.size
section
variable {w : World} {k : Int} {a b : UInt8} {v3 : Value} {o : Bytes} {w' : World}
theorem OneS.out (h : OneS w k a b v3 o w') : w'.cell? ⟨w.heap.size, 0, none⟩ = some (.int .i64 k) ∧ w'.cell? ⟨w.heap.size, 1, none⟩ = some (.int .u8 a.toNat) ∧ w'.cell? ⟨w.heap.size, 2, none⟩ = some (.int .u8 b.toNat) ∧ w'.cell? ⟨w.heap.size, 3, none⟩ = some v3 ∧ OneS w k a b v3 o w' :=
  ⟨h.1.1, h.1.2.1, h.1.2.2.1, h.1.2.2.2, h⟩
theorem OneS.drew (h : OneS w k a b v3 o w') : OneS w k a b v3 o w'.drew :=
  ⟨h.1, h.2.1, ⟨h.2.2.1.os, h.2.2.1.tape, h.2.2.1.output, h.2.2.1.size, h.2.2.1.block⟩, h.2.2.2⟩
theorem OneS.drewN (h : OneS w k a b v3 o w') (n : Nat) : OneS w k a b v3 o (w'.drewN n) :=
  ⟨h.1, h.2.1, below_drewN h.2.2.1 n, h.2.2.2⟩
theorem OneS.below {w'' : World} (h : OneS w k a b v3 o w') (hb : Below w'.heap.size w' w'') : OneS w k a b v3 o w'' :=
  ⟨h.1.below hb h.2.2.2, h.2.1.below hb, h.2.2.1.trans (hb.mono h.2.2.1.size), Nat.lt_of_lt_of_le h.2.2.2 hb.size⟩
end
/-- 'wpAnyH_take', the slot written out -/
theorem takeH {P : Program} {md : Region.Mode} {ops : Array Oper} {Q : Exit → Act → World → Prop} {S : World → Prop} {i d : Nat} {oi : Oper} {v : Value} {fuel : Nat} {listed : Array Bool} {a : Act} {w : World} (hi : ops[i]? = some oi) (hd : (ops[i]?).map (fun o => o.dst) = some (some d))
    (hs : Region.noSelect ops = true) (hf : Region.free md ops listed i = true) (hr : (Region.ready md ops listed).contains i = true)
    (hQ : ∀ c a w, Q (.panic c) (a.put (some d) v) w → Q (.panic c) a w) (hy : YieldsIf P ops S oi v a) (hS : S w)
    (h : wpAnyH P md ops Q S fuel (listed.setIfInBounds i true) (a.put (some d) v) w) : wpAnyH P md ops Q S (fuel + 1) listed a w := by
  have e : oi.dst = some d := by rw [hi] at hd; simpa using hd
  exact wpAnyH_take hi hs hf hr (by rw [e]; exact hQ) hy hS (by rw [e]; exact h)
theorem below_drew1 {B : Nat} {w w' : World} (h : Below B w w') : Below B w w'.drew := ⟨h.os, h.tape, h.output, h.size, h.block⟩
set_option maxRecDepth 100000 in
set_option maxHeartbeats 4000000 in
theorem globOne_walk (w : World) (k : Int) (a b : UInt8) (v3 : Value) (o : Bytes) (x : UInt8) (s : ByteArray) (hr : RdC w 1 v3 o.length (o.map u8)) (ho : o.length ≤ 140737488351232) (hs : s.size ≤ 140737488351232) :
    Calls Tryd.prog 5 #[.agg #[.int .i64 k, .int .u8 a.toNat, .int .u8 b.toNat, v3], .int .u8 x.toNat, .string s] w fun e w' => e = .returned (.bool true) ∧ Below w.heap.size w w' := by
  obtain ⟨p, hp⟩ : ∃ p, mkS (writ k a b o) = p := ⟨_, rfl⟩
  have hps : p.size ≤ 1000000000000000 := by
    have := writ_len k a b o
    rw [← hp, mk_size]; omega
  have hg : ∀ t, gm p t = means [sgOf k a b o] (bl t) := fun t => by rw [← hp]; exact gm_writ k a b o t
  have HG := Lib.hid hg
  have HW : Hid (∀ w : World, RdC w 1 v3 o.length (o.map u8) → Calls Tryd.prog 13 #[.agg #[.int .i64 k, .int .u8 a.toNat, .int .u8 b.toNat, v3]] w fun e w' => e = .returned (.string p) ∧ Below w.heap.size w w') := fun w h => by
    rw [← hp]; exact written_any k a b v3 o w h (by omega)
  clear hp hg
  have hbox := BoxS.new w k a b v3 30
  have hB0 : Below w.heap.size w (w.alloc (.cells #[.int .i64 k, .int .u8 a.toNat, .int .u8 b.toNat, v3] 30)) := (Below.refl _ _).alloc (Nat.le_refl _) _
  have HBX := Lib.hid hbox
  have HB0 := Lib.hid hB0
  clear hbox hB0
  go_enter Tryd.func5, Tryd.ntmps5
  go_wp2_with fail
  refine (wakes_any _).mono ?_
  rintro e w1 ⟨rfl, m1, rfl⟩
  go_wp2_with fail
  refine (HW.out _ (hr.below (below_drewN HB0.out m1))).mono ?_
  rintro e w2 ⟨rfl, hb2⟩
  have hsz1 : ((w.alloc (.cells #[.int .i64 k, .int .u8 a.toNat, .int .u8 b.toNat, v3] 30)).drewN m1).heap.size = w.heap.size + 1 := by
    show (w.alloc _).heap.size = _
    simp
  rw [hsz1] at hb2
  have hB2 : Below w.heap.size w w2 := (below_drewN HB0.out m1).trans (hb2.mono (by omega))
  have hS2 : BoxS w2 w.heap.size k a b v3 := (HBX.out.below (below_drewN (Below.refl (w.heap.size + 1) _) m1) (by omega)).below hb2 (by omega)
  have hR2 : RdC w2 1 v3 o.length (o.map u8) := hr.below hB2
  clear hsz1 hb2 HBX HB0
  have hlt : w.heap.size < w2.heap.size := cell_lt hS2.1
  obtain ⟨w3, hw3⟩ : ∃ w3, w2.alloc (.cells #[.int .u8 x.toNat] 5) = w3 := ⟨_, rfl⟩
  have hb3 : Below w2.heap.size w2 w3 := by rw [← hw3]; exact (Below.refl _ _).alloc (Nat.le_refl _) _
  have HB3 := Lib.hid (hB2.trans (hb3.mono hB2.size))
  have HS3 := Lib.hid (hS2.below hb3 hlt)
  have HR3 := Lib.hid (hR2.below hb3)
  have HL3 := Lib.hid (lit_new w2 x)
  rw [hw3] at HL3
  clear hB2 hS2 hR2 hb3
  obtain ⟨c0, c1, c2, c3⟩ := HS3.out
  by_cases h2 : k = 2
  · have hg1 : ∀ t, gm p t = true := fun t => by rw [HG.out, h2]; exact gm_star t
    have HM1 := Lib.hid (fun (t : ByteArray) (ht : t.size < 4611686018427387904) w => match_lit p t true w (by omega) ht (hg1 t))
    subst h2
    clear hg1 HG
    go_wp2_with (refine wpl_toString rfl (.tmp 14) 28 9 5 rfl _ [x] rfl Tryd.underlying28 Tryd.underlying9 Tryd.underlying5 HL3.out ?_)
    refine (HM1.out s (by omega) _).mono ?_
    rintro e w4 ⟨rfl, m4, rfl⟩
    go_wp2_with fail
    refine (HM1.out ⟨#[x]⟩ (by show 1 < _; decide) _).mono ?_
    rintro e w5 ⟨rfl, m5, rfl⟩
    go_wp2_with fail
    go_ret
    exact ⟨rfl, below_drewN HB3.out _⟩
  · have hg1 : gm p ⟨#[x]⟩ = sgn k a b o x := by
      rw [HG.out]; unfold sgOf; rw [if_neg h2]; exact means_one _ _
    have hg2 : s.size ≠ 1 → gm p s = false := fun h => by
      rw [HG.out]; unfold sgOf; rw [if_neg h2]; exact means_set_len _ _ (by rw [bl_len]; exact h)
    have HM1 := Lib.hid (fun w => match_lit p ⟨#[x]⟩ (sgn k a b o x) w (by omega) (by show 1 < _; decide) hg1)
    have HM2 := Lib.hid (fun w (h : s.size ≠ 1) => match_lit p s false w (by omega) (by omega) (hg2 h))
    have HMM := Lib.hid (fun w (h : RdC w 1 v3 o.length (o.map u8)) => means_any k a b v3 o x w h)
    have HM1 : Hid (∀ w', Calls Tryd.prog 8 #[.string p, .string ⟨#[x]⟩] w' fun e w'' => e = .returned (.bool (sgn k a b o x)) ∧ (OneS w k a b v3 o w' → OneS w k a b v3 o w'')) := fun w' => (HM1.out w').mono fun e w'' ⟨h1, m, h2⟩ => ⟨h1, fun h => by rw [h2]; exact h.drewN m⟩
    have HM2 : Hid (∀ w', s.size ≠ 1 → Calls Tryd.prog 8 #[.string p, .string s] w' fun e w'' => e = .returned (.bool false) ∧ (OneS w k a b v3 o w' → OneS w k a b v3 o w'')) := fun w' hn => (HM2.out w' hn).mono fun e w'' ⟨h1, m, h2⟩ => ⟨h1, fun h => by rw [h2]; exact h.drewN m⟩
    obtain ⟨B, hB⟩ : ∃ B, sgn k a b o x = B := ⟨_, rfl⟩
    rw [hB] at HM1 HMM
    clear hg1 hg2 HG hB
    have g2 : (k == 2) = false := by simpa using h2
    go_upto_region 7 with (refine wpl_toString rfl (.tmp 14) 28 9 5 rfl _ [x] rfl Tryd.underlying28 Tryd.underlying9 Tryd.underlying5 HL3.out ?_)
    have HO : OneS w k a b v3 o w3 := ⟨HS3.out, HR3.out, HB3.out, cell_lt c0⟩
    have gB : (B == B) = true := by cases B <;> rfl
    clear HS3 HR3 HB3 HL3 HW c0 c1 c2 c3 hw3
    by_cases hone : s.size = 1
    · have g3 : ((s.size : Int) == 1) = true := by rw [hone]; rfl
      clear HM2
      refine wp_region_held_drew (S := (fun w' => w'.cell? ⟨w.heap.size, 0, none⟩ = some (.int .i64 k) ∧ w'.cell? ⟨w.heap.size, 1, none⟩ = some (.int .u8 a.toNat) ∧ w'.cell? ⟨w.heap.size, 2, none⟩ = some (.int .u8 b.toNat) ∧ w'.cell? ⟨w.heap.size, 3, none⟩ = some v3 ∧ OneS w k a b v3 o w')) (by kernel_rfl) ?_ (fun hHeld => ?_)
      · exact OneS.out (OneS.drew HO)
      refine takeH (i := 0) (d := 27) (v := ?va0) rfl (by kernel_rfl) (by kernel_rfl) (by kernel_rfl) (by kernel_rfl) (fun _ _ _ h => h) (Or.inl ⟨by kernel_rfl, ?hya0⟩) hHeld ?resta0
      case hya0 =>
        intro w hSw
        try dsimp only at hSw
        first | (go_simp; done) | (go_simp; with_reducible rfl)
      try simp only [Act.put, List.setIfInBounds_toArray, List.set_cons_zero, List.set_cons_succ]
      refine takeH (i := 1) (d := 28) (v := ?va1) rfl (by kernel_rfl) (by kernel_rfl) (by kernel_rfl) (by kernel_rfl) (fun _ _ _ h => h) (Or.inl ⟨by kernel_rfl, ?hya1⟩) hHeld ?resta1
      case hya1 =>
        intro w hSw
        try dsimp only at hSw
        first | (go_simp; done) | (go_simp; with_reducible rfl)
      try simp only [Act.put, List.setIfInBounds_toArray, List.set_cons_zero, List.set_cons_succ]
      refine takeH (i := 3) (d := 30) (v := ?va2) rfl (by kernel_rfl) (by kernel_rfl) (by kernel_rfl) (by kernel_rfl) (fun _ _ _ h => h) (Or.inl ⟨by kernel_rfl, ?hya2⟩) hHeld ?resta2
      case hya2 =>
        intro w hSw
        try dsimp only at hSw
        first | (go_simp; done) | (go_simp; with_reducible rfl)
      try simp only [Act.put, List.setIfInBounds_toArray, List.set_cons_zero, List.set_cons_succ]
      refine takeH (i := 4) (d := 31) (v := ?va3) rfl (by kernel_rfl) (by kernel_rfl) (by kernel_rfl) (by kernel_rfl) (fun _ _ _ h => h) (Or.inl ⟨by kernel_rfl, ?hya3⟩) hHeld ?resta3
      case hya3 =>
        intro w hSw
        try dsimp only at hSw
        first | (go_simp; done) | (go_simp; with_reducible rfl)
      try simp only [Act.put, List.setIfInBounds_toArray, List.set_cons_zero, List.set_cons_succ]
      refine wpAnyH_ready (rs := [2]) (by kernel_rfl) (by simp) ?_
      refine AllReadyH.cons rfl (fun K hK => ?_) AllReadyH.nil
      have HH := Lib.hid hHeld
      go_simp
      go_at_call 8; refine (HM1.out _).mono ?_; rintro e w' ⟨rfl, hk⟩
      refine hK.out _ _ ?_ (fun hNew => ?_)
      · exact OneS.out (hk HH.out.2.2.2.2)
      clear hK K HH
      have hHeld := hNew
      clear hNew
      try simp only [Act.put, List.setIfInBounds_toArray, List.set_cons_zero, List.set_cons_succ]
      refine wpAnyH_ready (rs := [5]) (by kernel_rfl) (by simp) ?_
      refine AllReadyH.cons rfl (fun K hK => ?_) AllReadyH.nil
      have HH := Lib.hid hHeld
      go_simp
      go_at_call 14; refine (HMM.out _ HH.out.2.2.2.2.2.1).mono ?_; rintro e w' ⟨rfl, hb⟩
      refine hK.out _ _ ?_ (fun hNew => ?_)
      · exact OneS.out (OneS.below HH.out.2.2.2.2 hb)
      clear hK K HH
      have hHeld := hNew
      clear hNew
      try simp only [Act.put, List.setIfInBounds_toArray, List.set_cons_zero, List.set_cons_succ]
      refine takeH (i := 6) (d := 33) (v := ?va6) rfl (by kernel_rfl) (by kernel_rfl) (by kernel_rfl) (by kernel_rfl) (fun _ _ _ h => h) (Or.inl ⟨by kernel_rfl, ?hya6⟩) hHeld ?resta6
      case hya6 =>
        intro w hSw
        try dsimp only at hSw
        first | (go_simp; done) | (go_simp; with_reducible rfl)
      try simp only [Act.put, List.setIfInBounds_toArray, List.set_cons_zero, List.set_cons_succ]
      refine takeH (i := 7) (d := 34) (v := ?va7) rfl (by kernel_rfl) (by kernel_rfl) (by kernel_rfl) (by kernel_rfl) (fun _ _ _ h => h) (Or.inl ⟨by kernel_rfl, ?hya7⟩) hHeld ?resta7
      case hya7 =>
        intro w hSw
        try dsimp only at hSw
        first | (go_simp; done) | (go_simp; with_reducible rfl)
      try simp only [Act.put, List.setIfInBounds_toArray, List.set_cons_zero, List.set_cons_succ]
      refine takeH (i := 8) (d := 35) (v := ?va8) rfl (by kernel_rfl) (by kernel_rfl) (by kernel_rfl) (by kernel_rfl) (fun _ _ _ h => h) (Or.inl ⟨by kernel_rfl, ?hya8⟩) hHeld ?resta8
      case hya8 =>
        intro w hSw
        try dsimp only at hSw
        first | (go_simp; done) | (go_simp; with_reducible rfl)
      try simp only [Act.put, List.setIfInBounds_toArray, List.set_cons_zero, List.set_cons_succ]
      refine takeH (i := 9) (d := 36) (v := ?va9) rfl (by kernel_rfl) (by kernel_rfl) (by kernel_rfl) (by kernel_rfl) (fun _ _ _ h => h) (Or.inl ⟨by kernel_rfl, ?hya9⟩) hHeld ?resta9
      case hya9 =>
        intro w hSw
        try dsimp only at hSw
        first | (go_simp; done) | (go_simp; with_reducible rfl)
      try simp only [Act.put, List.setIfInBounds_toArray, List.set_cons_zero, List.set_cons_succ]
      refine takeH (i := 10) (d := 37) (v := ?va10) rfl (by kernel_rfl) (by kernel_rfl) (by kernel_rfl) (by kernel_rfl) (fun _ _ _ h => h) (Or.inl ⟨by kernel_rfl, ?hya10⟩) hHeld ?resta10
      case hya10 =>
        intro w hSw
        try dsimp only at hSw
        first | (go_simp; done) | (go_simp; with_reducible rfl)
      try simp only [Act.put, List.setIfInBounds_toArray, List.set_cons_zero, List.set_cons_succ]
      refine takeH (i := 11) (d := 38) (v := ?va11) rfl (by kernel_rfl) (by kernel_rfl) (by kernel_rfl) (by kernel_rfl) (fun _ _ _ h => h) (Or.inl ⟨by kernel_rfl, ?hya11⟩) hHeld ?resta11
      case hya11 =>
        intro w hSw
        try dsimp only at hSw
        first | (go_simp; done) | (go_simp; with_reducible rfl)
      try simp only [Act.put, List.setIfInBounds_toArray, List.set_cons_zero, List.set_cons_succ]
      refine takeH (i := 12) (d := 39) (v := undef) rfl (by kernel_rfl) (by kernel_rfl) (by kernel_rfl) (by kernel_rfl) (fun _ _ _ h => h) (Or.inr ⟨by kernel_rfl, rfl⟩) hHeld ?_
      try simp only [Act.put, List.setIfInBounds_toArray, List.set_cons_zero, List.set_cons_succ]
      refine takeH (i := 13) (d := 40) (v := undef) rfl (by kernel_rfl) (by kernel_rfl) (by kernel_rfl) (by kernel_rfl) (fun _ _ _ h => h) (Or.inr ⟨by kernel_rfl, rfl⟩) hHeld ?_
      try simp only [Act.put, List.setIfInBounds_toArray, List.set_cons_zero, List.set_cons_succ]
      refine takeH (i := 14) (d := 41) (v := undef) rfl (by kernel_rfl) (by kernel_rfl) (by kernel_rfl) (by kernel_rfl) (fun _ _ _ h => h) (Or.inr ⟨by kernel_rfl, rfl⟩) hHeld ?_
      try simp only [Act.put, List.setIfInBounds_toArray, List.set_cons_zero, List.set_cons_succ]
      refine takeH (i := 15) (d := 42) (v := undef) rfl (by kernel_rfl) (by kernel_rfl) (by kernel_rfl) (by kernel_rfl) (fun _ _ _ h => h) (Or.inr ⟨by kernel_rfl, rfl⟩) hHeld ?_
      try simp only [Act.put, List.setIfInBounds_toArray, List.set_cons_zero, List.set_cons_succ]
      refine takeH (i := 16) (d := 43) (v := ?va16) rfl (by kernel_rfl) (by kernel_rfl) (by kernel_rfl) (by kernel_rfl) (fun _ _ _ h => h) (Or.inl ⟨by kernel_rfl, ?hya16⟩) hHeld ?resta16
      case hya16 =>
        intro w hSw
        try dsimp only at hSw
        first | (go_simp; done) | (go_simp; with_reducible rfl)
      try simp only [Act.put, List.setIfInBounds_toArray, List.set_cons_zero, List.set_cons_succ]
      refine takeH (i := 17) (d := 44) (v := ?va17) rfl (by kernel_rfl) (by kernel_rfl) (by kernel_rfl) (by kernel_rfl) (fun _ _ _ h => h) (Or.inl ⟨by kernel_rfl, ?hya17⟩) hHeld ?resta17
      case hya17 =>
        intro w hSw
        try dsimp only at hSw
        first | (go_simp; done) | (go_simp; with_reducible rfl)
      try simp only [Act.put, List.setIfInBounds_toArray, List.set_cons_zero, List.set_cons_succ]
      refine takeH (i := 18) (d := 6) (v := ?va18) rfl (by kernel_rfl) (by kernel_rfl) (by kernel_rfl) (by kernel_rfl) (fun _ _ _ h => h) (Or.inl ⟨by kernel_rfl, ?hya18⟩) hHeld ?resta18
      case hya18 =>
        intro w hSw
        try dsimp only at hSw
        first | (go_simp; done) | (go_simp; with_reducible rfl)
      try simp only [Act.put, List.setIfInBounds_toArray, List.set_cons_zero, List.set_cons_succ]
      refine wpAnyH_done (by kernel_rfl) ?_ _
      go_wp2_with fail
      go_ret
      exact ⟨rfl, hHeld.2.2.2.2.2.2.1⟩
    · have g3 : ((s.size : Int) == 1) = false := by
        rw [beq_eq_false_iff_ne]; omega
      refine wp_region_held_drew (S := (fun w' => w'.cell? ⟨w.heap.size, 0, none⟩ = some (.int .i64 k) ∧ w'.cell? ⟨w.heap.size, 1, none⟩ = some (.int .u8 a.toNat) ∧ w'.cell? ⟨w.heap.size, 2, none⟩ = some (.int .u8 b.toNat) ∧ w'.cell? ⟨w.heap.size, 3, none⟩ = some v3 ∧ OneS w k a b v3 o w')) (by kernel_rfl) ?_ (fun hHeld => ?_)
      · exact OneS.out (OneS.drew HO)
      refine takeH (i := 0) (d := 27) (v := ?vb0) rfl (by kernel_rfl) (by kernel_rfl) (by kernel_rfl) (by kernel_rfl) (fun _ _ _ h => h) (Or.inl ⟨by kernel_rfl, ?hyb0⟩) hHeld ?restb0
      case hyb0 =>
        intro w hSw
        try dsimp only at hSw
        first | (go_simp; done) | (go_simp; with_reducible rfl)
      try simp only [Act.put, List.setIfInBounds_toArray, List.set_cons_zero, List.set_cons_succ]
      refine takeH (i := 1) (d := 28) (v := ?vb1) rfl (by kernel_rfl) (by kernel_rfl) (by kernel_rfl) (by kernel_rfl) (fun _ _ _ h => h) (Or.inl ⟨by kernel_rfl, ?hyb1⟩) hHeld ?restb1
      case hyb1 =>
        intro w hSw
        try dsimp only at hSw
        first | (go_simp; done) | (go_simp; with_reducible rfl)
      try simp only [Act.put, List.setIfInBounds_toArray, List.set_cons_zero, List.set_cons_succ]
      refine takeH (i := 3) (d := 30) (v := ?vb2) rfl (by kernel_rfl) (by kernel_rfl) (by kernel_rfl) (by kernel_rfl) (fun _ _ _ h => h) (Or.inl ⟨by kernel_rfl, ?hyb2⟩) hHeld ?restb2
      case hyb2 =>
        intro w hSw
        try dsimp only at hSw
        first | (go_simp; done) | (go_simp; with_reducible rfl)
      try simp only [Act.put, List.setIfInBounds_toArray, List.set_cons_zero, List.set_cons_succ]
      refine takeH (i := 4) (d := 31) (v := ?vb3) rfl (by kernel_rfl) (by kernel_rfl) (by kernel_rfl) (by kernel_rfl) (fun _ _ _ h => h) (Or.inl ⟨by kernel_rfl, ?hyb3⟩) hHeld ?restb3
      case hyb3 =>
        intro w hSw
        try dsimp only at hSw
        first | (go_simp; done) | (go_simp; with_reducible rfl)
      try simp only [Act.put, List.setIfInBounds_toArray, List.set_cons_zero, List.set_cons_succ]
      refine wpAnyH_ready (rs := [2]) (by kernel_rfl) (by simp) ?_
      refine AllReadyH.cons rfl (fun K hK => ?_) AllReadyH.nil
      have HH := Lib.hid hHeld
      go_simp
      go_at_call 8; refine (HM1.out _).mono ?_; rintro e w' ⟨rfl, hk⟩
      refine hK.out _ _ ?_ (fun hNew => ?_)
      · exact OneS.out (hk HH.out.2.2.2.2)
      clear hK K HH
      have hHeld := hNew
      clear hNew
      try simp only [Act.put, List.setIfInBounds_toArray, List.set_cons_zero, List.set_cons_succ]
      refine wpAnyH_ready (rs := [5]) (by kernel_rfl) (by simp) ?_
      refine AllReadyH.cons rfl (fun K hK => ?_) AllReadyH.nil
      have HH := Lib.hid hHeld
      go_simp
      go_at_call 14; refine (HMM.out _ HH.out.2.2.2.2.2.1).mono ?_; rintro e w' ⟨rfl, hb⟩
      refine hK.out _ _ ?_ (fun hNew => ?_)
      · exact OneS.out (OneS.below HH.out.2.2.2.2 hb)
      clear hK K HH
      have hHeld := hNew
      clear hNew
      try simp only [Act.put, List.setIfInBounds_toArray, List.set_cons_zero, List.set_cons_succ]
      refine takeH (i := 6) (d := 33) (v := ?vb6) rfl (by kernel_rfl) (by kernel_rfl) (by kernel_rfl) (by kernel_rfl) (fun _ _ _ h => h) (Or.inl ⟨by kernel_rfl, ?hyb6⟩) hHeld ?restb6
      case hyb6 =>
        intro w hSw
        try dsimp only at hSw
        first | (go_simp; done) | (go_simp; with_reducible rfl)
      try simp only [Act.put, List.setIfInBounds_toArray, List.set_cons_zero, List.set_cons_succ]
      refine takeH (i := 7) (d := 34) (v := ?vb7) rfl (by kernel_rfl) (by kernel_rfl) (by kernel_rfl) (by kernel_rfl) (fun _ _ _ h => h) (Or.inl ⟨by kernel_rfl, ?hyb7⟩) hHeld ?restb7
      case hyb7 =>
        intro w hSw
        try dsimp only at hSw
        first | (go_simp; done) | (go_simp; with_reducible rfl)
      try simp only [Act.put, List.setIfInBounds_toArray, List.set_cons_zero, List.set_cons_succ]
      refine takeH (i := 8) (d := 35) (v := ?vb8) rfl (by kernel_rfl) (by kernel_rfl) (by kernel_rfl) (by kernel_rfl) (fun _ _ _ h => h) (Or.inl ⟨by kernel_rfl, ?hyb8⟩) hHeld ?restb8
      case hyb8 =>
        intro w hSw
        try dsimp only at hSw
        first | (go_simp; done) | (go_simp; with_reducible rfl)
      try simp only [Act.put, List.setIfInBounds_toArray, List.set_cons_zero, List.set_cons_succ]
      refine takeH (i := 9) (d := 36) (v := ?vb9) rfl (by kernel_rfl) (by kernel_rfl) (by kernel_rfl) (by kernel_rfl) (fun _ _ _ h => h) (Or.inl ⟨by kernel_rfl, ?hyb9⟩) hHeld ?restb9
      case hyb9 =>
        intro w hSw
        try dsimp only at hSw
        first | (go_simp; done) | (go_simp; with_reducible rfl)
      try simp only [Act.put, List.setIfInBounds_toArray, List.set_cons_zero, List.set_cons_succ]
      refine takeH (i := 10) (d := 37) (v := ?vb10) rfl (by kernel_rfl) (by kernel_rfl) (by kernel_rfl) (by kernel_rfl) (fun _ _ _ h => h) (Or.inl ⟨by kernel_rfl, ?hyb10⟩) hHeld ?restb10
      case hyb10 =>
        intro w hSw
        try dsimp only at hSw
        first | (go_simp; done) | (go_simp; with_reducible rfl)
      try simp only [Act.put, List.setIfInBounds_toArray, List.set_cons_zero, List.set_cons_succ]
      refine takeH (i := 11) (d := 38) (v := ?vb11) rfl (by kernel_rfl) (by kernel_rfl) (by kernel_rfl) (by kernel_rfl) (fun _ _ _ h => h) (Or.inl ⟨by kernel_rfl, ?hyb11⟩) hHeld ?restb11
      case hyb11 =>
        intro w hSw
        try dsimp only at hSw
        first | (go_simp; done) | (go_simp; with_reducible rfl)
      try simp only [Act.put, List.setIfInBounds_toArray, List.set_cons_zero, List.set_cons_succ]
      refine takeH (i := 12) (d := 39) (v := ?vb12) rfl (by kernel_rfl) (by kernel_rfl) (by kernel_rfl) (by kernel_rfl) (fun _ _ _ h => h) (Or.inl ⟨by kernel_rfl, ?hyb12⟩) hHeld ?restb12
      case hyb12 =>
        intro w hSw
        try dsimp only at hSw
        first | (go_simp; done) | (go_simp; with_reducible rfl)
      try simp only [Act.put, List.setIfInBounds_toArray, List.set_cons_zero, List.set_cons_succ]
      refine takeH (i := 13) (d := 40) (v := ?vb13) rfl (by kernel_rfl) (by kernel_rfl) (by kernel_rfl) (by kernel_rfl) (fun _ _ _ h => h) (Or.inl ⟨by kernel_rfl, ?hyb13⟩) hHeld ?restb13
      case hyb13 =>
        intro w hSw
        try dsimp only at hSw
        first | (go_simp; done) | (go_simp; with_reducible rfl)
      try simp only [Act.put, List.setIfInBounds_toArray, List.set_cons_zero, List.set_cons_succ]
      refine wpAnyH_ready (rs := [14]) (by kernel_rfl) (by simp) ?_
      refine AllReadyH.cons rfl (fun K hK => ?_) AllReadyH.nil
      have HH := Lib.hid hHeld
      go_simp
      go_at_call 8; refine (HM2.out _ hone).mono ?_; rintro e w' ⟨rfl, hk⟩
      refine hK.out _ _ ?_ (fun hNew => ?_)
      · exact OneS.out (hk HH.out.2.2.2.2)
      clear hK K HH
      have hHeld := hNew
      clear hNew
      try simp only [Act.put, List.setIfInBounds_toArray, List.set_cons_zero, List.set_cons_succ]
      refine takeH (i := 15) (d := 42) (v := ?vb15) rfl (by kernel_rfl) (by kernel_rfl) (by kernel_rfl) (by kernel_rfl) (fun _ _ _ h => h) (Or.inl ⟨by kernel_rfl, ?hyb15⟩) hHeld ?restb15
      case hyb15 =>
        intro w hSw
        try dsimp only at hSw
        first | (go_simp; done) | (go_simp; with_reducible rfl)
      try simp only [Act.put, List.setIfInBounds_toArray, List.set_cons_zero, List.set_cons_succ]
      refine takeH (i := 16) (d := 43) (v := ?vb16) rfl (by kernel_rfl) (by kernel_rfl) (by kernel_rfl) (by kernel_rfl) (fun _ _ _ h => h) (Or.inl ⟨by kernel_rfl, ?hyb16⟩) hHeld ?restb16
      case hyb16 =>
        intro w hSw
        try dsimp only at hSw
        first | (go_simp; done) | (go_simp; with_reducible rfl)
      try simp only [Act.put, List.setIfInBounds_toArray, List.set_cons_zero, List.set_cons_succ]
      refine takeH (i := 17) (d := 44) (v := ?vb17) rfl (by kernel_rfl) (by kernel_rfl) (by kernel_rfl) (by kernel_rfl) (fun _ _ _ h => h) (Or.inl ⟨by kernel_rfl, ?hyb17⟩) hHeld ?restb17
      case hyb17 =>
        intro w hSw
        try dsimp only at hSw
        first | (go_simp; done) | (go_simp; with_reducible rfl)
      try simp only [Act.put, List.setIfInBounds_toArray, List.set_cons_zero, List.set_cons_succ]
      refine takeH (i := 18) (d := 6) (v := ?vb18) rfl (by kernel_rfl) (by kernel_rfl) (by kernel_rfl) (by kernel_rfl) (fun _ _ _ h => h) (Or.inl ⟨by kernel_rfl, ?hyb18⟩) hHeld ?restb18
      case hyb18 =>
        intro w hSw
        try dsimp only at hSw
        first | (go_simp; done) | (go_simp; with_reducible rfl)
      try simp only [Act.put, List.setIfInBounds_toArray, List.set_cons_zero, List.set_cons_succ]
      refine wpAnyH_done (by kernel_rfl) ?_ _
      go_wp2_with fail
      go_ret
      exact ⟨rfl, hHeld.2.2.2.2.2.2.1⟩
open Go.ChangeShapes Go.WideShapes Go.ChangeAt Go.RowKit
theorem globOne_laid (os : Os) : laidMet Tryd.prog Rows.globOneRow.laid ((laidWorld os).forCall (fun _ _ => 0) ⟨#[], #[.agg #[.int .i64 0, .int .u8 0, .int .u8 0, .slice none 0 0], .int .u8 0, .string ⟨#[]⟩], []⟩).memory :=
  laidMet_of_run' 8 (by kernel_rfl) (by kernel_rfl)
theorem globOne_reads (os : Os) (H : Type) (enc : TypeId × Value → H) : DataW.whole enc Tryd.prog ((laidWorld os).forCall (fun _ _ => 0) ⟨#[], #[.agg #[.int .i64 0, .int .u8 0, .int .u8 0, .slice none 0 0], .int .u8 0, .string ⟨#[]⟩], []⟩).memory Tryd.f5.params.toList Rows.globOneSpec.vars false (#[.agg #[.int .i64 0, .int .u8 0, .int .u8 0, .slice none 0 0], .int .u8 0, .string ⟨#[]⟩] : Array Value).toList 8 = some ([.agg [.lit (.int .i64 0), .lit (.int .u8 0), .lit (.int .u8 0), .nil], .lit (.int .u8 0), .lit (.string [])], [], []) := by kernel_rfl
set_option maxRecDepth 100000 in
theorem globOne_lifted (os : Os) (started : os.Started) (H : Type) (enc : TypeId × Value → H) (F : Stop.Interp) :
    ReturnsInHanded {} Tryd.checked os 5 .any ((OpenSpec.ofChange Rows.globOneSpec).preRow enc Tryd.prog Tryd.f5 Rows.globOneRow.domain false Rows.globOneRow.laid) (((OpenSpec.ofChange Rows.globOneSpec).at F).post enc Tryd.prog Tryd.f5 false true false false) := by
  refine returnsInHanded_of_row (C := Tryd.checked) (s := OpenSpec.ofChange Rows.globOneSpec) own started (by kernel_rfl) Tryd.func5
    (witness_row_at (enc := enc) (C := Tryd.checked) false (laidWorld os) #[.agg #[.int .i64 0, .int .u8 0, .int .u8 0, .slice none 0 0], .int .u8 0, .string ⟨#[]⟩] rfl (by kernel_rfl) (by kernel_rfl) (by kernel_rfl)
      (OpenSpec.preRow_of_cond 8 (globOne_reads os H enc) (by kernel_rfl) (fun k hk => by cases hk) (by kernel_rfl) (globOne_laid os))) ?_
  intro W base args ds gs before hval0 hW _ hcond hsz0 hL _ _
  have hval : ∀ (j : Nat) t v, Tryd.f5.params[j]? = some t → args[j]? = some v → Value.okWide Tryd.prog W .any base t v := hval0
  have hW' := hW
  obtain ⟨p, q, hA0, hV, rfl, hfz, hnd⟩ := hW
  have hA : DataW.TrodAll enc Tryd.prog W 0 (fun _ => true) true Tryd.f5.params.toList args.toList ds p := hA0
  rw [Tryd.params5] at hA hval
  obtain ⟨v0, vs0, d0, ds0, p0, q0, hargs, rfl, rfl, h0, r0⟩ := trodAll_cons hA
  obtain ⟨v1, vs1, d1, ds1, p1, q1, rfl, rfl, rfl, h1, r1⟩ := trodAll_cons r0
  obtain ⟨v2, vs2, d2, ds2, p2, q2, rfl, rfl, rfl, h2, r2⟩ := trodAll_cons r1
  obtain ⟨rfl, rfl, rfl⟩ := trodAll_nil r2
  obtain rfl : args = #[v0, v1, v2] := by cases args; simp_all
  obtain ⟨rfl, rfl⟩ := trodVars_none hV
  have hsz : (DataW.weightsEach Tryd.prog [30, 5, 9] [d0, d1, d2]).all (fun x => decide (x ≤ reachBytes)) = true := by
    exact hsz0
  clear hsz0
  obtain ⟨hw0, hsz0⟩ := weights_cons hsz
  obtain ⟨k0, a0, b0, s0, l0, rfl, hr0, ho0⟩ := open_sign (hval 0 30 v0 rfl rfl) h0 hw0
  obtain ⟨hw1, hsz1⟩ := weights_cons hsz0
  obtain ⟨x1, rfl⟩ := open_byte Tryd.underlying5 (hval 1 5 v1 rfl rfl) h1
  obtain ⟨hw2, hsz2⟩ := weights_cons hsz1
  obtain ⟨x2, rfl, hs2⟩ := open_strW Tryd.underlying9 (hval 2 9 v2 rfl rfl) h2 hw2
  clear hA0 hval0
  refine (globOne_walk W k0 a0 b0 s0 l0 x1 x2 hr0 ho0 hs2).mono fun e W' ⟨he, bel⟩ => ?_
  subst he
  exact ⟨_, rfl, law_post laidOut Tryd.underlying4 (by kernel_rfl) rfl (by kernel_rfl) hW' rfl bel⟩

theorem globOne_said : Rows.GlobOneSaid :=
  OpenClaim.holds_of_cond 5 Tryd.f5 rfl rfl rfl rfl rfl rfl rfl ⟨rfl, rfl, rfl, rfl, rfl⟩ rfl rfl rfl rfl rfl (by kernel_rfl) Tryd.func5 (by kernel_rfl)
    (of_decide_eq_true (by kernel_rfl)) (by unfold Func.isWrapper; first | (rw [if_pos (by decide +kernel)]; kernel_rfl) | (rw [if_neg (by decide +kernel)]; exact ⟨rfl, rfl⟩))
    (fun os started H enc _ F => by rw [OpenClaim.pre_eq_preRow]; exact globOne_lifted os started H enc F)
theorem globOne_plain (f : FuncId) (fn : Func) (hf : Tryd.pinned.checked.prog.funcNamed "pantry/pantrylaw03.GlobOne" = some f) (hfn : Tryd.pinned.checked.prog.funcs[f]? = some fn) :
    false = Tryd.pinned.checked.prog.looks [] ∧ ∀ (j : Nat) t, fn.params[j]? = some t → Tryd.pinned.checked.prog.wantsStandIn t = false := by
  obtain rfl : f = 5 := Option.some.inj ((show Tryd.prog.funcNamed "pantry/pantrylaw03.GlobOne" = some 5 by kernel_rfl).symm.trans hf) |>.symm
  obtain rfl : fn = Tryd.f5 := (Option.some.inj (Tryd.func5.symm.trans hfn)).symm
  refine ⟨by kernel_rfl, fun j t ht => ?_⟩
  have hall : (Tryd.f5.params.toList.all fun t => Tryd.prog.wantsStandIn t == false) = true := by kernel_rfl
  have hm := List.all_eq_true.1 hall t (Array.mem_toList_iff.2 (Array.mem_of_getElem? ht))
  exact eq_of_beq hm
theorem globOne_card : Rows.GlobOneCardSaid :=
  Claim7.holds_tied_plain_at .later [] _ _ _ _ globOne_said (fun _ h => by cases h) (by kernel_rfl) (fun _ h => by cases h) globOne_row_tie rfl ⟨rfl, rfl⟩ (by kernel_rfl) rfl globOne_plain (by kernel_rfl)
end Go.Proofs.YthiamkfghnopgaaDoor
