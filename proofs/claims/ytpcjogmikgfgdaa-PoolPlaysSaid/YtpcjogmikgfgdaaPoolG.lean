/- The pool: Offer. No condition. -/
import Derived.Test.YtpcjogmikgfgdaaPoolF
import Derived.Deep.AppendLies
namespace Go.Proofs.Ytpcjogmikgfgdaa
open Go.RowKit Go.Sort
def offS (l : List Cd) (c : Cd) : List Cd := sortC (dropK c.key l ++ [c])
def offB (cap : Nat) (l : List Cd) (c : Cd) : Bool := match (offS l c)[cap]? with | none => true | some x => !eqC x c
def OfferPost (w : World) (B p cap : Nat) (vr : Value) (l : List Cd) (c : Cd) (e : Ending) (w' : World) : Prop :=
  ∃ vr', e = .returned (.bool (offB cap l c)) ∧ PoolAt w' B p cap vr' ((offS l c).take cap) ∧ (∀ g, vr'.ownBlock = some g → vr.ownBlock = some g ∨ w.heap.size ≤ g) ∧ Fr (fun i => i = p ∨ vr.ownBlock = some i) w w'
theorem cells_two_new (w : World) (x y : Value) (t : TypeId) : ∀ j u, [x, y][j]? = some u → (w.alloc (.cells #[x, y] t)).cell? ((⟨w.heap.size, 0, none⟩ : Addr).add j) = some u := by
  intro j u hj
  have h := alloc_at w (.cells #[x, y] t)
  match j, hj with
  | 0, hj => cases hj; exact (cell_of_blk h 0).trans rfl
  | 1, hj => cases hj; exact (cell_of_blk h 1).trans rfl
  | j + 2, hj => simp at hj
/-- the row appended to, then stored -/
theorem append_fin {w1 w2 : World} {B p cap g2 cap2 : Nat} {vr : Value} {l : List Cd} {c : Cd} (H : PoolAt w1 B p cap vr l) (hl : l.length ≤ 16) (o : Obj)
    (hgrow : (w1.alloc o).grownBy w2 vr.ownBlock) (hown : w2.ownsRow B 73 2 (.slice (some ⟨g2, 0, none⟩) (l.length + 1) cap2) (l.length + 1) (clC l ++ [.string c.key, .int .u64 c.rank])) :
    PoolAt (w2.setCell ⟨p, 1, none⟩ (.slice (some ⟨g2, 0, none⟩) (l.length + 1) cap2)) B p cap (.slice (some ⟨g2, 0, none⟩) (l.length + 1) cap2) (l ++ [c]) ∧ w2.cell? ⟨p, 1, none⟩ = some vr ∧ w2.frozen? ⟨p, 1, none⟩ = false ∧ Fr (fun k => k = p ∨ vr.ownBlock = some k) w1 (w2.setCell ⟨p, 1, none⟩ (.slice (some ⟨g2, 0, none⟩) (l.length + 1) cap2)) := by
  have hf : Fr (fun k => vr.ownBlock = some k) w1 w2 := (Fr.alloc _ w1 o).wide (Fr.of_grownBy hgrow) (fun i hi => .inl hi)
  have hp2 := (hf.block p H.lt H.pr).trans H.blk
  have hr : w2.ownsRow B 73 2 (.slice (some ⟨g2, 0, none⟩) (l.length + 1) cap2) (l ++ [c]).length (clC (l ++ [c])) := by
    have e1 : clC (l ++ [c]) = clC l ++ [.string c.key, .int .u64 c.rank] := by unfold clC; rw [List.flatMap_append, List.flatMap_singleton]; rfl
    rw [e1, List.length_append]
    exact hown
  exact ⟨PoolAt.stored hp2 hr H.bp (by simp; omega) H.cap1 H.cap2, cell_of_blk hp2 1, free_of_blk hp2 1, (hf.mono (fun _ h _ => .inr h)).wide (Fr.setCell w2 ⟨p, 1, none⟩ _) (fun i hi => .inl (.inl hi))⟩
theorem clC_take (l : List Cd) (k : Nat) : (clC l).take (k * 2) = clC (l.take k) := by
  induction l generalizing k with
  | nil => simp [clC]
  | cons a l ih =>
    cases k with
    | zero => simp [clC]
    | succ k =>
      have e : (k + 1) * 2 = k * 2 + 2 := by omega
      rw [e, List.take_succ_cons, clC_cons, clC_cons, ← ih k]
      rfl
theorem own_cut {w : World} {B g n cap : Nat} {l : List Cd} (h : w.ownsRow B 73 2 (.slice (some ⟨g, 0, none⟩) n cap) l.length (clC l)) (k : Nat) (hk : k ≤ l.length) :
    w.ownsRow B 73 2 (.slice (some ⟨g, 0, none⟩) k cap) (l.take k).length (clC (l.take k)) := by
  have hlk : (l.take k).length = k := by rw [List.length_take]; omega
  obtain ⟨_, ⟨h0, _⟩ | ⟨g', cap', cur, he, hbase, hb, h1, h2, h3, h4⟩⟩ := h
  · cases h0
  cases he
  refine ⟨clC_len _, .inr ⟨g, cap, cur, by rw [hlk], hbase, hb, by omega, h2, h3, ?_⟩⟩
  rw [hlk, ← clC_take, ← h4, List.take_take, Nat.min_eq_left (by omega)]
set_option maxRecDepth 100000 in
set_option maxHeartbeats 4000000 in
theorem offer_any (w : World) (B p cap : Nat) (vr : Value) (l : List Cd) (c : Cd) (h : PoolAt w B p cap vr l) (hlc : l.length ≤ cap) (hB : B ≤ w.heap.size) :
    Calls Try.prog 46 #[.pointer (some ⟨p, 0, none⟩), .agg #[.string c.key, .int .u64 c.rank]] w (OfferPost w B p cap vr l c) := by
  obtain ⟨i0, hi, hz0, hz1, hz2⟩ := info_parts infoC
  have HI := Lib.hid hi
  have HZ0 := Lib.hid hz0
  have HZ1 := Lib.hid hz1
  have HZ2 := Lib.hid hz2
  have hpw := h.lt
  have H := Lib.hid h
  have hc2 := h.cap2
  have HP := Lib.hid (h.quiet (Fr.alloc (fun _ => False) w (.cells #[.string c.key, .int .u64 c.rank] 73)))
  clear hi hz0 hz1 hz2 h
  go_enter Try.func46, Try.ntmps46
  go_wp2_with fail
  obtain ⟨W1, hW1⟩ : ∃ W, w.alloc (.cells #[.string c.key, .int .u64 c.rank] 73) = W := ⟨_, rfl⟩
  have hbx := alloc_at w (.cells #[.string c.key, .int .u64 c.rank] 73)
  have HF1 : Hid (Fr (fun _ => False) w W1) := by rw [← hW1]; exact Fr.alloc _ _ _
  rw [hW1] at hbx HP ⊢
  clear hW1
  refine (drop_any W1 B p cap vr l c.key HP.out).mono ?_
  rintro e W2 ⟨vr1, rfl, hp1, hv1, hf1⟩
  have hbx2 := (hf1.block _ (Array.getElem?_eq_some_iff.1 hbx).1 (fun e => by rcases e with e | e; omega; have := (own_blk H.out.row e).2.1; omega)).trans hbx
  have HF2 : Hid (Fr (fun i => i = p ∨ vr.ownBlock = some i) w W2) := (HF1.out.mono (fun _ h _ => h.elim)).wide hf1 (fun i hi => .inl hi)
  have hdl := dropK_len c.key l
  obtain ⟨l1, hl1⟩ : ∃ l1, dropK c.key l = l1 := ⟨_, rfl⟩
  have HL1 := Lib.hid hl1
  rw [hl1] at hp1 hdl
  obtain ⟨a1, c1, rfl⟩ := owns_sliceN hp1.row
  have HP1 := Lib.hid (hp1.quiet (Fr.drew (fun _ => False) W2))
  have HV1 := Lib.hid hv1
  have q1 : W2.cell? ⟨p, 1, none⟩ = some (.slice a1 l1.length c1) := hp1.cell 1
  have qf1 : W2.frozen? ⟨p, 1, none⟩ = false := hp1.free 1
  have x0 : W2.cell? ⟨w.heap.size, 0, none⟩ = some (.string c.key) := cell_of_blk hbx2 0
  have x1 : W2.cell? ⟨w.heap.size, 1, none⟩ = some (.int .u64 c.rank) := cell_of_blk hbx2 1
  have HBX := Lib.hid hbx2
  have hn1 : p ≠ w.heap.size := by omega
  have hl16 : l1.length ≤ 16 := by omega
  have hl1c : l1.length ≤ cap := by omega
  have HBB := Lib.hid (Nat.le_trans hB HF2.out.size)
  have hpw2 : p < W2.heap.size := hp1.lt
  rw [hl1]
  clear hp1 hv1 hf1 hbx hbx2 hl1
  obtain ⟨b0, hb0⟩ : ∃ b, decide (l1.length < l.length) = b := ⟨_, rfl⟩
  rw [hb0]
  clear hb0 hdl
  go_wp2_with fail
  go_region_law (first
      | (refine step_append_lies _ (by rfl) (.tmp 16) (.tmp 18) 67 (by rfl) B 73 i0 (.agg #[.string ⟨#[]⟩, .int .u64 0]) 2 24 Try.underlying67 HI.out HZ0.out HZ1.out HZ2.out rfl (by decide) (.slice a1 l1.length c1) l1.length (clC l1) (by rfl) (HP1.out.row.alloc _) ⟨W2.drew.heap.size, 0, none⟩ 1 1 [.string c.key, .int .u64 c.rank] (by rfl) rfl (cells_two_new _ _ _ _) (by simp [Value.oneCell']) (by decide) (by unfold maxLen; omega) (by omega) (by have := HBB.out; simp; omega) (W2.heap.size + 1) (by simp) ?_; intro g2 cap2 w3 hown hgrow hat hlt; obtain ⟨q1, q2, q3, q4⟩ := append_fin (c := c) HP1.out hl16 _ hgrow hown; have Q1 := Lib.hid q1; have Q4 := Lib.hid q4; have HAT := Lib.hid hat; clear hown hgrow hat q1 q4))
  all_goals
    obtain ⟨W3, hW3⟩ : ∃ W, w3.setCell ⟨p, 1, none⟩ (.slice (some ⟨g2, 0, none⟩) (l1.length + 1) cap2) = W := ⟨_, rfl⟩
    rw [hW3] at Q1 Q4 ⊢
    clear hW3 q2 q3
    have HF3 : Hid (Fr (fun i => i = p ∨ vr.ownBlock = some i) w W3) := (HF2.out.thenDrew).wide Q4.out (fun i hi => hi.elim (fun e => .inl (.inl e)) (fun e => .inl (.inr (by rw [← HV1.out]; exact e))))
    have HX3 : Hid (W3.heap[w.heap.size]? = some (.cells #[.string c.key, .int .u64 c.rank] 73 (0, 0))) :=
      (Q4.out.block _ (Array.getElem?_eq_some_iff.1 HBX.out).1 (fun e => by rcases e with e | e; omega; rw [HV1.out] at e; have := (own_blk H.out.row e).2.1; omega)).trans HBX.out
    have hn0 : (l1 ++ [c]).length = l1.length + 1 := by simp
    have y1 : W3.cell? ⟨p, 1, none⟩ = some (.slice (some ⟨g2, 0, none⟩) (l1.length + 1) cap2) := Q1.out.cell 1
    have HS := Lib.hid (sortC_any W3 B _ (l1 ++ [c]) Q1.out.row (by rw [hn0]; omega))
    clear q1 qf1 x0 x1
    go_wp2_with fail
    refine HS.out.mono ?_
    rintro e W4 ⟨rfl, hr4, hf4⟩
    have hx4 := (hf4.block _ (Array.getElem?_eq_some_iff.1 HX3.out).1 (fun e => by
      have h5 : g2 = w.heap.size := Option.some.inj e
      rcases HAT.out with h6 | h6
      · rw [HV1.out] at h6
        have := (own_blk H.out.row h6).2.1
        omega
      · have := HF2.out.size
        omega)).trans HX3.out
    have hS1 : sortC (l1 ++ [c]) = offS l c := by unfold offS; rw [HL1.out]
    have hSl : (offS l c).length = l1.length + 1 := by rw [← hS1, sortC_len, hn0]
    rw [hS1, hn0] at hr4
    have hr5 : W4.ownsRow B 73 2 (.slice (some ⟨g2, 0, none⟩) (l1.length + 1) cap2) (offS l c).length (clC (offS l c)) := by rw [hSl]; exact hr4
    have HP4 := Lib.hid (Q1.out.rowed (vr' := .slice (some ⟨g2, 0, none⟩) (l1.length + 1) cap2) hr5 hf4 (by rw [hSl]; omega) rfl)
    have HF4 : Hid (Fr (fun i => i = p ∨ vr.ownBlock = some i) w W4) := HF3.out.wide hf4 (fun i hi => by
      have h5 : g2 = i := Option.some.inj hi
      rcases HAT.out with h6 | h6
      · rw [HV1.out] at h6; exact .inl (.inr (by rw [h6, h5]))
      · exact .inr (by have := HF2.out.size; rw [← h5, h6]; simp; omega))
    have HOB : Hid (∀ g, (some g2 : Option Nat) = some g → vr.ownBlock = some g ∨ w.heap.size ≤ g) := fun g hg => by
      have h5 : g2 = g := Option.some.inj hg
      rcases HAT.out with h6 | h6
      · rw [HV1.out] at h6; exact .inl (by rw [h6, h5])
      · exact .inr (by have := HF2.out.size; rw [← h5, h6]; simp; omega)
    have p0 : W4.cell? ⟨p, 0, none⟩ = some (.int .i64 cap) := HP4.out.cell 0
    have p1 : W4.cell? ⟨p, 1, none⟩ = some (.slice (some ⟨g2, 0, none⟩) (l1.length + 1) cap2) := HP4.out.cell 1
    have HR5 := Lib.hid hr5
    have HSL := Lib.hid hSl
    clear hr4 hr5 hf4 hS1 hSl hn0 y1 HS HX3
    by_cases hle : l1.length + 1 ≤ cap
    · have gle : decide ((l1.length : Int) + 1 ≤ (cap : Int)) = true := by rw [decide_eq_true_eq]; omega
      have HOB2 : Hid (offB cap l c = true) := by
        show offB cap l c = true
        unfold offB
        rw [List.getElem?_eq_none (by rw [HSL.out]; exact hle)]
      have HTK : Hid ((offS l c).take cap = offS l c) := List.take_of_length_le (by rw [HSL.out]; exact hle)
      have hle' : (l1.length : Int) + 1 ≤ (cap : Int) := by omega
      clear hle
      go_wp2_with fail
      go_quiet (fail)
      go_wp2
      go_ret
      refine ⟨.slice (some ⟨g2, 0, none⟩) (l1.length + 1) cap2, by rw [HOB2.out]; rfl, by rw [HTK.out]; exact HP4.out.quiet (Fr.drewN _ _ _), HOB.out, HF4.out.thenDrewN _⟩
    · have hcl : l1.length = cap := by omega
      have gle : decide ((l1.length : Int) + 1 ≤ (cap : Int)) = false := by rw [decide_eq_false_iff_not]; omega
      have hcap : cap < (offS l c).length := by rw [HSL.out]; omega
      obtain ⟨g5, o5, he5, d0, d1⟩ := cd_at (n := (offS l c).length) (by have h := RdC.of_owns HR5.out; rw [← HSL.out] at h; exact h) cap hcap
      cases he5
      rw [Nat.zero_add] at d0 d1
      have HOB2 : Hid (offB cap l c = !eqC (offS l c)[cap] c) := by
        show offB cap l c = _
        unfold offB
        rw [List.getElem?_eq_getElem hcap]
      obtain ⟨x, hx⟩ : ∃ x, (offS l c)[cap] = x := ⟨_, rfl⟩
      rw [hx] at d0 d1 HOB2
      have HCUT := Lib.hid (own_cut HR5.out cap (by omega))
      have hb0i : (0 : Int) ≤ (cap : Int) := by omega
      have hb1i : (cap : Int) < (l1.length : Int) + 1 := by omega
      have hlei : ¬ ((l1.length : Int) + 1 ≤ (cap : Int)) := by omega
      clear hx hle hcap
      go_wp2_with fail
      go_quiet (fail)
      go_wp2_with fail
      obtain ⟨W6, hW6⟩ : ∃ W, W4.drewN nq = W := ⟨_, rfl⟩
      have e6 : ∀ a, W6.cell? a = W4.cell? a := fun a => by rw [← hW6]; rfl
      have HF6 : Hid (Fr (fun _ => False) W4 W6) := by rw [← hW6]; exact (Fr.drewN _ _ _)
      rw [hW6]
      have p06 : W6.cell? ⟨p, 0, none⟩ = some (.int .i64 cap) := (e6 _).trans p0
      have p16 : W6.cell? ⟨p, 1, none⟩ = some (.slice (some ⟨g2, 0, none⟩) (l1.length + 1) cap2) := (e6 _).trans p1
      have d06 : W6.cell? ⟨g2, cap * 2, none⟩ = some (.string x.key) := (e6 _).trans d0
      have d16 : W6.cell? ⟨g2, cap * 2 + 1, none⟩ = some (.int .u64 x.rank) := (e6 _).trans d1
      have hpw6 : p < W6.heap.size := Nat.lt_of_lt_of_le HP4.out.lt HF6.out.size
      have hgw6 : g2 < W6.heap.size := Nat.lt_of_lt_of_le (own_blk HR5.out (g := g2) rfl).2.1 HF6.out.size
      clear hW6 e6 p0 p1 d0 d1
      go_region
      obtain ⟨W7, hW7⟩ : ∃ W, (W6.alloc (.cells #[.string x.key, .int .u64 x.rank] 73)).drew = W := ⟨_, rfl⟩
      have HF7 : Hid (Fr (fun _ => False) W4 W7) := by rw [← hW7]; exact (HF6.out.thenAlloc _).thenDrew
      have hb7 : W7.heap[W6.heap.size]? = some (.cells #[.string x.key, .int .u64 x.rank] 73 (0, 0)) := by rw [← hW7]; exact alloc_at _ _
      have hc7 := (HF7.out.block _ (Array.getElem?_eq_some_iff.1 hx4).1 (fun h => h)).trans hx4
      have HP7 := Lib.hid (HP4.out.quiet HF7.out)
      rw [hW7]
      have p07 : W7.cell? ⟨p, 0, none⟩ = some (.int .i64 cap) := HP7.out.cell 0
      have p17 : W7.cell? ⟨p, 1, none⟩ = some (.slice (some ⟨g2, 0, none⟩) (l1.length + 1) cap2) := HP7.out.cell 1
      have pf7 : W7.frozen? ⟨p, 1, none⟩ = false := HP7.out.free 1
      have x07 : W7.cell? ⟨W6.heap.size, 0, none⟩ = some (.string x.key) := cell_of_blk hb7 0
      have x17 : W7.cell? ⟨W6.heap.size, 1, none⟩ = some (.int .u64 x.rank) := cell_of_blk hb7 1
      have c07 : W7.cell? ⟨w.heap.size, 0, none⟩ = some (.string c.key) := cell_of_blk hc7 0
      have c17 : W7.cell? ⟨w.heap.size, 1, none⟩ = some (.int .u64 c.rank) := cell_of_blk hc7 1
      have hn6 : p ≠ W6.heap.size := by omega
      have hneq : ∀ W, (binOp .eql 73 (.agg #[.string x.key, .int .u64 x.rank]) (.agg #[.string c.key, .int .u64 c.rank])).run Try.prog W = .ok (.bool (eqC x c)) W := fun W => run_eqC x c W
      have hk1 : cap ≤ cap2 := by
        have hsl5 := HSL.out
        obtain ⟨_, ⟨h0, _⟩ | ⟨g', cap', cur, he, _, _, h1, _⟩⟩ := HR5.out
        · cases h0
        · obtain ⟨_, _, h7⟩ := Value.slice.inj he
          omega
      have HS7 := Lib.hid ((PoolAt.stored HP7.out.blk (owns_fr HCUT.out HF7.out (fun _ _ h => h)) HP7.out.bp (by rw [List.length_take]; omega) HP7.out.cap1 HP7.out.cap2).quiet (Fr.drew (fun _ => False) _))
      have HFE : Hid (Fr (fun i => i = p ∨ vr.ownBlock = some i) w (W7.setCell ⟨p, 1, none⟩ (.slice (some ⟨g2, 0, none⟩) cap cap2)).drew) := ((HF4.out.wide HF7.out (fun _ h => h.elim)).wide (Fr.setCell W7 ⟨p, 1, none⟩ _) (fun i hi => .inl (.inl hi))).thenDrew
      clear hW7 hb7 hc7 p06 p16 d06 d16 hneq
      go_wp2_with fail
      go_region
      go_wp2_with fail
      all_goals
        go_ret
        refine ⟨.slice (some ⟨g2, 0, none⟩) cap cap2, ?_, HS7.out, HOB.out, HFE.out⟩
        rw [HOB2.out]
        unfold eqC
        simp_all
        try omega
end Go.Proofs.Ytpcjogmikgfgdaa
