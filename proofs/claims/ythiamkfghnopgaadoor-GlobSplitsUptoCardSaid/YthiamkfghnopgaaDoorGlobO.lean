/- The walks of pantrylaw03's written and means. No condition but the size of a set. -/
import Derived.Test.YthiamkfghnopgaaDoorGlobL
namespace Go.Proofs.YthiamkfghnopgaaDoor
open Go.RowKit
/-- 's + t' over texts whose lengths add up to an int -/
theorem wpl_concat {P : Program} {w : World} {ops : Array Oper} {rest : List Oper} {o : Oper} {a : Act} {Q : Exit → Act → World → Prop} (hgd : o.guard = none) (x y : Operand) (t u : TypeId) (ho : o.op = .binOp .add t x y u)
    (sx sy : ByteArray) (hx : a.eval x = .string sx) (hy : a.eval y = .string sy) (hsz : sx.size + sy.size ≤ 9223372036854775807)
    (h : wpList P ops Q rest (a.put o.dst (.string (sx ++ sy))) w) : wpList P ops Q (o :: rest) a w := by
  refine wpl_value hgd (v := .string (sx ++ sy)) (w' := w) ?_ h
  simp only [execOp, ho, hx, hy]
  simp [go_sem, eqGuard, binOp, Op.stringOp, Result.andThen]
  rw [if_neg (by omega)]
theorem mk_app (a b : Bytes) : mkS a ++ mkS b = mkS (a ++ b) := by
  apply ByteArray.ext
  simp [mkS]
theorem lit_new (w : World) (b : UInt8) : RdC (w.alloc (.cells #[.int .u8 b.toNat] 5)) 1 (.slice (some ⟨w.heap.size, 0, none⟩) 1 1) ([b] : Bytes).length (([b] : Bytes).map u8) :=
  RdC.of_owns (World.ownsRow_lit (e := 5) (size := 1) (base := 0) w #[.int .u8 b.toNat] 1 (Nat.zero_le _) (by decide) rfl)
theorem cell_lt {w : World} {a : Addr} {v : Value} (h : w.cell? a = some v) : a.block < w.heap.size := by
  unfold World.cell? at h
  cases hb : w.heap[a.block]? with
  | none => rw [hb] at h; cases h
  | some o => exact (Array.getElem?_eq_some_iff.1 hb).1
theorem box_at (w : World) (cs : Array Value) (t : TypeId) (j : Nat) : (w.alloc (.cells cs t)).cell? ⟨w.heap.size, j, none⟩ = cs[j]? := by
  unfold World.cell?
  rw [heap_alloc_new]
  rfl
/-- a sign in a block of its own -/
def BoxS (w : World) (g : Nat) (k : Int) (a b : UInt8) (v3 : Value) : Prop :=
  w.cell? ⟨g, 0, none⟩ = some (.int .i64 k) ∧ w.cell? ⟨g, 1, none⟩ = some (.int .u8 a.toNat) ∧ w.cell? ⟨g, 2, none⟩ = some (.int .u8 b.toNat) ∧ w.cell? ⟨g, 3, none⟩ = some v3
theorem BoxS.below {w w' : World} {g : Nat} {k : Int} {a b : UInt8} {v3 : Value} (h : BoxS w g k a b v3) {B : Nat} (hb : Below B w w') (hg : g < B) : BoxS w' g k a b v3 := by
  have hf := Fr.of_below hb
  obtain ⟨h0, h1, h2, h3⟩ := h
  exact ⟨hf.cell h0 (Nat.not_le.2 hg), hf.cell h1 (Nat.not_le.2 hg), hf.cell h2 (Nat.not_le.2 hg), hf.cell h3 (Nat.not_le.2 hg)⟩
theorem BoxS.new (w : World) (k : Int) (a b : UInt8) (v3 : Value) (t : TypeId) : BoxS (w.alloc (.cells #[.int .i64 k, .int .u8 a.toNat, .int .u8 b.toNat, v3] t)) w.heap.size k a b v3 :=
  ⟨box_at _ _ _ _, box_at _ _ _ _, box_at _ _ _ _, box_at _ _ _ _⟩
theorem lit_at (w : World) (o : Obj) (b : UInt8) : RdC ((w.alloc o).alloc (.cells #[.int .u8 b.toNat] 5)) 1 (.slice (some ⟨w.heap.size + 1, 0, none⟩) 1 1) ([b] : Bytes).length (([b] : Bytes).map u8) := by
  have h := RdC.of_owns (World.ownsRow_lit (e := 5) (size := 1) (base := 0) (w.alloc o) #[.int .u8 b.toNat] 1 (Nat.zero_le _) (by decide) rfl)
  have e : (w.alloc o).heap.size = w.heap.size + 1 := by simp
  rw [e] at h
  exact h
set_option maxRecDepth 100000 in
set_option maxHeartbeats 4000000 in
theorem written_any (k : Int) (a b : UInt8) (v3 : Value) (o : Bytes) (w : World) (hr : RdC w 1 v3 o.length (o.map u8)) (ho : o.length ≤ 140737488355000) :
    Calls Tryd.prog 13 #[.agg #[.int .i64 k, .int .u8 a.toNat, .int .u8 b.toNat, v3]] w fun e w' => e = .returned (.string (mkS (writ k a b o))) ∧ Below w.heap.size w w' := by
  have one1 : ∀ c : UInt8, (mkS [c]).size ≤ 140737488355000 := fun c => by rw [mk_size]; simp
  have HE1 : Hid (∀ (c : UInt8) (w : World), Calls Tryd.prog 15 #[.string (mkS [c])] w fun e w' => e = .returned (.string (mkS [92, c])) ∧ Below w.heap.size w w') := fun c w => escaped_any (mkS [c]) w (one1 c)
  clear one1
  go_enter Tryd.func13, Tryd.ntmps13
  go_wp2_with (refine wpl_toString rfl (.tmp 7) 28 9 5 rfl _ [a] rfl Tryd.underlying28 Tryd.underlying9 Tryd.underlying5 (lit_at _ _ a) ?_)
  refine (HE1.out a _).mono ?_
  rintro e w1 ⟨rfl, hb1⟩
  have hS0 := BoxS.new w k a b v3 30
  have hB0 : Below w.heap.size w (w.alloc (.cells #[.int .i64 k, .int .u8 a.toNat, .int .u8 b.toNat, v3] 30)) := (Below.refl _ _).alloc (Nat.le_refl _) _
  have hB1 : Below w.heap.size w w1 := (hB0.alloc (by simp) _).trans (hb1.mono (by simp; omega))
  have hS1 : BoxS w1 w.heap.size k a b v3 := (hS0.below ((Below.refl (w.heap.size + 1) _).alloc (by simp) _) (by omega)).below hb1 (by simp; omega)
  have HS1 := Lib.hid hS1
  have HB1 := Lib.hid hB1
  obtain ⟨c0, c1, c2, c3⟩ := hS1
  clear hb1 hS0 hB0 hB1
  go_wp2_with (refine wpl_toString rfl (.tmp 12) 28 9 5 rfl _ [b] rfl Tryd.underlying28 Tryd.underlying9 Tryd.underlying5 (lit_new _ b) ?_)
  refine (HE1.out b _).mono ?_
  rintro e w2 ⟨rfl, hb2⟩
  have hlt1 : w.heap.size < w1.heap.size := by
    have := HS1.out.1
    exact cell_lt this
  have hB2 : Below w.heap.size w w2 := (HB1.out.alloc HB1.out.size _).trans (hb2.mono (by have := HB1.out.size; simp; omega))
  have hS2 : BoxS w2 w.heap.size k a b v3 := (HS1.out.below ((Below.refl w1.heap.size w1).alloc (Nat.le_refl _) _) hlt1).below hb2 (by simp; omega)
  clear c0 c1 c2 c3
  have HS2 := Lib.hid hS2
  have HB2 := Lib.hid hB2
  obtain ⟨c0, c1, c2, c3⟩ := hS2
  clear hb2 hB2 HS1 HB1
  by_cases h1 : k = 1
  · have g1 : (k == 1) = true := by rw [h1]; rfl
    go_wp2_with fail
    go_ret
    exact ⟨by unfold writ; rw [if_pos h1]; rfl, HB2.out⟩
  have g1 : (k == 1) = false := by simpa using h1
  by_cases h2 : k = 2
  · have g2 : (k == 2) = true := by rw [h2]; rfl
    go_wp2_with fail
    go_ret
    exact ⟨by unfold writ; rw [if_neg h1, if_pos h2]; rfl, HB2.out⟩
  have g2 : (k == 2) = false := by simpa using h2
  have HR2 := Lib.hid (hr.below HB2.out)
  have HE2 : Hid (∀ (w : World), Calls Tryd.prog 15 #[.string (mkS o)] w fun e w' => e = .returned (.string (mkS (esc o))) ∧ Below w.heap.size w w') := fun w => escaped_any (mkS o) w (by rw [mk_size]; exact ho)
  clear HS2
  have s1 : (⟨#[91]⟩ : ByteArray).size = 1 := rfl
  have s2 : (⟨#[93]⟩ : ByteArray).size = 1 := rfl
  have s3 : (⟨#[91, 94]⟩ : ByteArray).size = 2 := rfl
  by_cases h3 : k = 3
  · have g3 : (k == 3) = true := by rw [h3]; rfl
    go_wp2_with (refine wpl_toString rfl (.tmp 24) 28 9 5 rfl _ o rfl Tryd.underlying28 Tryd.underlying9 Tryd.underlying5 HR2.out ?_)
    refine (HE2.out _).mono ?_
    rintro e w3 ⟨rfl, hb3⟩
    have HB3 := Lib.hid (HB2.out.trans (hb3.mono HB2.out.size))
    clear hb3
    go_wp2_with (refine wpl_concat rfl _ _ _ _ rfl _ _ rfl rfl (by simp only [ByteArray.size_append, mk_size, esc_len, s1, s2, s3]; omega) ?_)
    go_ret
    have e3 : (⟨#[91]⟩ : ByteArray) ++ mkS (esc o) ++ ⟨#[93]⟩ = mkS (writ k a b o) := by
      unfold writ; rw [if_neg h1, if_neg h2, if_pos h3, show (⟨#[91]⟩ : ByteArray) = mkS [91] from rfl, show (⟨#[93]⟩ : ByteArray) = mkS [93] from rfl, mk_app, mk_app]; rfl
    exact ⟨congrArg (fun s => Ending.returned (Value.string s)) e3, HB3.out⟩
  have g3 : (k == 3) = false := by simpa using h3
  by_cases h4 : k = 4
  · have g4 : (k == 4) = true := by rw [h4]; rfl
    go_wp2_with (refine wpl_toString rfl (.tmp 32) 28 9 5 rfl _ o rfl Tryd.underlying28 Tryd.underlying9 Tryd.underlying5 HR2.out ?_)
    refine (HE2.out _).mono ?_
    rintro e w3 ⟨rfl, hb3⟩
    have HB3 := Lib.hid (HB2.out.trans (hb3.mono HB2.out.size))
    clear hb3
    go_wp2_with (refine wpl_concat rfl _ _ _ _ rfl _ _ rfl rfl (by simp only [ByteArray.size_append, mk_size, esc_len, s1, s2, s3]; omega) ?_)
    go_ret
    have e3 : (⟨#[91, 94]⟩ : ByteArray) ++ mkS (esc o) ++ ⟨#[93]⟩ = mkS (writ k a b o) := by
      unfold writ; rw [if_neg h1, if_neg h2, if_neg h3, if_pos h4, show (⟨#[91, 94]⟩ : ByteArray) = mkS [91, 94] from rfl, show (⟨#[93]⟩ : ByteArray) = mkS [93] from rfl, mk_app, mk_app]; rfl
    exact ⟨congrArg (fun s => Ending.returned (Value.string s)) e3, HB3.out⟩
  have g4 : (k == 4) = false := by simpa using h4
  by_cases h5 : k = 5
  · have g5 : (k == 5) = true := by rw [h5]; rfl
    go_wp2_with fail
    go_ret
    exact ⟨by unfold writ; rw [if_neg h1, if_neg h2, if_neg h3, if_neg h4, if_pos h5]; rfl, HB2.out⟩
  have g5 : (k == 5) = false := by simpa using h5
  by_cases h6 : k = 6
  · have g6 : (k == 6) = true := by rw [h6]; rfl
    go_wp2_with fail
    go_ret
    exact ⟨by unfold writ; rw [if_neg h1, if_neg h2, if_neg h3, if_neg h4, if_neg h5, if_pos h6]; rfl, HB2.out⟩
  have g6 : (k == 6) = false := by simpa using h6
  go_wp2_with fail
  go_ret
  exact ⟨by unfold writ; rw [if_neg h1, if_neg h2, if_neg h3, if_neg h4, if_neg h5, if_neg h6]; rfl, HB2.out⟩
end Go.Proofs.YthiamkfghnopgaaDoor
