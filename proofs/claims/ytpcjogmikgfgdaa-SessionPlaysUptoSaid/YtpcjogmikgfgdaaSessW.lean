/- pantrylaw26's wakes. No condition. -/
import Derived.Test.YtpcjogmikgfgdaaSameLs
namespace Go.Proofs.Ytpcjogmikgfgdaa
open Go.RowKit
theorem bel_fr {B : Nat} {w w1 w2 : World} {T : Nat → Prop} (hb : Below B w w1) (hB : B ≤ w1.heap.size) (hf : Fr T w1 w2) (hT : ∀ i, T i → B ≤ i) : Below B w w2 := hb.trans (hf.below hB hT)
def kW : ByteArray := ⟨#[107]⟩
def lW : List ByteArray := [⟨#[97]⟩, ⟨#[98]⟩]
theorem wakes_dirty : (false || [(⟨#[107]⟩ : ByteArray)].any fun k => inL k ([] ++ [(⟨#[107]⟩ : ByteArray)])) = true := by simp [inL]
theorem lit_rd (w : World) (x : ByteArray) : RdC (w.alloc (.cells #[.string x] 9)) 1 (.slice (some ⟨w.heap.size, 0, none⟩) 1 1) 1 ([x].map .string) :=
  RdC.of_owns (World.ownsRow_lit (e := 9) w #[.string x] 1 (Nat.le_refl _) (by decide) rfl)
theorem lit_rd2 (w : World) (x y : ByteArray) : RdC (w.alloc (.cells #[.string x, .string y] 9)) 1 (.slice (some ⟨w.heap.size, 0, none⟩) 2 2) 2 ([x, y].map .string) :=
  RdC.of_owns (World.ownsRow_lit (e := 9) w #[.string x, .string y] 2 (Nat.le_refl _) (by decide) rfl)
set_option maxRecDepth 100000 in
set_option maxHeartbeats 2000000 in
theorem wakes26_any (w : World) : Calls Try.prog 21 #[] w fun e w' => e = .returned (.bool true) ∧ Below w.heap.size w w' := by
  go_enter Try.func21, Try.ntmps21
  go_wp2_with fail
  refine (newSess_any w).mono ?_
  rintro e w1 ⟨p, m, rfl, hs, hb⟩
  have HS1 := Lib.hid hs
  have HB1 := Lib.hid hb
  clear hs hb
  go_wp2_with fail
  refine (watch_new w1 _ p m _ false false [] [] ⟨#[107]⟩ HS1.out (by decide) (by simp) (by decide)).mono ?_
  rintro e w2 ⟨rfl, hs, hf⟩
  have HS2 := Lib.hid hs
  have HB2 := Lib.hid (bel_fr HB1.out HB1.out.size hf (fun i e => by rw [e]; exact HS1.out.bm))
  clear hs hf
  go_wp2_with fail
  refine (begin_any w2 _ p m _ _ HS2.out).mono ?_
  rintro e w3 ⟨he, hs, hf⟩
  obtain rfl : e = .returned (.int .i64 0) := he
  have HS3 := Lib.hid hs
  have HB3 := Lib.hid (bel_fr HB2.out HB2.out.size hf (fun i e => by rw [e]; exact HS1.out.bp))
  clear hs hf
  go_wp2_with fail
  obtain ⟨W3, hW3⟩ : ∃ W, w3.alloc (.cells #[.string ⟨#[97]⟩, .string ⟨#[98]⟩] 9) = W := ⟨_, rfl⟩
  have HSA : Hid (SessAt W3 w.heap.size p m (.slice none 0 0) ⟨true, false, false, [], [] ++ [⟨#[107]⟩]⟩) := by rw [← hW3]; exact HS3.out.quiet (Fr.alloc _ _ _)
  have HRD : Hid (RdC W3 1 (.slice (some ⟨w3.heap.size, 0, none⟩) 2 2) lW.length (lW.map .string)) := by rw [← hW3]; exact lit_rd2 w3 _ _
  have HBA : Hid (Below w.heap.size w W3) := by rw [← hW3]; exact HB3.out.alloc HB3.out.size _
  rw [hW3]
  clear hW3
  refine (queue_ok W3 _ p m _ false false [] _ _ lW HSA.out (by decide) HRD.out (by decide) HBA.out.size).mono ?_
  rintro e w4 ⟨vq, rfl, hs, -, hf, -⟩
  have HS4 := Lib.hid hs
  have HB4 := Lib.hid (bel_fr HBA.out HBA.out.size hf (fun i e => by rcases e with e | e; rw [e]; exact HS1.out.bp; cases e))
  clear hs hf HSA HRD HBA
  go_wp2_with fail
  obtain ⟨W4, hW4⟩ : ∃ W, w4.alloc (.cells #[.string ⟨#[107]⟩] 9) = W := ⟨_, rfl⟩
  have HSA : Hid (SessAt W4 w.heap.size p m vq ⟨true, false, false, [] ++ [lW], [] ++ [⟨#[107]⟩]⟩) := by rw [← hW4]; exact HS4.out.quiet (Fr.alloc _ _ _)
  have HRD : Hid (RdC W4 1 (.slice (some ⟨w4.heap.size, 0, none⟩) 1 1) 1 ([(⟨#[107]⟩ : ByteArray)].map .string)) := by rw [← hW4]; exact lit_rd w4 _
  have HBA : Hid (Below w.heap.size w W4) := by rw [← hW4]; exact HB4.out.alloc HB4.out.size _
  have HNE : Hid (w4.heap.size ≠ p) := fun e => by have := HS4.out.lt; omega
  rw [hW4]
  clear hW4
  refine (touch_any W4 _ p m _ true false false _ _ _ [⟨#[107]⟩] HSA.out (fun W hf => HRD.out.fr hf (fun g hg e => by cases hg; exact HNE.out e)) (fun k hk => by rw [List.mem_singleton.1 hk]; decide)).mono ?_
  rintro e w5 ⟨rfl, hs, hf⟩
  rw [wakes_dirty] at hs
  have HS5 := Lib.hid hs
  have HB5 := Lib.hid (bel_fr HBA.out HBA.out.size hf (fun i e => by rw [e]; exact HS1.out.bp))
  clear hs hf HSA HRD HBA HNE
  go_wp2_with fail
  refine (dirty_any w5 _ p m _ _ HS5.out).mono ?_
  rintro e w' ⟨rfl, rfl⟩
  go_wp2_with fail
  refine (end_open w5 _ p m _ false true _ _ HS5.out).mono ?_
  rintro e w6 ⟨rfl, hs, ⟨qs, r1, r2⟩, hf⟩
  have HS6 := Lib.hid hs
  have HB6 := Lib.hid (bel_fr HB5.out HB5.out.size hf (fun i e => by rcases e with e | e; rw [e]; exact HS1.out.bp; rw [e]; exact HS1.out.bm))
  obtain ⟨va, vc, rfl⟩ := owns_sliceN r1
  obtain ⟨u, hu, htx⟩ := r2.2 0 lW rfl
  obtain ⟨g, rfl, hc⟩ := own_cell r1 hu
  have HTX := Lib.hid htx.1
  obtain ⟨-, ua, uc, rfl, -⟩ := htx.1
  have hl1 : (([] ++ [lW] : List (List ByteArray)).length : Int) = 1 := rfl
  have hl2 : ([] ++ [lW] : List (List ByteArray)).length = 1 := rfl
  rw [hl2]
  clear hs hf r1 r2 htx hu hl1 hl2
  go_wp2_with fail
  obtain ⟨W6, hW6⟩ : ∃ W, w6.alloc (.cells #[.string ⟨#[97]⟩, .string ⟨#[98]⟩] 9) = W := ⟨_, rfl⟩
  have HS7 : Hid (SessAt W6 w.heap.size p m (.slice none 0 0) ⟨false, false, false, [], []⟩) := by rw [← hW6]; exact HS6.out.quiet (Fr.alloc _ _ _)
  have HR1 : Hid (RdC W6 1 (.slice (some ⟨w6.heap.size, 0, none⟩) 2 2) lW.length (lW.map .string)) := by rw [← hW6]; exact lit_rd2 w6 _ _
  have HR2 : Hid (RdC W6 1 (.slice ua lW.length uc) lW.length (lW.map .string)) := by rw [← hW6]; exact HTX.out.fr (Fr.alloc (fun _ => False) _ _) (fun _ _ h => h)
  have HB7 : Hid (Below w.heap.size w W6) := by rw [← hW6]; exact HB6.out.alloc HB6.out.size _
  rw [hW6]
  clear hW6
  refine (sameT_any W6 _ _ lW lW HR2.out HR1.out).mono ?_
  rintro e w7 ⟨rfl, n, rfl⟩
  have hd : decide (lW = lW) = true := decide_eq_true rfl
  rw [hd]
  have HS8 := Lib.hid (HS7.out.quiet (Fr.drewN _ W6 n))
  have HB8 := Lib.hid (bel_fr HB7.out HB7.out.size (Fr.drewN (fun _ => False) W6 n) (fun _ h => h.elim))
  clear hd
  go_wp2_with fail
  refine (open_any _ _ p m _ _ HS8.out).mono ?_
  rintro e w' ⟨rfl, rfl⟩
  go_wp2_with fail
  refine (dirty_any _ _ p m _ _ HS8.out).mono ?_
  rintro e w' ⟨rfl, rfl⟩
  go_wp2
  go_ret
  exact ⟨rfl, HB8.out⟩
end Go.Proofs.Ytpcjogmikgfgdaa
