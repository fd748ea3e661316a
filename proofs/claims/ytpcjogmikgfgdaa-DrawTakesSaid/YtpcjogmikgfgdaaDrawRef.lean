/- The walks of pantryref04's Source: New, Left, Next, Below. Each says what is told and what the source then holds. No condition. -/
import Derived.Test.YtpcjogmikgfgdaaDraw
import Derived.Test.YtpcjogmikgfgdaaRep
import Derived.Test.YtpcjogmikgfgdaaKit
import Derived.Deep.Cut
import Derived.Deep.CutBlock
import Derived.Deep.QuietTactic
import Derived.BigQuiet
namespace Go.Proofs.Ytpcjogmikgfgdaa
open Go.RowKit
/-- a source of the document's at block p holds the numbers l that are left -/
def RefAt (w : World) (p : Nat) (l : List UInt64) (S : Nat → Prop) : Prop :=
  ∃ (v : Value) (k : Nat) (L : List UInt64), w.heap[p]? = some (.cells #[v, .int .i64 (k : Int)] 96 (0, 0)) ∧ k ≤ L.length ∧ l = L.drop k ∧ RdC w 1 v L.length (L.map u64) ∧ S p ∧ ∀ g, v.ownBlock = some g → S g ∧ g ≠ p
theorem RefAt.fr {w w' : World} {p : Nat} {l : List UInt64} {S T : Nat → Prop} (h : RefAt w p l S) (hf : Fr T w w') (hd : ∀ k, S k → ¬ T k) : RefAt w' p l S := by
  obtain ⟨v, k, L, h1, h2, h3, h4, h5, h6⟩ := h
  exact ⟨v, k, L, (hf.block p (Array.getElem?_eq_some_iff.1 h1).1 (hd p h5)).trans h1, h2, h3, h4.fr hf (fun g hg => hd g (h6 g hg).1), h5, h6⟩
def SomeRef (w : World) (l : List UInt64) (e : Ending) (w' : World) : Prop :=
  ∃ p, e = .returned (.pointer (some ⟨p, 0, none⟩)) ∧ RefAt w' p l (fun k => w.heap.size ≤ k ∧ k < w'.heap.size) ∧ Below w.heap.size w w'
set_option maxHeartbeats 400000 in
theorem refNew_any (v : Value) (l : List UInt64) (w : World) (h : RdC w 1 v l.length (l.map u64)) (hb : l.length * 8 ≤ 140737488355328) :
    Calls Try.prog 15 #[v] w (SomeRef w l) := by
  obtain ⟨i0, hi, hz0, hz1, hz2⟩ := info_parts Try.info24
  have hlen := h.len
  have HL := Lib.hid h
  obtain ⟨h1, a, cap, rfl, h2, h3, h4, h5⟩ := h
  clear h1 h5
  go_enter Try.func15, Try.ntmps15
  go_wp2_with (at_builtin; refine wpl_append rfl (.tmp 3) (.tmp 4) 22 rfl w.heap.size 24 i0 (.int .u64 0) 1 8 Try.underlying22 hi hz0 hz1 hz2 rfl (by decide) _ 0 [] rfl (World.ownsRow_lit w #[] 0 (Nat.le_refl _) (by decide) rfl) _ l.length (l.map u64) rfl (HL.out.below ((Below.refl _ _).alloc (Nat.le_refl _) _)) (one_u64 l) (by omega) (by omega) (by simp) ?_; intro v' w1 hown hgrow; obtain ⟨a', c', rfl⟩ := owns_slice hown; have HO := Lib.hid hown; have HG := Lib.hid hgrow; clear hown hgrow)
  go_ret
  have hbel : Below w.heap.size w w1 := ((Below.refl _ _).alloc (Nat.le_refl _) _).grown HG.out (by simp) (fun k e => by cases e; exact Nat.le_refl _)
  have hrd : RdC w1 1 (.slice a' l.length c') l.length (l.map u64) := by have := RdC.of_owns HO.out; simpa using this
  refine ⟨w1.heap.size, rfl, ⟨_, 0, l, heap_alloc_new w1 _, Nat.zero_le _, rfl, hrd.below ((Below.refl _ _).alloc (Nat.le_refl _) _), ⟨hbel.size, by simp⟩, fun g hg => ?_⟩, hbel.trans ((Below.refl _ _).alloc hbel.size _)⟩
  have := HO.out.lt g (by rw [Nat.zero_add]; exact hg)
  exact ⟨⟨this.1, by simp; omega⟩, by omega⟩
theorem refLeft_any (w : World) (p : Nat) (l : List UInt64) (S : Nat → Prop) (h : RefAt w p l S) :
    Calls Try.prog 20 #[.pointer (some ⟨p, 0, none⟩)] w fun e w' => e = .returned (.int .i64 l.length) ∧ ∃ m, w' = w.drewN m := by
  obtain ⟨v, k, L, h1, h2, h3, h4, h5, h6⟩ := h
  have hlen := h4.len
  unfold maxLen at hlen
  obtain ⟨_, a, cap, rfl, _⟩ := h4
  have hc0 : w.cell? ⟨p, 0, none⟩ = some (.slice a L.length cap) := by rw [cell_of_blk h1]; rfl
  have hc1 : w.cell? ⟨p, 1, none⟩ = some (.int .i64 (k : Int)) := by rw [cell_of_blk h1]; rfl
  have hs : IntKind.i64.wrap ((L.length : Int) - (k : Int)) = (L.length : Int) - (k : Int) := IntWalk.i64_in _ (by omega)
  have hl : ((l.length : Nat) : Int) = (L.length : Int) - (k : Int) := by rw [h3, List.length_drop]; omega
  have HL := Lib.hid hl
  clear h1 h3 h6 hl
  go_enter Try.func20, Try.ntmps20
  go_wp2
  go_quiet (fail)
  go_wp2
  go_ret
  exact ⟨by show Ending.returned (.int .i64 _) = .returned (.int .i64 _); rw [HL.out], _, rfl⟩
def RNextPost (w : World) (p : Nat) (l : List UInt64) (S : Nat → Prop) (e : Ending) (w' : World) : Prop :=
  e = .returned (.int .u64 (wd (hd0 l))) ∧ RefAt w' p l.tail S ∧ Fr (fun k => k = p) w w'
set_option maxHeartbeats 1000000 in
theorem refNext_any (w : World) (p : Nat) (l : List UInt64) (S : Nat → Prop) (h : RefAt w p l S) :
    Calls Try.prog 57 #[.pointer (some ⟨p, 0, none⟩)] w (RNextPost w p l S) := by
  have H := Lib.hid h
  obtain ⟨v, k, L, h1, h2, h3, h4, h5, h6⟩ := h
  have hlen := h4.len
  have HRD := Lib.hid h4
  unfold maxLen at hlen
  obtain ⟨_, a, cap, rfl, _⟩ := h4
  have hc0 : w.cell? ⟨p, 0, none⟩ = some (.slice a L.length cap) := by rw [cell_of_blk h1]; rfl
  have hc1 : w.cell? ⟨p, 1, none⟩ = some (.int .i64 (k : Int)) := by rw [cell_of_blk h1]; rfl
  have hf : ∀ i, w.frozen? ⟨p, i, none⟩ = false := free_of_blk h1
  have HF := Lib.hid hf
  have H1 := Lib.hid h1
  have H6 := Lib.hid h6
  have H3 := Lib.hid h3
  clear h1 hf h6 h3
  by_cases hlt : k < L.length
  · have g1 : decide ((L.length : Int) ≤ (k : Int)) = false := by rw [decide_eq_false_iff_not]; omega
    have g2 : decide (L.length ≤ k) = false := by rw [decide_eq_false_iff_not]; omega
    obtain ⟨g, off, rfl, hcells⟩ := HRD.out.at (by simp; omega)
    have hcx := hcells k (u64 L[k]) (by rw [List.getElem?_map, List.getElem?_eq_getElem hlt]; rfl)
    unfold u64 at hcx
    have hgp : g ≠ p := (H6.out g rfl).2
    obtain ⟨x, hx⟩ : ∃ x, L[k] = x := ⟨_, rfl⟩
    rw [hx] at hcx
    have HX := Lib.hid hx
    have hf1 : w.frozen? ⟨p, 1, none⟩ = false := HF.out 1
    clear hcells hx
    go_enter Try.func57, Try.ntmps57
    go_wp2
    go_quiet (fail)
    go_wp2
    obtain ⟨W, hW⟩ : ∃ W, (w.drewN nq).setCell ⟨p, 1, none⟩ (.int .i64 ((k : Int) + 1)) = W := ⟨_, rfl⟩
    have hblk : W.heap[p]? = some (.cells #[.slice (some ⟨g, off, none⟩) L.length cap, .int .i64 ((k : Int) + 1)] 96 (0, 0)) := by
      rw [← hW]; exact heap_setCell_same (w.drewN nq) p 1 _ _ _ H1.out
    have hfr : Fr (fun i => i = p) w W := by
      rw [← hW]; exact ((Fr.drewN (fun _ => False) w nq).mono (fun _ h => h.elim)).thenSet _ _ (fun _ => rfl)
    have hd0 : W.cell? ⟨p, 0, none⟩ = some (.slice (some ⟨g, off, none⟩) L.length cap) := by rw [cell_of_blk hblk]; rfl
    have hd1 : W.cell? ⟨p, 1, none⟩ = some (.int .i64 ((k : Int) + 1)) := by rw [cell_of_blk hblk]; rfl
    have hdx : W.cell? ⟨g, off + k, none⟩ = some (.int .u64 (wd x)) := hfr.cell hcx hgp
    have HBLK := Lib.hid hblk
    have HFR := Lib.hid hfr
    rw [hW]
    have s1 : IntKind.i64.wrap ((k : Int) + 1 - 1) = (k : Int) := by rw [Int.add_sub_cancel]; exact IntWalk.i64_in _ (by omega)
    have s2 : (k : Int) + 1 - 1 = (k : Int) := by omega
    have s3 : (0 : Int) ≤ (k : Int) := by omega
    have s4 : (k : Int) < (L.length : Int) := by omega
    clear hW hc0 hc1 hcx hblk hfr hf1
    go_quiet (fail)
    go_wp2
    go_ret
    have e1 : l = x :: L.drop (k + 1) := by rw [H3.out, ← HX.out]; exact List.drop_eq_getElem_cons hlt
    refine ⟨ret_u64 (by rw [e1]; rfl), ⟨_, k + 1, L, HBLK.out, by omega, by rw [e1]; rfl, ?_, h5, H6.out⟩, HFR.out.thenDrewN _⟩
    exact HRD.out.fr (HFR.out.thenDrewN _) (fun g hg => (H6.out g hg).2)
  · obtain rfl : k = L.length := by omega
    have g1 : decide ((L.length : Int) ≤ (L.length : Int)) = true := by simp
    go_enter Try.func57, Try.ntmps57
    go_wp2
    go_quiet (fail)
    go_wp2
    go_ret
    have hl : l = [] := by rw [H3.out]; simp
    subst hl
    exact ⟨rfl, H.out.fr (Fr.drewN (fun _ => False) w nq) (fun _ _ h => h), (Fr.drewN (fun _ => False) w nq).mono (fun _ h => h.elim)⟩
def RBelowPost (w : World) (p : Nat) (l : List UInt64) (n : UInt64) (S : Nat → Prop) (e : Ending) (w' : World) : Prop :=
  e = .returned (.int .u64 (wd (below0 (hd0 l) n))) ∧ RefAt w' p l.tail S ∧ Fr (fun k => k = p) w w'
theorem refBelow_any (w : World) (p : Nat) (l : List UInt64) (n : UInt64) (S : Nat → Prop) (h : RefAt w p l S) :
    Calls Try.prog 58 #[.pointer (some ⟨p, 0, none⟩), .int .u64 (wd n)] w (RBelowPost w p l n S) := by
  by_cases hn : n = 0
  · have hb : (wd n == 0) = true := by subst hn; rfl
    go_enter Try.func58, Try.ntmps58
    go_wp2_with (go_at_call 57; refine (refNext_any _ _ _ _ h).mono ?_; rintro e w' ⟨rfl, hsrc, hfr⟩)
    go_ret
    exact ⟨by simp [below0, hn]; rfl, hsrc, hfr⟩
  · have hz : ¬ wd n = 0 := fun h => hn (wd_inj h)
    have hb : (wd n == 0) = false := by simpa using hz
    go_enter Try.func58, Try.ntmps58
    go_wp2_with (go_at_call 57; refine (refNext_any _ _ _ _ h).mono ?_; rintro e w' ⟨rfl, hsrc, hfr⟩)
    go_ret
    refine ⟨ret_u64 ?_, hsrc, hfr⟩
    rw [wd_tmod]; simp [below0, hn]
end Go.Proofs.Ytpcjogmikgfgdaa
