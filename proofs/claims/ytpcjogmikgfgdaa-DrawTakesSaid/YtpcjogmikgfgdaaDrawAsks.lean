/- pantrylaw04's asks: a question to a source and to the document's: the same answer. No condition. -/
import Derived.Test.YtpcjogmikgfgdaaDrawRef
namespace Go.Proofs.Ytpcjogmikgfgdaa
open Go.ChangeShapes Go.WideShapes Go.ChangeAt Go.RowKit
/-- a question -/
structure Qn where
  who : Int
  do_ : Int
  n : UInt64
def qn (o : Qn) : List Value := [.int .i64 o.who, .int .i64 o.do_, .int .u64 (wd o.n)]
theorem qn_len (o : Qn) : (qn o).length = 3 := rfl
theorem qn_read {H : Type} {enc : TypeId × Value → H} {w : World} {base : Nat} {held : Bool} (n : Nat) (l : List Value) (y : DataW H × List MemPlace) (h : DataW.trod enc Try.prog w base (fun _ => true) held n 33 l = some y) : ∃ x : Qn, l = qn x := by
  obtain ⟨hl, hf⟩ := struct_read Try.underlying33 (by kernel_rfl) (by kernel_rfl) h
  match l, hl with
  | [c0, c1, c2], _ =>
    obtain ⟨v0, n0, y0, e0, t0⟩ := hf 0 _ rfl
    obtain ⟨v1, n1, y1, e1, t1⟩ := hf 1 _ rfl
    obtain ⟨v2, n2, y2, e2, t2⟩ := hf 2 _ rfl
    cases e0; cases e1; cases e2
    obtain ⟨x0, g0, _, _⟩ := DataW.trod_int Try.underlying3 t0
    obtain ⟨x1, g1, _, _⟩ := DataW.trod_int Try.underlying3 t1
    obtain ⟨x2, g2, _, hw⟩ := DataW.trod_int Try.underlying24 t2
    obtain ⟨u, rfl⟩ := word_of hw
    cases g0; cases g1; cases g2
    exact ⟨⟨x0, x1, u⟩, rfl⟩
theorem qn_at {w : World} {a : Option Addr} {n cap : Nat} {l : List Qn} (h : RdC w 3 (.slice a n cap) n (l.flatMap qn)) (k : Nat) (hk : k < l.length) :
    ∃ g off, a = some ⟨g, off, none⟩ ∧ w.cell? ⟨g, off + k * 3, none⟩ = some (.int .i64 l[k].who) ∧ w.cell? ⟨g, off + k * 3 + 1, none⟩ = some (.int .i64 l[k].do_) ∧ w.cell? ⟨g, off + k * 3 + 2, none⟩ = some (.int .u64 (wd l[k].n)) := by
  have hf := fun j hj => flat_at qn 3 qn_len l k j hk hj
  have hpos : 0 < (l.flatMap qn).length := by
    have := hf 0 (by decide)
    have h2 : (qn l[k])[0]? = some (.int .i64 l[k].who) := rfl
    rw [h2] at this
    have := (List.getElem?_eq_some_iff.1 this).1
    omega
  obtain ⟨g, off, rfl, hc⟩ := h.at hpos
  refine ⟨g, off, rfl, ?_, ?_, ?_⟩
  · exact hc (k * 3 + 0) _ (by rw [hf 0 (by decide)]; rfl)
  · rw [Nat.add_assoc]; exact hc (k * 3 + 1) _ (by rw [hf 1 (by decide)]; rfl)
  · rw [Nat.add_assoc]; exact hc (k * 3 + 2) _ (by rw [hf 2 (by decide)]; rfl)
def nextL (o : Qn) (l : List UInt64) : List UInt64 := if o.do_ = 0 ∨ o.do_ = 1 then l.tail else l
def AsksPost (w : World) (ps pm : Nat) (l : List UInt64) (S R : Nat → Prop) (e : Ending) (w' : World) : Prop :=
  e = .returned (.bool true) ∧ SrcAt w' ps l S ∧ RefAt w' pm l R ∧ Fr (fun k => k = ps ∨ k = pm) w w'
theorem SrcAt.in_ {w : World} {p : Nat} {l : List UInt64} {S : Nat → Prop} (h : SrcAt w p l S) : S p := by obtain ⟨_, _, _, h, _⟩ := h; exact h
theorem RefAt.in_ {w : World} {p : Nat} {l : List UInt64} {S : Nat → Prop} (h : RefAt w p l S) : S p := by obtain ⟨_, _, _, _, _, _, _, h, _⟩ := h; exact h
set_option maxRecDepth 100000 in
set_option maxHeartbeats 1000000 in
theorem asks_any (w : World) (ps pm : Nat) (l : List UInt64) (S R : Nat → Prop) (o : Qn) (hS : SrcAt w ps l S) (hR : RefAt w pm l R) (hd : ∀ k, S k → ¬ R k) :
    Calls Try.prog 19 #[.pointer (some ⟨ps, 0, none⟩), .pointer (some ⟨pm, 0, none⟩), .agg #[.int .i64 o.who, .int .i64 o.do_, .int .u64 (wd o.n)]] w (AsksPost w ps pm (nextL o l) S R) := by
  have HS := Lib.hid hS
  have HR := Lib.hid hR
  have HD := Lib.hid hd
  have hps : S ps := hS.in_
  have hpm : R pm := hR.in_
  have hlo : ps < w.heap.size := by obtain ⟨v, h1, _⟩ := hS; exact (Array.getElem?_eq_some_iff.1 h1).1
  have hlm : pm < w.heap.size := by obtain ⟨v, k, L, h1, _⟩ := hR; exact (Array.getElem?_eq_some_iff.1 h1).1
  have HPS := Lib.hid hps
  have HPM := Lib.hid hpm
  clear hS hR hd hps hpm
  obtain ⟨W0, hW0⟩ : ∃ W, w.alloc (.cells #[.int .i64 o.who, .int .i64 o.do_, .int .u64 (wd o.n)] 33) = W := ⟨_, rfl⟩
  have hf0 : Fr (fun _ => False) w W0 := by rw [← hW0]; exact Fr.alloc _ _ _
  have hb0 : W0.heap[w.heap.size]? = some (.cells #[.int .i64 o.who, .int .i64 o.do_, .int .u64 (wd o.n)] 33 (0, 0)) := by rw [← hW0]; exact alloc_at _ _
  have HS0 := Lib.hid (HS.out.fr hf0 (fun _ _ h => h))
  have HR0 := Lib.hid (HR.out.fr hf0 (fun _ _ h => h))
  have HB0 := Lib.hid hb0
  have HW0 := Lib.hid hW0
  have HFX : Hid (Fr (fun k => k = ps ∨ k = pm) w W0) := hf0.mono (fun _ h => h.elim)
  clear hW0 hf0 hb0 HS HR
  by_cases h0 : o.do_ = 0
  · have g0 : (o.do_ == 0) = true := beq_iff_eq.2 h0
    have HN : Hid (nextL o l = l.tail) := by show _ = _; unfold nextL; rw [if_pos (.inl h0)]
    clear h0
    go_enter Try.func19, Try.ntmps19
    go_wp2_with fail
    rw [HW0.out]
    refine (refNext_any _ pm l R HR0.out).mono ?_
    rintro e w1 ⟨rfl, hr1, hf1⟩
    have HS1 := Lib.hid (HS0.out.fr hf1 (fun k hk e => HD.out k hk (e ▸ HPM.out)))
    have HR1 := Lib.hid hr1
    have HF1 := Lib.hid hf1
    clear hr1 hf1
    go_wp2_with fail
    refine (next_any _ ps l S HS1.out).mono ?_
    rintro e w2 ⟨rfl, hs2, hf2⟩
    have HR2 := Lib.hid (HR1.out.fr hf2 (fun k hk e => HD.out k (e ▸ HPS.out) hk))
    have HS2 := Lib.hid hs2
    have HF2 := Lib.hid hf2
    clear hs2 hf2
    have g1 : (wd (hd0 l) == wd (hd0 l)) = true := beq_self_eq_true _
    go_wp2
    go_ret
    refine ⟨by simp, by rw [HN.out]; exact HS2.out, by rw [HN.out]; exact HR2.out, ?_⟩
    exact (HFX.out.wide HF1.out (fun i h => .inl (.inr h))).wide HF2.out (fun i h => .inl (.inl h))
  · have g0 : (o.do_ == 0) = false := beq_eq_false_iff_ne.2 h0
    have hc1 : W0.cell? ⟨w.heap.size, 1, none⟩ = some (.int .i64 o.do_) := by rw [cell_of_blk HB0.out]; rfl
    have hc2 : W0.cell? ⟨w.heap.size, 2, none⟩ = some (.int .u64 (wd o.n)) := by rw [cell_of_blk HB0.out]; rfl
    by_cases h1 : o.do_ = 1
    · have g1 : (o.do_ == 1) = true := beq_iff_eq.2 h1
      have HN : Hid (nextL o l = l.tail) := by show _ = _; unfold nextL; rw [if_pos (.inr h1)]
      clear h0 h1 hc1
      go_enter Try.func19, Try.ntmps19
      go_wp2_with fail
      rw [HW0.out]
      refine (refBelow_any _ pm l o.n R HR0.out).mono ?_
      rintro e w1 ⟨rfl, hr1, hf1⟩
      have HS1 := Lib.hid (HS0.out.fr hf1 (fun k hk e => HD.out k hk (e ▸ HPM.out)))
      have HR1 := Lib.hid hr1
      have HF1 := Lib.hid hf1
      have hc3 : w1.cell? ⟨w.heap.size, 2, none⟩ = some (.int .u64 (wd o.n)) := hf1.cell hc2 (fun e => by dsimp at e; omega)
      clear hr1 hf1 hc2
      go_wp2_with fail
      refine (below_any _ ps l o.n S HS1.out).mono ?_
      rintro e w2 ⟨rfl, hs2, hf2⟩
      have HR2 := Lib.hid (HR1.out.fr hf2 (fun k hk e => HD.out k (e ▸ HPS.out) hk))
      have HS2 := Lib.hid hs2
      have HF2 := Lib.hid hf2
      clear hs2 hf2
      have g1 : (wd (below0 (hd0 l) o.n) == wd (below0 (hd0 l) o.n)) = true := beq_self_eq_true _
      go_wp2
      go_ret
      refine ⟨by simp, by rw [HN.out]; exact HS2.out, by rw [HN.out]; exact HR2.out, ?_⟩
      exact (HFX.out.wide HF1.out (fun i h => .inl (.inr h))).wide HF2.out (fun i h => .inl (.inl h))
    · have g1 : (o.do_ == 1) = false := beq_eq_false_iff_ne.2 h1
      have HN : Hid (nextL o l = l) := by show _ = _; unfold nextL; rw [if_neg (fun h => h.elim h0 h1)]
      clear h0 h1 hc1 hc2
      go_enter Try.func19, Try.ntmps19
      go_wp2_with fail
      rw [HW0.out]
      refine (left_any _ ps l S HS0.out).mono ?_
      rintro e w1 ⟨rfl, rfl⟩
      go_wp2_with fail
      refine (refLeft_any _ pm l R HR0.out).mono ?_
      rintro e w1 ⟨rfl, m, rfl⟩
      go_wp2
      go_ret
      refine ⟨by simp, by rw [HN.out]; exact HS0.out.fr (Fr.drewN (fun _ => False) _ _) (fun _ _ h => h), by rw [HN.out]; exact HR0.out.fr (Fr.drewN (fun _ => False) _ _) (fun _ _ h => h), HFX.out.thenDrewN _⟩
end Go.Proofs.Ytpcjogmikgfgdaa
