/- pantrylaw26's does, of every step but Unwatch and Touch, with the session's footprint. No condition. -/
import Derived.Test.YtpcjogmikgfgdaaDoes26
import Derived.Test.YtpcjogmikgfgdaaFoot
namespace Go.Proofs.Ytpcjogmikgfgdaa
open Go.RowKit
/-- what does hands back, and what the session then watches -/
def DoesF (w0 w : World) (F : Nat → Prop) (p m : Nat) (S : SS) (o : St) (e : Ending) (w' : World) : Prop :=
  ∃ (c : Int) (vq' : Value) (F' : Nat → Prop) (S' : SS), e = .returned (.int .i64 c) ∧ SessF w' w0.heap.size F' p m vq' S' ∧ (∀ k, F' k → F k ∨ w.heap.size ≤ k) ∧ Fr F w w' ∧
    (S'.wt = (if o.do_ = 3 ∧ S.op = true then [] else S.wt)) ∧ (S'.di = (if o.do_ = 3 ∧ S.op = true then false else S.di)) ∧ (o.do_ = 3 → (c = 0 ↔ S.op = true))
theorem fr_two {w w' : World} {F : Nat → Prop} {p m : Nat} (hf : Fr (fun i => i = p ∨ i = m) w w') (hp : F p) (hm : F m) : Fr F w w' := hf.mono (fun i hi _ => hi.elim (fun e => by rw [e]; exact hp) (fun e => by rw [e]; exact hm))
section
variable (w0 w : World) (F : Nat → Prop) (p m : Nat) (vq : Value) (S : SS) (o : St)
set_option maxRecDepth 100000 in
set_option maxHeartbeats 2000000 in
theorem doesF_any (h : SessF w w0.heap.size F p m vq S) (ho : StOk w0 o) (hb : Below w0.heap.size w0 w) (h5 : o.do_ ≠ 5) (h6 : o.do_ ≠ 6) :
    Calls Try.prog 28 #[.pointer (some ⟨p, 0, none⟩), .agg #[.int .i64 o.who, .int .i64 o.do_, .int .i64 o.n, o.wv]] w (DoesF w0 w F p m S o) := by
  by_cases h0 : o.do_ = 0 ∨ o.do_ = 1 ∨ o.do_ = 3
  case neg =>
    refine (doesX_any w0 w p m vq S o h.s ho hb (fun e => h0 (.inl e)) (fun e => h0 (.inr (.inl e))) (fun e => h0 (.inr (.inr e)))).mono ?_
    rintro e w' ⟨rfl, hs, hf⟩
    have h3 : o.do_ ≠ 3 := fun e => h0 (.inr (.inr e))
    refine ⟨0, vq, F, _, rfl, h.turn hs hf, fun k hk => .inl hk, fr_two hf h.fp h.fm, ?_, ?_, fun e => absurd e h3⟩
    · rw [if_neg (fun e => h3 e.1)]
      unfold doesS; rw [if_neg h5, if_neg h6]; split <;> rfl
    · rw [if_neg (fun e => h3 e.1)]
      unfold doesS; rw [if_neg h5, if_neg h6]; split <;> rfl
  obtain ⟨op, sp, di, q, wt⟩ := S
  obtain ⟨W, hW⟩ : ∃ W, w.alloc (.cells #[.int .i64 o.who, .int .i64 o.do_, .int .i64 o.n, o.wv] 43) = W := ⟨_, rfl⟩
  have hf : Fr (fun _ => False) w W := by rw [← hW]; exact Fr.alloc _ _ _
  have HS := Lib.hid (h.quiet hf)
  have HF : Hid (Fr F w W) := hf.mono (fun _ h => h.elim)
  have HSZ : Hid (w.heap.size ≤ W.heap.size) := hf.size
  have HB : Hid (Below w0.heap.size w0 W) := by rw [← hW]; exact hb.alloc hb.size _
  have HO := Lib.hid ho
  obtain ⟨-, a, c, hwv, -⟩ := ho.rd
  have HW := Lib.hid hW
  clear h hb ho hf hW h5 h6
  by_cases hd0 : o.do_ = 0
  · have g0 : (o.do_ == 0) = true := beq_iff_eq.2 hd0
    have h3 : o.do_ ≠ 3 := by omega
    have HD := Lib.hid h3
    clear hd0 h3 h0
    rw [hwv]
    go_enter Try.func28, Try.ntmps28
    go_wp2_with fail
    rw [← hwv, HW.out]
    refine (begin_any W _ p m vq _ HS.out.s).mono ?_
    rintro e w1 ⟨rfl, hs, hf⟩
    have hf2 : Fr (fun i => i = p ∨ i = m) W w1 := hf.mono (fun _ h _ => .inl h)
    have HS1 := Lib.hid (HS.out.turn hs hf2)
    have HF1 := Lib.hid (HF.out.wide (fr_two hf2 HS.out.fp HS.out.fm) (fun i hi => .inl hi))
    clear hs hf hf2
    go_wp2
    all_goals
      go_ret
      exact ⟨_, vq, F, _, rfl, HS1.out, fun k hk => .inl hk, HF1.out, by rw [if_neg (fun e => HD.out e.1)], by rw [if_neg (fun e => HD.out e.1)], fun e => absurd e HD.out⟩
  have g0 : (o.do_ == 0) = false := beq_eq_false_iff_ne.2 hd0
  by_cases hd1 : o.do_ = 1
  · have g1 : (o.do_ == 1) = true := beq_iff_eq.2 hd1
    have h3 : o.do_ ≠ 3 := by omega
    have HD := Lib.hid h3
    clear hd0 hd1 h3 h0
    rw [hwv]
    have HQ : Hid (Calls Try.prog 25 #[.pointer (some ⟨p, 0, none⟩), .slice a o.ws.length c] W fun e w' => ∃ (cc : Int) (vq' : Value) (F' : Nat → Prop) (q' : List (List ByteArray)), e = .returned (.int .i64 cc) ∧ SessF w' w0.heap.size F' p m vq' ⟨op, sp, di, q', wt⟩ ∧ (∀ k, F' k → F k ∨ W.heap.size ≤ k) ∧ Fr F W w') := by
      show Calls _ _ _ _ _
      have hrd := HO.out.rd.below HB.out
      rw [hwv] at hrd
      cases op
      · refine (queue_shut W _ p m vq sp di q wt _ HS.out.s).mono ?_
        rintro e w' ⟨rfl, rfl⟩
        exact ⟨_, vq, F, q, rfl, HS.out, fun k hk => .inl hk, Fr.refl _ _⟩
      · by_cases hq : q.length < 1024
        · refine (queue_ok W _ p m vq sp di q wt _ o.ws HS.out.s hq hrd (by have := HO.out.by_; omega) HB.out.size).mono ?_
          intro e w' hqp
          obtain ⟨vq', rfl, hs, hf⟩ := HS.out.queued HB.out.size hqp
          exact ⟨_, vq', _, _, rfl, hs, fun k hk => hk.imp id (fun h => h.1), hf⟩
        · refine (queue_full W _ p m vq sp di q wt _ HS.out.s (by omega)).mono ?_
          rintro e w' ⟨rfl, rfl⟩
          exact ⟨_, vq, F, q, rfl, HS.out, fun k hk => .inl hk, Fr.refl _ _⟩
    go_enter Try.func28, Try.ntmps28
    go_wp2_with fail
    rw [← hwv, HW.out]
    rw [← hwv] at HQ
    rw [hwv] at HQ ⊢
    refine HQ.out.mono ?_
    rintro e w1 ⟨cc, vq', F', q', rfl, hs, hFF, hf⟩
    have HS1 := Lib.hid hs
    have HF1 := Lib.hid (HF.out.wide hf (fun i hi => .inl hi))
    have HFF := Lib.hid hFF
    clear hs hf hFF
    go_wp2
    go_ret
    exact ⟨_, vq', F', _, rfl, HS1.out, fun k hk => (HFF.out k hk).imp id (fun h => Nat.le_trans HSZ.out h), HF1.out, by rw [if_neg (fun e => HD.out e.1)], by rw [if_neg (fun e => HD.out e.1)], fun e => absurd e HD.out⟩
  have g1 : (o.do_ == 1) = false := beq_eq_false_iff_ne.2 hd1
  have hd3 : o.do_ = 3 := by omega
  have g2 : (o.do_ == 2) = false := beq_eq_false_iff_ne.2 (by omega)
  have g3 : (o.do_ == 3) = true := beq_iff_eq.2 hd3
  have HD := Lib.hid hd3
  clear hd0 hd1 h0 hd3
  rw [hwv]
  cases op
  · go_enter Try.func28, Try.ntmps28
    go_wp2_with fail
    rw [← hwv, HW.out]
    refine (end_shut W _ p m vq sp di q wt HS.out.s).mono ?_
    rintro e w1 ⟨rfl, rfl⟩
    go_wp2
    go_ret
    exact ⟨_, vq, F, _, rfl, HS.out, fun k hk => .inl hk, HF.out, by rw [if_neg (fun e => by cases e.2)], by rw [if_neg (fun e => by cases e.2)], fun _ => ⟨fun e => (by cases e), fun e => (by cases e)⟩⟩
  · go_enter Try.func28, Try.ntmps28
    go_wp2_with fail
    rw [← hwv, HW.out]
    refine (end_open W _ p m vq sp di q wt HS.out.s).mono ?_
    rintro e w1 ⟨rfl, hs, -, hf⟩
    obtain ⟨va, vc, hvq⟩ := HS.out.s.vq_slice
    have HS1 := Lib.hid (HS.out.ended hs hf rfl)
    have HF1 := Lib.hid (HF.out.wide (fr_two hf HS.out.fp HS.out.fm) (fun i hi => .inl hi))
    clear hs hf
    rw [hvq]
    go_wp2
    go_ret
    exact ⟨_, _, F, _, rfl, HS1.out, fun k hk => .inl hk, HF1.out, by rw [if_pos ⟨HD.out, rfl⟩], by rw [if_pos ⟨HD.out, rfl⟩], fun _ => ⟨fun _ => rfl, fun _ => rfl⟩⟩
end
end Go.Proofs.Ytpcjogmikgfgdaa
