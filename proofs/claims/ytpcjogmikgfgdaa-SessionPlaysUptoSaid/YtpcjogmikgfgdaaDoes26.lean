/- pantrylaw26's does, of steps that are no Begin, no Queue, no End. No condition. -/
import Derived.Test.YtpcjogmikgfgdaaSessW
import Derived.Test.YtpcjogmikgfgdaaStep26
namespace Go.Proofs.Ytpcjogmikgfgdaa
open Go.RowKit
def doesS (o : St) (S : SS) : SS := if o.do_ = 2 then { S with sp := S.sp || S.op } else if o.do_ = 5 then { S with di := false, wt := [] } else if o.do_ = 6 then { S with di := S.di || o.ws.any (fun k => inL k S.wt) } else S
theorem rd_later {w0 w W : World} {v : Value} {l : List ByteArray} {p : Nat} (h : RdC w0 1 v l.length (l.map .string)) (hb : Below w0.heap.size w0 w) (hp : w0.heap.size ≤ p) (hf : Fr (fun i => i = p) w W) : RdC W 1 v l.length (l.map .string) :=
  h.below (hb.trans (hf.below hb.size (fun i e => by rw [e]; exact hp)))
section
variable (w0 w : World) (p m : Nat) (vq : Value) (S : SS) (o : St)
set_option maxRecDepth 100000 in
set_option maxHeartbeats 1000000 in
theorem doesX_any (h : SessAt w w0.heap.size p m vq S) (ho : StOk w0 o) (hb : Below w0.heap.size w0 w) (h0 : o.do_ ≠ 0) (h1 : o.do_ ≠ 1) (h3 : o.do_ ≠ 3) :
    Calls Try.prog 28 #[.pointer (some ⟨p, 0, none⟩), .agg #[.int .i64 o.who, .int .i64 o.do_, .int .i64 o.n, o.wv]] w (SPost w w0.heap.size p m vq (doesS o S) (fun i => i = p ∨ i = m) (fun e => e = .returned (.int .i64 0))) := by
  obtain ⟨op, sp, di, q, wt⟩ := S
  obtain ⟨W, hW⟩ : ∃ W, w.alloc (.cells #[.int .i64 o.who, .int .i64 o.do_, .int .i64 o.n, o.wv] 43) = W := ⟨_, rfl⟩
  have hf : Fr (fun _ => False) w W := by rw [← hW]; exact Fr.alloc _ _ _
  have HS := Lib.hid (h.quiet hf)
  have HF : Hid (Fr (fun i => i = p ∨ i = m) w W) := hf.mono (fun _ h => h.elim)
  have HB : Hid (Below w0.heap.size w0 W) := by rw [← hW]; exact hb.alloc hb.size _
  have HO := Lib.hid ho
  obtain ⟨-, a, c, hwv, -⟩ := ho.rd
  have g0 : (o.do_ == 0) = false := beq_eq_false_iff_ne.2 h0
  have g1 : (o.do_ == 1) = false := beq_eq_false_iff_ne.2 h1
  have g3 : (o.do_ == 3) = false := beq_eq_false_iff_ne.2 h3
  have HW := Lib.hid hW
  have HP : Hid (w0.heap.size ≤ p) := h.bp
  clear h hb ho hf h0 h1 h3 hW
  by_cases h2 : o.do_ = 2
  · have g2 : (o.do_ == 2) = true := beq_iff_eq.2 h2
    have he : doesS o ⟨op, sp, di, q, wt⟩ = ⟨op, sp || op, di, q, wt⟩ := by unfold doesS; rw [if_pos h2]
    rw [he]
    clear h2 he
    rw [hwv]
    go_enter Try.func28, Try.ntmps28
    go_wp2_with fail
    rw [← hwv, HW.out]
    refine (spoil_any W _ p m vq _ HS.out).mono ?_
    rintro e w1 ⟨⟨_, rfl⟩, hs, hf⟩
    have HS1 := Lib.hid hs
    have HF1 := Lib.hid hf
    clear hs hf
    go_wp2
    go_ret
    exact ⟨rfl, HS1.out, HF.out.wide HF1.out (fun i hi => .inl (.inl hi))⟩
  by_cases h5 : o.do_ = 5
  · have g2 : (o.do_ == 2) = false := beq_eq_false_iff_ne.2 h2
    have g5 : (o.do_ == 5) = true := beq_iff_eq.2 h5
    have he : doesS o ⟨op, sp, di, q, wt⟩ = ⟨op, sp, false, q, []⟩ := by unfold doesS; rw [if_neg h2, if_pos h5]
    rw [he]
    clear h2 h5 he
    rw [hwv]
    go_enter Try.func28, Try.ntmps28
    go_wp2_with fail
    rw [← hwv, HW.out]
    refine (unwatch_any W _ p m vq op sp di q wt HS.out).mono ?_
    rintro e w1 ⟨rfl, hs, hf⟩
    have HS1 := Lib.hid hs
    have HF1 := Lib.hid hf
    clear hs hf
    go_wp2
    go_ret
    exact ⟨rfl, HS1.out, HF.out.wide HF1.out (fun i hi => .inl hi)⟩
  by_cases h6 : o.do_ = 6
  · have g2 : (o.do_ == 2) = false := beq_eq_false_iff_ne.2 h2
    have g5 : (o.do_ == 5) = false := beq_eq_false_iff_ne.2 h5
    have g6 : (o.do_ == 6) = true := beq_iff_eq.2 h6
    have he : doesS o ⟨op, sp, di, q, wt⟩ = ⟨op, sp, di || o.ws.any (fun k => inL k wt), q, wt⟩ := by unfold doesS; rw [if_neg h2, if_neg h5, if_pos h6]
    rw [he]
    clear h2 h5 h6 he
    rw [hwv]
    go_enter Try.func28, Try.ntmps28
    go_wp2_with fail
    rw [← hwv, HW.out]
    refine (touch_any W _ p m vq op sp di q wt o.wv o.ws HS.out (fun W' hf => rd_later HO.out.rd HB.out HP.out hf) HO.out.sz).mono ?_
    rintro e w1 ⟨rfl, hs, hf⟩
    have HS1 := Lib.hid hs
    have HF1 := Lib.hid hf
    clear hs hf
    go_wp2
    go_ret
    exact ⟨rfl, HS1.out, HF.out.wide HF1.out (fun i hi => .inl (.inl hi))⟩
  · have g2 : (o.do_ == 2) = false := beq_eq_false_iff_ne.2 h2
    have g5 : (o.do_ == 5) = false := beq_eq_false_iff_ne.2 h5
    have g6 : (o.do_ == 6) = false := beq_eq_false_iff_ne.2 h6
    have he : doesS o ⟨op, sp, di, q, wt⟩ = ⟨op, sp, di, q, wt⟩ := by unfold doesS; rw [if_neg h2, if_neg h5, if_neg h6]
    rw [he]
    clear h2 h5 h6 he
    rw [hwv]
    go_enter Try.func28, Try.ntmps28
    go_wp2
    go_ret
    rw [← hwv, HW.out]
    exact ⟨rfl, HS.out, HF.out⟩
end
end Go.Proofs.Ytpcjogmikgfgdaa
