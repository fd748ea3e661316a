/- pantrylaw26's plays: a step answers as the reference says. No condition. -/
import Derived.Test.YtpcjogmikgfgdaaAsks26
import Derived.Deep.Cut
import Derived.Deep.CutBlock
import Derived.Outline
namespace Go.Proofs.Ytpcjogmikgfgdaa
open Go.RowKit
/-- both, behind some steps -/
def PlMid (V : World) (B : Nat) (F1 F2 : Nat → Prop) (p m q n : Nat) (W : World) : Prop :=
  ∃ F1' F2' vq' vr' S' L', Sy W B F1' F2' p m q vq' vr' S' L' ∧ (∀ k, F1' k → F1 k ∨ V.heap.size ≤ k) ∧ (∀ k, F2' k → F2 k ∨ V.heap.size ≤ k) ∧ Fr (fun i => F1 i ∨ F2 i) V W ∧ L'.length ≤ n
section
variable {V V1 V2 W W' : World} {B p m q n : Nat} {F1 F2 T : Nat → Prop} {vq vr : Value} {S S' : SS} {L : List Dd}
theorem Sy.start (h : Sy V B F1 F2 p m q vq vr S L) (hn : L.length ≤ n) : PlMid V B F1 F2 p m q n V :=
  ⟨F1, F2, vq, vr, S, L, h, fun _ h => .inl h, fun _ h => .inl h, Fr.refl _ _, hn⟩
theorem PlMid.quiet (h : PlMid V B F1 F2 p m q n W) (hf : Fr (fun _ => False) W W') : PlMid V B F1 F2 p m q n W' := by
  obtain ⟨F1', F2', vq', vr', S', L', h1, h2, h3, h4, h5⟩ := h
  exact ⟨F1', F2', vq', vr', S', L', h1.quiet hf, h2, h3, h4.wide hf (fun _ h => h.elim), h5⟩
/-- seen from an elder world, in which the footprints were already -/
theorem PlMid.elder (h : PlMid V1 B F1 F2 p m q n W) (hf : Fr (fun _ => False) V V1) : PlMid V B F1 F2 p m q n W := by
  obtain ⟨F1', F2', vq', vr', S', L', h1, h2, h3, h4, h5⟩ := h
  have := hf.size
  exact ⟨F1', F2', vq', vr', S', L', h1, fun k hk => (h2 k hk).imp id (fun h => by omega), fun k hk => (h3 k hk).imp id (fun h => by omega), (hf.mono (fun _ h _ => h.elim)).wide h4 (fun i hi => .inl hi), h5⟩
/-- what lay between the two is written -/
theorem PlMid.lent (h : PlMid V1 B F1 F2 p m q n W) (h01 : Fr (fun _ => False) V V1) (hf : Fr T W W') (hT : ∀ i, T i → V.heap.size ≤ i ∧ i < V1.heap.size) (h1l : ∀ k, F1 k → k < V.heap.size) (h2l : ∀ k, F2 k → k < V.heap.size) : PlMid V B F1 F2 p m q n W' := by
  obtain ⟨F1', F2', vq', vr', S', L', h1, h2, h3, h4, h5⟩ := h
  have hs := h01.size
  have d1 : ∀ k, F1' k → ¬ T k := fun k hk ht => by
    have h6 := hT k ht
    rcases h2 k hk with h7 | h7
    · have := h1l k h7; omega
    · omega
  have d2 : ∀ k, F2' k → ¬ T k := fun k hk ht => by
    have h6 := hT k ht
    rcases h3 k hk with h7 | h7
    · have := h2l k h7; omega
    · omega
  exact ⟨F1', F2', vq', vr', S', L', ⟨h1.g.other hf d1, h1.r.other hf d2, h1.eq, h1.ap⟩, fun k hk => (h2 k hk).imp id (fun h => by omega), fun k hk => (h3 k hk).imp id (fun h => by omega), ((h01.mono (fun _ h _ => h.elim)).wide h4 (fun i hi => .inl hi)).wide hf (fun i hi => .inr (hT i hi).1), h5⟩
theorem PlMid.trans {F1' F2' : Nat → Prop} {n' : Nat} (hf : Fr (fun i => F1 i ∨ F2 i) V W) (h2 : ∀ k, F1' k → F1 k ∨ V.heap.size ≤ k) (h3 : ∀ k, F2' k → F2 k ∨ V.heap.size ≤ k) (h : PlMid W B F1' F2' p m q n' W') : PlMid V B F1 F2 p m q n' W' := by
  obtain ⟨G1, G2, vq', vr', S', L', k1, k2, k3, k4, k5⟩ := h
  have hs := hf.size
  refine ⟨G1, G2, vq', vr', S', L', k1, fun k hk => ?_, fun k hk => ?_, hf.wide k4 (fun i hi => ?_), k5⟩
  · rcases k2 k hk with h | h
    · exact h2 k h
    · exact .inr (by omega)
  · rcases k3 k hk with h | h
    · exact h3 k h
    · exact .inr (by omega)
  · rcases hi with hi | hi
    · rcases h2 i hi with h | h
      · exact .inl (.inl h)
      · exact .inr h
    · rcases h3 i hi with h | h
      · exact .inl (.inr h)
      · exact .inr h
theorem Sy.mid (h : Sy V B F1 F2 p m q vq vr S L) {P : Ending → Prop} {e : Ending} (hr : RPost V B F2 q S' n P e V1) : SessG V1 B F1 p m vq S := by
  obtain ⟨vr', L', _, _, _, _, hf⟩ := hr
  exact h.g.other hf (fun k hk => h.ap k hk)
theorem Sy.join (h : Sy V B F1 F2 p m q vq vr S L) {P1 P2 : Ending → Prop} {e1 e2 : Ending} (hr : RPost V B F2 q S' n P1 e1 V1) (hs : SMut V1 B F1 p m S' P2 e2 V2) : P2 e2 ∧ PlMid V B F1 F2 p m q n V2 := by
  obtain ⟨vr', L', hp1, hrf, hrun, hn, hf⟩ := hr
  obtain ⟨vq', F1', hp2, hsg, hgr, hf2⟩ := hs
  have h1l : ∀ k, F1 k → k < V.heap.size := fun k hk => (h.g.f.lt k hk).2
  have hz := hf.size
  refine ⟨hp2, F1', Grew F2 V V1, vq', vr', S', L', ⟨hsg, hrf.other hf2 (fun k hk hk1 => ?_), hrun, fun k hk hk2 => ?_⟩, fun k hk => (hgr k hk).imp id (fun h => by omega), fun k hk => hk.imp id (fun h => h.1), (hf.mono (fun i hi _ => .inr hi)).wide hf2 (fun i hi => .inl (.inl hi)), hn⟩
  · rcases hk with hk | hk
    · exact h.ap k hk1 hk
    · have := h1l k hk1; omega
  · rcases hgr k hk with h3 | h3
    · rcases hk2 with h4 | h4
      · exact h.ap k h3 h4
      · have := h1l k h3; omega
    · rcases hk2 with h4 | h4
      · have := (h.r.lt k h4).2; omega
      · omega
/-- behind an End -/
theorem Sy.ended (h : Sy V B F1 F2 p m q vq vr S L) {P1 : Ending → Prop} {e1 : Ending} {qs : List Value} (hr : RPost V B F2 q ss0 n P1 e1 V1) (hg : SessG V2 B F1 p m (.slice none 0 0) ss0) (hsl : ∀ i, SlT vq qs i → F1 i ∧ i ≠ p ∧ i ≠ m) (hf2 : Fr F1 V1 V2) {V3 : World} (hf3 : Fr (fun i => SlT vq qs i) V2 V3) : PlMid V B F1 F2 p m q n V3 := by
  obtain ⟨vr', L', hp1, hrf, hrun, hn, hf⟩ := hr
  have h1l : ∀ k, F1 k → k < V.heap.size := fun k hk => (h.g.f.lt k hk).2
  have hfr : Fr F1 V1 V3 := hf2.wide hf3 (fun i hi => .inl (hsl i hi).1)
  refine ⟨F1, Grew F2 V V1, _, vr', ss0, L', ⟨hg.lent hf3 (fun i hi => (hsl i hi).2), hrf.other hfr (fun k hk hk1 => ?_), hrun, fun k hk hk2 => ?_⟩, fun k hk => .inl hk, fun k hk => hk.imp id (fun h => h.1), (hf.mono (fun i hi _ => .inr hi)).wide hfr (fun i hi => .inl (.inl hi)), hn⟩
  · rcases hk with hk | hk
    · exact h.ap k hk1 hk
    · have := h1l k hk1; omega
  · rcases hk2 with h4 | h4
    · exact h.ap k hk h4
    · have := h1l k hk; omega
end
theorem sameLs_refl (w : World) (v1 v2 : Value) (l : List (List ByteArray)) (h1 : Ls w v1 l) (h2 : Ls w v2 l) :
    Calls Try.prog 27 #[v1, v2] w fun e w' => e = .returned (.bool true) ∧ ∃ m, w' = w.drewN m :=
  (sameLs_any w v1 v2 l l h1 h2).mono fun e w' ⟨he, hw⟩ => ⟨by rw [he, decide_eq_true rfl], hw⟩
def PlP (V : World) (B : Nat) (F1 F2 : Nat → Prop) (p m q n : Nat) (e : Ending) (W : World) : Prop := e = .returned (.bool true) ∧ PlMid V B F1 F2 p m q n W
set_option maxRecDepth 100000 in
set_option maxHeartbeats 8000000 in
theorem plays26_any (w0 V : World) (F1 F2 : Nat → Prop) (p m q : Nat) (vq vr : Value) (S : SS) (L : List Dd) (o : St) (h : Sy V w0.heap.size F1 F2 p m q vq vr S L) (ho : StOk w0 o) (hb : Below w0.heap.size w0 V) (hln : L.length + o.ws.length + 1 ≤ 1099511627776) :
    Calls Try.prog 40 #[.pointer (some ⟨p, 0, none⟩), .pointer (some ⟨q, 0, none⟩), .agg #[.int .i64 o.who, .int .i64 o.do_, .int .i64 o.n, o.wv]] V (PlP V w0.heap.size F1 F2 p m q (L.length + o.ws.length + 1)) := by
  obtain ⟨who, dd, nn, wv, ws⟩ := o
  have hrd0 := ho.rd
  have hws := ho.by_
  have hsz := ho.sz
  dsimp only at hrd0 hws hsz hln ⊢
  obtain ⟨-, wa, wc, rfl, -⟩ := hrd0
  have hrd0 := ho.rd
  dsimp only at hrd0
  obtain ⟨B, hBd⟩ : ∃ B, w0.heap.size = B := ⟨_, rfl⟩
  rw [hBd] at h ⊢
  have HF0 : Hid (Fr (fun _ => False) V (V.alloc (.cells #[.int .i64 who, .int .i64 dd, .int .i64 nn, .slice wa ws.length wc] 43))) := Fr.alloc _ _ _
  have hbs := alloc_at V (.cells #[.int .i64 who, .int .i64 dd, .int .i64 nn, .slice wa ws.length wc] 43)
  obtain ⟨V0, hV0⟩ : ∃ W, V.alloc (.cells #[.int .i64 who, .int .i64 dd, .int .i64 nn, .slice wa ws.length wc] 43) = W := ⟨_, rfl⟩
  rw [hV0] at HF0 hbs
  obtain ⟨s, hs⟩ : ∃ s, V.heap.size = s := ⟨_, rfl⟩
  rw [hs] at hbs
  have hsl := (Array.getElem?_eq_some_iff.1 hbs).1
  have HS0 := Lib.hid (h.quiet HF0.out)
  have HL1 : Hid (∀ k, F1 k → k < s) := fun k hk => by rw [← hs]; exact (h.g.f.lt k hk).2
  have HL2 : Hid (∀ k, F2 k → k < s) := fun k hk => by rw [← hs]; exact (h.r.lt k hk).2
  have HBV : Hid (B ≤ V0.heap.size) := by rw [← hBd]; exact Nat.le_trans hb.size HF0.out.size
  -- the step's box, whatever the two have turned
  have HST : Hid (∀ W, Fr (fun i => F1 i ∨ F2 i) V0 W → W.heap[s]? = some (.cells #[.int .i64 who, .int .i64 dd, .int .i64 nn, .slice wa ws.length wc] 43 (0, 0))) := fun W hf =>
    (hf.block s hsl (fun e => by rcases e with e | e; have := HL1.out s e; omega; have := HL2.out s e; omega)).trans hbs
  -- its words, too
  have HRD : Hid (∀ W, Fr (fun i => F1 i ∨ F2 i) V0 W → RdC W 1 (.slice wa ws.length wc) ws.length (ws.map .string)) := fun W hf => by
    have hb1 : Below w0.heap.size w0 V0 := hb.trans (HF0.out.below hb.size (fun _ h => h.elim))
    refine hrd0.below (hb1.trans (hf.below hb1.size (fun i hi => ?_)))
    rcases hi with hi | hi
    · rw [hBd]; exact (h.g.f.lt i hi).1
    · rw [hBd]; exact (h.r.lt i hi).1
  have HWS := Lib.hid hws
  have HSZ := Lib.hid hsz
  have HEL : Hid (∀ W, PlMid V0 B F1 F2 p m q (L.length + ws.length + 1) W → PlMid V B F1 F2 p m q (L.length + ws.length + 1) W) := fun W hm => hm.elder HF0.out
  have x0 := cell_of_blk (HST.out V0 (Fr.refl _ _)) 0
  have x1 := cell_of_blk (HST.out V0 (Fr.refl _ _)) 1
  have x2 := cell_of_blk (HST.out V0 (Fr.refl _ _)) 2
  have x3 := cell_of_blk (HST.out V0 (Fr.refl _ _)) 3
  replace x0 : V0.cell? ⟨s, 0, none⟩ = some (.int .i64 who) := x0
  replace x1 : V0.cell? ⟨s, 1, none⟩ = some (.int .i64 dd) := x1
  replace x2 : V0.cell? ⟨s, 2, none⟩ = some (.int .i64 nn) := x2
  replace x3 : V0.cell? ⟨s, 3, none⟩ = some (.slice wa ws.length wc) := x3
  have HOP : Hid (V.heap.size = s) := hs
  clear h ho hb hbs hrd0 hsz hws hBd
  go_enter Try.func40, Try.ntmps40
  go_upto_block 0 with (fail)
  clear hV0 hs
  go_cut [6] from 20 to 127 (fun _ wc => Hid (PlMid V0 B F1 F2 p m q (L.length + ws.length + 1) wc))
  case first =>
    by_cases h0 : dd = 0
    · subst h0
      have HR := Lib.hid (beginR_any V0 B q F2 vr L HS0.out.r HBV.out (by omega))
      rw [HS0.out.eq] at HR
      obtain ⟨cc, hcc⟩ : ∃ c : Int, (if S.op then (260 : Int) else 0) = c := ⟨_, rfl⟩
      rw [hcc] at HR
      have HCC := Lib.hid hcc
      clear hcc
      go_wp2_with fail
      refine HR.out.mono ?_
      intro e w1 hr
      have hgg := beginG_any w1 B p m F1 vq S (HS0.out.mid hr)
      rw [HCC.out] at hgg
      have HG := Lib.hid hgg
      clear hgg
      have HRP := Lib.hid hr
      obtain ⟨_, _, rfl, _⟩ := hr
      clear x0 x1 x2 x3
      go_wp2_with fail
      refine HG.out.mono ?_
      intro e w2 hg
      obtain ⟨k1, k2⟩ := HS0.out.join HRP.out hg
      have HK : Hid (PlMid V0 B F1 F2 p m q (L.length + ws.length + 1) w2) := by
        obtain ⟨F1', F2', vq', vr', S', L', j1, j2, j3, j4, j5⟩ := k2
        exact ⟨F1', F2', vq', vr', S', L', j1, j2, j3, j4, by omega⟩
      subst k1
      clear k2 hg
      go_wp2_with fail
      go_ret
      exact ⟨by simp, HEL.out _ HK.out⟩
    · have g0 : (dd == 0) = false := by rw [beq_eq_false_iff_ne]; exact h0
      by_cases h1 : dd = 1
      · subst h1
        clear g0 h0
        have HLE := Lib.hid (lent_any _ ws V0 (HRD.out V0 (Fr.refl _ _)) HWS.out)
        go_wp2_with fail
        refine HLE.out.mono ?_
        rintro e w1 ⟨g, rfl, hg1, hlt, hb1⟩
        have HF1 : Hid (Fr (fun _ => False) V0 w1) := ⟨hb1.os, hb1.tape, hb1.output, hb1.size, fun k hk _ => hb1.block k hk⟩
        have HLT := Lib.hid hlt
        have HGL : Hid (V0.heap.size ≤ g ∧ g < w1.heap.size) := ⟨hg1, (Array.getElem?_eq_some_iff.1 hlt).1⟩
        have HS1 := Lib.hid (HS0.out.quiet HF1.out)
        have HBV1 : Hid (B ≤ w1.heap.size) := Nat.le_trans HBV.out HF1.out.size
        have y3 : w1.cell? ⟨s, 3, none⟩ = some (.slice wa ws.length wc) := cell_of_blk (HST.out w1 (HF1.out.mono (fun _ h _ => h.elim))) 3
        have HR := Lib.hid (queueR_any w1 B q F2 vr L HS1.out.r HBV1.out (by omega) _ ws (HRD.out w1 (HF1.out.mono (fun _ h _ => h.elim))) HWS.out)
        rw [HS0.out.eq] at HR
        clear hg1 hlt hb1 x0 x1 x2 x3
        go_wp2_with fail
        refine HR.out.mono ?_
        intro e w2 hr
        have hfr : Fr (fun i => F1 i ∨ F2 i) w1 w2 := by
          obtain ⟨_, _, _, _, _, _, hf⟩ := hr
          exact hf.mono (fun i hi _ => .inr hi)
        have HLT2 : Hid (Lent w2 g ws) := HLT.out.fr hfr (fun e => by
          rcases e with e | e
          · have h5 : V0.heap.size ≤ g := HGL.out.1; have := HL1.out g e; omega
          · have h5 : V0.heap.size ≤ g := HGL.out.1; have := HL2.out g e; omega)
        have HG := Lib.hid (queueG_any w2 B p m F1 vq S (HS1.out.mid hr) (Nat.le_trans HBV1.out hfr.size) (.slice (some ⟨g, 0, none⟩) ws.length (ws.length + 70)) ws (RdC.of_owns (HLT2.out.row (by omega))) (by omega))
        have HRP := Lib.hid hr
        obtain ⟨_, _, rfl, _⟩ := hr
        have HFR := Lib.hid hfr
        clear hfr y3
        go_wp2_with fail
        refine HG.out.mono ?_
        intro e w3 hg
        have hf3 : Fr F1 w2 w3 := by
          obtain ⟨_, _, _, _, _, hf⟩ := hg
          exact hf
        obtain ⟨k1, k2⟩ := HS1.out.join HRP.out hg
        have HK : Hid (PlMid w1 B F1 F2 p m q (L.length + ws.length + 1) w3) := by
          obtain ⟨F1', F2', vq', vr', S', L', j1, j2, j3, j4, j5⟩ := k2
          exact ⟨F1', F2', vq', vr', S', L', j1, j2, j3, j4, by omega⟩
        subst k1
        have HFR3 : Hid (Fr (fun i => F1 i ∨ F2 i) V0 w3) := ((HF1.out.mono (fun _ h _ => h.elim)).wide HFR.out (fun i hi => .inl hi)).wide hf3 (fun i hi => .inl (.inl hi))
        have HLT3 : Hid (Lent w3 g ws) := HLT2.out.fr hf3 (fun e => by have h5 : V0.heap.size ≤ g := HGL.out.1; have := HL1.out g e; omega)
        have y3 : w3.cell? ⟨s, 3, none⟩ = some (.slice wa ws.length wc) := cell_of_blk (HST.out w3 HFR3.out) 3
        have HKE := Lib.hid (kept_any w3 g _ ws HLT3.out (HRD.out w3 HFR3.out) HWS.out)
        clear k2 hg hf3
        obtain ⟨cc, hcc⟩ : ∃ c : Int, qCode S = c := ⟨_, rfl⟩
        rw [hcc]
        have gcc : (cc != cc) = false := by simp
        clear hcc
        go_wp2_with fail
        refine HKE.out.mono ?_
        rintro e w4 ⟨rfl, hf4⟩
        have HK4 := Lib.hid (HK.out.quiet hf4)
        have HLT4 : Hid (Lent w4 g ws) := HLT3.out.fr hf4 (fun h => h)
        have HSP := Lib.hid (spoilT_any w4 0 _ ws.length ⟨_, HLT4.out.row (by omega)⟩ HWS.out (Nat.zero_le _))
        clear hf4 y3
        go_wp2_with fail
        refine HSP.out.mono ?_
        rintro e w5 ⟨⟨u5, rfl⟩, hf5, _⟩
        have HK5 : Hid (PlMid V0 B F1 F2 p m q (L.length + ws.length + 1) w5) := HK4.out.lent HF1.out hf5 (fun i hi => by
          have h5 : g = i := Option.some.inj hi
          rw [← h5]
          exact HGL.out) (fun k hk => by have := HL1.out k hk; omega) (fun k hk => by have := HL2.out k hk; omega)
        clear hf5
        go_wp2_with fail
        go_meet
        case rel => exact HK5.out
      · have g1 : (dd == 1) = false := by rw [beq_eq_false_iff_ne]; exact h1
        by_cases h2 : dd = 2
        · subst h2
          clear g0 h0 g1 h1
          have HR := Lib.hid (spoilR_any V0 B q F2 vr L HS0.out.r HBV.out (by omega))
          rw [HS0.out.eq] at HR
          clear x0 x2 x3
          go_wp2_with fail
          refine HR.out.mono ?_
          intro e w1 hr
          have HG := Lib.hid (spoilG_any w1 B p m F1 vq S (HS0.out.mid hr))
          have HRP := Lib.hid hr
          obtain ⟨_, _, ⟨u, rfl⟩, _⟩ := hr
          go_wp2_with fail
          refine HG.out.mono ?_
          intro e w2 hg
          obtain ⟨⟨u2, rfl⟩, k2⟩ := HS0.out.join HRP.out hg
          have HK : Hid (PlMid V0 B F1 F2 p m q (L.length + ws.length + 1) w2) := by
            obtain ⟨F1', F2', vq', vr', S', L', j1, j2, j3, j4, j5⟩ := k2
            exact ⟨F1', F2', vq', vr', S', L', j1, j2, j3, j4, by omega⟩
          clear k2 hg
          go_wp2_with fail
          go_meet
          case rel => exact HK.out
        · have g2 : (dd == 2) = false := by rw [beq_eq_false_iff_ne]; exact h2
          by_cases h3 : dd = 3
          · subst h3
            clear g0 h0 g1 h1 g2 h2
            have HR := Lib.hid (endR_any V0 B q F2 vr L HS0.out.r HBV.out (by omega))
            rw [HS0.out.eq] at HR
            clear x0 x2 x3
            obtain ⟨b, hbb⟩ : ∃ b, S.op = b := ⟨_, rfl⟩
            have HOB := Lib.hid hbb
            clear hbb
            go_wp2_with fail
            refine HR.out.mono ?_
            intro e w1 hr
            unfold REnd at hr
            cases b
            · rw [if_neg (by rw [HOB.out]; simp)] at hr
              obtain ⟨rfl, hr⟩ := hr
              have HG := Lib.hid (endG_any w1 B p m F1 vq S (HS0.out.mid hr))
              have HRP := Lib.hid hr
              clear hr
              go_wp2_with fail
              refine HG.out.mono ?_
              intro e w2 hg
              unfold SEnd at hg
              rw [if_neg (by rw [HOB.out]; simp)] at hg
              obtain ⟨rfl, rfl⟩ := hg
              obtain ⟨_, k2⟩ := HS0.out.join HRP.out (smut_same w1 B p m F1 vq S (HS0.out.mid HRP.out) (P := fun _ => True) (e := .outgrown) trivial rfl)
              have HK : Hid (PlMid V0 B F1 F2 p m q (L.length + ws.length + 1) w1) := by
                obtain ⟨F1', F2', vq', vr', S', L', j1, j2, j3, j4, j5⟩ := k2
                exact ⟨F1', F2', vq', vr', S', L', j1, j2, j3, j4, by omega⟩
              have HSA := Lib.hid (sameLs_refl w1 (.slice none 0 0) (.slice none 0 0) [] ⟨[], RdC.nil w1 1, fun i l h => by simp at h⟩ ⟨[], RdC.nil w1 1, fun i l h => by simp at h⟩)
              clear k2
              go_wp2_with fail
              refine HSA.out.mono ?_
              rintro e w2 ⟨rfl, mm, rfl⟩
              have HK2 := Lib.hid (HK.out.quiet (Fr.drewN _ _ mm))
              have HSP := Lib.hid (spoilL_any (w1.drewN mm) 0 0 (.slice none 0 0) 0 [] (World.ownsRow_nil _ _ _ _) (fun u h => by cases h) (by omega) (Nat.zero_le _) (Nat.zero_le _))
              go_wp2_with fail
              refine HSP.out.mono ?_
              rintro e w3 ⟨⟨u3, rfl⟩, hf3⟩
              have HK3 := Lib.hid (HK2.out.quiet (hf3.mono (fun i hi _ => by rcases hi with hi | ⟨u, hu, _⟩; cases hi; cases hu)))
              clear hf3
              go_wp2_with fail
              go_meet
              case rel => exact HK3.out
            · rw [if_pos HOB.out] at hr
              obtain ⟨v1, qs1, rfl, hrow1, hot1, hr⟩ := hr
              have HG := Lib.hid (endG_any w1 B p m F1 vq S (HS0.out.mid hr))
              have HRP := Lib.hid hr
              have HROW1 := Lib.hid hrow1
              have HOT1 := Lib.hid hot1
              have HQB : Hid (∀ l ∈ S.q, l.length * 16 ≤ 140737488351232) := fun l hl => by
                rw [← HS0.out.eq] at hl
                obtain ⟨d, hd, rfl⟩ := run26_qmem L l hl
                exact HS0.out.r.wsz d hd
              have hql : S.q.length ≤ 1024 := HS0.out.g.f.s.sq.1
              clear hr hrow1 hot1
              go_wp2_with fail
              refine HG.out.mono ?_
              intro e w2 hg
              unfold SEnd at hg
              rw [if_pos HOB.out] at hg
              obtain ⟨qs2, rfl, hrow2, hot2, hsg2, hsl2, hf2⟩ := hg
              have hL1 : Ls w2 v1 S.q := by
                have hd1 : ∀ g, V0.heap.size ≤ g → ¬ F1 g := fun g hg e => by have := HL1.out g e; omega
                exact Ls.of_owns (owns_fr HROW1.out hf2 (fun g hg => hd1 g (own_blk HROW1.out hg).1)) (HOT1.out.fr2 hf2 (fun u hu g hg => hd1 g (by obtain ⟨l, _, hl⟩ := HOT1.out.mem hu; exact (own_blk hl hg).1))).txts
              have HSA := Lib.hid (sameLs_refl w2 vq v1 S.q (Ls.of_owns hrow2 hot2.txts) hL1)
              have HROW2 := Lib.hid hrow2
              have HOT2 := Lib.hid hot2
              have HSG2 := Lib.hid hsg2
              have HSL2 := Lib.hid hsl2
              have HF2 := Lib.hid hf2
              clear hrow2 hot2 hsg2 hsl2 hf2 hL1
              go_wp2_with fail
              refine HSA.out.mono ?_
              rintro e w3 ⟨rfl, mm, rfl⟩
              have HSP := Lib.hid (spoilL_any (w2.drewN mm) B 0 vq S.q.length qs2 HROW2.out (fun u hu => by
                obtain ⟨l, hm, hl⟩ := HOT2.out.mem hu
                exact ⟨l.length, ⟨_, hl⟩, HQB.out l hm⟩) (by omega) (Nat.le_trans HBV.out (by obtain ⟨_, _, _, _, _, _, hf⟩ := HRP.out; exact Nat.le_trans hf.size HF2.out.size)) (Nat.zero_le _))
              go_wp2_with fail
              refine HSP.out.mono ?_
              rintro e w4 ⟨⟨u4, rfl⟩, hf4⟩
              have HK : Hid (PlMid V0 B F1 F2 p m q (L.length + ws.length + 1) w4) := by
                obtain ⟨F1', F2', vq', vr', S', L', j1, j2, j3, j4, j5⟩ := HS0.out.ended HRP.out HSG2.out HSL2.out HF2.out ((Fr.drewN _ w2 mm).wide hf4 (fun i hi => .inl hi))
                exact ⟨F1', F2', vq', vr', S', L', j1, j2, j3, j4, by omega⟩
              clear hf4
              go_wp2_with fail
              go_meet
              case rel => exact HK.out
          · have g3 : (dd == 3) = false := by rw [beq_eq_false_iff_ne]; exact h3
            by_cases h4 : dd = 4
            · subst h4
              clear g0 h0 g1 h1 g2 h2 g3 h3
              have hml := (HRD.out V0 (Fr.refl _ _)).len
              unfold maxLen at hml
              have HST0 : Hid (PlMid V0 B F1 F2 p m q (L.length + 0) V0) := HS0.out.start (by omega)
              go_wp2_with fail
              go_loopw [85] (fun i wr => ∃ j : Nat, i = .int .i64 j ∧ j ≤ ws.length ∧ Hid (PlMid V0 B F1 F2 p m q (L.length + j) wr)) (fun i _ => ws.length - (intOf i).toNat)
              case atStart => exact ⟨0, rfl, by omega, HST0.out⟩
              case round =>
                obtain ⟨j, rfl, hj, HM⟩ := hrel
                obtain ⟨wo, rfl⟩ : ∃ x, x = wr := ⟨_, rfl⟩
                by_cases hlt : j < ws.length
                · obtain ⟨F1', F2', vq', vr', S', L', j1, j2, j3, j4, j5⟩ := HM.out
                  have HJ1 := Lib.hid j1
                  have HJ2 := Lib.hid j2
                  have HJ3 := Lib.hid j3
                  have HJ4 := Lib.hid j4
                  obtain ⟨g, off, hwa, hc⟩ := (HRD.out wo j4).at (by simp; omega)
                  have hk0 := hc j (.string ws[j]) (by rw [List.getElem?_map, List.getElem?_eq_getElem hlt]; rfl)
                  have hks := HSZ.out ws[j] (List.getElem_mem hlt)
                  obtain ⟨key, hkey⟩ : ∃ k, ws[j] = k := ⟨_, rfl⟩
                  rw [hkey] at hk0 hks
                  have hb0 : (0 : Int) ≤ (j : Int) := by omega
                  have hb1 : (j : Int) < (ws.length : Int) := by omega
                  have HBW : Hid (B ≤ wo.heap.size) := Nat.le_trans HBV.out j4.size
                  have HR := Lib.hid (watchR_any wo B q F2' vr' L' j1.r HBW.out (by omega) key)
                  rw [j1.eq] at HR
                  have HKS := Lib.hid hks
                  clear j1 j2 j3 j4 hc hkey hks x0 x1 x2 x3 HM
                  subst hwa
                  go_wp2_with fail
                  refine HR.out.mono ?_
                  intro e w1 hr
                  have HG := Lib.hid (watchG_any w1 B p m F1' vq' S' (HJ1.out.mid hr) key HKS.out)
                  have HRP := Lib.hid hr
                  obtain ⟨_, _, rfl, _⟩ := hr
                  clear hk0
                  go_wp2_with fail
                  refine HG.out.mono ?_
                  intro e w2 hg
                  obtain ⟨k1, k2⟩ := HJ1.out.join HRP.out hg
                  have HK : Hid (PlMid V0 B F1 F2 p m q (L.length + (j + 1)) w2) := by
                    have k3 := PlMid.trans HJ4.out HJ2.out HJ3.out k2
                    obtain ⟨F1', F2', vq', vr', S', L', j1, j2, j3, j4, j5⟩ := k3
                    exact ⟨F1', F2', vq', vr', S', L', j1, j2, j3, j4, by omega⟩
                  subst k1
                  clear k2 hg
                  obtain ⟨cc, hcc⟩ : ∃ c : Int, wCode S' key = c := ⟨_, rfl⟩
                  rw [hcc]
                  have gcc : (cc != cc) = false := by simp
                  clear hcc
                  go_wp2_with fail
                  go_roundw
                  case rel => exact ⟨j + 1, by go_num, by omega, HK.out⟩
                  case measure => simp [intOf]; omega
                · obtain rfl : j = ws.length := by omega
                  have HK : Hid (PlMid V0 B F1 F2 p m q (L.length + ws.length + 1) wo) := by
                    obtain ⟨F1', F2', vq', vr', S', L', j1, j2, j3, j4, j5⟩ := HM.out
                    exact ⟨F1', F2', vq', vr', S', L', j1, j2, j3, j4, by omega⟩
                  go_wp2_with fail
                  go_meet
                  case rel => exact HK.out
            · have g4 : (dd == 4) = false := by rw [beq_eq_false_iff_ne]; exact h4
              by_cases h5 : dd = 5
              · subst h5
                clear g0 h0 g1 h1 g2 h2 g3 h3 g4 h4
                have HR := Lib.hid (unwatchR_any V0 B q F2 vr L HS0.out.r HBV.out (by omega))
                rw [HS0.out.eq] at HR
                clear x0 x2 x3
                go_wp2_with fail
                refine HR.out.mono ?_
                intro e w1 hr
                have HG := Lib.hid (unwatchG_any w1 B p m F1 vq S (HS0.out.mid hr))
                have HRP := Lib.hid hr
                obtain ⟨_, _, ⟨u, rfl⟩, _⟩ := hr
                go_wp2_with fail
                refine HG.out.mono ?_
                intro e w2 hg
                obtain ⟨⟨u2, rfl⟩, k2⟩ := HS0.out.join HRP.out hg
                have HK : Hid (PlMid V0 B F1 F2 p m q (L.length + ws.length + 1) w2) := by
                  obtain ⟨F1', F2', vq', vr', S', L', j1, j2, j3, j4, j5⟩ := k2
                  exact ⟨F1', F2', vq', vr', S', L', j1, j2, j3, j4, by omega⟩
                clear k2 hg
                go_wp2_with fail
                go_meet
                case rel => exact HK.out
              · have g5 : (dd == 5) = false := by rw [beq_eq_false_iff_ne]; exact h5
                by_cases h6 : dd = 6
                · subst h6
                  clear g0 h0 g1 h1 g2 h2 g3 h3 g4 h4 g5 h5
                  have HLE := Lib.hid (lent_any _ ws V0 (HRD.out V0 (Fr.refl _ _)) HWS.out)
                  go_wp2_with fail
                  refine HLE.out.mono ?_
                  rintro e w1 ⟨g, rfl, hg1, hlt, hb1⟩
                  have HF1 : Hid (Fr (fun _ => False) V0 w1) := ⟨hb1.os, hb1.tape, hb1.output, hb1.size, fun k hk _ => hb1.block k hk⟩
                  have HLT := Lib.hid hlt
                  have HGL : Hid (V0.heap.size ≤ g ∧ g < w1.heap.size) := ⟨hg1, (Array.getElem?_eq_some_iff.1 hlt).1⟩
                  have HS1 := Lib.hid (HS0.out.quiet HF1.out)
                  have HBV1 : Hid (B ≤ w1.heap.size) := Nat.le_trans HBV.out HF1.out.size
                  have y3 : w1.cell? ⟨s, 3, none⟩ = some (.slice wa ws.length wc) := cell_of_blk (HST.out w1 (HF1.out.mono (fun _ h _ => h.elim))) 3
                  have HR := Lib.hid (touchR_any w1 B q F2 vr L HS1.out.r HBV1.out (by omega) _ ws (HRD.out w1 (HF1.out.mono (fun _ h _ => h.elim))) HWS.out)
                  rw [HS0.out.eq] at HR
                  clear hg1 hlt hb1 x0 x1 x2 x3
                  go_wp2_with fail
                  refine HR.out.mono ?_
                  intro e w2 hr
                  have hfr : Fr (fun i => F1 i ∨ F2 i) w1 w2 := by
                    obtain ⟨_, _, _, _, _, _, hf⟩ := hr
                    exact hf.mono (fun i hi _ => .inr hi)
                  have HGN : Hid (¬ F1 g ∧ ¬ F2 g) := ⟨fun e => by have h5 : V0.heap.size ≤ g := HGL.out.1; have := HL1.out g e; omega, fun e => by have h5 : V0.heap.size ≤ g := HGL.out.1; have := HL2.out g e; omega⟩
                  have HLT2 : Hid (Lent w2 g ws) := HLT.out.fr hfr (fun e => e.elim HGN.out.1 HGN.out.2)
                  have HG := Lib.hid (touchG_any w2 B p m F1 vq S (HS1.out.mid hr) (.slice (some ⟨g, 0, none⟩) ws.length (ws.length + 70)) ws (fun W hf => RdC.of_owns ((HLT2.out.fr hf (fun e => HGN.out.1 (by rw [show g = p from e]; exact HS0.out.g.f.fp))).row (by omega))) HSZ.out)
                  have HRP := Lib.hid hr
                  obtain ⟨_, _, ⟨u, rfl⟩, _⟩ := hr
                  have HFR := Lib.hid hfr
                  clear hfr y3
                  go_wp2_with fail
                  refine HG.out.mono ?_
                  intro e w3 hg
                  have hf3 : Fr F1 w2 w3 := by
                    obtain ⟨_, _, _, _, _, hf⟩ := hg
                    exact hf
                  obtain ⟨⟨u3, rfl⟩, k2⟩ := HS1.out.join HRP.out hg
                  have HK : Hid (PlMid w1 B F1 F2 p m q (L.length + ws.length + 1) w3) := by
                    obtain ⟨F1', F2', vq', vr', S', L', j1, j2, j3, j4, j5⟩ := k2
                    exact ⟨F1', F2', vq', vr', S', L', j1, j2, j3, j4, by omega⟩
                  have HFR3 : Hid (Fr (fun i => F1 i ∨ F2 i) V0 w3) := ((HF1.out.mono (fun _ h _ => h.elim)).wide HFR.out (fun i hi => .inl hi)).wide hf3 (fun i hi => .inl (.inl hi))
                  have HLT3 : Hid (Lent w3 g ws) := HLT2.out.fr hf3 HGN.out.1
                  have y3 : w3.cell? ⟨s, 3, none⟩ = some (.slice wa ws.length wc) := cell_of_blk (HST.out w3 HFR3.out) 3
                  have HKE := Lib.hid (kept_any w3 g _ ws HLT3.out (HRD.out w3 HFR3.out) HWS.out)
                  clear k2 hg hf3
                  go_wp2_with fail
                  refine HKE.out.mono ?_
                  rintro e w4 ⟨rfl, hf4⟩
                  have HK4 := Lib.hid (HK.out.quiet hf4)
                  have HLT4 : Hid (Lent w4 g ws) := HLT3.out.fr hf4 (fun h => h)
                  have HSP := Lib.hid (spoilT_any w4 0 _ ws.length ⟨_, HLT4.out.row (by omega)⟩ HWS.out (Nat.zero_le _))
                  clear hf4 y3
                  go_wp2_with fail
                  refine HSP.out.mono ?_
                  rintro e w5 ⟨⟨u5, rfl⟩, hf5, _⟩
                  have HK5 : Hid (PlMid V0 B F1 F2 p m q (L.length + ws.length + 1) w5) := HK4.out.lent HF1.out hf5 (fun i hi => by
                    have h5 : g = i := Option.some.inj hi
                    rw [← h5]
                    exact HGL.out) (fun k hk => by have := HL1.out k hk; omega) (fun k hk => by have := HL2.out k hk; omega)
                  clear hf5
                  go_wp2_with fail
                  go_meet
                  case rel => exact HK5.out
                · have g6 : (dd == 6) = false := by rw [beq_eq_false_iff_ne]; exact h6
                  have HST0 : Hid (PlMid V0 B F1 F2 p m q (L.length + ws.length + 1) V0) := HS0.out.start (by omega)
                  by_cases h7 : dd = 7
                  · subst h7
                    clear g0 h0 g1 h1 g2 h2 g3 h3 g4 h4 g5 h5 g6 h6
                    have HA := Lib.hid (asks_any V0 B F1 F2 p m q vq vr S L HS0.out)
                    go_wp2_with fail
                    refine HA.out.mono ?_
                    rintro e w1 ⟨rfl, hf⟩
                    have HK := Lib.hid (HST0.out.quiet hf)
                    clear hf
                    go_wp2_with fail
                    go_ret
                    exact ⟨rfl, HEL.out _ HK.out⟩
                  · have g7 : (dd == 7) = false := by rw [beq_eq_false_iff_ne]; exact h7
                    clear h0 h1 h2 h3 h4 h5 h6 h7
                    go_wp2_with fail
                    go_meet
                    case rel => exact HST0.out
  case rest =>
  have HK := hcut
  clear hcut
  obtain ⟨wk, rfl⟩ : ∃ x, x = wc := ⟨_, rfl⟩
  have HE := Lib.hid (HEL.out _ HK.out)
  obtain ⟨G1, G2, vq', vr', S', L', j1, j2, j3, j4, j5⟩ := HK.out
  have HJ := Lib.hid j1
  clear j1 j2 j3 j4 j5 x0 x1 x2 x3
  have HOPq : Hid (∀ W, Fr (fun _ => False) wk W → Calls Try.prog 30 #[.pointer (some ⟨p, 0, none⟩)] W fun e w' => e = .returned (.bool S'.op) ∧ W = w') := fun W hf => open_any W B p m vq' S' (HJ.out.g.quiet hf).f.s
  have HSPq : Hid (∀ W, Fr (fun _ => False) wk W → Calls Try.prog 31 #[.pointer (some ⟨p, 0, none⟩)] W fun e w' => e = .returned (.bool S'.sp) ∧ W = w') := fun W hf => spoilt_any W B p m vq' S' (HJ.out.g.quiet hf).f.s
  have HDIq : Hid (∀ W, Fr (fun _ => False) wk W → Calls Try.prog 36 #[.pointer (some ⟨p, 0, none⟩)] W fun e w' => e = .returned (.bool S'.di) ∧ W = w') := fun W hf => dirty_any W B p m vq' S' (HJ.out.g.quiet hf).f.s
  have HORq : Hid (∀ W, Fr (fun _ => False) wk W → Calls Try.prog 72 #[.pointer (some ⟨q, 0, none⟩)] W fun e w' => e = .returned (.bool S'.op) ∧ Fr (fun _ => False) W w') := fun W hf => by
    rw [← HJ.out.eq]; exact openR_any W B q G2 vr' L' (HJ.out.r.quiet hf)
  have HSRq : Hid (∀ W, Fr (fun _ => False) wk W → Calls Try.prog 73 #[.pointer (some ⟨q, 0, none⟩)] W fun e w' => e = .returned (.bool S'.sp) ∧ Fr (fun _ => False) W w') := fun W hf => by
    rw [← HJ.out.eq]; exact spoiltR_any W B q G2 vr' L' (HJ.out.r.quiet hf)
  have HDRq : Hid (∀ W, Fr (fun _ => False) wk W → Calls Try.prog 74 #[.pointer (some ⟨q, 0, none⟩)] W fun e w' => e = .returned (.bool S'.di) ∧ Fr (fun _ => False) W w') := fun W hf => by
    rw [← HJ.out.eq]; exact dirtyR_any W B q G2 vr' L' (HJ.out.r.quiet hf)
  obtain ⟨o1, ho1⟩ : ∃ b, S'.op = b := ⟨_, rfl⟩
  obtain ⟨o2, ho2⟩ : ∃ b, S'.sp = b := ⟨_, rfl⟩
  obtain ⟨o3, ho3⟩ : ∃ b, S'.di = b := ⟨_, rfl⟩
  rw [ho1] at HOPq HORq
  rw [ho2] at HSPq HSRq
  rw [ho3] at HDIq HDRq
  clear ho1 ho2 ho3 HJ HK
  go_wp2_with fail
  refine (HOPq.out wk (Fr.refl _ _)).mono ?_
  rintro e w' ⟨rfl, rfl⟩
  go_wp2_with fail
  refine (HORq.out wk (Fr.refl _ _)).mono ?_
  rintro e k1 ⟨rfl, hf⟩
  have HK1 := Lib.hid hf
  clear hf
  cases o1
  all_goals
    go_wp2_with fail
    refine (HSPq.out k1 HK1.out).mono ?_
    rintro e w' ⟨rfl, rfl⟩
    go_wp2_with fail
    refine (HSRq.out k1 HK1.out).mono ?_
    rintro e k2 ⟨rfl, hf⟩
    have HK2 : Hid (Fr (fun _ => False) wk k2) := HK1.out.wide hf (fun _ h => h.elim)
    clear hf
    cases o2
    all_goals
      go_wp2_with fail
      refine (HDIq.out k2 HK2.out).mono ?_
      rintro e w' ⟨rfl, rfl⟩
      go_wp2_with fail
      refine (HDRq.out k2 HK2.out).mono ?_
      rintro e k3 ⟨rfl, hf⟩
      have HK3 : Hid (Fr (fun _ => False) wk k3) := HK2.out.wide hf (fun _ h => h.elim)
      clear hf
      cases o3
      all_goals
        go_wp2_with fail
        go_ret
        exact ⟨rfl, HE.out.quiet HK3.out⟩
end Go.Proofs.Ytpcjogmikgfgdaa
