/- pantrylaw26's asks: all questions are answered as the reference says, in memory of their own. No condition. -/
import Derived.Test.YtpcjogmikgfgdaaSessG
import Derived.Test.YtpcjogmikgfgdaaLent26
import Derived.Test.YtpcjogmikgfgdaaSpL26
namespace Go.Proofs.Ytpcjogmikgfgdaa
open Go.RowKit
/-- a session and the reference's, side by side -/
structure Sy (V : World) (B : Nat) (F1 F2 : Nat → Prop) (p m q : Nat) (vq vr : Value) (S : SS) (L : List Dd) : Prop where
  g : SessG V B F1 p m vq S
  r : RefF V B F2 q vr L
  eq : run26 L = S
  ap : ∀ k, F1 k → ¬ F2 k
theorem Sy.quiet {V V' : World} {B p m q : Nat} {F1 F2 : Nat → Prop} {vq vr : Value} {S : SS} {L : List Dd} (h : Sy V B F1 F2 p m q vq vr S L) (hf : Fr (fun _ => False) V V') : Sy V' B F1 F2 p m q vq vr S L := ⟨h.g.quiet hf, h.r.quiet hf, h.eq, h.ap⟩
theorem run26_qmem (L : List Dd) : ∀ l ∈ (run26 L).q, ∃ d ∈ L, l = d.ws := by
  suffices h : ∀ (L : List Dd) (S : SS), ∀ l ∈ (L.foldl st26 S).q, l ∈ S.q ∨ ∃ d ∈ L, l = d.ws by
    intro l hl
    rcases h L ss0 l hl with h | h
    · simp [ss0] at h
    · exact h
  intro L
  induction L with
  | nil => intro S l hl; exact .inl hl
  | cons d L ih =>
    intro S l hl
    rcases ih _ l hl with h | ⟨d', hd, e⟩
    · have : l ∈ S.q ∨ l = d.ws := by
        unfold st26 at h
        repeat' split at h
        all_goals first | exact .inl h | (simp only [List.mem_append, List.mem_singleton] at h; exact h) | (exfalso; simp at h; done)
      rcases this with h | h
      · exact .inl h
      · exact .inr ⟨d, List.mem_cons_self, h⟩
    · exact .inr ⟨d', List.mem_cons_of_mem _ hd, e⟩
/-- a list of lists that was handed out, its blocks from lo on and below hi -/
def Got (w : World) (lo hi : Nat) (v : Value) (ls : List (List ByteArray)) : Prop :=
  ∃ qs, w.ownsRow lo 41 1 v ls.length qs ∧ OTxs w lo qs ls ∧ ∀ i, SlT v qs i → lo ≤ i ∧ i < hi
/-- a list of texts that was handed out -/
def GotT (w : World) (lo hi : Nat) (v : Value) (l : List ByteArray) : Prop :=
  w.ownsRow lo 9 1 v l.length (l.map .string) ∧ ∀ i, v.ownBlock = some i → lo ≤ i ∧ i < hi
section
variable {w w' : World} {lo hi : Nat} {v : Value} {ls : List (List ByteArray)} {l : List ByteArray} {T : Nat → Prop}
theorem Got.fr (h : Got w lo hi v ls) (hf : Fr T w w') (hT : ∀ i, T i → i < lo ∨ hi ≤ i) : Got w' lo hi v ls := by
  obtain ⟨qs, h1, h2, h3⟩ := h
  refine ⟨qs, owns_fr h1 hf (fun g hg ht => ?_), h2.fr2 hf (fun u hu g hg ht => ?_), h3⟩
  · have := h3 g (.inl hg); have := hT g ht; omega
  · have := h3 g (.inr ⟨u, hu, hg⟩); have := hT g ht; omega
theorem Got.quiet (h : Got w lo hi v ls) (hf : Fr (fun _ => False) w w') : Got w' lo hi v ls := h.fr hf (fun _ h => h.elim)
theorem GotT.fr (h : GotT w lo hi v l) (hf : Fr T w w') (hT : ∀ i, T i → i < lo ∨ hi ≤ i) : GotT w' lo hi v l :=
  ⟨owns_fr h.1 hf (fun g hg ht => by have := h.2 g hg; have := hT g ht; omega), h.2⟩
theorem GotT.quiet (h : GotT w lo hi v l) (hf : Fr (fun _ => False) w w') : GotT w' lo hi v l := h.fr hf (fun _ h => h.elim)
theorem Got.toLs (h : Got w lo hi v ls) : Ls w v ls := by
  obtain ⟨qs, h1, h2, _⟩ := h
  exact ⟨qs, RdC.of_owns h1, fun i l hl => by obtain ⟨u, hu, hr⟩ := h2.2 i l hl; exact ⟨u, hu, RdC.of_owns hr⟩⟩
theorem got_of {e : Ending} (h : DPostG w ls e w') : ∃ v, e = .returned v ∧ Got w' w.heap.size w'.heap.size v ls ∧ Fr (fun _ => False) w w' := by
  obtain ⟨v, qs, he, h1, h2, hb⟩ := h
  refine ⟨v, he, ⟨qs, h1, h2, fun i hi => ?_⟩, ⟨hb.os, hb.tape, hb.output, hb.size, fun k hk _ => hb.block k hk⟩⟩
  rcases hi with hi | ⟨u, hu, hi⟩
  · exact ⟨(own_blk h1 hi).1, (own_blk h1 hi).2.1⟩
  · obtain ⟨l, _, hl⟩ := h2.mem hu
    exact ⟨(own_blk hl hi).1, (own_blk hl hi).2.1⟩
theorem gotT_of {e : Ending} (h : WPost w l e w') : ∃ v, e = .returned v ∧ GotT w' w.heap.size w'.heap.size v (sortS l) ∧ Fr (fun _ => False) w w' := by
  obtain ⟨v, he, h1, hb⟩ := h
  rw [← sortS_len l] at h1
  exact ⟨v, he, ⟨h1, fun i hi => ⟨(own_blk h1 hi).1, (own_blk h1 hi).2.1⟩⟩, ⟨hb.os, hb.tape, hb.output, hb.size, fun k hk _ => hb.block k hk⟩⟩
theorem Got.spoil (h : Got w lo hi v ls) (hn : ls.length ≤ 1099511627776) (hl : ∀ l ∈ ls, l.length * 16 ≤ 140737488351232) (hw : lo ≤ w.heap.size) :
    Calls Try.prog 68 #[v] w fun e w' => (∃ u, e = .returned u) ∧ Fr (fun i => lo ≤ i ∧ i < hi) w w' := by
  obtain ⟨qs, h1, h2, h3⟩ := h
  refine (spoilL_any w lo lo v ls.length qs h1 (fun u hu => ?_) hn hw hw).mono fun e w' ⟨he, hf⟩ => ⟨he, hf.mono (fun i hi _ => h3 i hi)⟩
  obtain ⟨l, hm, hr⟩ := h2.mem hu
  exact ⟨l.length, ⟨_, hr⟩, hl l hm⟩
theorem GotT.spoil (h : GotT w lo hi v l) (hl : l.length * 16 ≤ 140737488351232) (hw : lo ≤ w.heap.size) :
    Calls Try.prog 65 #[v] w fun e w' => (∃ u, e = .returned u) ∧ Fr (fun i => lo ≤ i ∧ i < hi) w w' :=
  (spoilT_any w lo v l.length ⟨_, h.1⟩ hl hw).mono fun e w' ⟨he, hf, _⟩ => ⟨he, hf.mono (fun i hi _ => h.2 i hi)⟩
theorem sameLq_any {v2 : Value} {lo2 hi2 : Nat} (h1 : Got w lo hi v ls) (h2 : Got w lo2 hi2 v2 ls) :
    Calls Try.prog 27 #[v, v2] w fun e w' => e = .returned (.bool true) ∧ Fr (fun _ => False) w w' :=
  (sameLs_any w v v2 ls ls h1.toLs h2.toLs).mono fun e w' ⟨he, m, hw⟩ => ⟨by rw [he, decide_eq_true rfl], by rw [hw]; exact Fr.drewN _ _ _⟩
theorem sameTq_any {v2 : Value} {lo2 hi2 : Nat} (h1 : GotT w lo hi v l) (h2 : GotT w lo2 hi2 v2 l) :
    Calls Try.prog 42 #[v, v2] w fun e w' => e = .returned (.bool true) ∧ Fr (fun _ => False) w w' :=
  (sameT_any w v v2 l l (RdC.of_owns h1.1) (RdC.of_owns h2.1)).mono fun e w' ⟨he, m, hw⟩ => ⟨by rw [he, decide_eq_true rfl], by rw [hw]; exact Fr.drewN _ _ _⟩
end
set_option maxRecDepth 100000 in
set_option maxHeartbeats 4000000 in
theorem asks_any (V : World) (B : Nat) (F1 F2 : Nat → Prop) (p m q : Nat) (vq vr : Value) (S : SS) (L : List Dd) (h : Sy V B F1 F2 p m q vq vr S L) :
    Calls Try.prog 41 #[.pointer (some ⟨p, 0, none⟩), .pointer (some ⟨q, 0, none⟩)] V fun e w' => e = .returned (.bool true) ∧ Fr (fun _ => False) V w' := by
  have H0 := Lib.hid h
  have HF0 := Lib.hid (Fr.refl (fun _ => False) V)
  have HQB : Hid (∀ l ∈ S.q, l.length * 16 ≤ 140737488351232) := fun l hl => by
    rw [← h.eq] at hl
    obtain ⟨d, hd, rfl⟩ := run26_qmem L l hl
    exact h.r.wsz d hd
  have hql : S.q.length ≤ 1024 := h.g.f.s.sq.1
  have hwl : S.wt.length ≤ 1024 := h.g.f.s.sw
  have hwl2 : (sortS S.wt).length ≤ 1024 := by rw [sortS_len]; exact hwl
  have HEQ := Lib.hid h.eq
  have HC1 : Hid (∀ W, Fr (fun _ => False) V W → Calls Try.prog 32 #[.pointer (some ⟨p, 0, none⟩)] W (DPostG W S.q)) := fun W hf => by
    obtain ⟨op, sp, di, q', wt⟩ := S
    exact queuedG_any W B p m vq op sp di q' wt (h.g.quiet hf).f.s
  have HC2 : Hid (∀ W, Fr (fun _ => False) V W → Calls Try.prog 75 #[.pointer (some ⟨q, 0, none⟩)] W (DPostG W S.q)) := fun W hf => by
    rw [← h.eq]; exact queuedR_any W B q F2 vr L (h.r.quiet hf)
  have HC3 : Hid (∀ W, Fr (fun _ => False) V W → Calls Try.prog 37 #[.pointer (some ⟨p, 0, none⟩)] W (WPost W S.wt)) := fun W hf => watched_any W B p m vq S (h.g.quiet hf).f.s
  have HC4 : Hid (∀ W, Fr (fun _ => False) V W → Calls Try.prog 76 #[.pointer (some ⟨q, 0, none⟩)] W (WPost W S.wt)) := fun W hf => by
    rw [← h.eq]; exact watchedR_any W B q F2 vr L (h.r.quiet hf)
  have HOP : Hid (∀ W, Fr (fun _ => False) V W → Calls Try.prog 30 #[.pointer (some ⟨p, 0, none⟩)] W fun e w' => e = .returned (.bool S.op) ∧ W = w') := fun W hf => open_any W B p m vq S (h.g.quiet hf).f.s
  have HSP : Hid (∀ W, Fr (fun _ => False) V W → Calls Try.prog 31 #[.pointer (some ⟨p, 0, none⟩)] W fun e w' => e = .returned (.bool S.sp) ∧ W = w') := fun W hf => spoilt_any W B p m vq S (h.g.quiet hf).f.s
  have HDI : Hid (∀ W, Fr (fun _ => False) V W → Calls Try.prog 36 #[.pointer (some ⟨p, 0, none⟩)] W fun e w' => e = .returned (.bool S.di) ∧ W = w') := fun W hf => dirty_any W B p m vq S (h.g.quiet hf).f.s
  have HOR : Hid (∀ W, Fr (fun _ => False) V W → Calls Try.prog 72 #[.pointer (some ⟨q, 0, none⟩)] W fun e w' => e = .returned (.bool S.op) ∧ Fr (fun _ => False) W w') := fun W hf => by
    rw [← h.eq]; exact openR_any W B q F2 vr L (h.r.quiet hf)
  have HSR : Hid (∀ W, Fr (fun _ => False) V W → Calls Try.prog 73 #[.pointer (some ⟨q, 0, none⟩)] W fun e w' => e = .returned (.bool S.sp) ∧ Fr (fun _ => False) W w') := fun W hf => by
    rw [← h.eq]; exact spoiltR_any W B q F2 vr L (h.r.quiet hf)
  have HDR : Hid (∀ W, Fr (fun _ => False) V W → Calls Try.prog 74 #[.pointer (some ⟨q, 0, none⟩)] W fun e w' => e = .returned (.bool S.di) ∧ Fr (fun _ => False) W w') := fun W hf => by
    rw [← h.eq]; exact dirtyR_any W B q F2 vr L (h.r.quiet hf)
  obtain ⟨o1, ho1⟩ : ∃ b, S.op = b := ⟨_, rfl⟩
  obtain ⟨o2, ho2⟩ : ∃ b, S.sp = b := ⟨_, rfl⟩
  obtain ⟨o3, ho3⟩ : ∃ b, S.di = b := ⟨_, rfl⟩
  rw [ho1] at HOP HOR
  rw [ho2] at HSP HSR
  rw [ho3] at HDI HDR
  clear h ho1 ho2 ho3 H0 HEQ
  go_enter Try.func41, Try.ntmps41
  go_wp2_with fail
  refine (HC2.out V HF0.out).mono ?_
  intro e w1 hd
  obtain ⟨vwant, rfl, hg, hf⟩ := got_of hd
  have Hwantw1 := Lib.hid hg
  have HSTw1 : Hid (V.heap.size ≤ w1.heap.size) := hf.size
  have HFw1 : Hid (Fr (fun _ => False) V w1) := HF0.out.wide hf (fun _ h => h.elim)
  clear hd hg hf
  go_wp2_with fail
  refine (HC1.out w1 HFw1.out).mono ?_
  intro e w2 hd
  obtain ⟨vra, rfl, hg, hf⟩ := got_of hd
  have Hwantw2 := Lib.hid (Hwantw1.out.quiet hf)
  clear Hwantw1
  have Hraw2 := Lib.hid hg
  have HSTw2 : Hid (w1.heap.size ≤ w2.heap.size) := hf.size
  have HFw2 : Hid (Fr (fun _ => False) V w2) := HFw1.out.wide hf (fun _ h => h.elim)
  clear hd hg hf
  go_wp2_with fail
  refine (HC1.out w2 HFw2.out).mono ?_
  intro e w3 hd
  obtain ⟨vrb, rfl, hg, hf⟩ := got_of hd
  have Hwantw3 := Lib.hid (Hwantw2.out.quiet hf)
  clear Hwantw2
  have Hraw3 := Lib.hid (Hraw2.out.quiet hf)
  clear Hraw2
  have Hrbw3 := Lib.hid hg
  have HSTw3 : Hid (w2.heap.size ≤ w3.heap.size) := hf.size
  have HFw3 : Hid (Fr (fun _ => False) V w3) := HFw2.out.wide hf (fun _ h => h.elim)
  clear hd hg hf
  go_wp2_with fail
  refine (sameLq_any Hraw3.out Hwantw3.out).mono ?_
  rintro e w4 ⟨rfl, hf⟩
  have Hwantw4 := Lib.hid (Hwantw3.out.quiet hf)
  clear Hwantw3
  have Hraw4 := Lib.hid (Hraw3.out.quiet hf)
  clear Hraw3
  have Hrbw4 := Lib.hid (Hrbw3.out.quiet hf)
  clear Hrbw3
  have HSTw4 : Hid (w3.heap.size ≤ w4.heap.size) := hf.size
  have HFw4 : Hid (Fr (fun _ => False) V w4) := HFw3.out.wide hf (fun _ h => h.elim)
  clear hf
  go_wp2_with fail
  refine (sameLq_any Hrbw4.out Hwantw4.out).mono ?_
  rintro e w5 ⟨rfl, hf⟩
  have Hwantw5 := Lib.hid (Hwantw4.out.quiet hf)
  clear Hwantw4
  have Hraw5 := Lib.hid (Hraw4.out.quiet hf)
  clear Hraw4
  have Hrbw5 := Lib.hid (Hrbw4.out.quiet hf)
  clear Hrbw4
  have HSTw5 : Hid (w4.heap.size ≤ w5.heap.size) := hf.size
  have HFw5 : Hid (Fr (fun _ => False) V w5) := HFw4.out.wide hf (fun _ h => h.elim)
  clear hf
  go_wp2_with fail
  refine (Hraw5.out.spoil (by omega) HQB.out (by have sw1 := HSTw1.out; have sw2 := HSTw2.out; have sw3 := HSTw3.out; have sw4 := HSTw4.out; have sw5 := HSTw5.out; omega)).mono ?_
  rintro e w6 ⟨⟨uw6, rfl⟩, hf⟩
  clear Hraw5
  have Hwantw6 := Lib.hid (Hwantw5.out.fr hf (fun i hi => by have sw1 := HSTw1.out; have sw2 := HSTw2.out; have sw3 := HSTw3.out; have sw4 := HSTw4.out; have sw5 := HSTw5.out; omega))
  clear Hwantw5
  have Hrbw6 := Lib.hid (Hrbw5.out.fr hf (fun i hi => by have sw1 := HSTw1.out; have sw2 := HSTw2.out; have sw3 := HSTw3.out; have sw4 := HSTw4.out; have sw5 := HSTw5.out; omega))
  clear Hrbw5
  have HSTw6 : Hid (w5.heap.size ≤ w6.heap.size) := hf.size
  have HFw6 : Hid (Fr (fun _ => False) V w6) := HFw5.out.wide hf (fun i hi => .inr (by have sw1 := HSTw1.out; have sw2 := HSTw2.out; have sw3 := HSTw3.out; have sw4 := HSTw4.out; have sw5 := HSTw5.out; have sw6 := HSTw6.out; omega))
  clear hf
  go_wp2_with fail
  refine (sameLq_any Hrbw6.out Hwantw6.out).mono ?_
  rintro e w7 ⟨rfl, hf⟩
  have Hwantw7 := Lib.hid (Hwantw6.out.quiet hf)
  clear Hwantw6
  have Hrbw7 := Lib.hid (Hrbw6.out.quiet hf)
  clear Hrbw6
  have HSTw7 : Hid (w6.heap.size ≤ w7.heap.size) := hf.size
  have HFw7 : Hid (Fr (fun _ => False) V w7) := HFw6.out.wide hf (fun _ h => h.elim)
  clear hf
  go_wp2_with fail
  refine (Hrbw7.out.spoil (by omega) HQB.out (by have sw1 := HSTw1.out; have sw2 := HSTw2.out; have sw3 := HSTw3.out; have sw4 := HSTw4.out; have sw5 := HSTw5.out; have sw6 := HSTw6.out; have sw7 := HSTw7.out; omega)).mono ?_
  rintro e w8 ⟨⟨uw8, rfl⟩, hf⟩
  clear Hrbw7
  have Hwantw8 := Lib.hid (Hwantw7.out.fr hf (fun i hi => by have sw1 := HSTw1.out; have sw2 := HSTw2.out; have sw3 := HSTw3.out; have sw4 := HSTw4.out; have sw5 := HSTw5.out; have sw6 := HSTw6.out; have sw7 := HSTw7.out; omega))
  clear Hwantw7
  have HSTw8 : Hid (w7.heap.size ≤ w8.heap.size) := hf.size
  have HFw8 : Hid (Fr (fun _ => False) V w8) := HFw7.out.wide hf (fun i hi => .inr (by have sw1 := HSTw1.out; have sw2 := HSTw2.out; have sw3 := HSTw3.out; have sw4 := HSTw4.out; have sw5 := HSTw5.out; have sw6 := HSTw6.out; have sw7 := HSTw7.out; have sw8 := HSTw8.out; omega))
  clear hf
  go_wp2_with fail
  refine (HC1.out w8 HFw8.out).mono ?_
  intro e w9 hd
  obtain ⟨vrc, rfl, hg, hf⟩ := got_of hd
  have Hwantw9 := Lib.hid (Hwantw8.out.quiet hf)
  clear Hwantw8
  have Hrcw9 := Lib.hid hg
  have HSTw9 : Hid (w8.heap.size ≤ w9.heap.size) := hf.size
  have HFw9 : Hid (Fr (fun _ => False) V w9) := HFw8.out.wide hf (fun _ h => h.elim)
  clear hd hg hf
  go_wp2_with fail
  refine (HC4.out w9 HFw9.out).mono ?_
  intro e w10 hd
  obtain ⟨vkeys, rfl, hg, hf⟩ := gotT_of hd
  have Hwantw10 := Lib.hid (Hwantw9.out.quiet hf)
  clear Hwantw9
  have Hrcw10 := Lib.hid (Hrcw9.out.quiet hf)
  clear Hrcw9
  have Hkeysw10 := Lib.hid hg
  have HSTw10 : Hid (w9.heap.size ≤ w10.heap.size) := hf.size
  have HFw10 : Hid (Fr (fun _ => False) V w10) := HFw9.out.wide hf (fun _ h => h.elim)
  clear hd hg hf
  go_wp2_with fail
  refine (HC3.out w10 HFw10.out).mono ?_
  intro e w11 hd
  obtain ⟨vrx, rfl, hg, hf⟩ := gotT_of hd
  have Hwantw11 := Lib.hid (Hwantw10.out.quiet hf)
  clear Hwantw10
  have Hrcw11 := Lib.hid (Hrcw10.out.quiet hf)
  clear Hrcw10
  have Hkeysw11 := Lib.hid (Hkeysw10.out.quiet hf)
  clear Hkeysw10
  have Hrxw11 := Lib.hid hg
  have HSTw11 : Hid (w10.heap.size ≤ w11.heap.size) := hf.size
  have HFw11 : Hid (Fr (fun _ => False) V w11) := HFw10.out.wide hf (fun _ h => h.elim)
  clear hd hg hf
  go_wp2_with fail
  refine (HC3.out w11 HFw11.out).mono ?_
  intro e w12 hd
  obtain ⟨vry, rfl, hg, hf⟩ := gotT_of hd
  have Hwantw12 := Lib.hid (Hwantw11.out.quiet hf)
  clear Hwantw11
  have Hrcw12 := Lib.hid (Hrcw11.out.quiet hf)
  clear Hrcw11
  have Hkeysw12 := Lib.hid (Hkeysw11.out.quiet hf)
  clear Hkeysw11
  have Hrxw12 := Lib.hid (Hrxw11.out.quiet hf)
  clear Hrxw11
  have Hryw12 := Lib.hid hg
  have HSTw12 : Hid (w11.heap.size ≤ w12.heap.size) := hf.size
  have HFw12 : Hid (Fr (fun _ => False) V w12) := HFw11.out.wide hf (fun _ h => h.elim)
  clear hd hg hf
  go_wp2_with fail
  refine (sameLq_any Hrcw12.out Hwantw12.out).mono ?_
  rintro e w13 ⟨rfl, hf⟩
  have Hwantw13 := Lib.hid (Hwantw12.out.quiet hf)
  clear Hwantw12
  have Hrcw13 := Lib.hid (Hrcw12.out.quiet hf)
  clear Hrcw12
  have Hkeysw13 := Lib.hid (Hkeysw12.out.quiet hf)
  clear Hkeysw12
  have Hrxw13 := Lib.hid (Hrxw12.out.quiet hf)
  clear Hrxw12
  have Hryw13 := Lib.hid (Hryw12.out.quiet hf)
  clear Hryw12
  have HSTw13 : Hid (w12.heap.size ≤ w13.heap.size) := hf.size
  have HFw13 : Hid (Fr (fun _ => False) V w13) := HFw12.out.wide hf (fun _ h => h.elim)
  clear hf
  go_wp2_with fail
  refine (sameTq_any Hrxw13.out Hkeysw13.out).mono ?_
  rintro e w14 ⟨rfl, hf⟩
  have Hwantw14 := Lib.hid (Hwantw13.out.quiet hf)
  clear Hwantw13
  have Hrcw14 := Lib.hid (Hrcw13.out.quiet hf)
  clear Hrcw13
  have Hkeysw14 := Lib.hid (Hkeysw13.out.quiet hf)
  clear Hkeysw13
  have Hrxw14 := Lib.hid (Hrxw13.out.quiet hf)
  clear Hrxw13
  have Hryw14 := Lib.hid (Hryw13.out.quiet hf)
  clear Hryw13
  have HSTw14 : Hid (w13.heap.size ≤ w14.heap.size) := hf.size
  have HFw14 : Hid (Fr (fun _ => False) V w14) := HFw13.out.wide hf (fun _ h => h.elim)
  clear hf
  go_wp2_with fail
  refine (sameTq_any Hryw14.out Hkeysw14.out).mono ?_
  rintro e w15 ⟨rfl, hf⟩
  have Hwantw15 := Lib.hid (Hwantw14.out.quiet hf)
  clear Hwantw14
  have Hrcw15 := Lib.hid (Hrcw14.out.quiet hf)
  clear Hrcw14
  have Hkeysw15 := Lib.hid (Hkeysw14.out.quiet hf)
  clear Hkeysw14
  have Hrxw15 := Lib.hid (Hrxw14.out.quiet hf)
  clear Hrxw14
  have Hryw15 := Lib.hid (Hryw14.out.quiet hf)
  clear Hryw14
  have HSTw15 : Hid (w14.heap.size ≤ w15.heap.size) := hf.size
  have HFw15 : Hid (Fr (fun _ => False) V w15) := HFw14.out.wide hf (fun _ h => h.elim)
  clear hf
  go_wp2_with fail
  refine (Hrxw15.out.spoil (by omega) (by have sw1 := HSTw1.out; have sw2 := HSTw2.out; have sw3 := HSTw3.out; have sw4 := HSTw4.out; have sw5 := HSTw5.out; have sw6 := HSTw6.out; have sw7 := HSTw7.out; have sw8 := HSTw8.out; have sw9 := HSTw9.out; have sw10 := HSTw10.out; have sw11 := HSTw11.out; have sw12 := HSTw12.out; have sw13 := HSTw13.out; have sw14 := HSTw14.out; have sw15 := HSTw15.out; omega)).mono ?_
  rintro e w16 ⟨⟨uw16, rfl⟩, hf⟩
  clear Hrxw15
  have Hwantw16 := Lib.hid (Hwantw15.out.fr hf (fun i hi => by have sw1 := HSTw1.out; have sw2 := HSTw2.out; have sw3 := HSTw3.out; have sw4 := HSTw4.out; have sw5 := HSTw5.out; have sw6 := HSTw6.out; have sw7 := HSTw7.out; have sw8 := HSTw8.out; have sw9 := HSTw9.out; have sw10 := HSTw10.out; have sw11 := HSTw11.out; have sw12 := HSTw12.out; have sw13 := HSTw13.out; have sw14 := HSTw14.out; have sw15 := HSTw15.out; omega))
  clear Hwantw15
  have Hrcw16 := Lib.hid (Hrcw15.out.fr hf (fun i hi => by have sw1 := HSTw1.out; have sw2 := HSTw2.out; have sw3 := HSTw3.out; have sw4 := HSTw4.out; have sw5 := HSTw5.out; have sw6 := HSTw6.out; have sw7 := HSTw7.out; have sw8 := HSTw8.out; have sw9 := HSTw9.out; have sw10 := HSTw10.out; have sw11 := HSTw11.out; have sw12 := HSTw12.out; have sw13 := HSTw13.out; have sw14 := HSTw14.out; have sw15 := HSTw15.out; omega))
  clear Hrcw15
  have Hkeysw16 := Lib.hid (Hkeysw15.out.fr hf (fun i hi => by have sw1 := HSTw1.out; have sw2 := HSTw2.out; have sw3 := HSTw3.out; have sw4 := HSTw4.out; have sw5 := HSTw5.out; have sw6 := HSTw6.out; have sw7 := HSTw7.out; have sw8 := HSTw8.out; have sw9 := HSTw9.out; have sw10 := HSTw10.out; have sw11 := HSTw11.out; have sw12 := HSTw12.out; have sw13 := HSTw13.out; have sw14 := HSTw14.out; have sw15 := HSTw15.out; omega))
  clear Hkeysw15
  have Hryw16 := Lib.hid (Hryw15.out.fr hf (fun i hi => by have sw1 := HSTw1.out; have sw2 := HSTw2.out; have sw3 := HSTw3.out; have sw4 := HSTw4.out; have sw5 := HSTw5.out; have sw6 := HSTw6.out; have sw7 := HSTw7.out; have sw8 := HSTw8.out; have sw9 := HSTw9.out; have sw10 := HSTw10.out; have sw11 := HSTw11.out; have sw12 := HSTw12.out; have sw13 := HSTw13.out; have sw14 := HSTw14.out; have sw15 := HSTw15.out; omega))
  clear Hryw15
  have HSTw16 : Hid (w15.heap.size ≤ w16.heap.size) := hf.size
  have HFw16 : Hid (Fr (fun _ => False) V w16) := HFw15.out.wide hf (fun i hi => .inr (by have sw1 := HSTw1.out; have sw2 := HSTw2.out; have sw3 := HSTw3.out; have sw4 := HSTw4.out; have sw5 := HSTw5.out; have sw6 := HSTw6.out; have sw7 := HSTw7.out; have sw8 := HSTw8.out; have sw9 := HSTw9.out; have sw10 := HSTw10.out; have sw11 := HSTw11.out; have sw12 := HSTw12.out; have sw13 := HSTw13.out; have sw14 := HSTw14.out; have sw15 := HSTw15.out; have sw16 := HSTw16.out; omega))
  clear hf
  go_wp2_with fail
  refine (sameTq_any Hryw16.out Hkeysw16.out).mono ?_
  rintro e w17 ⟨rfl, hf⟩
  have Hwantw17 := Lib.hid (Hwantw16.out.quiet hf)
  clear Hwantw16
  have Hrcw17 := Lib.hid (Hrcw16.out.quiet hf)
  clear Hrcw16
  have Hkeysw17 := Lib.hid (Hkeysw16.out.quiet hf)
  clear Hkeysw16
  have Hryw17 := Lib.hid (Hryw16.out.quiet hf)
  clear Hryw16
  have HSTw17 : Hid (w16.heap.size ≤ w17.heap.size) := hf.size
  have HFw17 : Hid (Fr (fun _ => False) V w17) := HFw16.out.wide hf (fun _ h => h.elim)
  clear hf
  go_wp2_with fail
  refine (Hryw17.out.spoil (by omega) (by have sw1 := HSTw1.out; have sw2 := HSTw2.out; have sw3 := HSTw3.out; have sw4 := HSTw4.out; have sw5 := HSTw5.out; have sw6 := HSTw6.out; have sw7 := HSTw7.out; have sw8 := HSTw8.out; have sw9 := HSTw9.out; have sw10 := HSTw10.out; have sw11 := HSTw11.out; have sw12 := HSTw12.out; have sw13 := HSTw13.out; have sw14 := HSTw14.out; have sw15 := HSTw15.out; have sw16 := HSTw16.out; have sw17 := HSTw17.out; omega)).mono ?_
  rintro e w18 ⟨⟨uw18, rfl⟩, hf⟩
  clear Hryw17
  have Hwantw18 := Lib.hid (Hwantw17.out.fr hf (fun i hi => by have sw1 := HSTw1.out; have sw2 := HSTw2.out; have sw3 := HSTw3.out; have sw4 := HSTw4.out; have sw5 := HSTw5.out; have sw6 := HSTw6.out; have sw7 := HSTw7.out; have sw8 := HSTw8.out; have sw9 := HSTw9.out; have sw10 := HSTw10.out; have sw11 := HSTw11.out; have sw12 := HSTw12.out; have sw13 := HSTw13.out; have sw14 := HSTw14.out; have sw15 := HSTw15.out; have sw16 := HSTw16.out; have sw17 := HSTw17.out; omega))
  clear Hwantw17
  have Hrcw18 := Lib.hid (Hrcw17.out.fr hf (fun i hi => by have sw1 := HSTw1.out; have sw2 := HSTw2.out; have sw3 := HSTw3.out; have sw4 := HSTw4.out; have sw5 := HSTw5.out; have sw6 := HSTw6.out; have sw7 := HSTw7.out; have sw8 := HSTw8.out; have sw9 := HSTw9.out; have sw10 := HSTw10.out; have sw11 := HSTw11.out; have sw12 := HSTw12.out; have sw13 := HSTw13.out; have sw14 := HSTw14.out; have sw15 := HSTw15.out; have sw16 := HSTw16.out; have sw17 := HSTw17.out; omega))
  clear Hrcw17
  have Hkeysw18 := Lib.hid (Hkeysw17.out.fr hf (fun i hi => by have sw1 := HSTw1.out; have sw2 := HSTw2.out; have sw3 := HSTw3.out; have sw4 := HSTw4.out; have sw5 := HSTw5.out; have sw6 := HSTw6.out; have sw7 := HSTw7.out; have sw8 := HSTw8.out; have sw9 := HSTw9.out; have sw10 := HSTw10.out; have sw11 := HSTw11.out; have sw12 := HSTw12.out; have sw13 := HSTw13.out; have sw14 := HSTw14.out; have sw15 := HSTw15.out; have sw16 := HSTw16.out; have sw17 := HSTw17.out; omega))
  clear Hkeysw17
  have HSTw18 : Hid (w17.heap.size ≤ w18.heap.size) := hf.size
  have HFw18 : Hid (Fr (fun _ => False) V w18) := HFw17.out.wide hf (fun i hi => .inr (by have sw1 := HSTw1.out; have sw2 := HSTw2.out; have sw3 := HSTw3.out; have sw4 := HSTw4.out; have sw5 := HSTw5.out; have sw6 := HSTw6.out; have sw7 := HSTw7.out; have sw8 := HSTw8.out; have sw9 := HSTw9.out; have sw10 := HSTw10.out; have sw11 := HSTw11.out; have sw12 := HSTw12.out; have sw13 := HSTw13.out; have sw14 := HSTw14.out; have sw15 := HSTw15.out; have sw16 := HSTw16.out; have sw17 := HSTw17.out; have sw18 := HSTw18.out; omega))
  clear hf
  go_wp2_with fail
  refine (HC3.out w18 HFw18.out).mono ?_
  intro e w19 hd
  obtain ⟨vrz, rfl, hg, hf⟩ := gotT_of hd
  have Hwantw19 := Lib.hid (Hwantw18.out.quiet hf)
  clear Hwantw18
  have Hrcw19 := Lib.hid (Hrcw18.out.quiet hf)
  clear Hrcw18
  have Hkeysw19 := Lib.hid (Hkeysw18.out.quiet hf)
  clear Hkeysw18
  have Hrzw19 := Lib.hid hg
  have HSTw19 : Hid (w18.heap.size ≤ w19.heap.size) := hf.size
  have HFw19 : Hid (Fr (fun _ => False) V w19) := HFw18.out.wide hf (fun _ h => h.elim)
  clear hd hg hf
  go_wp2_with fail
  refine (sameTq_any Hrzw19.out Hkeysw19.out).mono ?_
  rintro e w20 ⟨rfl, hf⟩
  have Hwantw20 := Lib.hid (Hwantw19.out.quiet hf)
  clear Hwantw19
  have Hrcw20 := Lib.hid (Hrcw19.out.quiet hf)
  clear Hrcw19
  have Hkeysw20 := Lib.hid (Hkeysw19.out.quiet hf)
  clear Hkeysw19
  have Hrzw20 := Lib.hid (Hrzw19.out.quiet hf)
  clear Hrzw19
  have HSTw20 : Hid (w19.heap.size ≤ w20.heap.size) := hf.size
  have HFw20 : Hid (Fr (fun _ => False) V w20) := HFw19.out.wide hf (fun _ h => h.elim)
  clear hf
  go_wp2_with fail
  refine (HOP.out w20 HFw20.out).mono ?_
  rintro e w' ⟨rfl, rfl⟩
  go_wp2_with fail
  refine (HOR.out w20 HFw20.out).mono ?_
  rintro e w21 ⟨rfl, hf⟩
  have HSTw21 : Hid (w20.heap.size ≤ w21.heap.size) := hf.size
  have HFw21 : Hid (Fr (fun _ => False) V w21) := HFw20.out.wide hf (fun _ h => h.elim)
  clear hf
  cases o1
  all_goals
    go_wp2_with fail
    refine (HSP.out w21 HFw21.out).mono ?_
    rintro e w' ⟨rfl, rfl⟩
    go_wp2_with fail
    refine (HSR.out w21 HFw21.out).mono ?_
    rintro e w22 ⟨rfl, hf⟩
    have HSTw22 : Hid (w21.heap.size ≤ w22.heap.size) := hf.size
    have HFw22 : Hid (Fr (fun _ => False) V w22) := HFw21.out.wide hf (fun _ h => h.elim)
    clear hf
    cases o2
    all_goals
      go_wp2_with fail
      refine (HDI.out w22 HFw22.out).mono ?_
      rintro e w' ⟨rfl, rfl⟩
      go_wp2_with fail
      refine (HDR.out w22 HFw22.out).mono ?_
      rintro e w23 ⟨rfl, hf⟩
      have HSTw23 : Hid (w22.heap.size ≤ w23.heap.size) := hf.size
      have HFw23 : Hid (Fr (fun _ => False) V w23) := HFw22.out.wide hf (fun _ h => h.elim)
      clear hf
      cases o3
      all_goals
        go_wp2_with fail
        go_ret
        exact ⟨rfl, HFw23.out⟩
end Go.Proofs.Ytpcjogmikgfgdaa
