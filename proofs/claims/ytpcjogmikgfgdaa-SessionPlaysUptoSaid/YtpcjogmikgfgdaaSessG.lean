/- The session with rows of its own: Queue, Queued, and what its calls do, as the reference tells them. No condition. -/
import Derived.Test.YtpcjogmikgfgdaaMut26
import Derived.Test.YtpcjogmikgfgdaaDoes26
import Derived.Test.YtpcjogmikgfgdaaDoes26F
import Derived.Test.YtpcjogmikgfgdaaSpL26
namespace Go.Proofs.Ytpcjogmikgfgdaa
open Go.RowKit
def QPostG (w : World) (B p m : Nat) (vq : Value) (S' : SS) (l : List ByteArray) (e : Ending) (w' : World) : Prop :=
  ∃ vq', e = .returned (.int .i64 0) ∧ SessAt w' B p m vq' S' ∧ (∀ g, vq'.ownBlock = some g → vq.ownBlock = some g ∨ w.heap.size ≤ g) ∧ Fr (fun k => k = p ∨ vq.ownBlock = some k) w w' ∧
    ∃ n qs nv, w.ownsRow B 41 1 vq n qs ∧ w'.ownsRow B 41 1 vq' (n + 1) (qs ++ [nv]) ∧ (∀ g, nv.ownBlock = some g → w.heap.size ≤ g) ∧ w'.ownsRow w.heap.size 9 1 nv l.length (l.map .string)
section
variable (w : World) (B p m : Nat) (vq : Value) (op sp di : Bool) (q : List (List ByteArray)) (wt : List ByteArray) (v : Value) (l : List ByteArray)
set_option maxRecDepth 100000 in
set_option maxHeartbeats 1000000 in
theorem queueG_ok (h : SessAt w B p m vq ⟨true, sp, di, q, wt⟩) (hq : q.length < 1024) (hr : RdC w 1 v l.length (l.map .string)) (hb : l.length * 16 ≤ 140737488355328) (hB : B ≤ w.heap.size) :
    Calls Try.prog 25 #[.pointer (some ⟨p, 0, none⟩), v] w (QPostG w B p m vq ⟨true, sp, di, q ++ [l], wt⟩ l) := by
  have c0 : w.cell? ⟨p, 0, none⟩ = some (.bool true) := h.cell 0
  have c3 : w.cell? ⟨p, 3, none⟩ = some vq := h.cell 3
  have f3 : w.frozen? ⟨p, 3, none⟩ = false := h.free 3
  obtain ⟨a, c, rfl⟩ := h.vq_slice
  have g : decide (1024 ≤ (q.length : Int)) = false := by rw [decide_eq_false_iff_not]; omega
  obtain ⟨i0, hi, hz0, hz1, hz2⟩ := info_parts infoL
  have HI := Lib.hid hi
  have HZ0 := Lib.hid hz0
  have HZ1 := Lib.hid hz1
  have HZ2 := Lib.hid hz2
  have HC := Lib.hid (fun (W : World) (hW : RdC W 1 v l.length (l.map .string)) => cloneS_any v l W hW hb)
  have HR1 := Lib.hid (hr.fr (Fr.drew (fun _ => False) w) (fun _ _ h => h))
  obtain ⟨-, av, cv, rfl, -⟩ := hr
  have H1 := Lib.hid (h.quiet (Fr.drew (fun _ => False) w))
  obtain ⟨qs, hrow, htx⟩ := H1.out.row
  have HROW := Lib.hid hrow
  have HTX := Lib.hid htx
  have hpl := h.lt
  have HOQ : Hid (∀ g, (Value.slice a q.length c).ownBlock = some g → g < w.heap.size) := fun g hg => (own_blk HROW.out hg).2.1
  have HBW := Lib.hid hB
  have HBB := Lib.hid hb
  clear hb h hi hz0 hz1 hz2 hrow htx hB
  go_enter Try.func25, Try.ntmps25
  go_wp2_with fail
  go_region_law (first
      | (go_simp; go_at_call 59; ((with_reducible refine (HC.out _ HR1.out).mono ?_); rintro e w1 ⟨a1, c1, rfl, hr1, hb1⟩; have HNR := Lib.hid hr1; have HNV := Lib.hid (fun (g : Nat) (hg : (Value.slice a1 l.length c1).ownBlock = some g) => (own_blk hr1 hg).1); obtain ⟨r1, r2, r3, j3, r5, r6, r7, j4⟩ := clone_fin B p m _ q l H1.out HROW.out HTX.out HBW.out hr1 hb1; have H2 := Lib.hid r1; have HW1 := Lib.hid r2; have HT1 := Lib.hid r3; have HN := Lib.hid r5; have HBW1 := Lib.hid r6; have HF1 := Lib.hid r7; clear hr1 hb1 r1 r2 r3 r5 r6 r7; dsimp only))
      | (refine step_append_lies _ (by rfl) (.tmp 25) (.tmp 28) 40 (by rfl) B 41 i0 (.slice none 0 0) 1 24 Try.underlying40 HI.out HZ0.out HZ1.out HZ2.out rfl (by decide) (.slice a q.length c) q.length qs (by rfl) (HW1.out.alloc _) ⟨w1.heap.size, 0, none⟩ 1 1 [.slice a1 l.length c1] (by rfl) rfl (cell_one_new _ _ _) (by simp [Value.oneCell']) (by decide) (by unfold maxLen; omega) (by omega) (by have := HBW1.out; simp; omega) (w1.heap.size + 1) (by simp) ?_; intro g2 cap2 w2 hown hgrow hat hlt; obtain ⟨q1, q2, q3, q4, q5⟩ := queue_fin B p m true sp di q wt l hq HBB.out H2.out HT1.out HN.out hgrow hown; have Q1 := Lib.hid q1; have Q4 := Lib.hid q4; have Q5 := Lib.hid q5; have HAT := Lib.hid hat; clear hown hgrow hat q1 q4 q5))
  all_goals
    go_wp2
    go_ret
    refine ⟨_, rfl, Q1.out, fun g hg => ?_, ?_, ⟨q.length, qs, _, HROW.out, Q5.out, HNV.out, owns_fr HNR.out Q4.out (fun g hg e => ?_)⟩⟩
    · cases hg
      rcases HAT.out with h | h
      · exact .inl h
      · exact .inr (by rw [h]; exact Nat.le_succ_of_le HF1.out.size)
    · exact (((Fr.drew (fun _ => False) w).wide HF1.out (fun _ h => .inl h)).mono (T := fun k => k = p ∨ (Value.slice a q.length c).ownBlock = some k) (fun _ h => h.elim)).wide Q4.out (fun i hi => .inl hi)
    · have h1 : w.heap.size ≤ g := HNV.out g hg
      rcases e with e | e
      · omega
      · have := HOQ.out g e; omega
set_option maxRecDepth 100000 in
set_option maxHeartbeats 2000000 in
theorem queuedG_any (h : SessAt w B p m vq ⟨op, sp, di, q, wt⟩) : Calls Try.prog 32 #[.pointer (some ⟨p, 0, none⟩)] w (DPostG w q) := by
  have c3 : w.cell? ⟨p, 3, none⟩ = some vq := h.cell 3
  obtain ⟨a, c, rfl⟩ := h.vq_slice
  obtain ⟨qs, r1, r2⟩ := h.row
  have H := Lib.hid h
  have HR := Lib.hid r1
  have HT := Lib.hid r2
  have hql : q.length ≤ 1024 := h.sq.1
  have HQ := Lib.hid h.sq.2
  obtain ⟨i0, hi, hz0, hz1, hz2⟩ := info_parts infoL
  have HI := Lib.hid hi
  have HZ0 := Lib.hid hz0
  have HZ1 := Lib.hid hz1
  have HZ2 := Lib.hid hz2
  clear h r1 r2 hi hz0 hz1 hz2
  go_enter Try.func32, Try.ntmps32
  go_wp2
  go_loopw [3, 13] (fun v i wr => ∃ (k : Nat) (qs' : List Value), i = .int .i64 k ∧ k ≤ q.length ∧ Hid (wr.ownsRow w.heap.size 41 1 v k qs') ∧ Hid (OTxs wr w.heap.size qs' (q.take k)) ∧ Hid (Below w.heap.size w wr)) (fun _ i _ => q.length - (intOf i).toNat)
  case atStart => exact ⟨0, [], rfl, by omega, World.ownsRow_nil _ _ _ _, (show OTxs _ _ _ _ from OTxs.nil _ _), Below.refl _ _⟩
  case round =>
    obtain ⟨k, qs', rfl, hk, HO, HX, HB⟩ := hrel
    obtain ⟨wo, rfl⟩ : ∃ wo, wo = wr := ⟨_, rfl⟩
    by_cases hlt : k < q.length
    · have hb1 : (k : Int) < (q.length : Int) := by omega
      have hb0 : (0 : Int) ≤ (k : Int) := by omega
      obtain ⟨l, hl⟩ : ∃ l, q[k] = l := ⟨_, rfl⟩
      have HLB : Hid (l.length * 16 ≤ 140737488355328) := by have := HQ.out q[k] (List.getElem_mem _); rwa [hl] at this
      obtain ⟨u, hu, htx⟩ := HT.out.2 k l (by rw [List.getElem?_eq_getElem hlt, hl])
      obtain ⟨g, rfl, hc0⟩ := own_cell HR.out hu
      have hc : wo.cell? ⟨g, k, none⟩ = some u := (HB.out.cell (World.block_lt_of_cell? w _ hc0)).trans hc0
      have hrd := htx.1.below HB.out
      have HC := Lib.hid (cloneS_any u l wo hrd HLB.out)
      obtain ⟨-, ua, uc, rfl, -⟩ := htx.1
      have HTK : Hid (q.take (k + 1) = q.take k ++ [l]) := by show _ = _; rw [List.take_succ_eq_append_getElem hlt, hl]
      clear hl hu htx hc0 hrd
      go_wp2_with fail
      refine HC.out.mono ?_
      rintro e w1 ⟨a1, c1, rfl, hr1, hb1'⟩
      have HO1 := Lib.hid (owns_fr HO.out (Fr.of_below hb1') (fun g hg e => by have := (own_blk HO.out hg).2.1; omega))
      have HX1 := Lib.hid ((HX.out.fr (Fr.of_below hb1') (fun g hg e => by have := e.lt; omega)).snoc (owns_base1 hr1 HB.out.size))
      have HB1 := Lib.hid (HB.out.trans (hb1'.mono HB.out.size))
      clear hr1 hb1'
      go_wp2_with (at_builtin; refine wpList_append_own _ rfl (.tmp 17) (.tmp 20) 40 rfl w.heap.size 41 i0 (.slice none 0 0) 1 24 Try.underlying40 HI.out HZ0.out HZ1.out HZ2.out rfl (by decide) _ k qs' rfl (HO1.out.alloc _) ⟨w1.heap.size, 0, none⟩ 1 1 [.slice a1 l.length c1] rfl rfl (cell_one_new _ _ _) (by simp [Value.oneCell']) (by unfold maxLen; omega) (by omega) (by have := HB1.out.size; simp; omega) ?_; intro v' w2 hown hgrow _; have HO2 := Lib.hid hown; have HG := Lib.hid hgrow; clear hown hgrow)
      go_roundw
      case rel =>
        refine ⟨k + 1, _, by go_num, by omega, HO2.out, (show OTxs _ _ _ _ from ?_), ?_⟩
        · rw [HTK.out]
          refine HX1.out.fr ((Fr.alloc (fun k => _) w1 _).wide (Fr.of_grownBy HG.out) (fun i hi => .inl hi)) (fun g hg => ?_)
          obtain ⟨_, _, cs, hcs⟩ := own_blk HO1.out hg
          exact not_tb hcs (by decide)
        · exact (HB1.out.alloc HB1.out.size _).grown HG.out (by have := HB1.out.size; simp; omega) (fun g hg => (own_blk HO1.out hg).1)
      case measure => simp [intOf]; omega
    · obtain rfl : k = q.length := by omega
      go_wp2
      obtain ⟨va, vc, rfl⟩ := owns_sliceN HO.out
      go_ret
      exact ⟨_, qs', rfl, HO.out, by have := HX.out; rwa [List.take_length] at this, HB.out⟩
end
/-- a session whose blocks are of F, its commands in rows of their own -/
structure SessG (w : World) (B : Nat) (F : Nat → Prop) (p m : Nat) (vq : Value) (S : SS) : Prop where
  f : SessF w B F p m vq S
  o : ∀ n qs, w.ownsRow B 41 1 vq n qs → OTxs w 0 qs S.q
section
variable {w w' : World} {T : Nat → Prop} {B p m : Nat} {vq vq' : Value} {S S' : SS} {F : Nat → Prop}
theorem SessG.row (h : SessG w B F p m vq S) : ∃ qs, w.ownsRow B 41 1 vq S.q.length qs ∧ OTxs w 0 qs S.q := by
  obtain ⟨qs, r1, _⟩ := h.f.s.row
  exact ⟨qs, r1, h.o _ _ r1⟩
theorem SessG.other (h : SessG w B F p m vq S) (hf : Fr T w w') (hd : ∀ k, F k → ¬ T k) : SessG w' B F p m vq S := by
  obtain ⟨qs, r1, r2⟩ := h.row
  have r1' := owns_fr r1 hf (fun g hg => hd g (h.f.fq g hg))
  refine ⟨h.f.other hf hd, fun n qs' hq => ?_⟩
  obtain ⟨_, rfl⟩ := own_unique r1' hq
  exact r2.fr2 hf (fun u hu g hg => hd g (h.f.fe _ qs r1 u hu g hg))
theorem SessG.quiet (h : SessG w B F p m vq S) (hf : Fr (fun _ => False) w w') : SessG w' B F p m vq S := h.other hf (fun _ _ h => h)
theorem SessG.turn (h : SessG w B F p m vq S) (hs : SessAt w' B p m vq S') (hf : Fr (fun i => i = p ∨ i = m) w w') (hq : S'.q = S.q) : SessG w' B F p m vq S' := by
  obtain ⟨qs, r1, r2⟩ := h.row
  have r1' := owns_fr r1 hf (fun g hg e => e.elim (fun e => h.f.s.pq (by rw [hg]; exact congrArg some e)) (fun e => h.f.s.mq (by rw [hg]; exact congrArg some e)))
  refine ⟨h.f.turn hs hf, fun n qs' hr => ?_⟩
  obtain ⟨_, rfl⟩ := own_unique r1' hr
  rw [hq]
  refine r2.fr hf (fun k hk => ?_)
  rcases hk with rfl | rfl
  · exact h.f.s.ntb
  · exact h.f.s.ntm
theorem SessG.queued (h : SessG w B F p m vq S) (hB : B ≤ w.heap.size) {l : List ByteArray} {e : Ending} (hS : S'.q = S.q ++ [l]) (hq : QPostG w B p m vq S' l e w') : ∃ vq', e = .returned (.int .i64 0) ∧ SessG w' B (Grew F w w') p m vq' S' ∧ Fr F w w' := by
  obtain ⟨vq', he, hs, hat, hf, n, qs, nv, r1, r2, hnv, hno⟩ := hq
  obtain ⟨vq2, he2, hs2, hfr⟩ := h.f.queued hB ⟨vq', he, hs, hat, hf, n, qs, nv, r1, r2, hnv⟩
  obtain ⟨qs0, k1, k2⟩ := h.row
  obtain ⟨_, rfl⟩ := own_unique k1 r1
  have hfoot : ∀ k, Grew F w w' k → B ≤ k ∧ k < w'.heap.size := fun k hk => by
    rcases hk with hk | hk
    · exact ⟨(h.f.lt k hk).1, Nat.lt_of_lt_of_le (h.f.lt k hk).2 hf.size⟩
    · exact ⟨Nat.le_trans hB hk.1, hk.2⟩
  have hlt : ∀ g, vq'.ownBlock = some g → g < w'.heap.size := fun g hg => (own_blk r2 hg).2.1
  refine ⟨vq', he, ⟨⟨hs, .inl h.f.fp, .inl h.f.fm, fun g hg => (hat g hg).elim (fun e => .inl (h.f.fq g e)) (fun e => .inr ⟨e, hlt g hg⟩), fun n' qs' hr u hu g hg => ?_, hfoot⟩, fun n' qs' hr => ?_⟩, hfr⟩
  · obtain ⟨_, rfl⟩ := own_unique r2 hr
    rcases List.mem_append.1 hu with hu | hu
    · exact .inl (h.f.fe _ _ r1 u hu g hg)
    · rw [List.mem_singleton.1 hu] at hg
      exact .inr ⟨hnv g hg, (own_blk hno hg).2.1⟩
  · obtain ⟨_, rfl⟩ := own_unique r2 hr
    rw [hS]
    refine OTxs.snoc (k2.fr hf (fun k hk => ?_)) (owns_base1 hno (Nat.zero_le _))
    rcases hk with rfl | hk
    · exact h.f.s.ntb
    · exact h.f.s.ntq hk
theorem SessG.base {B' : Nat} (h : SessG w B F p m vq S) (hB : B' ≤ B) : SessG w B' F p m vq S := by
  obtain ⟨qs, r1, r2⟩ := h.row
  refine ⟨h.f.base hB, fun n qs' hr => ?_⟩
  obtain ⟨_, rfl⟩ := own_unique (owns_base1 r1 hB) hr
  exact r2
theorem sessG_new {e : Ending} (h : NewPost w e w') : ∃ p m, e = .returned (.pointer (some ⟨p, 0, none⟩)) ∧ SessG w' w.heap.size (fun k => w.heap.size ≤ k ∧ k < w'.heap.size) p m (.slice none 0 0) ss0 ∧ Below w.heap.size w w' := by
  obtain ⟨p, m, he, hs, hb⟩ := sessF_new h
  refine ⟨p, m, he, ⟨hs, fun n qs' hr => ?_⟩, hb⟩
  obtain ⟨_, rfl⟩ := own_unique (World.ownsRow_nil w' w.heap.size 41 1) hr
  exact OTxs.nil _ _
end
/-- what a call to a session does -/
def SMut (w : World) (B : Nat) (F : Nat → Prop) (p m : Nat) (S' : SS) (P : Ending → Prop) (e : Ending) (w' : World) : Prop :=
  ∃ vq' F', P e ∧ SessG w' B F' p m vq' S' ∧ (∀ k, F' k → F k ∨ w.heap.size ≤ k) ∧ Fr F w w'
section
variable (w : World) (B p m : Nat) (F : Nat → Prop) (vq : Value) (S : SS) (h : SessG w B F p m vq S)
include h
theorem smut_of {S' : SS} {T : Nat → Prop} {P : Ending → Prop} {e : Ending} {w' : World} (hp : SPost w B p m vq S' T P e w') (hT : ∀ i, T i → i = p ∨ i = m) (hq : S'.q = S.q) : SMut w B F p m S' P e w' := by
  obtain ⟨h1, h2, h3⟩ := hp
  have hf : Fr (fun i => i = p ∨ i = m) w w' := h3.mono (fun i hi _ => hT i hi)
  exact ⟨vq, F, h1, h.turn h2 hf hq, fun k hk => .inl hk, fr_two hf h.f.fp h.f.fm⟩
theorem smut_same {P : Ending → Prop} {e : Ending} {w' : World} (hp : P e) (hw : w = w') : SMut w B F p m S P e w' := by
  subst hw
  exact ⟨vq, F, hp, h, fun k hk => .inl hk, Fr.refl _ _⟩
theorem beginG_any : Calls Try.prog 23 #[.pointer (some ⟨p, 0, none⟩)] w (SMut w B F p m { S with op := true } (fun e => e = .returned (.int .i64 (if S.op then 260 else 0)))) :=
  (begin_any w B p m vq S h.f.s).mono fun e w' hp => smut_of w B p m F vq S h hp (fun i hi => .inl hi) rfl
theorem spoilG_any : Calls Try.prog 38 #[.pointer (some ⟨p, 0, none⟩)] w (SMut w B F p m { S with sp := S.sp || S.op } (fun e => ∃ v, e = .returned v)) :=
  (spoil_any w B p m vq S h.f.s).mono fun e w' hp => smut_of w B p m F vq S h hp (fun i hi => .inl hi) rfl
theorem unwatchG_any : Calls Try.prog 35 #[.pointer (some ⟨p, 0, none⟩)] w (SMut w B F p m { S with di := false, wt := [] } (fun e => ∃ v, e = .returned v)) := by
  obtain ⟨op, sp, di, q, wt⟩ := S
  refine (unwatch_any w B p m vq op sp di q wt h.f.s).mono fun e w' hp => ?_
  obtain ⟨vq', F', h1, h2⟩ := smut_of w B p m F vq _ h hp (fun i hi => hi) rfl
  exact ⟨vq', F', ⟨_, h1⟩, h2⟩
theorem touchG_any (v : Value) (l : List ByteArray) (hr : ∀ W, Fr (fun i => i = p) w W → RdC W 1 v l.length (l.map .string)) (hl : ∀ k ∈ l, k.size ≤ maxLen) : Calls Try.prog 34 #[.pointer (some ⟨p, 0, none⟩), v] w (SMut w B F p m { S with di := S.di || l.any (fun k => inL k S.wt) } (fun e => ∃ v, e = .returned v)) := by
  obtain ⟨op, sp, di, q, wt⟩ := S
  refine (touch_any w B p m vq op sp di q wt v l h.f.s hr hl).mono fun e w' hp => ?_
  obtain ⟨vq', F', h1, h2⟩ := smut_of w B p m F vq _ h hp (fun i hi => .inl hi) rfl
  exact ⟨vq', F', ⟨_, h1⟩, h2⟩
theorem queueG_any (hB : B ≤ w.heap.size) (v : Value) (l : List ByteArray) (hr : RdC w 1 v l.length (l.map .string)) (hb : l.length * 16 ≤ 140737488355328) : Calls Try.prog 25 #[.pointer (some ⟨p, 0, none⟩), v] w (SMut w B F p m (qSS S l) (fun e => e = .returned (.int .i64 (qCode S)))) := by
  obtain ⟨op, sp, di, q, wt⟩ := S
  cases op
  · refine (queue_shut w B p m vq sp di q wt v h.f.s).mono fun e w' ⟨he, hw⟩ => ?_
    exact smut_same w B p m F vq _ h he hw
  · by_cases hq : q.length < 1024
    · refine (queueG_ok w B p m vq sp di q wt v l h.f.s hq hr hb hB).mono fun e w' hp => ?_
      obtain ⟨vq', he, hs, hf⟩ := h.queued hB rfl hp
      have e1 : qSS ⟨true, sp, di, q, wt⟩ l = ⟨true, sp, di, q ++ [l], wt⟩ := by unfold qSS; rw [if_pos ⟨rfl, hq⟩]
      have e2 : qCode ⟨true, sp, di, q, wt⟩ = 0 := by unfold qCode; rw [if_pos rfl, if_neg (by show ¬ 1024 ≤ q.length; omega)]
      rw [e1]
      exact ⟨vq', _, by rw [e2]; exact he, hs, fun k hk => hk.imp id (fun h => h.1), hf⟩
    · refine (queue_full w B p m vq sp di q wt v h.f.s (by omega)).mono fun e w' ⟨he, hw⟩ => ?_
      have e1 : qSS ⟨true, sp, di, q, wt⟩ l = ⟨true, sp, di, q, wt⟩ := by unfold qSS; rw [if_neg (fun h => hq h.2)]
      have e2 : qCode ⟨true, sp, di, q, wt⟩ = 4 := by unfold qCode; rw [if_pos rfl, if_pos (by show 1024 ≤ q.length; omega)]
      rw [e1]
      exact smut_same w B p m F vq _ h (by rw [e2]; exact he) hw
theorem watchG_any (k : ByteArray) (hk : k.size ≤ maxLen) : Calls Try.prog 29 #[.pointer (some ⟨p, 0, none⟩), .string k] w (SMut w B F p m (wSS S k) (fun e => e = .returned (.int .i64 (wCode S k)))) := by
  obtain ⟨op, sp, di, q, wt⟩ := S
  cases op
  case true =>
    refine (watch_shut w B p m vq sp di q wt k h.f.s).mono fun e w' ⟨he, hw⟩ => ?_
    exact smut_same w B p m F vq _ h he hw
  case false =>
    by_cases hi : k ∈ wt
    · have e0 := inL_iff.2 hi
      refine (watch_old w B p m vq sp di q wt k h.f.s hk hi).mono fun e w' ⟨he, hw⟩ => ?_
      have e1 : wSS ⟨false, sp, di, q, wt⟩ k = ⟨false, sp, di, q, wt⟩ := by unfold wSS; rw [if_neg (by rw [e0]; simp)]
      have e2 : wCode ⟨false, sp, di, q, wt⟩ k = 0 := by unfold wCode; rw [e0]; rfl
      rw [e1]
      exact smut_same w B p m F vq _ h (by rw [e2]; exact he) hw
    · have e0 := inL_no hi
      by_cases hf : wt.length < 1024
      · refine (watch_new w B p m vq sp di q wt k h.f.s hk hi hf).mono fun e w' hp => ?_
        have e1 : wSS ⟨false, sp, di, q, wt⟩ k = ⟨false, sp, di, q, wt ++ [k]⟩ := by unfold wSS; rw [if_pos ⟨rfl, e0, hf⟩]
        have e2 : wCode ⟨false, sp, di, q, wt⟩ k = 0 := by unfold wCode; rw [e0, if_neg (by simp), if_neg (by simp), if_neg (by show ¬ 1024 ≤ wt.length; omega)]
        obtain ⟨vq', F', h1, h2⟩ := smut_of w B p m F vq _ h hp (fun i hi => .inr hi) rfl
        rw [e1]
        exact ⟨vq', F', by rw [e2]; exact h1, h2⟩
      · refine (watch_full w B p m vq sp di q wt k h.f.s hk hi (by omega)).mono fun e w' ⟨he, hw⟩ => ?_
        have e1 : wSS ⟨false, sp, di, q, wt⟩ k = ⟨false, sp, di, q, wt⟩ := by unfold wSS; rw [if_neg (fun h => hf h.2.2)]
        have e2 : wCode ⟨false, sp, di, q, wt⟩ k = 4 := by unfold wCode; rw [e0, if_neg (by simp), if_neg (by simp), if_pos (by show 1024 ≤ wt.length; omega)]
        rw [e1]
        exact smut_same w B p m F vq _ h (by rw [e2]; exact he) hw
/-- what End hands back, and what it leaves -/
def SEnd (w : World) (B : Nat) (F : Nat → Prop) (p m : Nat) (vq : Value) (S : SS) (e : Ending) (w' : World) : Prop :=
  if S.op then ∃ qs, e = .returned (.tuple #[vq, .int .i64 0]) ∧ w'.ownsRow B 41 1 vq S.q.length qs ∧ OTxs w' 0 qs S.q ∧ SessG w' B F p m (.slice none 0 0) ss0 ∧ (∀ i, SlT vq qs i → F i ∧ i ≠ p ∧ i ≠ m) ∧ Fr F w w'
  else e = .returned (.tuple #[.slice none 0 0, .int .i64 260]) ∧ w = w'
theorem endG_any : Calls Try.prog 26 #[.pointer (some ⟨p, 0, none⟩)] w (SEnd w B F p m vq S) := by
  obtain ⟨op, sp, di, q, wt⟩ := S
  cases op
  · exact (end_shut w B p m vq sp di q wt h.f.s).mono fun e w' hp => by unfold SEnd; rw [if_neg (by simp)]; exact hp
  · refine (end_open w B p m vq sp di q wt h.f.s).mono fun e w' ⟨he, hs, _, hf⟩ => ?_
    unfold SEnd
    rw [if_pos rfl]
    obtain ⟨qs, r1, r2⟩ := h.row
    have r1' := owns_fr r1 hf (fun g hg e => e.elim (fun e => h.f.s.pq (by rw [hg]; exact congrArg some e)) (fun e => h.f.s.mq (by rw [hg]; exact congrArg some e)))
    have r2' := r2.fr hf (fun k hk => by
      rcases hk with rfl | rfl
      · exact h.f.s.ntb
      · exact h.f.s.ntm)
    refine ⟨qs, he, r1', r2', ⟨h.f.ended hs hf rfl, fun n qs' hr => ?_⟩, fun i hi => ?_, fr_two hf h.f.fp h.f.fm⟩
    · obtain ⟨_, rfl⟩ := own_unique (World.ownsRow_nil w' B 41 1) hr
      exact OTxs.nil _ _
    · rcases hi with hi | ⟨u, hu, hi⟩
      · exact ⟨h.f.fq i hi, fun e => h.f.s.pq (by rw [← e]; exact hi), fun e => h.f.s.mq (by rw [← e]; exact hi)⟩
      · refine ⟨h.f.fe _ qs r1 u hu i hi, fun e => ?_, fun e => ?_⟩
        · obtain ⟨l, _, hl⟩ := r2.mem hu
          exact h.f.s.ntb (by rw [← e]; exact (own_blk hl hi).2.2)
        · obtain ⟨l, _, hl⟩ := r2.mem hu
          exact h.f.s.ntm (by rw [← e]; exact (own_blk hl hi).2.2)
end
/-- behind an End: the lists that were handed out may be written -/
theorem SessG.lent {w w' : World} {B p m : Nat} {F T : Nat → Prop} (h : SessG w B F p m (.slice none 0 0) ss0) (hf : Fr T w w') (hT : ∀ i, T i → i ≠ p ∧ i ≠ m) : SessG w' B F p m (.slice none 0 0) ss0 := by
  refine ⟨⟨⟨(hf.block p h.f.s.lt (fun e => (hT p e).1 rfl)).trans h.f.s.blk, ⟨[], World.ownsRow_nil _ _ _ _, Txts.nil _⟩, h.f.s.map.fr hf (fun e => (hT m e).2 rfl), h.f.s.bp, h.f.s.bm, h.f.s.sq, h.f.s.sw⟩, h.f.fp, h.f.fm, fun g hg => (by cases hg), fun n qs' hr u hu g hg => ?_, fun k hk => ⟨(h.f.lt k hk).1, Nat.lt_of_lt_of_le (h.f.lt k hk).2 hf.size⟩⟩, fun n qs' hr => ?_⟩
  · obtain ⟨_, rfl⟩ := own_unique (World.ownsRow_nil w' B 41 1) hr
    cases hu
  · obtain ⟨_, rfl⟩ := own_unique (World.ownsRow_nil w' B 41 1) hr
    exact OTxs.nil _ _
end Go.Proofs.Ytpcjogmikgfgdaa
