/- A session's Watch, Unwatch, End, Touch, Queued: what they hand back, what the session then holds. No condition. -/
import Derived.Test.YtpcjogmikgfgdaaSess
import Derived.Deep.LoopGhost
namespace Go.Proofs.Ytpcjogmikgfgdaa
open Go.RowKit
section
variable (w : World) (B p m : Nat) (vq : Value) (op sp di : Bool) (q : List (List ByteArray)) (wt : List ByteArray) (v : Value) (l : List ByteArray) (k : ByteArray)
theorem watch_shut (h : SessAt w B p m vq ⟨true, sp, di, q, wt⟩) : Calls Try.prog 29 #[.pointer (some ⟨p, 0, none⟩), .string k] w fun e w' => e = .returned (.int .i64 260) ∧ w = w' := by
  have c0 : w.cell? ⟨p, 0, none⟩ = some (.bool true) := h.cell 0
  clear h
  go_enter Try.func29, Try.ntmps29
  go_wp2
  go_ret
  exact ⟨rfl, rfl⟩
theorem watch_old (h : SessAt w B p m vq ⟨false, sp, di, q, wt⟩) (hk : k.size ≤ maxLen) (hi : k ∈ wt) : Calls Try.prog 29 #[.pointer (some ⟨p, 0, none⟩), .string k] w fun e w' => e = .returned (.int .i64 0) ∧ w = w' := by
  have c0 : w.cell? ⟨p, 0, none⟩ = some (.bool false) := h.cell 0
  have c4 : w.cell? ⟨p, 4, none⟩ = some (.map (some m)) := h.cell 4
  have hl := h.map.look k hk
  rw [inL_iff.2 hi] at hl
  clear h hk hi
  go_enter Try.func29, Try.ntmps29
  go_wp2
  go_ret
  exact ⟨rfl, rfl⟩
theorem watch_full (h : SessAt w B p m vq ⟨false, sp, di, q, wt⟩) (hk : k.size ≤ maxLen) (hi : k ∉ wt) (hf : 1024 ≤ wt.length) : Calls Try.prog 29 #[.pointer (some ⟨p, 0, none⟩), .string k] w fun e w' => e = .returned (.int .i64 4) ∧ w = w' := by
  have c0 : w.cell? ⟨p, 0, none⟩ = some (.bool false) := h.cell 0
  have c4 : w.cell? ⟨p, 4, none⟩ = some (.map (some m)) := h.cell 4
  have hl := h.map.look k hk
  rw [inL_no hi] at hl
  have hn := fun ty => h.map.len ty
  have g : decide (1024 ≤ (wt.length : Int)) = true := by rw [decide_eq_true_eq]; omega
  clear h hk hi hf
  go_enter Try.func29, Try.ntmps29
  go_wp2
  go_ret
  exact ⟨rfl, rfl⟩
theorem watch_new (h : SessAt w B p m vq ⟨false, sp, di, q, wt⟩) (hk : k.size ≤ maxLen) (hi : k ∉ wt) (hf : wt.length < 1024) :
    Calls Try.prog 29 #[.pointer (some ⟨p, 0, none⟩), .string k] w (SPost w B p m vq ⟨false, sp, di, q, wt ++ [k]⟩ (fun i => i = m) (fun e => e = .returned (.int .i64 0))) := by
  have c0 : w.cell? ⟨p, 0, none⟩ = some (.bool false) := h.cell 0
  have c4 : w.cell? ⟨p, 4, none⟩ = some (.map (some m)) := h.cell 4
  have hl := h.map.look k hk
  rw [inL_no hi] at hl
  have hn := fun ty => h.map.len ty
  have g : decide (1024 ≤ (wt.length : Int)) = false := by rw [decide_eq_false_iff_not]; omega
  obtain ⟨w1, hrun, hm1, hf1⟩ := h.map.put k hk hi (by show wt.length < maxLen; unfold maxLen; omega)
  have hS : Hid (SessAt w1 B p m vq ⟨false, sp, di, q, wt ++ [k]⟩) := by
    obtain ⟨qs, r1, r2⟩ := h.row
    exact ⟨(hf1.block p h.lt (fun e => h.pm e)).trans h.blk, ⟨qs, owns_fr r1 hf1 (fun g hg e => h.mq (by rw [hg]; exact congrArg some e)), r2.fr hf1 (fun i e => by rw [e]; exact h.ntm)⟩, hm1, h.bp, h.bm, h.sq, by rw [List.length_append]; exact hf⟩
  have HF := Lib.hid hf1
  clear h hk hi hf hm1 hf1
  go_enter Try.func29, Try.ntmps29
  go_wp2
  go_ret
  exact ⟨rfl, hS.out, HF.out⟩
theorem unwatch_any (h : SessAt w B p m vq ⟨op, sp, di, q, wt⟩) :
    Calls Try.prog 35 #[.pointer (some ⟨p, 0, none⟩)] w (SPost w B p m vq ⟨op, sp, false, q, []⟩ (fun i => i = p ∨ i = m) (fun e => e = .returned (.tuple #[]))) := by
  have c4 : w.cell? ⟨p, 4, none⟩ = some (.map (some m)) := h.cell 4
  obtain ⟨w1, hrun, hm1, hf1⟩ := h.map.clear
  have hS : Hid (SessAt w1 B p m vq ⟨op, sp, di, q, []⟩) := by
    obtain ⟨qs, r1, r2⟩ := h.row
    exact ⟨(hf1.block p h.lt (fun e => h.pm e)).trans h.blk, ⟨qs, owns_fr r1 hf1 (fun g hg e => h.mq (by rw [hg]; exact congrArg some e)), r2.fr hf1 (fun i e => by rw [e]; exact h.ntm)⟩, hm1, h.bp, h.bm, h.sq, by simp⟩
  have d2 : w1.cell? ⟨p, 2, none⟩ = some (.bool di) := hS.out.cell 2
  have g2 : w1.frozen? ⟨p, 2, none⟩ = false := hS.out.free 2
  have HF := Lib.hid hf1
  clear h hm1 hf1
  go_enter Try.func35, Try.ntmps35
  go_wp2
  go_end0
  exact ⟨rfl, hS.out.set (S' := ⟨op, sp, false, q, []⟩) 2 (.bool false) rfl rfl rfl, (HF.out.mono (T := fun i => i = p ∨ i = m) (fun _ h _ => .inr h)).wide (Fr.setCell w1 ⟨p, 2, none⟩ _) (fun i hi => .inl (.inl hi))⟩
theorem end_shut (h : SessAt w B p m vq ⟨false, sp, di, q, wt⟩) : Calls Try.prog 26 #[.pointer (some ⟨p, 0, none⟩)] w fun e w' => e = .returned (.tuple #[.slice none 0 0, .int .i64 260]) ∧ w = w' := by
  have c0 : w.cell? ⟨p, 0, none⟩ = some (.bool false) := h.cell 0
  clear h
  go_enter Try.func26, Try.ntmps26
  go_wp2
  go_ret2
  exact ⟨rfl, rfl⟩
theorem end_fin (h : SessAt w B p m vq ⟨op, sp, di, q, wt⟩) : SessAt (((w.setCell ⟨p, 0, none⟩ (.bool false)).setCell ⟨p, 1, none⟩ (.bool false)).setCell ⟨p, 3, none⟩ (.slice none 0 0)) B p m (.slice none 0 0) ⟨false, false, di, [], wt⟩ := by
  have h1 := h.set (S' := ⟨false, sp, di, q, wt⟩) 0 (.bool false) rfl rfl rfl
  have h2 := h1.set (S' := ⟨false, false, di, q, wt⟩) 1 (.bool false) rfl rfl rfl
  have hf := Fr.setCell ((w.setCell ⟨p, 0, none⟩ (.bool false)).setCell ⟨p, 1, none⟩ (.bool false)) ⟨p, 3, none⟩ (.slice none 0 0)
  have hb := heap_setCell_same _ p 3 _ _ (.slice none 0 0) h2.blk
  exact ⟨by simpa using hb, ⟨[], World.ownsRow_nil _ _ _ _, Txts.nil _⟩, h2.map.fr hf (fun e => h2.pm e.symm), h.bp, h.bm, ⟨Nat.zero_le _, fun l h => by cases h⟩, h.sw⟩
/-- what End hands back -/
def EPost (w : World) (B p m : Nat) (vq : Value) (q : List (List ByteArray)) (e : Ending) (w' : World) : Prop :=
  e = .returned (.tuple #[vq, .int .i64 0]) ∧ SessAt w' B p m (.slice none 0 0) ⟨false, false, false, [], []⟩ ∧ (∃ qs, w'.ownsRow B 41 1 vq q.length qs ∧ Txts w' qs q) ∧ Fr (fun i => i = p ∨ i = m) w w'
set_option maxHeartbeats 1000000 in
theorem end_open (h : SessAt w B p m vq ⟨true, sp, di, q, wt⟩) : Calls Try.prog 26 #[.pointer (some ⟨p, 0, none⟩)] w (EPost w B p m vq q) := by
  have c0 : w.cell? ⟨p, 0, none⟩ = some (.bool true) := h.cell 0
  have c1 : w.cell? ⟨p, 1, none⟩ = some (.bool sp) := h.cell 1
  have c3 : w.cell? ⟨p, 3, none⟩ = some vq := h.cell 3
  have f0 : w.frozen? ⟨p, 0, none⟩ = false := h.free 0
  have f1 : w.frozen? ⟨p, 1, none⟩ = false := h.free 1
  have f3 : w.frozen? ⟨p, 3, none⟩ = false := h.free 3
  have H := Lib.hid h
  have HU := Lib.hid (unwatch_any _ B p m _ false false di [] wt (end_fin w B p m vq true sp di q wt h))
  clear h
  go_enter Try.func26, Try.ntmps26
  go_wp2_with fail
  refine HU.out.mono ?_
  rintro e w1 ⟨rfl, hs, hf⟩
  have HS := Lib.hid hs
  have hF : Hid (Fr (fun i => i = p ∨ i = m) w w1) := ((((Fr.setCell w ⟨p, 0, none⟩ (.bool false)).wide (Fr.setCell _ ⟨p, 1, none⟩ (.bool false)) (fun i hi => .inl hi)).wide (Fr.setCell _ ⟨p, 3, none⟩ (.slice none 0 0)) (fun i hi => .inl hi)).mono (T := fun i => i = p ∨ i = m) (fun _ h _ => .inl h)).wide hf (fun i hi => .inl hi)
  clear hs hf
  go_wp2
  go_ret2
  obtain ⟨qs, r1, r2⟩ := H.out.row
  exact ⟨rfl, HS.out, ⟨qs, owns_fr r1 hF.out (fun g hg e => e.elim (fun e => H.out.pq (by rw [hg]; exact congrArg some e)) (fun e => H.out.mq (by rw [hg]; exact congrArg some e))), r2.fr hF.out (fun i e => e.elim (fun e => by rw [e]; exact H.out.ntb) (fun e => by rw [e]; exact H.out.ntm))⟩, hF.out⟩
theorem any_take (f : ByteArray → Bool) (l : List ByteArray) (k : Nat) (h : k < l.length) : (l.take (k + 1)).any f = ((l.take k).any f || f l[k]) := by
  rw [List.take_succ_eq_append_getElem h, List.any_append]; simp
set_option maxHeartbeats 1000000 in
theorem touch_any (h : SessAt w B p m vq ⟨op, sp, di, q, wt⟩) (hr : ∀ W, Fr (fun i => i = p) w W → RdC W 1 v l.length (l.map .string)) (hl : ∀ k ∈ l, k.size ≤ maxLen) :
    Calls Try.prog 34 #[.pointer (some ⟨p, 0, none⟩), v] w (SPost w B p m vq ⟨op, sp, di || l.any (fun k => inL k wt), q, wt⟩ (fun i => i = p) (fun e => e = .returned (.tuple #[]))) := by
  have hr0 := hr w (Fr.refl _ _)
  have hm := hr0.len
  unfold maxLen at hm
  obtain ⟨-, a, c, rfl, -⟩ := hr0
  have HR := Lib.hid hr
  have H := Lib.hid h
  have HL := Lib.hid hl
  clear h hr hl
  go_enter Try.func34, Try.ntmps34
  go_wp2
  go_loopw [10] (fun i wr => ∃ k : Nat, i = .int .i64 k ∧ k ≤ l.length ∧ Hid (SessAt wr B p m vq ⟨op, sp, di || (l.take k).any (fun k => inL k wt), q, wt⟩) ∧ Hid (Fr (fun i => i = p) w wr)) (fun i _ => l.length - (intOf i).toNat)
  case atStart => exact ⟨0, rfl, by omega, (show SessAt _ _ _ _ _ _ by simpa using H.out), Fr.refl _ _⟩
  case round =>
    obtain ⟨k, rfl, hk, HS, HF⟩ := hrel
    obtain ⟨wo, rfl⟩ : ∃ wo, wo = wr := ⟨_, rfl⟩
    by_cases hlt : k < l.length
    · have hb1 : (k : Int) < (l.length : Int) := by omega
      have hb0 : (0 : Int) ≤ (k : Int) := by omega
      obtain ⟨g1, o1, rfl, d1⟩ := texts_at (HR.out wo HF.out) k hlt
      obtain ⟨x, hx⟩ : ∃ x, l[k] = x := ⟨_, rfl⟩
      have hxs : x.size ≤ maxLen := by rw [← hx]; exact HL.out _ (List.getElem_mem _)
      rw [hx] at d1
      have hat := any_take (fun k => inL k wt) l k hlt
      rw [hx] at hat
      have HAT := Lib.hid hat
      obtain ⟨b, hb⟩ : ∃ b, (di || (l.take k).any (fun k => inL k wt)) = b := ⟨_, rfl⟩
      rw [hb] at HS
      have HB := Lib.hid hb
      have c2 : wo.cell? ⟨p, 2, none⟩ = some (.bool b) := HS.out.cell 2
      have f2 : wo.frozen? ⟨p, 2, none⟩ = false := HS.out.free 2
      have c4 : wo.cell? ⟨p, 4, none⟩ = some (.map (some m)) := HS.out.cell 4
      have hlk := HS.out.map.look x hxs
      clear hxs hat hb hx
      cases b
      · obtain ⟨r, hr⟩ : ∃ r, inL x wt = r := ⟨_, rfl⟩
        rw [hr] at hlk
        have HRR := Lib.hid hr
        clear hr
        go_wp2
        go_roundw
        case rel => exact ⟨k + 1, by go_num, by omega, (show SessAt _ _ _ _ _ _ by rw [HAT.out, ← Bool.or_assoc, HB.out, Bool.false_or, HRR.out]; exact HS.out.set (S' := ⟨op, sp, r, q, wt⟩) 2 (.bool r) rfl rfl rfl), HF.out.wide (Fr.setCell wo ⟨p, 2, none⟩ _) (fun i hi => .inl hi)⟩
        case measure => simp [intOf]; omega
      · clear hlk
        go_wp2
        go_roundw
        case rel => exact ⟨k + 1, by go_num, by omega, (show SessAt _ _ _ _ _ _ by rw [HAT.out, ← Bool.or_assoc, HB.out, Bool.true_or]; exact HS.out.set (S' := ⟨op, sp, true, q, wt⟩) 2 (.bool true) rfl rfl rfl), HF.out.wide (Fr.setCell wo ⟨p, 2, none⟩ _) (fun i hi => .inl hi)⟩
        case measure => simp [intOf]; omega
    · obtain rfl : k = l.length := by omega
      go_wp2
      go_end0
      exact ⟨rfl, by have := HS.out; rwa [List.take_length] at this, HF.out⟩
/-- what Queued hands back -/
def DPost (w : World) (q : List (List ByteArray)) (e : Ending) (w' : World) : Prop :=
  ∃ v qs, e = .returned v ∧ w'.ownsRow w.heap.size 41 1 v q.length qs ∧ Txts w' qs q ∧ Below w.heap.size w w'
theorem own_cell {w : World} {B : Nat} {e : TypeId} {a : Option Addr} {n n' c : Nat} {xs : List Value} (h : w.ownsRow B e 1 (.slice a n' c) n xs) {k : Nat} {u : Value} (hk : xs[k]? = some u) : ∃ g, a = some ⟨g, 0, none⟩ ∧ w.cell? ⟨g, k, none⟩ = some u := by
  have h0 := h
  rcases h.2 with ⟨_, hz⟩ | ⟨g, cap, cur, he, _⟩
  · subst hz; have := h.1; simp at this; subst this; simp at hk
  · cases he
    have := h0.cells rfl k u hk
    rw [Addr.add_lit, Nat.zero_add] at this
    exact ⟨g, rfl, this⟩
set_option maxRecDepth 100000 in
set_option maxHeartbeats 2000000 in
theorem queued_any (h : SessAt w B p m vq ⟨op, sp, di, q, wt⟩) : Calls Try.prog 32 #[.pointer (some ⟨p, 0, none⟩)] w (DPost w q) := by
  have c3 : w.cell? ⟨p, 3, none⟩ = some vq := h.cell 3
  obtain ⟨a, c, rfl⟩ := h.vq_slice
  obtain ⟨qs, r1, r2⟩ := h.row
  have H := Lib.hid h
  have HR := Lib.hid r1
  have HT := Lib.hid r2
  have hql : q.length ≤ 1024 := h.sq.1
  have HQ := Lib.hid h.sq.2
  obtain ⟨i0, hi, hz0, hz1, hz2⟩ := info_parts infoL
  have HI := Lib.hid hi
  have HZ0 := Lib.hid hz0
  have HZ1 := Lib.hid hz1
  have HZ2 := Lib.hid hz2
  clear h r1 r2 hi hz0 hz1 hz2
  go_enter Try.func32, Try.ntmps32
  go_wp2
  go_loopw [3, 13] (fun v i wr => ∃ (k : Nat) (qs' : List Value), i = .int .i64 k ∧ k ≤ q.length ∧ Hid (wr.ownsRow w.heap.size 41 1 v k qs') ∧ Hid (Txts wr qs' (q.take k)) ∧ Hid (Below w.heap.size w wr)) (fun _ i _ => q.length - (intOf i).toNat)
  case atStart => exact ⟨0, [], rfl, by omega, World.ownsRow_nil _ _ _ _, (show Txts _ _ _ from Txts.nil _), Below.refl _ _⟩
  case round =>
    obtain ⟨k, qs', rfl, hk, HO, HX, HB⟩ := hrel
    obtain ⟨wo, rfl⟩ : ∃ wo, wo = wr := ⟨_, rfl⟩
    by_cases hlt : k < q.length
    · have hb1 : (k : Int) < (q.length : Int) := by omega
      have hb0 : (0 : Int) ≤ (k : Int) := by omega
      obtain ⟨l, hl⟩ : ∃ l, q[k] = l := ⟨_, rfl⟩
      have HLB : Hid (l.length * 16 ≤ 140737488355328) := by have := HQ.out q[k] (List.getElem_mem _); rwa [hl] at this
      obtain ⟨u, hu, htx⟩ := HT.out.2 k l (by rw [List.getElem?_eq_getElem hlt, hl])
      obtain ⟨g, rfl, hc0⟩ := own_cell HR.out hu
      have hc : wo.cell? ⟨g, k, none⟩ = some u := (HB.out.cell (World.block_lt_of_cell? w _ hc0)).trans hc0
      have hrd := htx.1.below HB.out
      have HC := Lib.hid (cloneS_any u l wo hrd HLB.out)
      obtain ⟨-, ua, uc, rfl, -⟩ := htx.1
      have HTK : Hid (q.take (k + 1) = q.take k ++ [l]) := by show _ = _; rw [List.take_succ_eq_append_getElem hlt, hl]
      clear hl hu htx hc0 hrd
      go_wp2_with fail
      refine HC.out.mono ?_
      rintro e w1 ⟨a1, c1, rfl, hr1, hb1'⟩
      have HO1 := Lib.hid (owns_fr HO.out (Fr.of_below hb1') (fun g hg e => by have := (own_blk HO.out hg).2.1; omega))
      have HX1 := Lib.hid ((HX.out.fr (Fr.of_below hb1') (fun g hg e => by have := e.lt; omega)).snoc (Txt.of_owns hr1))
      have HB1 := Lib.hid (HB.out.trans (hb1'.mono HB.out.size))
      clear hr1 hb1'
      go_wp2_with (at_builtin; refine wpList_append_own _ rfl (.tmp 17) (.tmp 20) 40 rfl w.heap.size 41 i0 (.slice none 0 0) 1 24 Try.underlying40 HI.out HZ0.out HZ1.out HZ2.out rfl (by decide) _ k qs' rfl (HO1.out.alloc _) ⟨w1.heap.size, 0, none⟩ 1 1 [.slice a1 l.length c1] rfl rfl (cell_one_new _ _ _) (by simp [Value.oneCell']) (by unfold maxLen; omega) (by omega) (by have := HB1.out.size; simp; omega) ?_; intro v' w2 hown hgrow _; have HO2 := Lib.hid hown; have HG := Lib.hid hgrow; clear hown hgrow)
      go_roundw
      case rel =>
        refine ⟨k + 1, _, by go_num, by omega, HO2.out, (show Txts _ _ _ from ?_), ?_⟩
        · rw [HTK.out]
          refine HX1.out.fr ((Fr.alloc (fun k => _) w1 _).wide (Fr.of_grownBy HG.out) (fun i hi => .inl hi)) (fun g hg => ?_)
          obtain ⟨_, _, cs, hcs⟩ := own_blk HO1.out hg
          exact not_tb hcs (by decide)
        · exact (HB1.out.alloc HB1.out.size _).grown HG.out (by have := HB1.out.size; simp; omega) (fun g hg => (own_blk HO1.out hg).1)
      case measure => simp [intOf]; omega
    · obtain rfl : k = q.length := by omega
      go_wp2
      obtain ⟨va, vc, rfl⟩ := owns_sliceN HO.out
      go_ret
      exact ⟨_, qs', rfl, HO.out, by have := HX.out; rwa [List.take_length] at this, HB.out⟩
end
end Go.Proofs.Ytpcjogmikgfgdaa
