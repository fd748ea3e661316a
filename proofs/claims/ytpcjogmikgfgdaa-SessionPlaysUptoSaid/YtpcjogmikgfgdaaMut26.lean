/- The reference's session: Begin, Queue, Spoil, End, Watch, Unwatch, Touch. No condition. -/
import Derived.Test.YtpcjogmikgfgdaaDid26
import Derived.Test.YtpcjogmikgfgdaaQryC
namespace Go.Proofs.Ytpcjogmikgfgdaa
open Go.RowKit
/-- what a call hands back, and what the session then comes to -/
def RPost (w : World) (B : Nat) (F : Nat → Prop) (q : Nat) (S' : SS) (n : Nat) (P : Ending → Prop) (e : Ending) (w' : World) : Prop :=
  ∃ vr' L', P e ∧ RefF w' B (Grew F w w') q vr' L' ∧ run26 L' = S' ∧ L'.length ≤ n ∧ Fr F w w'
section
variable {w w1 w' : World} {B q : Nat} {F : Nat → Prop} {vr : Value} {L : List Dd} {n : Nat} {P : Ending → Prop} {e : Ending}
theorem rpost_same (h : RefF w B F q vr L) (hf : Fr (fun _ => False) w w') (hB : B ≤ w.heap.size) (hn : L.length ≤ n) (hp : P e) : RPost w B F q (run26 L) n P e w' := by
  refine ⟨vr, L, hp, (h.quiet hf).wider (fun k hk => .inl hk) (fun k hk => ?_), rfl, hn, hf.mono (fun _ h _ => h.elim)⟩
  rcases hk with hk | hk
  · exact ⟨(h.lt k hk).1, Nat.lt_of_lt_of_le (h.lt k hk).2 hf.size⟩
  · exact ⟨Nat.le_trans hB hk.1, hk.2⟩
theorem rpost_did {k : Int} {ws : List ByteArray} {e1 : Ending} (h : RefF w B F q vr L) (hf : Fr (fun _ => False) w w1) (hB : B ≤ w.heap.size) (hd : DidPost w1 B F q L k ws e1 w') (hn : L.length + 1 ≤ n) (hp : P e) :
    RPost w B F q (st26 (run26 L) ⟨k, .slice none 0 0, ws⟩) n P e w' := by
  obtain ⟨u, vr', nv, _, hr, hfr⟩ := hd
  have hs := hf.size
  refine ⟨vr', _, hp, hr.wider (fun i hi => ?_) (fun i hi => ?_), ?_, by rw [List.length_append]; exact hn, (hf.mono (fun _ h _ => h.elim)).wide hfr (fun i hi => .inl hi)⟩
  · rcases hi with hi | hi
    · exact .inl hi
    · exact .inr ⟨by omega, hi.2⟩
  · rcases hi with hi | hi
    · exact ⟨(h.lt i hi).1, Nat.lt_of_lt_of_le (h.lt i hi).2 (Nat.le_trans hf.size hfr.size)⟩
    · exact ⟨Nat.le_trans hB hi.1, hi.2⟩
  · rw [run26_snoc]; rfl
end
theorem rd_nil0 (w : World) : RdC w 1 (.slice none 0 0) ([] : List ByteArray).length (([] : List ByteArray).map .string) := RdC.nil w 1
section
variable (w : World) (B q : Nat) (F : Nat → Prop) (vr : Value) (L : List Dd) (h : RefF w B F q vr L) (hB : B ≤ w.heap.size) (hln : L.length < 1099511627776)
include h hB hln
set_option maxHeartbeats 1000000 in
theorem beginR_any : Calls Try.prog 61 #[.pointer (some ⟨q, 0, none⟩)] w (RPost w B F q { run26 L with op := true } (L.length + 1) (fun e => e = .returned (.int .i64 (if (run26 L).op then 260 else 0)))) := by
  have H := Lib.hid h
  have HO := Lib.hid (openR_any w B q F vr L h)
  have HB := Lib.hid hB
  clear h hB
  obtain ⟨b, hb⟩ : ∃ b, (run26 L).op = b := ⟨_, rfl⟩
  rw [hb] at HO ⊢
  have HBE := Lib.hid hb
  clear hb
  go_enter Try.func61, Try.ntmps61
  go_wp2_with fail
  refine HO.out.mono ?_
  rintro e w1 ⟨rfl, hf⟩
  have HF := Lib.hid hf
  clear hf
  cases b
  · have HD := Lib.hid (did_any w1 B q F vr L (H.out.quiet HF.out) 1 _ [] (rd_nil0 w1) (by simp) hln (fun e => by cases e) (Nat.le_trans HB.out HF.out.size))
    go_wp2_with fail
    refine HD.out.mono ?_
    intro e w2 hd
    have hp := rpost_did (n := L.length + 1) (P := fun e => e = .returned (.int .i64 0)) (e := .returned (.int .i64 0)) H.out HF.out HB.out hd (Nat.le_refl _) rfl
    obtain ⟨u, _, _, rfl, _⟩ := hd
    have HP := Lib.hid hp
    clear hp
    go_wp2_with fail
    go_ret
    exact HP.out
  · go_wp2_with fail
    go_ret
    have e : { run26 L with op := true } = run26 L := by have := HBE.out; cases hS : run26 L; rw [hS] at this; simp at this; simp [this]
    rw [e]
    exact rpost_same H.out HF.out HB.out (Nat.le_succ _) rfl
set_option maxHeartbeats 1000000 in
theorem spoilR_any : Calls Try.prog 66 #[.pointer (some ⟨q, 0, none⟩)] w (RPost w B F q { run26 L with sp := (run26 L).sp || (run26 L).op } (L.length + 1) (fun e => ∃ v, e = .returned v)) := by
  have H := Lib.hid h
  have HO := Lib.hid (openR_any w B q F vr L h)
  have HB := Lib.hid hB
  clear h hB
  obtain ⟨b, hb⟩ : ∃ b, (run26 L).op = b := ⟨_, rfl⟩
  rw [hb] at HO ⊢
  have HBE := Lib.hid hb
  clear hb
  go_enter Try.func66, Try.ntmps66
  go_wp2_with fail
  refine HO.out.mono ?_
  rintro e w1 ⟨rfl, hf⟩
  have HF := Lib.hid hf
  clear hf
  cases b
  · go_wp2_with fail
    go_end0
    have e : { run26 L with sp := (run26 L).sp || false } = run26 L := by cases hS : run26 L; simp
    rw [e]
    exact rpost_same H.out HF.out HB.out (Nat.le_succ _) ⟨_, rfl⟩
  · have HD := Lib.hid (did_any w1 B q F vr L (H.out.quiet HF.out) 3 _ [] (rd_nil0 w1) (by simp) hln (fun e => by cases e) (Nat.le_trans HB.out HF.out.size))
    go_wp2_with fail
    refine HD.out.mono ?_
    intro e w2 hd
    have hp := fun u => rpost_did (n := L.length + 1) (P := fun e => ∃ v, e = .returned v) (e := .returned u) H.out HF.out HB.out hd (Nat.le_refl _) ⟨_, rfl⟩
    obtain ⟨u, _, _, rfl, _⟩ := hd
    have HP := Lib.hid hp
    clear hp
    go_wp2_with fail
    go_end0
    rw [Bool.or_true]
    exact HP.out _
set_option maxHeartbeats 1000000 in
theorem unwatchR_any : Calls Try.prog 70 #[.pointer (some ⟨q, 0, none⟩)] w (RPost w B F q { run26 L with di := false, wt := [] } (L.length + 1) (fun e => ∃ v, e = .returned v)) := by
  have H := Lib.hid h
  have HB := Lib.hid hB
  have HD := Lib.hid (did_any w B q F vr L h 6 _ [] (rd_nil0 w) (by simp) hln (fun e => by cases e) hB)
  clear h hB
  go_enter Try.func70, Try.ntmps70
  go_wp2_with fail
  refine HD.out.mono ?_
  intro e w2 hd
  have hp := fun u => rpost_did (n := L.length + 1) (P := fun e => ∃ v, e = .returned v) (e := .returned u) H.out (Fr.refl _ _) HB.out hd (Nat.le_refl _) ⟨_, rfl⟩
  obtain ⟨u, _, _, rfl, _⟩ := hd
  have HP := Lib.hid hp
  clear hp
  go_wp2_with fail
  go_end0
  exact HP.out _
set_option maxHeartbeats 1000000 in
theorem touchR_any (v : Value) (ws : List ByteArray) (hr : RdC w 1 v ws.length (ws.map .string)) (hsz : ws.length * 16 ≤ 140737488351232) : Calls Try.prog 71 #[.pointer (some ⟨q, 0, none⟩), v] w (RPost w B F q { run26 L with di := (run26 L).di || ws.any (fun k => inL k (run26 L).wt) } (L.length + 1) (fun e => ∃ v, e = .returned v)) := by
  have H := Lib.hid h
  have HB := Lib.hid hB
  have HD := Lib.hid (did_any w B q F vr L h 7 _ ws hr hsz hln (fun e => by cases e) hB)
  obtain ⟨-, a, c, rfl, -⟩ := hr
  clear h hB
  go_enter Try.func71, Try.ntmps71
  go_wp2_with fail
  refine HD.out.mono ?_
  intro e w2 hd
  have hp := fun u => rpost_did (n := L.length + 1) (P := fun e => ∃ v, e = .returned v) (e := .returned u) H.out (Fr.refl _ _) HB.out hd (Nat.le_refl _) ⟨_, rfl⟩
  obtain ⟨u, _, _, rfl, _⟩ := hd
  have HP := Lib.hid hp
  clear hp
  go_wp2_with fail
  go_end0
  exact HP.out _
/-- what Queue hands back -/
def qCode (S : SS) : Int := if S.op then (if 1024 ≤ S.q.length then 4 else 0) else 260
def qSS (S : SS) (ws : List ByteArray) : SS := if S.op = true ∧ S.q.length < 1024 then { S with q := S.q ++ [ws] } else S
set_option maxHeartbeats 1000000 in
theorem queueR_any (v : Value) (ws : List ByteArray) (hr : RdC w 1 v ws.length (ws.map .string)) (hsz : ws.length * 16 ≤ 140737488351232) : Calls Try.prog 63 #[.pointer (some ⟨q, 0, none⟩), v] w (RPost w B F q (qSS (run26 L) ws) (L.length + 1) (fun e => e = .returned (.int .i64 (qCode (run26 L))))) := by
  have H := Lib.hid h
  have HO := Lib.hid (openR_any w B q F vr L h)
  have HB := Lib.hid hB
  have HSZ := Lib.hid hsz
  have HR := Lib.hid hr
  obtain ⟨-, a, c, rfl, -⟩ := hr
  clear h hB hsz
  obtain ⟨b, hb⟩ : ∃ b, (run26 L).op = b := ⟨_, rfl⟩
  rw [hb] at HO
  have HBE := Lib.hid hb
  clear hb
  go_enter Try.func63, Try.ntmps63
  go_wp2_with fail
  refine HO.out.mono ?_
  rintro e w1 ⟨rfl, hf⟩
  have HF := Lib.hid hf
  clear hf
  cases b
  · have e1 : qSS (run26 L) ws = run26 L := by unfold qSS; rw [if_neg (by rw [HBE.out]; simp)]
    have e2 : qCode (run26 L) = 260 := by unfold qCode; rw [HBE.out]; rfl
    have E1 := Lib.hid e1
    have E2 := Lib.hid e2
    clear e1 e2
    go_wp2_with fail
    go_ret
    rw [E1.out, E2.out]
    exact rpost_same H.out HF.out HB.out (Nat.le_succ _) rfl
  · have HQ := Lib.hid (queuedR_any w1 B q F vr L (H.out.quiet HF.out))
    have hq40 := run26_q L
    have hln2 := H.out.ln
    go_wp2_with fail
    refine HQ.out.mono ?_
    rintro e w2 ⟨v2, qs2, rfl, hr2, _, hb2⟩
    obtain ⟨a2, c2, rfl⟩ := owns_sliceN hr2
    have HF2 : Hid (Fr (fun _ => False) w w2) := HF.out.wide (T := fun _ => False) ⟨hb2.os, hb2.tape, hb2.output, hb2.size, fun k hk _ => hb2.block k hk⟩ (fun _ h => h.elim)
    clear hr2 hb2
    by_cases hfull : 1024 ≤ (run26 L).q.length
    · have g1 : decide (1024 ≤ ((run26 L).q.length : Int)) = true := by rw [decide_eq_true_eq]; omega
      have e1 : qSS (run26 L) ws = run26 L := by unfold qSS; rw [if_neg (by omega)]
      have e2 : qCode (run26 L) = 4 := by unfold qCode; rw [HBE.out, if_pos rfl, if_pos hfull]
      have E1 := Lib.hid e1
      have E2 := Lib.hid e2
      clear e1 e2
      go_wp2_with fail
      go_ret
      rw [E1.out, E2.out]
      exact rpost_same H.out HF2.out HB.out (Nat.le_succ _) rfl
    · have g1 : decide (1024 ≤ ((run26 L).q.length : Int)) = false := by rw [decide_eq_false_iff_not]; omega
      have e1 : qSS (run26 L) ws = { run26 L with q := (run26 L).q ++ [ws] } := by unfold qSS; rw [if_pos ⟨HBE.out, by omega⟩]
      have e2 : qCode (run26 L) = 0 := by unfold qCode; rw [HBE.out, if_pos rfl, if_neg hfull]
      have E1 := Lib.hid e1
      have E2 := Lib.hid e2
      have HD := Lib.hid (did_any w2 B q F vr L (H.out.quiet HF2.out) 2 _ ws (HR.out.fr HF2.out (fun _ _ h => h)) HSZ.out hln (fun e => by cases e) (Nat.le_trans HB.out HF2.out.size))
      clear e1 e2
      go_wp2_with fail
      refine HD.out.mono ?_
      intro e w3 hd
      have hp := rpost_did (n := L.length + 1) (P := fun e => e = .returned (.int .i64 0)) (e := .returned (.int .i64 0)) H.out HF2.out HB.out hd (Nat.le_refl _) rfl
      obtain ⟨u, _, _, rfl, _⟩ := hd
      have HP := Lib.hid hp
      clear hp
      go_wp2_with fail
      go_ret
      rw [E1.out, E2.out]
      exact HP.out
/-- what Watch hands back -/
def wCode (S : SS) (k : ByteArray) : Int := if S.op then 260 else if inL k S.wt then 0 else if 1024 ≤ S.wt.length then 4 else 0
def wSS (S : SS) (k : ByteArray) : SS := if S.op = false ∧ inL k S.wt = false ∧ S.wt.length < 1024 then { S with wt := S.wt ++ [k] } else S
set_option maxHeartbeats 2000000 in
theorem watchR_any (k : ByteArray) : Calls Try.prog 69 #[.pointer (some ⟨q, 0, none⟩), .string k] w (RPost w B F q (wSS (run26 L) k) (L.length + 1) (fun e => e = .returned (.int .i64 (wCode (run26 L) k)))) := by
  have H := Lib.hid h
  have HO := Lib.hid (openR_any w B q F vr L h)
  have HB := Lib.hid hB
  clear h hB
  obtain ⟨b, hb⟩ : ∃ b, (run26 L).op = b := ⟨_, rfl⟩
  rw [hb] at HO
  have HBE := Lib.hid hb
  clear hb
  go_enter Try.func69, Try.ntmps69
  go_wp2_with fail
  refine HO.out.mono ?_
  rintro e w1 ⟨rfl, hf⟩
  have HF := Lib.hid hf
  clear hf
  cases b
  case true =>
    have e1 : wSS (run26 L) k = run26 L := by unfold wSS; rw [if_neg (by rw [HBE.out]; simp)]
    have e2 : wCode (run26 L) k = 260 := by unfold wCode; rw [HBE.out]; rfl
    have E1 := Lib.hid e1
    have E2 := Lib.hid e2
    clear e1 e2
    go_wp2_with fail
    go_ret
    rw [E1.out, E2.out]
    exact rpost_same H.out HF.out HB.out (Nat.le_succ _) rfl
  case false =>
    have HQ := Lib.hid (watchedR_any w1 B q F vr L (H.out.quiet HF.out))
    have hq40 := (H.out.wt_ok L.length (Nat.le_refl _)).1
    rw [List.take_length] at hq40
    have hln2 := H.out.ln
    go_wp2_with fail
    refine HQ.out.mono ?_
    rintro e w2 ⟨v2, rfl, hr2, hb2⟩
    have hf2 : Fr (fun _ => False) w1 w2 := ⟨hb2.os, hb2.tape, hb2.output, hb2.size, fun k hk _ => hb2.block k hk⟩
    have HF2 : Hid (Fr (fun _ => False) w w2) := HF.out.wide hf2 (fun _ h => h.elim)
    obtain ⟨SL, hSL, hSl, hSi⟩ : ∃ SL, sortS (run26 L).wt = SL ∧ SL.length = (run26 L).wt.length ∧ inL k SL = inL k (run26 L).wt := by
      refine ⟨_, rfl, sortS_len _, ?_⟩
      cases hh : inL k (run26 L).wt
      · refine inL_no (fun hm => ?_)
        rw [inL_iff.2 ((sortS_permL _).mem_iff.1 hm)] at hh
        cases hh
      · exact inL_iff.2 ((sortS_permL _).mem_iff.2 (inL_iff.1 hh))
    rw [hSL, ← hSl] at hr2
    have HAM := Lib.hid (amongR_any k _ SL w2 (RdC.of_owns hr2))
    rw [hSi] at HAM
    obtain ⟨a2, c2, rfl⟩ := owns_sliceN hr2
    have HSL := Lib.hid hSl
    clear hr2 hb2 hf2 hSL hSi hSl
    go_wp2_with fail
    refine HAM.out.mono ?_
    rintro e w' ⟨rfl, rfl⟩
    obtain ⟨bb, hbb⟩ : ∃ b, inL k (run26 L).wt = b := ⟨_, rfl⟩
    rw [hbb]
    have HBB := Lib.hid hbb
    clear hbb HAM
    cases bb
    case true =>
      have e1 : wSS (run26 L) k = run26 L := by unfold wSS; rw [if_neg (by rw [HBB.out]; simp)]
      have e2 : wCode (run26 L) k = 0 := by unfold wCode; rw [HBE.out, HBB.out]; rfl
      have E1 := Lib.hid e1
      have E2 := Lib.hid e2
      clear e1 e2
      go_wp2_with fail
      go_ret
      rw [E1.out, E2.out]
      exact rpost_same H.out HF2.out HB.out (Nat.le_succ _) rfl
    case false =>
      by_cases hfull : 1024 ≤ SL.length
      · have g1 : decide (1024 ≤ (SL.length : Int)) = true := by rw [decide_eq_true_eq]; omega
        have hf3 : 1024 ≤ (run26 L).wt.length := by rw [← HSL.out]; exact hfull
        have e1 : wSS (run26 L) k = run26 L := by unfold wSS; rw [if_neg (by omega)]
        have e2 : wCode (run26 L) k = 4 := by unfold wCode; rw [HBE.out, HBB.out, if_neg (by simp), if_neg (by simp), if_pos hf3]
        have E1 := Lib.hid e1
        have E2 := Lib.hid e2
        clear e1 e2 hf3
        go_wp2_with fail
        go_ret
        rw [E1.out, E2.out]
        exact rpost_same H.out HF2.out HB.out (Nat.le_succ _) rfl
      · have g1 : decide (1024 ≤ (SL.length : Int)) = false := by rw [decide_eq_false_iff_not]; omega
        have hf3 : ¬ 1024 ≤ (run26 L).wt.length := by rw [← HSL.out]; exact hfull
        have e1 : wSS (run26 L) k = { run26 L with wt := (run26 L).wt ++ [k] } := by unfold wSS; rw [if_pos ⟨HBE.out, HBB.out, by omega⟩]
        have e2 : wCode (run26 L) k = 0 := by unfold wCode; rw [HBE.out, HBB.out, if_neg (by simp), if_neg (by simp), if_neg hf3]
        have E1 := Lib.hid e1
        have E2 := Lib.hid e2
        have HFA : Hid (Fr (fun _ => False) w (w2.alloc (.cells #[.string k] 9))) := HF2.out.thenAlloc _
        have HD := Lib.hid (did_any (w2.alloc (.cells #[.string k] 9)) B q F vr L (H.out.quiet HFA.out) 5 (.slice (some ⟨w2.heap.size, 0, none⟩) 1 1) [k] (RdC.of_owns (World.ownsRow_lit (base := 0) w2 _ 1 (Nat.zero_le _) (by decide) rfl)) (by simp) hln (fun _ => ⟨k, rfl, HBB.out⟩) (Nat.le_trans HB.out HFA.out.size))
        clear e1 e2 hf3
        go_wp2_with fail
        refine HD.out.mono ?_
        intro e w3 hd
        have hp := rpost_did (n := L.length + 1) (P := fun e => e = .returned (.int .i64 0)) (e := .returned (.int .i64 0)) H.out HFA.out HB.out hd (Nat.le_refl _) rfl
        obtain ⟨u, _, _, rfl, _⟩ := hd
        have HP := Lib.hid hp
        clear hp
        go_wp2_with fail
        go_ret
        rw [E1.out, E2.out]
        exact HP.out
/-- what End hands back -/
def REnd (w : World) (B : Nat) (F : Nat → Prop) (q : Nat) (S : SS) (n : Nat) (e : Ending) (w' : World) : Prop :=
  if S.op then ∃ v qs, e = .returned (.tuple #[v, .int .i64 0]) ∧ w'.ownsRow w.heap.size 41 1 v S.q.length qs ∧ OTxs w' w.heap.size qs S.q ∧ RPost w B F q ss0 n (fun _ => True) e w'
  else e = .returned (.tuple #[.slice none 0 0, .int .i64 260]) ∧ RPost w B F q S n (fun _ => True) e w'
set_option maxHeartbeats 1000000 in
theorem endR_any : Calls Try.prog 67 #[.pointer (some ⟨q, 0, none⟩)] w (REnd w B F q (run26 L) (L.length + 1)) := by
  have H := Lib.hid h
  have HO := Lib.hid (openR_any w B q F vr L h)
  have HB := Lib.hid hB
  have HLT := Lib.hid (fun k hk => (h.lt k hk).2)
  clear h hB
  obtain ⟨b, hb⟩ : ∃ b, (run26 L).op = b := ⟨_, rfl⟩
  rw [hb] at HO
  have HBE := Lib.hid hb
  clear hb
  go_enter Try.func67, Try.ntmps67
  go_wp2_with fail
  refine HO.out.mono ?_
  rintro e w1 ⟨rfl, hf⟩
  have HF := Lib.hid hf
  clear hf
  cases b
  · go_wp2_with fail
    go_ret2
    unfold REnd
    rw [if_neg (by rw [HBE.out]; simp)]
    exact ⟨rfl, rpost_same H.out HF.out HB.out (Nat.le_succ _) trivial⟩
  · have HQ := Lib.hid (queuedR_any w1 B q F vr L (H.out.quiet HF.out))
    go_wp2_with fail
    refine HQ.out.mono ?_
    rintro e w2 ⟨v2, qs2, rfl, hr2, ho2, hb2⟩
    obtain ⟨a2, c2, rfl⟩ := owns_sliceN hr2
    have hf2 : Fr (fun _ => False) w1 w2 := ⟨hb2.os, hb2.tape, hb2.output, hb2.size, fun k hk _ => hb2.block k hk⟩
    have HF2 : Hid (Fr (fun _ => False) w w2) := HF.out.wide hf2 (fun _ h => h.elim)
    have HR2 := Lib.hid hr2
    have HO2 := Lib.hid ho2
    have HD := Lib.hid (did_any w2 B q F vr L (H.out.quiet HF2.out) 4 _ [] (rd_nil0 w2) (by simp) hln (fun e => by cases e) (Nat.le_trans HB.out HF2.out.size))
    clear hr2 hb2 hf2 ho2
    go_wp2_with fail
    refine HD.out.mono ?_
    intro e w3 hd
    have hp := fun e' => rpost_did (n := L.length + 1) (P := fun _ => True) (e := e') H.out HF2.out HB.out hd (Nat.le_refl _) trivial
    obtain ⟨u, _, _, rfl, _, hfd⟩ := hd
    have HR3 : Hid (w3.ownsRow w.heap.size 41 1 (.slice a2 (run26 L).q.length c2) (run26 L).q.length qs2) := owns_base1 (owns_fr HR2.out hfd (fun g h1 h2 => by have h3 := (own_blk HR2.out h1).1; have h4 := HLT.out g h2; have := HF.out.size; omega)) HF.out.size
    have HO3 : Hid (OTxs w3 w.heap.size qs2 (run26 L).q) := by
      have h5 := HO2.out.fr2 hfd (fun u hu g h1 h2 => by
        obtain ⟨l, _, hl⟩ := HO2.out.mem hu
        have h3 := (own_blk hl h1).1
        have h4 := HLT.out g h2
        have := HF.out.size
        omega)
      exact ⟨h5.1, fun i l hl => by obtain ⟨v, k1, k2⟩ := h5.2 i l hl; exact ⟨v, k1, owns_base1 k2 HF.out.size⟩⟩
    have HP := Lib.hid hp
    clear hp hfd
    go_wp2_with fail
    go_ret2
    unfold REnd
    rw [if_pos HBE.out]
    exact ⟨_, qs2, rfl, HR3.out, HO3.out, HP.out _⟩
end
end Go.Proofs.Ytpcjogmikgfgdaa
