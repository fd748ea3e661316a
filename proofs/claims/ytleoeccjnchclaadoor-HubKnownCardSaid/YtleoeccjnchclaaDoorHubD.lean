/- A hub's Leave, LeaveLike, Channels, Patterns, Count. No condition. -/
import Derived.Test.YtleoeccjnchclaaDoorHubL
import Derived.Test.YtleoeccjnchclaaDoorRiseS
import Derived.Test.YtleoeccjnchclaaDoorRiseI
import Derived.Test.YtleoeccjnchclaaDoorRiseN
namespace Go.Proofs.YtleoeccjnchclaaDoor
open Go.RowKit
theorem tie_del {fb : ByteArray → List Int} {fc : Int → List ByteArray} (h : Tie fb fc) (k : ByteArray) (s : Int) : Tie (delF fb k s) (delF fc s k) := fun k' s' => by
  unfold delF
  by_cases e1 : k' = k
  · by_cases e2 : s' = s
    · subst e1 e2; simp
    · rw [if_pos e1, if_neg e2, List.mem_filter, ← h k' s']
      simp [e2]
  · by_cases e2 : s' = s
    · rw [if_neg e1, if_pos e2, List.mem_filter, ← h k' s']
      simp [e1]
    · rw [if_neg e1, if_neg e2]; exact h k' s'
theorem cut_no {κ κ2 : Type} [DecidableEq κ] {f : κ → List κ2} {k : κ} (h : f k = []) : ∀ k', cutF f k k' = f k' := fun k' => by
  unfold cutF
  split
  · rename_i e; rw [e, h]
  · rfl
theorem delF_same {κ κ2 : Type} [DecidableEq κ] [DecidableEq κ2] (f : κ → List κ2) (k : κ) (x : κ2) : delF f k x k = (f k).filter (fun y => decide (y ≠ x)) := by unfold delF; rw [if_pos rfl]
section
variable {w : World} {B N h : Nat} {F : Nat → Prop} {fc fp : Int → List ByteArray}
set_option maxRecDepth 100000 in
set_option maxHeartbeats 2000000 in
theorem hubLeave_any (H0 : HubT w B F N h fc fp) (hB : B ≤ w.heap.size) (s : Int) (k : ByteArray) (hs : kI.ok s) (hk : k.size ≤ maxLen) :
    Calls Tryd.prog 12 #[.pointer (some ⟨h, 0, none⟩), .int .i64 s, .string k] w fun e w' =>
      e = .returned (.int .i64 ((delF fc s k s).length + (fp s).length : Nat)) ∧ Fr F w w' ∧ HubT w' B (Grew F w w') N h (delF fc s k) fp := by
  obtain ⟨X, fb, H, ht⟩ := H0
  have c1 := H.cell1
  have l1 := H.lookC s hs
  obtain ⟨w2, hrun2, ht2, hf2⟩ := H.c.del kS_ok tN rfl rfl s k hk
  obtain ⟨H2, hF2⟩ := H.withC hB hf2 (fun i hi => hi) ht2 (fun i hi => .inl hi) (Nat.le_refl N) H.lens.2.1 (fun s' => by have := H.few s'; have := delF_len fc s s' k; omega)
  have d1 : ∀ ty, (Builtin.delete_ #[60, 9] ty #[lookV eN s X.ch, .string k]).run Tryd.prog w = .ok (.tuple #[]) w2 := hrun2
  have c2 := H2.cell0
  have l2 := H2.lookB k hk
  dsimp only at c2 l2
  obtain ⟨w3, hrun3, ht3, hf3⟩ := H2.b.del kI_ok tIU rfl rfl k s hs
  have d2 : ∀ ty, (Builtin.delete_ #[61, 3] ty #[lookV eM k X.by_, .int .i64 s]).run Tryd.prog w2 = .ok (.tuple #[]) w3 := hrun3
  obtain ⟨H3, hF3⟩ := H2.withB (Nat.le_trans hB hf2.size) hf3 (fun i hi => hi) ht3 (fun i hi => .inl hi) (Nat.le_refl N) H.lens.1 (fun k' => by have := H.told k'; have := delF_len fb k k' s; dsimp only; omega)
  have c3 := H3.cell0
  have l3 := H3.lookB k hk
  dsimp only at c3 l3
  have n3 := fun ty => H3.b.setLen tIU rfl rfl k ty
  dsimp only at n3
  obtain ⟨n, hn⟩ : ∃ n, (delF fb k s k).length = n := ⟨_, rfl⟩
  rw [hn] at n3
  obtain ⟨v1, hv1⟩ : ∃ v, lookV eN s X.ch = v := ⟨_, rfl⟩
  obtain ⟨v2, hv2⟩ : ∃ v, lookV eM k X.by_ = v := ⟨_, rfl⟩
  rw [hv1] at l1 d1
  rw [hv2] at l2 d2 l3 n3
  have hF23 : Fr F w w3 := fr_grow hF2 hF3
  have H3' := H3.grow H.lt hB hf2.size hf3.size
  have HLT := Lib.hid H.lt
  by_cases h0 : n = 0
  · subst h0
    obtain ⟨w4, hrun4, ht4, hf4⟩ := H3'.b.cut kS_ok tSM k hk
    have d3 : ∀ ty, (Builtin.delete_ #[53, 9] ty #[.map (some X.mb), .string k]).run Tryd.prog w3 = .ok (.tuple #[]) w4 := hrun4
    obtain ⟨H4, hF4⟩ := H3'.withB (Nat.le_trans hB hF23.size) hf4 (fun i hi => .inl hi) ht4 blk_filter (Nat.le_refl N) (Nat.le_trans (List.length_filter_le _ _) H.lens.1) (fun k' => by have := H.told k'; have := delF_len fb k k' s; have := cutF_len (delF fb k s) k k'; dsimp only; omega)
    have H4' := H4.grow H.lt hB hF23.size hf4.size
    have hF : Fr F w w4 := fr_grow hF23 hF4
    have htie : Tie (cutF (delF fb k s) k) (delF fc s k) := by
      have e : cutF (delF fb k s) k = delF fb k s := funext (cut_no (List.length_eq_zero_iff.1 hn))
      rw [e]; exact tie_del ht k s
    have HSZ := Lib.hid (hubSize_any H4' s hs)
    have HH4 := Lib.hid H4'
    have HF4 := Lib.hid hF
    have HTI := Lib.hid htie
    clear H hrun2 ht2 hf2 H2 hF2 hrun3 ht3 hf3 H3 hF3 hn hv1 hv2 H3' hrun4 ht4 hf4 H4 hF4 H4' hF htie hF23 ht
    go_enter Tryd.func12, Tryd.ntmps12
    go_wp2_with fail
    refine HSZ.out.mono ?_
    rintro e w5 ⟨rfl, m5, hm5⟩
    have hq5 : Fr (fun _ => False) w4 w5 := by rw [hm5]; exact Fr.drewN (fun _ => False) w4 m5
    have HG : Hid (Fr F w w5 ∧ HubT w5 B (Grew F w w5) N h (delF fc s k) fp) := ⟨HF4.out.trans (hq5.mono (T := F) (fun _ h _ => h.elim)) (fun _ h _ => h), _, _, (HH4.out.quiet hq5).wide (fun i hi => hi.imp id (fun q => ⟨q.1, Nat.lt_of_lt_of_le q.2 hq5.size⟩)) (grew_lt HLT.out hB (Nat.le_trans HF4.out.size hq5.size)), HTI.out⟩
    clear hm5 hq5
    go_wp2_with fail
    go_ret
    exact ⟨rfl, HG.out.1, HG.out.2⟩
  · have g0 : ¬ (n : Int) = 0 := by omega
    have htie := tie_del ht k s
    have HSZ := Lib.hid (hubSize_any H3' s hs)
    have HH4 := Lib.hid H3'
    have HF4 := Lib.hid hF23
    have HTI := Lib.hid htie
    clear H hrun2 ht2 hf2 H2 hF2 hrun3 ht3 hf3 H3 hF3 hn hv1 hv2 H3' htie hF23 ht
    go_enter Tryd.func12, Tryd.ntmps12
    go_wp2_with fail
    refine HSZ.out.mono ?_
    rintro e w5 ⟨rfl, m5, hm5⟩
    have hq5 : Fr (fun _ => False) w3 w5 := by rw [hm5]; exact Fr.drewN (fun _ => False) w3 m5
    have HG : Hid (Fr F w w5 ∧ HubT w5 B (Grew F w w5) N h (delF fc s k) fp) := ⟨HF4.out.trans (hq5.mono (T := F) (fun _ h _ => h.elim)) (fun _ h _ => h), _, _, (HH4.out.quiet hq5).wide (fun i hi => hi.imp id (fun q => ⟨q.1, Nat.lt_of_lt_of_le q.2 hq5.size⟩)) (grew_lt HLT.out hB (Nat.le_trans HF4.out.size hq5.size)), HTI.out⟩
    clear hm5 hq5
    go_wp2_with fail
    go_ret
    exact ⟨rfl, HG.out.1, HG.out.2⟩
set_option maxRecDepth 100000 in
set_option maxHeartbeats 2000000 in
theorem hubLeaveLike_any (H0 : HubT w B F N h fc fp) (hB : B ≤ w.heap.size) (s : Int) (k : ByteArray) (hs : kI.ok s) (hk : k.size ≤ maxLen) :
    Calls Tryd.prog 16 #[.pointer (some ⟨h, 0, none⟩), .int .i64 s, .string k] w fun e w' =>
      e = .returned (.int .i64 ((fc s).length + (delF fp s k s).length : Nat)) ∧ Fr F w w' ∧ HubT w' B (Grew F w w') N h fc (delF fp s k) := by
  obtain ⟨X, fb, H, ht⟩ := H0
  have c1 := H.cell2
  have l1 := H.lookP s hs
  obtain ⟨w2, hrun2, ht2, hf2⟩ := H.p.del kS_ok tN rfl rfl s k hk
  obtain ⟨H2, hF2⟩ := H.withP hB hf2 (fun i hi => hi) ht2 (fun i hi => .inl hi) (Nat.le_refl N) H.lens.2.2 (fun k' => by have := H.told k'; have := tot_le (L := X.pt) (f := fp) (g := delF fp s k) (fun s' => delF_len fp s s' k); omega) (fun s' => by have := H.few s'; have := delF_len fp s s' k; omega)
  have d1 : ∀ ty, (Builtin.delete_ #[60, 9] ty #[lookV eN s X.pt, .string k]).run Tryd.prog w = .ok (.tuple #[]) w2 := hrun2
  obtain ⟨v1, hv1⟩ : ∃ v, lookV eN s X.pt = v := ⟨_, rfl⟩
  rw [hv1] at l1 d1
  have HLT := Lib.hid H.lt
  have HSZ := Lib.hid (hubSize_any H2 s hs)
  have HH4 := Lib.hid H2
  have HF4 := Lib.hid hF2
  have HTI := Lib.hid ht
  clear H hrun2 ht2 hf2 H2 hF2 hv1 ht
  go_enter Tryd.func16, Tryd.ntmps16
  go_wp2_with fail
  refine HSZ.out.mono ?_
  rintro e w5 ⟨rfl, m5, hm5⟩
  have hq5 : Fr (fun _ => False) w2 w5 := by rw [hm5]; exact Fr.drewN (fun _ => False) w2 m5
  have HG : Hid (Fr F w w5 ∧ HubT w5 B (Grew F w w5) N h fc (delF fp s k)) := ⟨HF4.out.trans (hq5.mono (T := F) (fun _ h _ => h.elim)) (fun _ h _ => h), _, _, (HH4.out.quiet hq5).wide (fun i hi => hi.imp id (fun q => ⟨q.1, Nat.lt_of_lt_of_le q.2 hq5.size⟩)) (grew_lt HLT.out hB (Nat.le_trans HF4.out.size hq5.size)), HTI.out⟩
  clear hm5 hq5
  go_wp2_with fail
  go_ret
  exact ⟨rfl, HG.out.1, HG.out.2⟩
/-- the names of a set, rising -/
theorem riseSet {L : List (Int × Nat)} {m : Nat} {f : Int → List ByteArray} (h : TL kI eN kS w m L f) (s : Int) (hl : (f s).length ≤ 1024) : Calls Tryd.prog 22 #[lookV eN s L] w (RPriseS w (f s)) := by
  unfold lookV
  cases hk : lkp s L with
  | none =>
    refine (riseS_nil w).mono fun e w' ⟨v, he, hr, hb⟩ => ⟨v, he, ?_, hb⟩
    rw [h.no s hk]
    rw [show (sortS []).map Value.string = [] from by simp [sortS]]
    exact hr
  | some b =>
    have h1 := riseS_any w b (unL (f s)) (h.sets _ (look_mem hk)) (by rw [unL_len]; omega)
    rw [unL_keys] at h1
    exact h1
theorem hubChannels_any (H0 : HubT w B F N h fc fp) (s : Int) (hs : kI.ok s) : Calls Tryd.prog 9 #[.pointer (some ⟨h, 0, none⟩), .int .i64 s] w (RPriseS w (fc s)) := by
  obtain ⟨X, fb, H, ht⟩ := H0
  have c1 := H.cell1
  have l1 := H.lookC s hs
  have HR := Lib.hid (riseSet H.c s (by have := H.few s; omega))
  obtain ⟨v1, hv1⟩ : ∃ v, lookV eN s X.ch = v := ⟨_, rfl⟩
  rw [hv1] at l1 HR
  clear H ht hv1
  go_enter Tryd.func9, Tryd.ntmps9
  go_wp2_with fail
  refine HR.out.mono ?_
  rintro e w2 ⟨v, rfl, hr, hb⟩
  have HG := Lib.hid (And.intro hr hb)
  clear hr hb
  go_wp2_with fail
  go_ret
  exact ⟨v, rfl, HG.out⟩
theorem hubPatterns_any (H0 : HubT w B F N h fc fp) (s : Int) (hs : kI.ok s) : Calls Tryd.prog 10 #[.pointer (some ⟨h, 0, none⟩), .int .i64 s] w (RPriseS w (fp s)) := by
  obtain ⟨X, fb, H, ht⟩ := H0
  have c1 := H.cell2
  have l1 := H.lookP s hs
  have HR := Lib.hid (riseSet H.p s (by have := H.few s; omega))
  obtain ⟨v1, hv1⟩ : ∃ v, lookV eN s X.pt = v := ⟨_, rfl⟩
  rw [hv1] at l1 HR
  clear H ht hv1
  go_enter Tryd.func10, Tryd.ntmps10
  go_wp2_with fail
  refine HR.out.mono ?_
  rintro e w2 ⟨v, rfl, hr, hb⟩
  have HG := Lib.hid (And.intro hr hb)
  clear hr hb
  go_wp2_with fail
  go_ret
  exact ⟨v, rfl, HG.out⟩
theorem hubCount_any {X : HX} {fb : ByteArray → List Int} (H : HubX w B F N h X fb fc fp) (k : ByteArray) (hk : k.size ≤ maxLen) : Calls Tryd.prog 19 #[.pointer (some ⟨h, 0, none⟩), .string k] w fun e w' => e = .returned (.int .i64 (fb k).length) ∧ w = w' := by
  have c1 := H.cell0
  have l1 := H.lookB k hk
  have n1 := fun ty => H.b.setLen tIU rfl rfl k ty
  obtain ⟨v1, hv1⟩ : ∃ v, lookV eM k X.by_ = v := ⟨_, rfl⟩
  rw [hv1] at l1 n1
  clear H hv1
  go_enter Tryd.func19, Tryd.ntmps19
  go_wp2
  go_ret
  exact ⟨rfl, rfl⟩
end
end Go.Proofs.YtleoeccjnchclaaDoor
