/- A hub's Leave, LeaveLike, Channels, Patterns, Count; A hub's Drop; reply.Bulk. No condition but sizes. -/
import Derived.Test.YtleoeccjnchclaaGreatDoorZap
import Derived.Test.YtleoeccjnchclaaGreatDoorZao
import Derived.Test.YtleoeccjnchclaaGreatDoorZao
import Derived.Test.YtleoeccjnchclaaGreatDoorZao
namespace Go.Proofs.YtleoeccjnchclaaGreatDoor
open Go.RowKit
theorem tie_del {fb : ByteArray → List Int} {fc : Int → List ByteArray} (h : Tie fb fc) (k : ByteArray) (s : Int) : Tie (delF fb k s) (delF fc s k) := fun k' s' => by
  unfold delF
  by_cases e1 : k' = k
  · by_cases e2 : s' = s
    · subst e1 e2; simp
    · rw [if_pos e1, if_neg e2, List.mem_filter, ← h k' s']
      simp [e2]
  · by_cases e2 : s' = s
    · rw [if_neg e1, if_pos e2, List.mem_filter, ← h k' s']
      simp [e1]
    · rw [if_neg e1, if_neg e2]; exact h k' s'
theorem cut_no {κ κ2 : Type} [DecidableEq κ] {f : κ → List κ2} {k : κ} (h : f k = []) : ∀ k', cutF f k k' = f k' := fun k' => by
  unfold cutF
  split
  · rename_i e; rw [e, h]
  · rfl
theorem delF_same {κ κ2 : Type} [DecidableEq κ] [DecidableEq κ2] (f : κ → List κ2) (k : κ) (x : κ2) : delF f k x k = (f k).filter (fun y => decide (y ≠ x)) := by unfold delF; rw [if_pos rfl]
section
variable {w : World} {B N h : Nat} {F : Nat → Prop} {fc fp : Int → List ByteArray}
set_option maxRecDepth 100000 in
set_option maxHeartbeats 2000000 in
theorem hubLeave_any (H0 : HubT w B F N h fc fp) (hB : B ≤ w.heap.size) (s : Int) (k : ByteArray) (hs : kI.ok s) (hk : k.size ≤ maxLen) :
    Calls Tryz.prog 13 #[.pointer (some ⟨h, 0, none⟩), .int .i64 s, .string k] w fun e w' =>
      e = .returned (.int .i64 ((delF fc s k s).length + (fp s).length : Nat)) ∧ Fr F w w' ∧ HubT w' B (Grew F w w') N h (delF fc s k) fp := by
  obtain ⟨X, fb, H, ht⟩ := H0
  have c1 := H.cell1
  have l1 := H.lookC s hs
  obtain ⟨w2, hrun2, ht2, hf2⟩ := H.c.del kS_ok tN rfl rfl s k hk
  obtain ⟨H2, hF2⟩ := H.withC hB hf2 (fun i hi => hi) ht2 (fun i hi => .inl hi) (Nat.le_refl N) H.lens.2.1 (fun s' => by have := H.few s'; have := delF_len fc s s' k; omega)
  have d1 : ∀ ty, (Builtin.delete_ #[65, 9] ty #[lookV eN s X.ch, .string k]).run Tryz.prog w = .ok (.tuple #[]) w2 := hrun2
  have c2 := H2.cell0
  have l2 := H2.lookB k hk
  dsimp only at c2 l2
  obtain ⟨w3, hrun3, ht3, hf3⟩ := H2.b.del kI_ok tIU rfl rfl k s hs
  have d2 : ∀ ty, (Builtin.delete_ #[61, 3] ty #[lookV eM k X.by_, .int .i64 s]).run Tryz.prog w2 = .ok (.tuple #[]) w3 := hrun3
  obtain ⟨H3, hF3⟩ := H2.withB (Nat.le_trans hB hf2.size) hf3 (fun i hi => hi) ht3 (fun i hi => .inl hi) (Nat.le_refl N) H.lens.1 (fun k' => by have := H.told k'; have := delF_len fb k k' s; dsimp only; omega)
  have c3 := H3.cell0
  have l3 := H3.lookB k hk
  dsimp only at c3 l3
  have n3 := fun ty => H3.b.setLen tIU rfl rfl k ty
  dsimp only at n3
  obtain ⟨n, hn⟩ : ∃ n, (delF fb k s k).length = n := ⟨_, rfl⟩
  rw [hn] at n3
  obtain ⟨v1, hv1⟩ : ∃ v, lookV eN s X.ch = v := ⟨_, rfl⟩
  obtain ⟨v2, hv2⟩ : ∃ v, lookV eM k X.by_ = v := ⟨_, rfl⟩
  rw [hv1] at l1 d1
  rw [hv2] at l2 d2 l3 n3
  have hF23 : Fr F w w3 := fr_grow hF2 hF3
  have H3' := H3.grow H.lt hB hf2.size hf3.size
  have HLT := Lib.hid H.lt
  by_cases h0 : n = 0
  · subst h0
    obtain ⟨w4, hrun4, ht4, hf4⟩ := H3'.b.cut kS_ok tSM k hk
    have d3 : ∀ ty, (Builtin.delete_ #[31, 9] ty #[.map (some X.mb), .string k]).run Tryz.prog w3 = .ok (.tuple #[]) w4 := hrun4
    obtain ⟨H4, hF4⟩ := H3'.withB (Nat.le_trans hB hF23.size) hf4 (fun i hi => .inl hi) ht4 blk_filter (Nat.le_refl N) (Nat.le_trans (List.length_filter_le _ _) H.lens.1) (fun k' => by have := H.told k'; have := delF_len fb k k' s; have := cutF_len (delF fb k s) k k'; dsimp only; omega)
    have H4' := H4.grow H.lt hB hF23.size hf4.size
    have hF : Fr F w w4 := fr_grow hF23 hF4
    have htie : Tie (cutF (delF fb k s) k) (delF fc s k) := by
      have e : cutF (delF fb k s) k = delF fb k s := funext (cut_no (List.length_eq_zero_iff.1 hn))
      rw [e]; exact tie_del ht k s
    have HSZ := Lib.hid (hubSize_any H4' s hs)
    have HH4 := Lib.hid H4'
    have HF4 := Lib.hid hF
    have HTI := Lib.hid htie
    clear H hrun2 ht2 hf2 H2 hF2 hrun3 ht3 hf3 H3 hF3 hn hv1 hv2 H3' hrun4 ht4 hf4 H4 hF4 H4' hF htie hF23 ht
    go_enter Tryz.func13, Tryz.ntmps13
    go_wp2_with fail
    refine HSZ.out.mono ?_
    rintro e w5 ⟨rfl, m5, hm5⟩
    have hq5 : Fr (fun _ => False) w4 w5 := by rw [hm5]; exact Fr.drewN (fun _ => False) w4 m5
    have HG : Hid (Fr F w w5 ∧ HubT w5 B (Grew F w w5) N h (delF fc s k) fp) := ⟨HF4.out.trans (hq5.mono (T := F) (fun _ h _ => h.elim)) (fun _ h _ => h), _, _, (HH4.out.quiet hq5).wide (fun i hi => hi.imp id (fun q => ⟨q.1, Nat.lt_of_lt_of_le q.2 hq5.size⟩)) (grew_lt HLT.out hB (Nat.le_trans HF4.out.size hq5.size)), HTI.out⟩
    clear hm5 hq5
    go_wp2_with fail
    go_ret
    exact ⟨rfl, HG.out.1, HG.out.2⟩
  · have g0 : ¬ (n : Int) = 0 := by omega
    have htie := tie_del ht k s
    have HSZ := Lib.hid (hubSize_any H3' s hs)
    have HH4 := Lib.hid H3'
    have HF4 := Lib.hid hF23
    have HTI := Lib.hid htie
    clear H hrun2 ht2 hf2 H2 hF2 hrun3 ht3 hf3 H3 hF3 hn hv1 hv2 H3' htie hF23 ht
    go_enter Tryz.func13, Tryz.ntmps13
    go_wp2_with fail
    refine HSZ.out.mono ?_
    rintro e w5 ⟨rfl, m5, hm5⟩
    have hq5 : Fr (fun _ => False) w3 w5 := by rw [hm5]; exact Fr.drewN (fun _ => False) w3 m5
    have HG : Hid (Fr F w w5 ∧ HubT w5 B (Grew F w w5) N h (delF fc s k) fp) := ⟨HF4.out.trans (hq5.mono (T := F) (fun _ h _ => h.elim)) (fun _ h _ => h), _, _, (HH4.out.quiet hq5).wide (fun i hi => hi.imp id (fun q => ⟨q.1, Nat.lt_of_lt_of_le q.2 hq5.size⟩)) (grew_lt HLT.out hB (Nat.le_trans HF4.out.size hq5.size)), HTI.out⟩
    clear hm5 hq5
    go_wp2_with fail
    go_ret
    exact ⟨rfl, HG.out.1, HG.out.2⟩
set_option maxRecDepth 100000 in
set_option maxHeartbeats 2000000 in
theorem hubLeaveLike_any (H0 : HubT w B F N h fc fp) (hB : B ≤ w.heap.size) (s : Int) (k : ByteArray) (hs : kI.ok s) (hk : k.size ≤ maxLen) :
    Calls Tryz.prog 15 #[.pointer (some ⟨h, 0, none⟩), .int .i64 s, .string k] w fun e w' =>
      e = .returned (.int .i64 ((fc s).length + (delF fp s k s).length : Nat)) ∧ Fr F w w' ∧ HubT w' B (Grew F w w') N h fc (delF fp s k) := by
  obtain ⟨X, fb, H, ht⟩ := H0
  have c1 := H.cell2
  have l1 := H.lookP s hs
  obtain ⟨w2, hrun2, ht2, hf2⟩ := H.p.del kS_ok tN rfl rfl s k hk
  obtain ⟨H2, hF2⟩ := H.withP hB hf2 (fun i hi => hi) ht2 (fun i hi => .inl hi) (Nat.le_refl N) H.lens.2.2 (fun k' => by have := H.told k'; have := tot_le (L := X.pt) (f := fp) (g := delF fp s k) (fun s' => delF_len fp s s' k); omega) (fun s' => by have := H.few s'; have := delF_len fp s s' k; omega)
  have d1 : ∀ ty, (Builtin.delete_ #[65, 9] ty #[lookV eN s X.pt, .string k]).run Tryz.prog w = .ok (.tuple #[]) w2 := hrun2
  obtain ⟨v1, hv1⟩ : ∃ v, lookV eN s X.pt = v := ⟨_, rfl⟩
  rw [hv1] at l1 d1
  have HLT := Lib.hid H.lt
  have HSZ := Lib.hid (hubSize_any H2 s hs)
  have HH4 := Lib.hid H2
  have HF4 := Lib.hid hF2
  have HTI := Lib.hid ht
  clear H hrun2 ht2 hf2 H2 hF2 hv1 ht
  go_enter Tryz.func15, Tryz.ntmps15
  go_wp2_with fail
  refine HSZ.out.mono ?_
  rintro e w5 ⟨rfl, m5, hm5⟩
  have hq5 : Fr (fun _ => False) w2 w5 := by rw [hm5]; exact Fr.drewN (fun _ => False) w2 m5
  have HG : Hid (Fr F w w5 ∧ HubT w5 B (Grew F w w5) N h fc (delF fp s k)) := ⟨HF4.out.trans (hq5.mono (T := F) (fun _ h _ => h.elim)) (fun _ h _ => h), _, _, (HH4.out.quiet hq5).wide (fun i hi => hi.imp id (fun q => ⟨q.1, Nat.lt_of_lt_of_le q.2 hq5.size⟩)) (grew_lt HLT.out hB (Nat.le_trans HF4.out.size hq5.size)), HTI.out⟩
  clear hm5 hq5
  go_wp2_with fail
  go_ret
  exact ⟨rfl, HG.out.1, HG.out.2⟩
/-- the names of a set, rising -/
theorem riseSet {L : List (Int × Nat)} {m : Nat} {f : Int → List ByteArray} (h : TL kI eN kS w m L f) (s : Int) (hl : (f s).length ≤ 1024) : Calls Tryz.prog 39 #[lookV eN s L] w (RPriseS w (f s)) := by
  unfold lookV
  cases hk : lkp s L with
  | none =>
    refine (riseS_nil w).mono fun e w' ⟨v, he, hr, hb⟩ => ⟨v, he, ?_, hb⟩
    rw [h.no s hk]
    rw [show (sortS []).map Value.string = [] from by simp [sortS]]
    exact hr
  | some b =>
    have h1 := riseS_any w b (unL (f s)) (h.sets _ (look_mem hk)) (by rw [unL_len]; omega)
    rw [unL_keys] at h1
    exact h1
theorem hubChannels_any (H0 : HubT w B F N h fc fp) (s : Int) (hs : kI.ok s) : Calls Tryz.prog 23 #[.pointer (some ⟨h, 0, none⟩), .int .i64 s] w (RPriseS w (fc s)) := by
  obtain ⟨X, fb, H, ht⟩ := H0
  have c1 := H.cell1
  have l1 := H.lookC s hs
  have HR := Lib.hid (riseSet H.c s (by have := H.few s; omega))
  obtain ⟨v1, hv1⟩ : ∃ v, lookV eN s X.ch = v := ⟨_, rfl⟩
  rw [hv1] at l1 HR
  clear H ht hv1
  go_enter Tryz.func23, Tryz.ntmps23
  go_wp2_with fail
  refine HR.out.mono ?_
  rintro e w2 ⟨v, rfl, hr, hb⟩
  have HG := Lib.hid (And.intro hr hb)
  clear hr hb
  go_wp2_with fail
  go_ret
  exact ⟨v, rfl, HG.out⟩
theorem hubPatterns_any (H0 : HubT w B F N h fc fp) (s : Int) (hs : kI.ok s) : Calls Tryz.prog 24 #[.pointer (some ⟨h, 0, none⟩), .int .i64 s] w (RPriseS w (fp s)) := by
  obtain ⟨X, fb, H, ht⟩ := H0
  have c1 := H.cell2
  have l1 := H.lookP s hs
  have HR := Lib.hid (riseSet H.p s (by have := H.few s; omega))
  obtain ⟨v1, hv1⟩ : ∃ v, lookV eN s X.pt = v := ⟨_, rfl⟩
  rw [hv1] at l1 HR
  clear H ht hv1
  go_enter Tryz.func24, Tryz.ntmps24
  go_wp2_with fail
  refine HR.out.mono ?_
  rintro e w2 ⟨v, rfl, hr, hb⟩
  have HG := Lib.hid (And.intro hr hb)
  clear hr hb
  go_wp2_with fail
  go_ret
  exact ⟨v, rfl, HG.out⟩
theorem hubCount_any {X : HX} {fb : ByteArray → List Int} (H : HubX w B F N h X fb fc fp) (k : ByteArray) (hk : k.size ≤ maxLen) : Calls Tryz.prog 21 #[.pointer (some ⟨h, 0, none⟩), .string k] w fun e w' => e = .returned (.int .i64 (fb k).length) ∧ w = w' := by
  have c1 := H.cell0
  have l1 := H.lookB k hk
  have n1 := fun ty => H.b.setLen tIU rfl rfl k ty
  obtain ⟨v1, hv1⟩ : ∃ v, lookV eM k X.by_ = v := ⟨_, rfl⟩
  rw [hv1] at l1 n1
  clear H hv1
  go_enter Tryz.func21, Tryz.ntmps21
  go_wp2
  go_ret
  exact ⟨rfl, rfl⟩
end
end Go.Proofs.YtleoeccjnchclaaGreatDoor
namespace Go.Proofs.YtleoeccjnchclaaGreatDoor
open Go.RowKit
/-- a text of a row -/
theorem texts_at {w : World} {a : Option Addr} {n cap : Nat} {l : List ByteArray} (h : RdC w 1 (.slice a n cap) n (l.map .string)) (j : Nat) (hj : j < l.length) : ∃ g off, a = some ⟨g, off, none⟩ ∧ w.cell? ⟨g, off + j, none⟩ = some (.string l[j]) := by
  obtain ⟨g, off, rfl, hc⟩ := h.at (by rw [List.length_map]; omega)
  exact ⟨g, off, rfl, hc j _ (by rw [List.getElem?_map, List.getElem?_eq_getElem hj]; rfl)⟩
theorem ow_sliceN {w : World} {base : Nat} {e : TypeId} {sz : Nat} {v : Value} {n : Nat} {xs : List Value} (h : w.ownsRow base e sz v n xs) : ∃ a cap, v = .slice a n cap := by
  rcases h.2 with ⟨rfl, rfl⟩ | ⟨g, cap, cur, rfl, _⟩
  · exact ⟨_, _, rfl⟩
  · exact ⟨_, _, rfl⟩
theorem ow_lt {w : World} {base : Nat} {e : TypeId} {sz : Nat} {v : Value} {n : Nat} {xs : List Value} (h : w.ownsRow base e sz v n xs) : ∀ g, v.ownBlock = some g → base ≤ g ∧ g < w.heap.size := by
  intro g hg
  rcases h.2 with ⟨rfl, _⟩ | ⟨g', cap, cur, rfl, hb, hgg, _⟩
  · cases hg
  · cases hg; exact ⟨hb, (Array.getElem?_eq_some_iff.1 hgg).1⟩
/-- a session's channels but for some -/
def remF (f : Int → List ByteArray) (s : Int) (R : List ByteArray) (s' : Int) : List ByteArray := if s' = s then (f s').filter (fun y => decide (y ∉ R)) else f s'
theorem rem_nil (f : Int → List ByteArray) (s : Int) : remF f s [] = f := funext fun s' => by
  unfold remF
  split
  · exact List.filter_eq_self.2 fun _ _ => by simp
  · rfl
theorem rem_snoc (f : Int → List ByteArray) (s : Int) (R : List ByteArray) (k : ByteArray) : delF (remF f s R) s k = remF f s (R ++ [k]) := funext fun s' => by
  unfold delF remF
  split
  · rw [List.filter_filter]
    refine List.filter_congr fun y _ => ?_
    by_cases h1 : y = k <;> by_cases h2 : y ∈ R <;> simp [h1, h2]
  · rfl
theorem rem_all (f : Int → List ByteArray) (s : Int) (R : List ByteArray) (h : ∀ y ∈ f s, y ∈ R) : remF f s R = cutF f s := funext fun s' => by
  unfold remF cutF
  split
  · rename_i e
    rw [e]
    exact List.filter_eq_nil_iff.2 fun y hy => by simpa using h y hy
  · rfl
section
variable {w : World} {B N h : Nat} {F : Nat → Prop} {fc fp : Int → List ByteArray}
set_option maxRecDepth 100000 in
set_option maxHeartbeats 2000000 in
theorem hubDrop_any (H0 : HubT w B F N h fc fp) (hB : B ≤ w.heap.size) (s : Int) (hs : kI.ok s) (hk : ∀ x ∈ fc s, x.size ≤ maxLen) :
    Calls Tryz.prog 17 #[.pointer (some ⟨h, 0, none⟩), .int .i64 s] w fun e w' =>
      (∃ v, e = .returned v) ∧ Fr F w w' ∧ HubT w' B (Grew F w w') N h (cutF fc s) (cutF fp s) := by
  have HC := Lib.hid (hubChannels_any H0 s hs)
  have HH0 := Lib.hid H0
  have HK := Lib.hid hk
  have HLT : Hid (∀ k, F k → B ≤ k ∧ k < w.heap.size) := by obtain ⟨X, fb, H, _⟩ := H0; exact H.lt
  have hfw : (fc s).length ≤ 1024 := by obtain ⟨X, fb, H, _⟩ := H0; have := H.few s; omega
  clear H0 hk
  go_enter Tryz.func17, Tryz.ntmps17
  go_wp2_with fail
  refine HC.out.mono ?_
  rintro e w1 ⟨v, rfl, hr, hb⟩
  obtain ⟨va, vc, rfl⟩ := ow_sliceN hr
  obtain ⟨R, hR⟩ : ∃ R, sortS (fc s) = R := ⟨_, rfl⟩
  have hRl : R.length = (fc s).length := by rw [← hR]; exact sortS_len _
  have hRB : R.length ≤ 1024 := by omega
  have hRm : ∀ y, y ∈ R ↔ y ∈ fc s := fun y => by rw [← hR]; exact (sortS_perm _).mem_iff
  rw [hR, ← hRl] at hr
  rw [← hRl]
  have hq1 : Fr (fun _ => False) w w1 := (Fr.of_below hb).mono fun _ hi hk => absurd hk (by omega)
  have HR := Lib.hid hr
  have HRM := Lib.hid hRm
  have HQ1 := Lib.hid hq1
  have HS : Hid (HubT w1 B (Grew F w1 w1) N h (remF fc s (R.take 0)) fp ∧ Fr F w1 w1) := by
    obtain ⟨X, fb, H, ht⟩ := HH0.out
    rw [List.take_zero, rem_nil]
    exact ⟨⟨X, fb, (H.quiet hq1).wide (fun _ h => .inl h) (fun k hk => hk.elim ((H.quiet hq1).lt k) (fun q => by have h1 := q.1; have h2 := q.2; omega)), ht⟩, Fr.refl _ _⟩
  have HB1 : Hid (B ≤ w1.heap.size) := Nat.le_trans hB hq1.size
  have HL1 : Hid (∀ k, F k → B ≤ k ∧ k < w1.heap.size) := fun k hk => ⟨(HLT.out k hk).1, Nat.lt_of_lt_of_le (HLT.out k hk).2 hq1.size⟩
  clear hr hb hR hRl hRm hq1
  go_wp2_with fail
  go_loopw [12] (fun i wr => ∃ k : Nat, i = .int .i64 k ∧ k ≤ R.length ∧ Hid (HubT wr B (Grew F w1 wr) N h (remF fc s (R.take k)) fp ∧ Fr F w1 wr)) (fun i _ => R.length - (intOf i).toNat)
  case atStart => exact ⟨0, rfl, by omega, HS⟩
  case round =>
    obtain ⟨k, rfl, hk, HW⟩ := hrel
    obtain ⟨wo, rfl⟩ : ∃ wo, wo = wr := ⟨_, rfl⟩
    obtain ⟨HT, hf⟩ := HW.out
    by_cases hlt : k < R.length
    · have hown : wo.ownsRow w.heap.size 9 1 (.slice va R.length vc) R.length (R.map .string) := by
        have hl := ow_lt HR.out
        rcases HR.out with ⟨h1, ⟨_, h0⟩ | ⟨g, cap, cur, he, hb, hg, hnc, hcm, hcs, htake⟩⟩
        · omega
        · refine ⟨h1, .inr ⟨g, cap, cur, he, hb, (hf.block g (Array.getElem?_eq_some_iff.1 hg).1 (fun e => by have := (HLT.out g e).2; omega)).trans hg, hnc, hcm, hcs, htake⟩⟩
      obtain ⟨g, off, rfl, c1⟩ := texts_at (RdC.of_owns hown) k hlt
      obtain ⟨x, hx⟩ : ∃ x, R[k] = x := ⟨_, rfl⟩
      have hxm : x ∈ fc s := (HRM.out x).1 (by rw [← hx]; exact List.getElem_mem hlt)
      rw [hx] at c1
      have hBo : B ≤ wo.heap.size := Nat.le_trans HB1.out hf.size
      have HL := Lib.hid (hubLeave_any HT hBo s x hs (HK.out x hxm))
      have HTK : Hid (delF (remF fc s (R.take k)) s x = remF fc s (R.take (k + 1))) := by
        show _ = _
        rw [rem_snoc, List.take_succ_eq_append_getElem hlt, hx]
      have HF := Lib.hid hf
      have b0 : (0 : Int) ≤ (k : Int) := by omega
      have b1 : (k : Int) < (R.length : Int) := by omega
      have HLK : Hid (k < R.length) := hlt
      clear hown hx hxm HT hf HS HW
      go_wp2_with fail
      refine HL.out.mono ?_
      rintro e w2 ⟨rfl, hf2, hT2⟩
      have HG : Hid (HubT w2 B (Grew F w1 w2) N h (remF fc s (R.take (k + 1))) fp ∧ Fr F w1 w2) := by
        rw [HTK.out] at hT2
        obtain ⟨X, fb, H2, ht2⟩ := hT2
        exact ⟨⟨X, fb, H2.grow HL1.out HB1.out HF.out.size hf2.size, ht2⟩, fr_grow HF.out hf2⟩
      clear hf2 hT2
      go_wp2_with fail
      go_roundw
      case rel => exact ⟨k + 1, by go_num, HLK.out, HG⟩
      case measure => have := HLK.out; simp [intOf]; omega
    · obtain rfl : k = R.length := by omega
      obtain ⟨X, fb, H, ht⟩ := HT
      rw [List.take_length, rem_all fc s R (fun y hy => (HRM.out y).2 hy)] at H ht
      have hBo : B ≤ wo.heap.size := Nat.le_trans HB1.out hf.size
      have c1 := H.cell1
      obtain ⟨w3, hrun3, ht3, hf3⟩ := H.c.cut kI_ok tIN s hs
      have d1 : ∀ ty, (Builtin.delete_ #[32, 3] ty #[.map (some X.mc), .int .i64 s]).run Tryz.prog wo = .ok (.tuple #[]) w3 := hrun3
      obtain ⟨H3, hF3⟩ := H.withC hBo hf3 (fun i hi => .inl hi) ht3 blk_filter (Nat.le_refl N) (Nat.le_trans (List.length_filter_le _ _) H.lens.2.1) (fun s' => by have := H.few s'; have := cutF_len (cutF fc s) s s'; omega)
      have c2 := H3.cell2
      dsimp only at c2
      obtain ⟨w4, hrun4, ht4, hf4⟩ := H3.p.cut kI_ok tIN s hs
      have d2 : ∀ ty, (Builtin.delete_ #[32, 3] ty #[.map (some X.mp), .int .i64 s]).run Tryz.prog w3 = .ok (.tuple #[]) w4 := hrun4
      obtain ⟨H4, hF4⟩ := H3.withP (Nat.le_trans hBo hf3.size) hf4 (fun i hi => .inl hi) ht4 blk_filter (Nat.le_refl N) (Nat.le_trans (List.length_filter_le _ _) H.lens.2.2) (fun k' => by
        have h1 := H.told k'
        have h2 := tot_filter X.pt (cutF fp s) (fun x => decide (x.1 ≠ s))
        have h3 := tot_le (L := X.pt) (f := fp) (g := cutF fp s) (fun s' => cutF_len fp s s')
        dsimp only at h2 ⊢
        omega) (fun s' => by have := H.few s'; have := cutF_len (cutF fc s) s s'; have := cutF_len fp s s'; omega)
      have e2 : cutF (cutF fc s) s = cutF fc s := funext (cut_no (by unfold cutF; rw [if_pos rfl]))
      rw [e2] at H4
      have HG : Hid (Fr F w w4 ∧ HubT w4 B (Grew F w w4) N h (cutF fc s) (cutF fp s)) := by
        have z1 := HQ1.out.size
        have z2 := hf.size
        have z3 := hf3.size
        have z4 := hf4.size
        refine ⟨(HQ1.out.mono (T := F) (fun _ h _ => h.elim)).trans (fr_grow hf (fr_grow hF3 hF4)) (fun _ h _ => h), _, _, (H4.wide (fun i hi => ?_) (grew_lt HLT.out hB (by omega))), ht⟩
        rcases hi with ((hi | hi) | hi) | hi
        · exact .inl hi
        · obtain ⟨q1, q2⟩ := hi; exact .inr ⟨by omega, by omega⟩
        · obtain ⟨q1, q2⟩ := hi; exact .inr ⟨by omega, by omega⟩
        · obtain ⟨q1, q2⟩ := hi; exact .inr ⟨by omega, by omega⟩
      clear H ht hrun3 ht3 hf3 H3 hF3 hrun4 ht4 hf4 H4 hF4 e2 hf HS HW
      go_wp2_with fail
      go_end0
      exact ⟨⟨_, rfl⟩, HG.out.1, HG.out.2⟩
end
end Go.Proofs.YtleoeccjnchclaaGreatDoor
namespace Go.Proofs.YtleoeccjnchclaaGreatDoor
open Go.RowKit
/-- a bulk's cells -/
def bulkC (s : ByteArray) : List Value := [.int .i64 4, .string s, .int .i64 0, .slice none 0 0]
theorem bulk_any (s : ByteArray) (w : World) : Calls Tryz.prog 46 #[.string s] w fun e w' => e = .returned (.agg #[.int .i64 4, .string s, .int .i64 0, .slice none 0 0]) ∧ w' = w.alloc (.cells #[.int .i64 4, .string s, .int .i64 0, .slice none 0 0] 49) := by
  go_enter Tryz.func46, Tryz.ntmps46
  go_wp2
  refine bodyPost_ret (v := .agg #[.int .i64 4, .string s, .int .i64 0, .slice none 0 0]) ?_ rfl ⟨rfl, rfl⟩
  simp [results, Tryz.results46, asAddr, go_sem]
end Go.Proofs.YtleoeccjnchclaaGreatDoor
