/- hub's listen at channels. No condition. -/
import Derived.Test.YtleoeccjnchclaaDoorHubW
import Derived.WalkSpells
namespace Go.Proofs.YtleoeccjnchclaaDoor
open Go.RowKit
instance decMem (k : ByteArray) (l : List ByteArray) : Decidable (k ∈ l) := @List.instDecidableMemOfLawfulBEq _ instBEqOfDecidableEq _ k l
theorem HubX.still {w w' : World} {B N h : Nat} {F : Nat → Prop} {X : HX} {fb : ByteArray → List Int} {fc fp : Int → List ByteArray} (H : HubX w B F N h X fb fc fp) (hB : B ≤ w.heap.size) (hq : Fr (fun _ => False) w w') : HubX w' B (Grew F w w') (N + 1) h X fb fc fp :=
  ((H.quiet hq).wide (fun _ hk => .inl hk) (grew_lt H.lt hB hq.size)).upN (Nat.le_succ N)
/-- what listen tells, and what is listened to behind it -/
def lsRes (fx fy : Int → List ByteArray) (s : Int) (k : ByteArray) : Nat × Nat × (Int → List ByteArray) :=
  if 1024 < k.size then (0, 2, fx) else if k ∈ fx s then ((fx s).length + (fy s).length, 0, fx) else if 1024 ≤ (fx s).length + (fy s).length then (0, 4, fx) else ((fx s).length + (fy s).length + 1, 0, addF fx s k)
theorem addF_same {κ κ2 : Type} [DecidableEq κ] (f : κ → List κ2) (k : κ) (x : κ2) : addF f k x k = f k ++ [x] := by unfold addF; rw [if_pos rfl]
theorem few_add {f g : Int → List ByteArray} {s : Int} {k : ByteArray} (h : ∀ s, (f s).length + (g s).length ≤ 1024) (hs : (f s).length + (g s).length < 1024) : ∀ s', (addF f s k s').length + (g s').length ≤ 1024 := fun s' => by
  unfold addF
  split
  · rename_i e
    rw [List.length_append, e]
    simp only [List.length_singleton]
    omega
  · exact h s'
theorem eqNames (r : Option Nat) (w : World) : (binOp .eql 60 (.map r) (.map none)).run Tryd.prog w = .ok (.bool r.isNone) w := run_eql_map_nil w _ _ _ r Tryd.underlying60
theorem few_addP {f g : Int → List ByteArray} {s : Int} {k : ByteArray} (h : ∀ s, (g s).length + (f s).length ≤ 1024) (hs : (g s).length + (f s).length < 1024) : ∀ s', (g s').length + (addF f s k s').length ≤ 1024 := fun s' => by
  unfold addF
  split
  · rename_i e
    rw [List.length_append, e]
    simp only [List.length_singleton]
    omega
  · exact h s'
/-- what listen leaves at channels -/
def LsC (w : World) (B : Nat) (F : Nat → Prop) (N h : Nat) (X : HX) (fb : ByteArray → List Int) (fc fp : Int → List ByteArray) (s : Int) (k : ByteArray) (e : Ending) (w' : World) : Prop :=
  e = .returned (.tuple #[.int .i64 (lsRes fc fp s k).1, .int .i64 (lsRes fc fp s k).2.1]) ∧ Fr F w w' ∧ ∃ L, HubX w' B (Grew F w w') (N + 1) h { X with ch := L } fb (lsRes fc fp s k).2.2 fp
set_option maxRecDepth 100000 in
set_option maxHeartbeats 2000000 in
theorem listenC_any {w : World} {B N h : Nat} {F : Nat → Prop} {X : HX} {fb : ByteArray → List Int} {fc fp : Int → List ByteArray} (H : HubX w B F N h X fb fc fp) (hB : B ≤ w.heap.size) (hN : N ≤ 4398046511104) (s : Int) (k : ByteArray) (hs : kI.ok s) (hk : k.size ≤ maxLen) :
    Calls Tryd.prog 29 #[.pointer (some ⟨h, 0, none⟩), .map (some X.mc), .int .i64 s, .string k] w (LsC w B F N h X fb fc fp s k) := by
  unfold LsC
  by_cases hlong : 1024 < k.size
  · have e : lsRes fc fp s k = (0, 2, fc) := by unfold lsRes; rw [if_pos hlong]
    rw [e]
    have g1 : decide ((1024 : Int) < (k.size : Int)) = true := decide_eq_true (by omega)
    have g2 : (1024 : Int) < (k.size : Int) := by omega
    have HS := Lib.hid (H.still hB (Fr.refl (fun _ => False) w))
    clear H e
    go_enter Tryd.func29, Tryd.ntmps29
    go_wp2
    go_ret2
    exact ⟨rfl, Fr.refl _ _, X.ch, HS.out⟩
  have g1 : decide ((1024 : Int) < (k.size : Int)) = false := decide_eq_false (by omega)
  have g2 : ¬ (1024 : Int) < (k.size : Int) := by omega
  have l1 := H.lookC s hs
  have n1 := H.c.setHas kS_ok tN rfl rfl s k hk
  obtain ⟨v1, hv1⟩ : ∃ v, lookV eN s X.ch = v := ⟨_, rfl⟩
  rw [hv1] at l1 n1
  obtain ⟨w1, hw1⟩ : ∃ x, w.alloc (.cells #[] 58) = x := ⟨_, rfl⟩
  have hq1 : Fr (fun _ => False) w w1 := by rw [← hw1]; exact Fr.alloc _ _ _
  have H1 := H.quiet hq1
  have HH := Lib.hid H1
  have HQ1 := Lib.hid hq1
  have HV1 := Lib.hid hv1
  have HSZ := Lib.hid (hubSize_any H1 s hs)
  have hfew := H.few s
  have HB := Lib.hid (Nat.le_trans hB hq1.size)
  have HLT := Lib.hid H.lt
  have HN := Lib.hid hN
  have HST : Hid (∀ w', Fr (fun _ => False) w w' → HubX w' B (Grew F w w') (N + 1) h X fb fc fp) := fun w' hq => H.still hB hq
  have hlen : ((fc s).length + (fp s).length : Nat) = (fc s).length + (fp s).length := by omega
  have n1' : (Instr.lookup 60 v1 (.string k) true).run Tryd.prog w = .ok (.tuple #[.agg #[], .bool (decide (k ∈ fc s))]) w := n1
  clear H H1 hq1 hv1 n1
  by_cases hin : k ∈ fc s
  · have e : lsRes fc fp s k = ((fc s).length + (fp s).length, 0, fc) := by unfold lsRes; rw [if_neg hlong, if_pos hin, hlen]
    rw [e]
    rw [decide_eq_true hin] at n1'
    obtain ⟨sz, hsz⟩ : ∃ n, (fc s).length + (fp s).length = n := ⟨_, rfl⟩
    rw [hsz] at HSZ ⊢
    clear e hin hsz hlen hfew hlong
    go_enter Tryd.func29, Tryd.ntmps29
    go_wp2_with fail
    refine HSZ.out.mono ?_
    rintro e w2 ⟨rfl, m2, hm2⟩
    have HQ2 : Hid (Fr (fun _ => False) w w2) := HQ1.out.trans (S := fun _ => False) (T := fun _ => False) (by rw [hm2]; exact Fr.drewN (fun _ => False) w1 m2) (fun _ h _ => h)
    clear hm2
    go_wp2_with fail
    go_ret2
    exact ⟨rfl, HQ2.out.mono (fun _ h _ => h.elim), X.ch, HST.out w2 HQ2.out⟩
  rw [decide_eq_false hin] at n1'
  by_cases hfull : 1024 ≤ (fc s).length + (fp s).length
  · have e : lsRes fc fp s k = (0, 4, fc) := by unfold lsRes; rw [if_neg hlong, if_neg hin, hlen, if_pos hfull]
    rw [e]
    obtain ⟨sz, hsz⟩ : ∃ n, (fc s).length + (fp s).length = n := ⟨_, rfl⟩
    rw [hsz] at HSZ hfull
    have g3 : decide ((1024 : Int) ≤ (sz : Int)) = true := decide_eq_true (by omega)
    have g4 : (1024 : Int) ≤ (sz : Int) := by omega
    clear e hin hsz hlen hfew hlong
    go_enter Tryd.func29, Tryd.ntmps29
    go_wp2_with fail
    refine HSZ.out.mono ?_
    rintro e w2 ⟨rfl, m2, hm2⟩
    have HQ2 : Hid (Fr (fun _ => False) w w2) := HQ1.out.trans (S := fun _ => False) (T := fun _ => False) (by rw [hm2]; exact Fr.drewN (fun _ => False) w1 m2) (fun _ h _ => h)
    clear hm2
    go_wp2_with fail
    go_ret2
    exact ⟨rfl, HQ2.out.mono (fun _ h _ => h.elim), X.ch, HST.out w2 HQ2.out⟩
  · have e : lsRes fc fp s k = ((fc s).length + (fp s).length + 1, 0, addF fc s k) := by unfold lsRes; rw [if_neg hlong, if_neg hin, hlen, if_neg hfull]
    rw [e]
    obtain ⟨sz, hsz⟩ : ∃ n, (fc s).length + (fp s).length = n := ⟨_, rfl⟩
    rw [hsz] at HSZ hfull ⊢
    have g3 : decide ((1024 : Int) ≤ (sz : Int)) = false := decide_eq_false (by omega)
    have g4 : ¬ (1024 : Int) ≤ (sz : Int) := by omega
    have HIN := Lib.hid hin
    have HSS := Lib.hid hsz
    have HSF := Lib.hid hfull
    clear e hin hsz hlen hfew hlong hfull
    go_enter Tryd.func29, Tryd.ntmps29
    go_wp2_with fail
    refine HSZ.out.mono ?_
    rintro e w2 ⟨rfl, m2, hm2⟩
    have hq2 : Fr (fun _ => False) w1 w2 := by rw [hm2]; exact Fr.drewN (fun _ => False) w1 m2
    have H2 := HH.out.quiet hq2
    have hq02 : Fr (fun _ => False) w w2 := HQ1.out.trans hq2 (fun _ h _ => h)
    have hB2 : B ≤ w2.heap.size := Nat.le_trans HB.out hq2.size
    have hn4 := HN.out
    have hll := H2.lens
    have hsf := HSF.out
    have hss := HSS.out
    have l2 := H2.lookC s hs
    clear hm2 l1 n1' HSZ
    cases hk0 : lkp s X.ch with
    | none =>
      have hv2 : lookV eN s X.ch = .map none := by unfold lookV; rw [hk0]; rfl
      rw [hv2] at l2
      have hq0 := eqNames none w2
      have hmm := @run_makeMap Tryd.prog
      obtain ⟨w3, hrun3, ht3, hf3⟩ := H2.c.new_ kI_ok eN_ok tIN hk0 hs (by unfold maxLen; omega)
      have r3 : (Instr.mapUpdate 54 (.map (some X.mc)) (.int .i64 s) (.map (some w2.heap.size))).run Tryd.prog (w2.alloc (.map #[] 0)) = .ok () w3 := hrun3
      obtain ⟨H3, hF3⟩ := H2.withC hB2 hf3 (fun i hi => .inl hi) ht3 (blk_snoc (Nat.le_refl _)) (Nat.le_succ N) (by rw [List.length_append]; show _ + 1 ≤ _; omega) H2.few
      have hk3 : lkp s (X.ch ++ [(s, w2.heap.size)]) = some w2.heap.size := by rw [look_snoc hk0, if_pos rfl]
      have l3 := H3.lookC s hs
      rw [show lookV eN s (X.ch ++ [(s, w2.heap.size)]) = .map (some w2.heap.size) from by unfold lookV; rw [hk3]; rfl] at l3
      obtain ⟨w4, hrun4, ht4, hf4⟩ := H3.c.add kS_ok tN hk3 k hk HIN.out (by unfold maxLen; omega)
      have r4 : (Instr.mapUpdate 60 (.map (some w2.heap.size)) (.string k) (.agg #[])).run Tryd.prog w3 = .ok () w4 := hrun4
      obtain ⟨H4, hF4⟩ := H3.withC (Nat.le_trans hB2 hf3.size) hf4 (fun i hi => .inr ⟨_, look_mem hk3, hi.symm⟩) ht4 (fun i hi => .inl hi) (Nat.le_refl _) (by rw [List.length_append]; show _ + 1 ≤ _; omega) (few_add H2.few (by omega))
      have hs4 := hubSize_any H4 s hs
      rw [show (addF fc s k s).length + (fp s).length = sz + 1 from by rw [addF_same, List.length_append]; show _ = _; simp only [List.length_singleton]; omega] at hs4
      have HS4 := Lib.hid hs4
      have HF4 : Hid (Fr F w w4) := (hq02.mono (T := F) (fun _ h _ => h.elim)).trans (hF3.trans hF4 (fun i hi hl => hi.elim id (fun q => absurd q.1 (by omega)))) (fun _ h _ => h)
      have HH4 : Hid (HubX w4 B (Grew F w w4) (N + 1) h { X with ch := X.ch ++ [(s, w2.heap.size)] } fb (addF fc s k) fp) := H4.wide (fun i hi => by
        have z1 := hq02.size
        have z3 := hf3.size
        have z4 := hf4.size
        rcases hi with (hi | hi) | hi
        · exact .inl hi
        · exact .inr ⟨by omega, by omega⟩
        · exact .inr ⟨by omega, by omega⟩) (grew_lt HLT.out (by have := hq02.size; exact hB) HF4.out.size)
      clear hrun3 ht3 hf3 H3 hF3 hk3 hrun4 ht4 hf4 H4 hF4 hs4 hq2 H2 hq02 hB2 hll hk0 hv2 hsf hss
      go_wp2_with fail
      refine HS4.out.mono ?_
      rintro e w5 ⟨rfl, m5, hm5⟩
      have hq5 : Fr (fun _ => False) w4 w5 := by rw [hm5]; exact Fr.drewN (fun _ => False) w4 m5
      have HF5 : Hid (Fr F w w5) := HF4.out.trans (hq5.mono (T := F) (fun _ h _ => h.elim)) (fun _ h _ => h)
      have HH5 := Lib.hid ((HH4.out.quiet hq5).wide (F' := Grew F w w5) (fun i hi => hi.imp id (fun q => ⟨q.1, Nat.lt_of_lt_of_le q.2 hq5.size⟩)) (grew_lt HLT.out hB HF5.out.size))
      clear hm5 hq5
      go_wp2_with fail
      go_ret2
      exact ⟨rfl, HF5.out, _, HH5.out⟩
    | some b =>
      have hv2 : lookV eN s X.ch = .map (some b) := by unfold lookV; rw [hk0]; rfl
      rw [hv2] at l2
      have hq0 := eqNames (some b) w2
      obtain ⟨w4, hrun4, ht4, hf4⟩ := H2.c.add kS_ok tN hk0 k hk HIN.out (by unfold maxLen; omega)
      have r4 : (Instr.mapUpdate 60 (.map (some b)) (.string k) (.agg #[])).run Tryd.prog w2 = .ok () w4 := hrun4
      obtain ⟨H4, hF4⟩ := H2.withC hB2 hf4 (fun i hi => .inr ⟨_, look_mem hk0, hi.symm⟩) ht4 (fun i hi => .inl hi) (Nat.le_succ N) (by omega) (few_add H2.few (by omega))
      have hs4 := hubSize_any H4 s hs
      rw [show (addF fc s k s).length + (fp s).length = sz + 1 from by rw [addF_same, List.length_append]; show _ = _; simp only [List.length_singleton]; omega] at hs4
      have HS4 := Lib.hid hs4
      have HF4 : Hid (Fr F w w4) := (hq02.mono (T := F) (fun _ h _ => h.elim)).trans hF4 (fun _ h _ => h)
      have HH4 : Hid (HubX w4 B (Grew F w w4) (N + 1) h { X with ch := X.ch } fb (addF fc s k) fp) := H4.wide (fun i hi => by
        have z1 := hq02.size
        have z4 := hf4.size
        rcases hi with hi | hi
        · exact .inl hi
        · exact .inr ⟨by omega, by omega⟩) (grew_lt HLT.out (by have := hq02.size; exact hB) HF4.out.size)
      clear hrun4 ht4 hf4 H4 hF4 hs4 hq2 H2 hq02 hB2 hll hk0 hv2 hsf hss
      go_wp2_with fail
      refine HS4.out.mono ?_
      rintro e w5 ⟨rfl, m5, hm5⟩
      have hq5 : Fr (fun _ => False) w4 w5 := by rw [hm5]; exact Fr.drewN (fun _ => False) w4 m5
      have HF5 : Hid (Fr F w w5) := HF4.out.trans (hq5.mono (T := F) (fun _ h _ => h.elim)) (fun _ h _ => h)
      have HH5 := Lib.hid ((HH4.out.quiet hq5).wide (F' := Grew F w w5) (fun i hi => hi.imp id (fun q => ⟨q.1, Nat.lt_of_lt_of_le q.2 hq5.size⟩)) (grew_lt HLT.out hB HF5.out.size))
      clear hm5 hq5
      go_wp2_with fail
      go_ret2
      exact ⟨rfl, HF5.out, _, HH5.out⟩
end Go.Proofs.YtleoeccjnchclaaDoor
