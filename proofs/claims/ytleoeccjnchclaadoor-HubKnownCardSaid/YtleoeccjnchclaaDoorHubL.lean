/- A hub's Listen and ListenLike. No condition. -/
import Derived.Test.YtleoeccjnchclaaDoorListenP
namespace Go.Proofs.YtleoeccjnchclaaDoor
open Go.RowKit
/-- who listens to a channel, and a session's channels, say the same -/
def Tie (fb : ByteArray → List Int) (fc : Int → List ByteArray) : Prop := ∀ k s, s ∈ fb k ↔ k ∈ fc s
/-- a hub -/
def HubT (w : World) (B : Nat) (F : Nat → Prop) (N h : Nat) (fc fp : Int → List ByteArray) : Prop := ∃ X fb, HubX w B F N h X fb fc fp ∧ Tie fb fc
theorem tie_add {fb : ByteArray → List Int} {fc : Int → List ByteArray} (h : Tie fb fc) (k : ByteArray) (s : Int) : Tie (addF fb k s) (addF fc s k) := fun k' s' => by
  unfold addF
  by_cases e1 : k' = k
  · by_cases e2 : s' = s
    · subst e1 e2; simp
    · rw [if_pos e1, if_neg e2, List.mem_append, List.mem_singleton]
      rw [← h k' s']
      simp [e2]
  · by_cases e2 : s' = s
    · rw [if_neg e1, if_pos e2, List.mem_append, List.mem_singleton, ← h k' s']
      simp [e1]
    · rw [if_neg e1, if_neg e2]; exact h k' s'
theorem eqSess (r : Option Nat) (w : World) : (binOp .eql 61 (.map r) (.map none)).run Tryd.prog w = .ok (.bool r.isNone) w := run_eql_map_nil w _ _ _ r Tryd.underlying61
theorem HubX.grow {w w2 w3 : World} {B N h : Nat} {F : Nat → Prop} {X : HX} {fb : ByteArray → List Int} {fc fp : Int → List ByteArray} (H : HubX w3 B (Grew (Grew F w w2) w2 w3) N h X fb fc fp) (hl : ∀ k, F k → B ≤ k ∧ k < w.heap.size) (hB : B ≤ w.heap.size) (h2 : w.heap.size ≤ w2.heap.size) (h3 : w2.heap.size ≤ w3.heap.size) : HubX w3 B (Grew F w w3) N h X fb fc fp :=
  H.wide (fun i hi => by
    rcases hi with (hi | hi) | hi
    · exact .inl hi
    · exact .inr ⟨hi.1, by omega⟩
    · exact .inr ⟨by omega, hi.2⟩) (grew_lt hl hB (by omega))
theorem fr_grow {F : Nat → Prop} {w w2 w3 : World} (h2 : Fr F w w2) (h3 : Fr (Grew F w w2) w2 w3) : Fr F w w3 :=
  h2.trans h3 (fun i hi hl => hi.elim id (fun q => absurd q.1 (by omega)))
set_option maxRecDepth 100000 in
set_option maxHeartbeats 2000000 in
theorem hubListen_any {w : World} {B N h : Nat} {F : Nat → Prop} {fc fp : Int → List ByteArray} (H0 : HubT w B F N h fc fp) (hB : B ≤ w.heap.size) (hN : N ≤ 4398046511104) (s : Int) (k : ByteArray) (hs : kI.ok s) (hk : k.size ≤ maxLen) :
    Calls Tryd.prog 20 #[.pointer (some ⟨h, 0, none⟩), .int .i64 s, .string k] w fun e w' =>
      e = .returned (.tuple #[.int .i64 (lsRes fc fp s k).1, .int .i64 (lsRes fc fp s k).2.1]) ∧ Fr F w w' ∧ HubT w' B (Grew F w w') (N + 1) h (lsRes fc fp s k).2.2 fp := by
  obtain ⟨X, fb, H, ht⟩ := H0
  have c1 := H.cell1
  have HL := Lib.hid (listenC_any H hB hN s k hs hk)
  have HLT := Lib.hid H.lt
  have HLN := Lib.hid H.lens
  have HTL := Lib.hid H.told
  have HTI := Lib.hid ht
  unfold LsC at HL
  obtain ⟨rn, hrn⟩ : ∃ x, (lsRes fc fp s k).1 = x := ⟨_, rfl⟩
  obtain ⟨rc, hrc⟩ : ∃ x, (lsRes fc fp s k).2.1 = x := ⟨_, rfl⟩
  obtain ⟨rf, hrf⟩ : ∃ x, (lsRes fc fp s k).2.2 = x := ⟨_, rfl⟩
  have hsame : rc = 0 → (k ∈ fc s ∧ rf = fc) ∨ (k ∉ fc s ∧ rf = addF fc s k) := fun e => by
    rw [← hrf]; rw [← hrc] at e
    unfold lsRes at e ⊢
    split at e
    · cases e
    · split at e
      · rename_i h1 h2; rw [if_neg h1, if_pos h2]; exact .inl ⟨h2, rfl⟩
      · split at e
        · cases e
        · rename_i h1 h2 h3; rw [if_neg h1, if_neg h2, if_neg h3]; exact .inr ⟨h2, rfl⟩
  have hother : rc ≠ 0 → rf = fc := fun e => by
    rw [← hrf]; rw [← hrc] at e
    unfold lsRes at e ⊢
    split
    · rfl
    · split
      · rfl
      · split
        · rfl
        · rename_i h1 h2 h3; rw [if_neg h1, if_neg h2, if_neg h3] at e; exact absurd rfl e
  rw [hrn, hrc, hrf] at HL
  rw [hrn, hrc, hrf]
  have HSA := Lib.hid hsame
  have HOT := Lib.hid hother
  clear H hrn hrc hrf hsame hother ht
  go_enter Tryd.func20, Tryd.ntmps20
  go_wp2_with fail
  refine HL.out.mono ?_
  rintro e w2 ⟨rfl, hf2, L, H2⟩
  by_cases h0 : rc = 0
  · subst h0
    have HF2 := Lib.hid hf2
    have HH2 := Lib.hid H2
    have b0 := H2.cell0
    dsimp only at b0
    have lb := H2.lookB k hk
    have hB2 : B ≤ w2.heap.size := Nat.le_trans hB hf2.size
    have hln := HLN.out
    have hn4 := hN
    have hkey : ∃ X' fb', ∃ w3, True := ⟨X, fb, w, trivial⟩
    cases hk0 : lkp k X.by_ with
    | none =>
      have hnb : fb k = [] := H2.b.no k hk0
      have hnin : k ∉ fc s := fun hm => by have := (HTI.out k s).2 hm; rw [hnb] at this; cases this
      have hrf : rf = addF fc s k := (HSA.out rfl).elim (fun q => absurd q.1 hnin) (fun q => q.2)
      rw [show lookV eM k X.by_ = .map none from by unfold lookV; rw [hk0]; rfl] at lb
      have hq0 := eqSess none w2
      have hmm := @run_makeMap Tryd.prog
      obtain ⟨w3, hrun3, ht3, hf3⟩ := H2.b.new_ kS_ok eM_ok tSM hk0 hk (by unfold maxLen; dsimp only; omega)
      have r3 : (Instr.mapUpdate 53 (.map (some X.mb)) (.string k) (.map (some w2.heap.size))).run Tryd.prog (w2.alloc (.map #[] 0)) = .ok () w3 := hrun3
      obtain ⟨H3, hF3⟩ := H2.withB hB2 hf3 (fun i hi => .inl hi) ht3 (blk_snoc (Nat.le_refl _)) (Nat.le_refl (N + 1)) (by rw [List.length_append]; show _ + 1 ≤ _; dsimp only; omega) (fun k' => by have := HTL.out k'; dsimp only; omega)
      have hk3 : lkp k (X.by_ ++ [(k, w2.heap.size)]) = some w2.heap.size := by rw [look_snoc hk0, if_pos rfl]
      have b3 := H3.cell0
      dsimp only at b3
      have l3 := H3.lookB k hk
      rw [show lookV eM k (X.by_ ++ [(k, w2.heap.size)]) = .map (some w2.heap.size) from by unfold lookV; rw [hk3]; rfl] at l3
      obtain ⟨w4, hrun4, ht4, hf4⟩ := H3.b.add kI_ok tIU hk3 s hs (by rw [hnb]; exact List.not_mem_nil) (by rw [hnb]; decide)
      have r4 : (Instr.mapUpdate 61 (.map (some w2.heap.size)) (.int .i64 s) (.agg #[])).run Tryd.prog w3 = .ok () w4 := hrun4
      obtain ⟨H4, hF4⟩ := H3.withB (Nat.le_trans hB2 hf3.size) hf4 (fun i hi => .inr ⟨_, look_mem hk3, hi.symm⟩) ht4 (fun i hi => .inl hi) (Nat.le_refl (N + 1)) (by rw [List.length_append]; show _ + 1 ≤ _; dsimp only; omega) (fun k' => by have := HTL.out k'; have := addF_len fb k k' s; dsimp only; omega)
      have HG : Hid (HubT w4 B (Grew F w w4) (N + 1) h rf fp ∧ Fr F w w4) := by
        have z2 := hf2.size
        have z3 := hf3.size
        have z4 := hf4.size
        refine ⟨⟨_, _, (H4.grow (grew_lt HLT.out hB z2 |> fun q => q) hB2 z3 z4).wide (fun i hi => ?_) (grew_lt HLT.out hB (by omega)), by rw [hrf]; exact tie_add HTI.out k s⟩, fr_grow hf2 (fr_grow hF3 hF4)⟩
        rcases hi with (hi | hi) | hi
        · exact .inl hi
        · exact .inr ⟨hi.1, by omega⟩
        · exact .inr ⟨by omega, hi.2⟩
      clear H2 hf2 hrun3 ht3 hf3 H3 hF3 hk3 hrun4 ht4 hf4 H4 hF4 hB2 hln hk0 hnb hnin hkey
      go_wp2_with fail
      go_ret2
      exact ⟨rfl, HG.out.2, HG.out.1⟩
    | some b =>
      rw [show lookV eM k X.by_ = .map (some b) from by unfold lookV; rw [hk0]; rfl] at lb
      have hq0 := eqSess (some b) w2
      have hlen : (fb k).length < maxLen := by have := HTL.out k; unfold maxLen; omega
      have hG : ∃ w4, (Instr.mapUpdate 61 (.map (some b)) (.int .i64 s) (.agg #[])).run Tryd.prog w2 = .ok () w4 ∧ HubT w4 B (Grew F w w4) (N + 1) h rf fp ∧ Fr F w w4 := by
        have z2 := hf2.size
        rcases HSA.out rfl with ⟨hin, hrf⟩ | ⟨hnin, hrf⟩
        · obtain ⟨w4, hrun4, ht4, hf4⟩ := H2.b.addSame kI_ok tIU hk0 s hs ((HTI.out k s).2 hin) hlen
          obtain ⟨H4, hF4⟩ := H2.withB hB2 hf4 (fun i hi => .inr ⟨_, look_mem hk0, hi.symm⟩) ht4 (fun i hi => .inl hi) (Nat.le_refl (N + 1)) (by dsimp only; omega) (fun k' => by have := HTL.out k'; dsimp only; omega)
          exact ⟨w4, hrun4, ⟨_, _, H4.grow HLT.out hB z2 hf4.size, by rw [hrf]; exact HTI.out⟩, fr_grow hf2 hF4⟩
        · obtain ⟨w4, hrun4, ht4, hf4⟩ := H2.b.add kI_ok tIU hk0 s hs (fun hm => hnin ((HTI.out k s).1 hm)) hlen
          obtain ⟨H4, hF4⟩ := H2.withB hB2 hf4 (fun i hi => .inr ⟨_, look_mem hk0, hi.symm⟩) ht4 (fun i hi => .inl hi) (Nat.le_refl (N + 1)) (by dsimp only; omega) (fun k' => by have := HTL.out k'; have := addF_len fb k k' s; dsimp only; omega)
          exact ⟨w4, hrun4, ⟨_, _, H4.grow HLT.out hB z2 hf4.size, by rw [hrf]; exact tie_add HTI.out k s⟩, fr_grow hf2 hF4⟩
      obtain ⟨w4, r4, hG⟩ := hG
      have HG := Lib.hid hG
      clear H2 hf2 hB2 hln hk0 hkey hG hlen
      go_wp2_with fail
      go_ret2
      exact ⟨rfl, HG.out.2, HG.out.1⟩
  · have hrf := HOT.out h0
    have HG : Hid (HubT w2 B (Grew F w w2) (N + 1) h rf fp ∧ Fr F w w2) := ⟨⟨_, _, H2, by rw [hrf]; exact HTI.out⟩, hf2⟩
    have g0 : ¬ (rc : Int) = 0 := by omega
    clear H2 hf2 hrf
    go_wp2_with fail
    go_ret2
    exact ⟨rfl, HG.out.2, HG.out.1⟩
theorem hubLike_any {w : World} {B N h : Nat} {F : Nat → Prop} {fc fp : Int → List ByteArray} (H0 : HubT w B F N h fc fp) (hB : B ≤ w.heap.size) (hN : N ≤ 4398046511104) (s : Int) (k : ByteArray) (hs : kI.ok s) (hk : k.size ≤ maxLen) :
    Calls Tryd.prog 21 #[.pointer (some ⟨h, 0, none⟩), .int .i64 s, .string k] w fun e w' =>
      e = .returned (.tuple #[.int .i64 (lsRes fp fc s k).1, .int .i64 (lsRes fp fc s k).2.1]) ∧ Fr F w w' ∧ HubT w' B (Grew F w w') (N + 1) h fc (lsRes fp fc s k).2.2 := by
  obtain ⟨X, fb, H, ht⟩ := H0
  have c2 := H.cell2
  have HL := Lib.hid (listenP_any H hB hN s k hs hk)
  have HTI := Lib.hid ht
  unfold LsP at HL
  clear H ht
  go_enter Tryd.func21, Tryd.ntmps21
  go_wp2_with fail
  refine HL.out.mono ?_
  rintro e w2 ⟨rfl, hf2, L, H2⟩
  have HG : Hid (Fr F w w2 ∧ HubT w2 B (Grew F w w2) (N + 1) h fc (lsRes fp fc s k).2.2) := ⟨hf2, _, _, H2, HTI.out⟩
  clear hf2 H2
  go_wp2_with fail
  go_ret2
  exact ⟨rfl, HG.out.1, HG.out.2⟩
end Go.Proofs.YtleoeccjnchclaaDoor
