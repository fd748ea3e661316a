/- What a hub tells: outs in memory; the keys of byPattern, rising; A hub's Tell; A hub with its two rows; Plain: a step of a session leaves the others as they were, and does to the session's own rows what those rows say; Plain: what is told does not hang on keys that stand for nothing; Plain: names that are listened to are short; how many are left when one is left; a session that was dropped is told nothing; Plain: what is told, session by session; a session's place in a rising list; Plain: the document's list of who listens to what; pantry/pantrylaw25's sameTexts: are two lists of texts the same? No condition. No condition but sizes. -/
import Derived.Test.YtleoeccjnchclaaGreatDoorZax
import Derived.Test.YtleoeccjnchclaaGreatDoorZak
import Derived.Deep.Cut
import Derived.Deep.CutBlock
import Derived.Deep.QuietTactic
import Derived.BigQuiet
namespace Go.Proofs.YtleoeccjnchclaaGreatDoor
open Go.RowKit
theorem rows_apart {w : World} {B B' : Nat} {e e' : TypeId} {s s' n n' : Nat} {v v' : Value} {xs xs' : List Value} (h : w.ownsRow B e s v n xs) (h' : w.ownsRow B' e' s' v' n' xs') (he : e ≠ e') :
    ∀ g, v.ownBlock = some g → ¬ v'.ownBlock = some g := by
  intro g h1 h2
  rcases h.2 with ⟨rfl, _⟩ | ⟨g1, cap, cur, rfl, _, hg, _⟩
  · cases h1
  · cases h1
    rcases h'.2 with ⟨rfl, _⟩ | ⟨g2, cap2, cur2, rfl, _, hg2, _⟩
    · cases h2
    · cases h2
      rw [hg] at hg2
      simp only [Option.some.injEq, Obj.cells.injEq] at hg2
      exact he hg2.2.1
theorem ow_frT {w w' : World} {B : Nat} {e : TypeId} {size : Nat} {v : Value} {n : Nat} {xs : List Value} (h : w.ownsRow B e size v n xs) {S : Nat → Prop} (hf : Fr S w w') (hd : ∀ g, v.ownBlock = some g → ¬ S g) : w'.ownsRow B e size v n xs := by
  rcases h with ⟨h1, h2 | ⟨g, cap, cur, rfl, hb, hg, hnc, hcm, hcs, htake⟩⟩
  · exact ⟨h1, .inl h2⟩
  · exact ⟨h1, .inr ⟨g, cap, cur, rfl, hb, (hf.block g (Array.getElem?_eq_some_iff.1 hg).1 (hd g rfl)).trans hg, hnc, hcm, hcs, htake⟩⟩
theorem ow_baseT {w : World} {B B' : Nat} {e : TypeId} {size : Nat} {v : Value} {n : Nat} {xs : List Value} (h : w.ownsRow B e size v n xs) (hb : B' ≤ B) : w.ownsRow B' e size v n xs := by
  rcases h with ⟨h1, h2 | ⟨g, cap, cur, rfl, hb2, hg, hnc, hcm, hcs, htake⟩⟩
  · exact ⟨h1, .inl h2⟩
  · exact ⟨h1, .inr ⟨g, cap, cur, rfl, by omega, hg, hnc, hcm, hcs, htake⟩⟩
/-- to whom, and the texts that are told -/
abbrev Ot := Int × List ByteArray
def outC (p : Ot × Value) : List Value := [.int .i64 p.1.1, .int .i64 6, .string ⟨#[]⟩, .int .i64 0, p.2]
/-- outs in memory -/
def OutsAt (w : World) (B : Nat) (v : Value) (outs : List Ot) : Prop := ∃ vals : List Value, vals.length = outs.length ∧ w.ownsRow B 51 5 v outs.length ((outs.zip vals).flatMap outC) ∧
  ∀ (i : Nat) (o : Ot) (u : Value), outs[i]? = some o → vals[i]? = some u → w.ownsRow B 49 4 u o.2.length (o.2.flatMap bulkC)
theorem OutsAt.nil (w : World) (B : Nat) : OutsAt w B (.slice none 0 0) [] := ⟨[], rfl, World.ownsRow_nil _ _ _ _, fun i o u h => by simp at h⟩
theorem OutsAt.quiet {w w' : World} {B : Nat} {v : Value} {outs : List Ot} (h : OutsAt w B v outs) (hf : Fr (fun _ => False) w w') : OutsAt w' B v outs := by
  obtain ⟨vals, h1, h2, h3⟩ := h
  exact ⟨vals, h1, ow_frT h2 hf (fun _ _ h => h), fun i o u a b => ow_frT (h3 i o u a b) hf (fun _ _ h => h)⟩
/-- one out more -/
theorem OutsAt.snoc {w w1 w2 : World} {B : Nat} {v v' : Value} {outs : List Ot} (h : OutsAt w B v outs) (hf : Fr (fun _ => False) w w1) {s : Int} {ts : List ByteArray} {u : Value} (hu : w1.ownsRow B 49 4 u ts.length (ts.flatMap bulkC)) {xs : List Value}
    (hv : w.ownsRow B 51 5 v outs.length xs) (ho : w2.ownsRow B 51 5 v' (outs.length + 1) (xs ++ outC ((s, ts), u))) (hx : ∀ vals : List Value, vals.length = outs.length → w.ownsRow B 51 5 v outs.length ((outs.zip vals).flatMap outC) → (outs.zip vals).flatMap outC = xs) (hg : w1.grownBy w2 v.ownBlock) : OutsAt w2 B v' (outs ++ [(s, ts)]) := by
  obtain ⟨vals, h1, h2, h3⟩ := h
  have e := hx vals h1 h2
  have hv1 := ow_frT hv hf (fun _ _ h => h)
  have hgf := Fr.of_grownBy hg
  refine ⟨vals ++ [u], by simp [h1], ?_, fun i o z hi hz => ?_⟩
  · rw [List.zip_append h1.symm, List.flatMap_append, e, List.length_append]
    simpa using ho
  · by_cases hl : i < outs.length
    · rw [List.getElem?_append_left hl] at hi
      rw [List.getElem?_append_left (by omega)] at hz
      have h4 := ow_frT (h3 i o z hi hz) hf (fun _ _ h => h)
      exact ow_frT h4 hgf (rows_apart h4 hv1 (by decide))
    · rw [List.getElem?_append_right (by omega)] at hi hz
      have h0 : i - outs.length = 0 := by
        have := (List.getElem?_eq_some_iff.1 hi).1
        simp at this
        omega
      rw [h0] at hi
      rw [h1, h0] at hz
      cases hi
      cases hz
      exact ow_frT hu hgf (rows_apart hu hv1 (by decide))
/-- the sessions of a set, rising -/
theorem riseSetI {w : World} {L : List (ByteArray × Nat)} {m : Nat} {f : ByteArray → List Int} (h : TL kS eM kI w m L f) (k : ByteArray) (hl : (f k).length ≤ 4398046511104) : Calls Tryz.prog 34 #[lookV eM k L] w (RPriseI w (f k)) := by
  unfold lookV
  cases hk : lkp k L with
  | none =>
    refine (riseI_nil w).mono fun e w' ⟨v, he, hr, hb⟩ => ⟨v, he, ?_, hb⟩
    rw [h.no k hk]
    rw [show (sortI []).map (Value.int .i64) = [] from by simp [sortI]]
    exact hr
  | some b =>
    have h1 := riseI_any w b (unL (f k)) (h.sets _ (look_mem hk)) (by rw [unL_len]; omega)
    rw [unL_keys] at h1
    exact h1
/-- what is told -/
def tellL (fb : ByteArray → List Int) (ks : List Int) (fp : Int → List ByteArray) (k text : ByteArray) : List Ot :=
  (sortI (fb k)).map (fun s => (s, [⟨#[109, 101, 115, 115, 97, 103, 101]⟩, k, text])) ++ (sortI ks).flatMap fun s => ((sortS (fp s)).filter fun p => gm p k).map fun p => (s, [⟨#[112, 109, 101, 115, 115, 97, 103, 101]⟩, p, k, text])
theorem info_out : (Tryz.prog.info? 51).map (fun i => (i.zero, i.size, i.bytes)) = some (some (.agg #[.int .i64 0, .int .i64 0, .string ⟨#[]⟩, .int .i64 0, .slice none 0 0]), 5, 64) := by kernel_rfl
end Go.Proofs.YtleoeccjnchclaaGreatDoor
namespace Go.Proofs.YtleoeccjnchclaaGreatDoor
open Go.RowKit
def msgL (s : Int) (k text : ByteArray) : Ot := (s, [⟨#[109, 101, 115, 115, 97, 103, 101]⟩, k, text])
def pmsgL (s : Int) (p k text : ByteArray) : Ot := (s, [⟨#[112, 109, 101, 115, 115, 97, 103, 101]⟩, p, k, text])
theorem own_uniq {w : World} {B B' : Nat} {e : TypeId} {size : Nat} {v : Value} {n : Nat} {xs ys : List Value} (h : w.ownsRow B e size v n xs) (h' : w.ownsRow B' e size v n ys) : xs = ys := by
  rcases h.2 with ⟨rfl, rfl⟩ | ⟨g, cap, cur, rfl, hb, hg, hnc, hcm, hcs, htake⟩
  · have h1 := h.1
    have h2 := h'.1
    rw [Nat.zero_mul] at h1 h2
    rw [List.length_eq_zero_iff.1 h1, List.length_eq_zero_iff.1 h2]
  · rcases h'.2 with ⟨he, _⟩ | ⟨g', cap', cur', he, hb', hg', hnc', hcm', hcs', htake'⟩
    · cases he
    · cases he
      rw [hg] at hg'
      cases hg'
      rw [← htake, ← htake']
theorem OutsAt.base {w : World} {B B' : Nat} {v : Value} {outs : List Ot} (h : OutsAt w B v outs) (hb : B' ≤ B) : OutsAt w B' v outs := by
  obtain ⟨vals, h1, h2, h3⟩ := h
  exact ⟨vals, h1, ow_baseT h2 hb, fun i o u a b => ow_baseT (h3 i o u a b) hb⟩
/-- what a session is told by its patterns -/
def patL (fp : Int → List ByteArray) (k text : ByteArray) (s : Int) : List Ot := ((sortS (fp s)).filter fun p => gm p k).map fun p => pmsgL s p k text
theorem flat_tot {L : List (Int × Nat)} {K : List Int} {fp : Int → List ByteArray} (hp : K.Perm (L.map (·.1))) (k text : ByteArray) : (K.flatMap (patL fp k text)).length ≤ tot L fp := by
  have h1 : ∀ M : List Int, (M.flatMap (patL fp k text)).length ≤ (M.map fun s => (fp s).length).sum := by
    intro M
    induction M with
    | nil => exact Nat.le_refl _
    | cons s M ih =>
      rw [List.flatMap_cons, List.length_append, List.map_cons, List.sum_cons]
      have : (patL fp k text s).length ≤ (fp s).length := by
        unfold patL
        rw [List.length_map]
        have := List.length_filter_le (fun p => gm p k) (sortS (fp s))
        rw [sortS_len] at this
        exact this
      omega
  have h2 : (K.map fun s => (fp s).length).sum = tot L fp := by
    unfold tot
    rw [(hp.map fun s => (fp s).length).sum_nat, List.map_map]
    rfl
  rw [← h2]
  exact h1 K
theorem flat_take {α β : Type} (K : List α) (f : α → List β) (n : Nat) : ((K.take n).flatMap f).length ≤ (K.flatMap f).length := by
  conv => rhs; rw [← List.take_append_drop n K]
  rw [List.flatMap_append, List.length_append]
  omega
theorem part_le (P : List ByteArray) (p : ByteArray → Bool) (q : Nat) : ((P.take q).filter p).length ≤ (P.filter p).length := by
  conv => rhs; rw [← List.take_append_drop q P]
  rw [List.filter_append, List.length_append]
  omega
set_option maxRecDepth 100000 in
set_option maxHeartbeats 4000000 in
theorem tell_any {w : World} {B N h : Nat} {F : Nat → Prop} {X : HX} {fb : ByteArray → List Int} {fc fp : Int → List ByteArray} (H : HubX w B F N h X fb fc fp) (ht : Tie fb fc) (hN : N ≤ 2199023255488) (k text : ByteArray) (hk : k.size < 4611686018427387904) (hp : ∀ s, ∀ p ∈ fp s, p.size < 4611686018427387904) :
    Calls Tryz.prog 19 #[.pointer (some ⟨h, 0, none⟩), .string k, .string text] w fun e w' => ∃ v, e = .returned v ∧ OutsAt w' w.heap.size v (tellL fb (X.pt.map (·.1)) fp k text) ∧ Fr (fun _ => False) w w' := by
  have hk2 : k.size ≤ maxLen := by unfold maxLen; omega
  have c0 := H.cell0
  have l0 := H.lookB k hk2
  have htl := H.told k
  have HR := Lib.hid (riseSetI H.b k (by omega))
  obtain ⟨v0, hv0⟩ : ∃ v, lookV eM k X.by_ = v := ⟨_, rfl⟩
  rw [hv0] at l0 HR
  have HH := Lib.hid H
  have HPS := Lib.hid hp
  obtain ⟨i0, hi, hz0, hz1, hz2⟩ := info_parts info_out
  have HI := Lib.hid hi
  have HZ0 := Lib.hid hz0
  have HZ1 := Lib.hid hz1
  have HZ2 := Lib.hid hz2
  have HTI := Lib.hid ht
  clear H hv0 hp hi hz0 hz1 hz2 ht
  go_enter Tryz.func19, Tryz.ntmps19
  go_wp2_with fail
  refine HR.out.mono ?_
  rintro e w1 ⟨vs, rfl, hr, hb⟩
  obtain ⟨sa, sc, rfl⟩ := ow_sliceN hr
  have hq1 : Fr (fun _ => False) w w1 := (Fr.of_below hb).mono fun _ hi hk => absurd hk (by omega)
  obtain ⟨S, hS⟩ : ∃ S, sortI (fb k) = S := ⟨_, rfl⟩
  have hSl : S.length = (fb k).length := by rw [← hS]; exact sortI_len _
  rw [hS, ← hSl] at hr
  rw [← hSl]
  rw [← hSl] at htl
  have HRS := Lib.hid hr
  have HQ1 := Lib.hid hq1
  have HSS := Lib.hid hS
  have hs1 := hq1.size
  clear hr hb hS hSl hq1
  go_wp2_with fail
  go_loopw [7, 24] (fun v i wr => ∃ j : Nat, i = .int .i64 j ∧ j ≤ S.length ∧ Hid (OutsAt wr w1.heap.size v ((S.take j).map fun s => msgL s k text)) ∧ Hid (Fr (fun _ => False) w1 wr)) (fun _ i _ => S.length - (intOf i).toNat)
  case atStart => exact ⟨0, rfl, by omega, OutsAt.nil _ _, Fr.refl _ _⟩
  case round =>
    obtain ⟨j, rfl, hj, HO, HF⟩ := hrel
    obtain ⟨vo, rfl⟩ : ∃ v, v = u7 := ⟨_, rfl⟩
    obtain ⟨wo, rfl⟩ : ∃ wo, wo = wr := ⟨_, rfl⟩
    by_cases hlt : j < S.length
    · have hrs := RdC.of_owns (ow_frT HRS.out HF.out (fun _ _ h => h))
      obtain ⟨g, off, e9, hc⟩ := hrs.at (by rw [List.length_map]; omega)
      cases e9
      obtain ⟨x, hx⟩ : ∃ x, S[j] = x := ⟨_, rfl⟩
      have ct := hc j (.int .i64 x) (by rw [List.getElem?_map, List.getElem?_eq_getElem hlt, hx]; rfl)
      have hts : (S.take (j + 1)).map (fun s => msgL s k text) = (S.take j).map (fun s => msgL s k text) ++ [msgL x k text] := by rw [List.take_succ_eq_append_getElem hlt, hx, List.map_append]; rfl
      have HTS := Lib.hid hts
      have hjl : ((S.take j).map fun s => msgL s k text).length = j := by rw [List.length_map, List.length_take]; omega
      obtain ⟨vals, q1, q2, q3⟩ := HO.out
      rw [hjl] at q1 q2
      obtain ⟨oa, oc, rfl⟩ := ow_sliceN q2
      have HJL := Lib.hid hjl
      have HQ2 := Lib.hid q2
      have hB9 : w1.heap.size ≤ wo.heap.size := HF.out.size
      have HBU := Lib.hid (bulks_any (wo.alloc (.cells #[.string ⟨#[109, 101, 115, 115, 97, 103, 101]⟩, .string k, .string text] 9)) (.slice (some ⟨wo.heap.size, 0, none⟩) 3 3) [⟨#[109, 101, 115, 115, 97, 103, 101]⟩, k, text] (RdC.of_owns (World.ownsRow_lit (base := 0) (e := 9) (size := 1) wo #[.string ⟨#[109, 101, 115, 115, 97, 103, 101]⟩, .string k, .string text] 3 (Nat.zero_le _) (by decide) rfl)) (by simp))
      have b0 : (0 : Int) ≤ (j : Int) := by omega
      have b1 : (j : Int) < (S.length : Int) := by omega
      clear hrs hc hx hts hjl q1 q2 q3
      go_wp2_with fail
      refine HBU.out.mono ?_
      rintro e w7 ⟨u, rfl, hu, hf7⟩
      obtain ⟨ua, uc, rfl⟩ := ow_sliceN hu
      have hf07 : Fr (fun _ => False) wo w7 := (Fr.alloc (fun _ => False) wo _).trans hf7 (fun _ h _ => h)
      have HU := Lib.hid (ow_baseT hu (show w1.heap.size ≤ _ by rw [World.size_alloc]; omega))
      have HF7 := Lib.hid hf07
      have hrow7 := ow_frT HQ2.out hf07 (fun _ _ h => h)
      have HR7 := Lib.hid hrow7
      have hs7 : w1.heap.size ≤ w7.heap.size := Nat.le_trans hB9 hf07.size
      clear hu hf7 hf07 hrow7
      go_wp2_with (at_builtin; refine wpl_append rfl (.tmp 28) (.tmp 35) 44 rfl w1.heap.size 51 i0 (.agg #[.int .i64 0, .int .i64 0, .string ⟨#[]⟩, .int .i64 0, .slice none 0 0]) 5 64 Tryz.underlying44 HI.out HZ0.out HZ1.out HZ2.out rfl (by decide) (.slice oa j oc) j _ rfl (HR7.out.alloc _) _ 1 [.int .i64 x, .int .i64 6, .string ⟨#[]⟩, .int .i64 0, .slice ua 3 uc] rfl (RdC.of_owns (World.ownsRow_lit (base := 0) (e := 51) (size := 5) w7 #[.int .i64 x, .int .i64 6, .string ⟨#[]⟩, .int .i64 0, .slice ua 3 uc] 1 (Nat.zero_le _) (by decide) rfl)) (by simp [Value.oneCell']) (by unfold maxLen; omega) (by omega) (by rw [World.size_alloc]; omega) ?_; intro v8 w8 hown hgrow; have HO8 := Lib.hid hown; have HG8 := Lib.hid hgrow; clear hown hgrow)
      have HO9 : Hid (OutsAt w8 w1.heap.size v8 ((S.take (j + 1)).map fun s => msgL s k text)) := by
        show OutsAt _ _ _ _
        rw [HTS.out]
        refine HO.out.snoc (w1 := w7.alloc (.cells #[.int .i64 x, .int .i64 6, .string ⟨#[]⟩, .int .i64 0, .slice ua 3 uc] 51)) (HF7.out.thenAlloc _) (u := .slice ua 3 uc) (HU.out.alloc _) (by rw [HJL.out]; exact HQ2.out) (by rw [HJL.out]; exact HO8.out) (fun vals h1 h2 => by rw [HJL.out] at h2; exact own_uniq h2 HQ2.out) HG8.out
      have HF9 : Hid (Fr (fun _ => False) w1 w8) := ((HF.out.wide HF7.out (fun _ h => h.elim)).thenAlloc _).wide (Fr.of_grownBy HG8.out) (fun i hi => .inr (ow_lt HR7.out i hi).1)
      go_roundw
      case rel => exact ⟨j + 1, by go_num, by omega, HO9, HF9⟩
      case measure => simp [intOf]; omega
    · obtain rfl : j = S.length := by omega
      have hq0 : Fr (fun _ => False) w wo := HQ1.out.wide HF.out (fun _ h => h.elim)
      have Hq := HH.out.quiet hq0
      have c2 := Hq.cell2
      have hlens := Hq.lens
      have HRN := Lib.hid (riseN_any wo X.mp X.pt Hq.p.top (by omega))
      obtain ⟨K, hK⟩ : ∃ K, sortI (X.pt.map (·.1)) = K := ⟨_, rfl⟩
      have hKp : K.Perm (X.pt.map (·.1)) := by rw [← hK]; exact sortI_perm _
      have hKl : (X.pt.map (·.1)).length = K.length := hKp.length_eq.symm
      have HKK := Lib.hid hK
      have HKP := Lib.hid hKp
      have HKO : Hid (∀ s ∈ K, kI.ok s) := fun s hs => by
        obtain ⟨x, hx, rfl⟩ := List.mem_map.1 (hKp.mem_iff.1 hs)
        exact HH.out.p.ok x hx
      have HKB : Hid (K.length ≤ N) := by show _ ≤ _; rw [← hKl, List.length_map]; omega
      rw [List.take_length] at HO
      have HO1 := HO
      clear Hq hq0 hK hKp
      go_wp2_with fail
      refine HRN.out.mono ?_
      rintro e w2 ⟨vk, rfl, hr2, hb2⟩
      rw [HKK.out] at hr2
      rw [hKl] at hr2
      obtain ⟨ka, kc, rfl⟩ := ow_sliceN hr2
      have hq2 : Fr (fun _ => False) wo w2 := (Fr.of_below hb2).mono fun _ hi hk => absurd hk (by omega)
      have HRK := Lib.hid hr2
      have HO2 := Lib.hid (HO1.out.quiet hq2)
      have HF2 := Lib.hid (HF.out.wide hq2 (fun _ h => h.elim))
      have hnk := HKB.out
      clear hr2 hb2 hq2 HO1 hKl hlens
      go_wp2_with fail
      go_loopw [7, 44] (fun v i wr => ∃ j : Nat, i = .int .i64 j ∧ j ≤ K.length ∧ Hid (OutsAt wr w1.heap.size v (S.map (fun s => msgL s k text) ++ (K.take j).flatMap (patL fp k text))) ∧ Hid (Fr (fun _ => False) w1 wr) ∧ Hid (wr.ownsRow wo.heap.size 3 1 (.slice ka K.length kc) K.length (K.map (.int .i64)))) (fun _ i _ => K.length - (intOf i).toNat)
      case atStart => exact ⟨0, rfl, by omega, (by show OutsAt _ _ _ _; rw [List.take_zero, List.flatMap_nil, List.append_nil]; exact HO2.out), HF2, HRK⟩
      case round =>
        obtain ⟨j2, rfl, hj2, HO3, HF3, HG3⟩ := hrel
        obtain ⟨vp, rfl⟩ : ∃ v, v = u7 := ⟨_, rfl⟩
        obtain ⟨wp, rfl⟩ : ∃ wo, wo = wr := ⟨_, rfl⟩
        by_cases hlt2 : j2 < K.length
        · obtain ⟨sx, hsx⟩ : ∃ x, K[j2] = x := ⟨_, rfl⟩
          have hrk := RdC.of_owns HG3.out
          obtain ⟨g, off, e9, hc⟩ := hrk.at (by rw [List.length_map]; omega)
          cases e9
          have ck := hc j2 (.int .i64 sx) (by rw [List.getElem?_map, List.getElem?_eq_getElem hlt2, hsx]; rfl)
          have hko : kI.ok sx := HKO.out sx (by rw [← hsx]; exact List.getElem_mem hlt2)
          have hq0 : Fr (fun _ => False) w wp := HQ1.out.wide HF3.out (fun _ h => h.elim)
          have HPT := Lib.hid (hubPatterns_any (w := wp) (B := B) (N := N) (h := h) (F := F) (fc := fc) (fp := fp) ⟨X, fb, HH.out.quiet hq0, HTI.out⟩ sx hko)
          obtain ⟨P, hP⟩ : ∃ P, sortS (fp sx) = P := ⟨_, rfl⟩
          have hPl : (fp sx).length = P.length := by rw [← hP, sortS_len]
          have HPM : Hid (∀ y ∈ P, y.size < 4611686018427387904) := fun y hy => HPS.out sx y (by rw [← hP] at hy; exact (sortS_perm _).mem_iff.1 hy)
          have hPB : P.length ≤ 1024 := by have := HH.out.few sx; omega
          obtain ⟨T, hT⟩ : ∃ T, S.map (fun s => msgL s k text) ++ (K.take j2).flatMap (patL fp k text) = T := ⟨_, rfl⟩
          have hnext : S.map (fun s => msgL s k text) ++ (K.take (j2 + 1)).flatMap (patL fp k text) = T ++ (P.filter fun p => gm p k).map fun p => pmsgL sx p k text := by
            rw [List.take_succ_eq_append_getElem hlt2, hsx, List.flatMap_append, List.flatMap_singleton, ← List.append_assoc, hT]
            unfold patL
            rw [hP]
          have hbnd : ∀ q, (T ++ ((P.take q).filter fun p => gm p k).map fun p => pmsgL sx p k text).length ≤ N := fun q => by
            have h1 := part_le P (fun p => gm p k) q
            have h2 := congrArg List.length hnext
            have h3 := flat_take K (patL fp k text) (j2 + 1)
            have h4 := flat_tot (fp := fp) HKP.out k text
            have htl2 := htl
            rw [List.length_append, List.length_append, List.length_map, List.length_map] at h2
            rw [List.length_append, List.length_map]
            omega
          have HNX := Lib.hid hnext
          have HBD := Lib.hid hbnd
          have HPP := Lib.hid hP
          have HO4 := Lib.hid HO3.out
          rw [hT] at HO4
          clear hrk hc hsx hko hq0 hP hT hnext hbnd HO3
          go_wp2_with fail
          refine HPT.out.mono ?_
          rintro e w3 ⟨vq, rfl, hr3, hb3⟩
          rw [HPP.out, hPl] at hr3
          obtain ⟨pa, pc, rfl⟩ := ow_sliceN hr3
          have hq3 : Fr (fun _ => False) wp w3 := (Fr.of_below hb3).mono fun _ hi hk => absurd hk (by omega)
          have HRP := Lib.hid hr3
          have HO5 := Lib.hid (HO4.out.quiet hq3)
          have HF5 := Lib.hid (HF3.out.wide hq3 (fun _ h => h.elim))
          have HG5 := Lib.hid (ow_frT HG3.out hq3 (fun _ _ h => h))
          clear hr3 hb3 hq3
          go_wp2_with fail
          go_loopw [7, 52] (fun v i wr => ∃ q : Nat, i = .int .i64 q ∧ q ≤ P.length ∧ Hid (OutsAt wr w1.heap.size v (T ++ ((P.take q).filter fun p => gm p k).map fun p => pmsgL sx p k text)) ∧ Hid (Fr (fun _ => False) w1 wr) ∧ Hid (wr.ownsRow wo.heap.size 3 1 (.slice (some ⟨g, off, none⟩) K.length kc) K.length (K.map (.int .i64))) ∧ Hid (wr.ownsRow wp.heap.size 9 1 (.slice pa P.length pc) P.length (P.map .string))) (fun _ i _ => P.length - (intOf i).toNat)
          case atStart => exact ⟨0, rfl, by omega, (by show OutsAt _ _ _ _; rw [List.take_zero, List.filter_nil, List.map_nil, List.append_nil]; exact HO5.out), HF5, HG5, HRP⟩
          case round =>
            obtain ⟨q, rfl, hq, HO6, HF6, HG6, HR6⟩ := hrel
            obtain ⟨vz, rfl⟩ : ∃ v, v = u7 := ⟨_, rfl⟩
            obtain ⟨wz, rfl⟩ : ∃ wo, wo = wr := ⟨_, rfl⟩
            by_cases hlt3 : q < P.length
            · obtain ⟨px, hpx⟩ : ∃ x, P[q] = x := ⟨_, rfl⟩
              obtain ⟨g5, off5, e9, cp⟩ := texts_at (RdC.of_owns HR6.out) q hlt3
              cases e9
              rw [hpx] at cp
              have hpz : px.size < 4611686018427387904 := HPM.out px (by rw [← hpx]; exact List.getElem_mem hlt3)
              have HMA := Lib.hid (match_any px k wz hpz hk)
              have hn := HBD.out q
              obtain ⟨n, hn2⟩ : ∃ n, (T ++ ((P.take q).filter fun p => gm p k).map fun p => pmsgL sx p k text).length = n := ⟨_, rfl⟩
              rw [hn2] at hn
              have HN2 := Lib.hid hn2
              have hts : ∀ b, gm px k = b → (T ++ ((P.take (q + 1)).filter fun p => gm p k).map fun p => pmsgL sx p k text) = (T ++ ((P.take q).filter fun p => gm p k).map fun p => pmsgL sx p k text) ++ (if b then [pmsgL sx px k text] else []) := fun b hb => by
                rw [List.take_succ_eq_append_getElem hlt3, hpx, List.filter_append, List.map_append, ← List.append_assoc]
                congr 1
                cases b <;> simp [hb]
              have b2 : (0 : Int) ≤ (q : Int) := by omega
              have b3 : (q : Int) < (P.length : Int) := by omega
              cases hg : gm px k with
              | false =>
                have HTS := Lib.hid (hts false hg)
                rw [hg] at HMA
                clear hts hg hpx hn2
                go_wp2_with fail
                refine HMA.out.mono ?_
                rintro e w4 ⟨rfl, m4, hm4⟩
                have hq4 : Fr (fun _ => False) wz w4 := by rw [hm4]; exact Fr.drewN (fun _ => False) wz m4
                have HO7 : Hid (OutsAt w4 w1.heap.size vz (T ++ ((P.take (q + 1)).filter fun p => gm p k).map fun p => pmsgL sx p k text)) := by
                  show OutsAt _ _ _ _
                  rw [HTS.out, if_neg (by decide), List.append_nil]
                  exact HO6.out.quiet hq4
                have HF7 := Lib.hid (HF6.out.wide hq4 (fun _ h => h.elim))
                have HG7 := Lib.hid (ow_frT HG6.out hq4 (fun _ _ h => h))
                have HR7 := Lib.hid (ow_frT HR6.out hq4 (fun _ _ h => h))
                clear hm4 hq4
                go_wp2_with fail
                go_roundw
                case rel => exact ⟨q + 1, by go_num, by omega, HO7, HF7, HG7, HR7⟩
                case measure => simp [intOf]; omega
              | true =>
                have HTS := Lib.hid (hts true hg)
                rw [hg] at HMA
                obtain ⟨vals, q1, q2, q3⟩ := HO6.out
                rw [hn2] at q1 q2
                obtain ⟨oa, oc, rfl⟩ := ow_sliceN q2
                have HQ2 := Lib.hid q2
                have hB9 : w1.heap.size ≤ wz.heap.size := HF6.out.size
                clear hts hg hpx hn2 q1 q2 q3
                go_wp2_with fail
                refine HMA.out.mono ?_
                rintro e w4 ⟨rfl, m4, hm4⟩
                have hq4 : Fr (fun _ => False) wz w4 := by rw [hm4]; exact Fr.drewN (fun _ => False) wz m4
                have HQ4 := Lib.hid hq4
                have hs4 := hq4.size
                have HBU := Lib.hid (bulks_any (w4.alloc (.cells #[.string ⟨#[112, 109, 101, 115, 115, 97, 103, 101]⟩, .string px, .string k, .string text] 9)) (.slice (some ⟨w4.heap.size, 0, none⟩) 4 4) [⟨#[112, 109, 101, 115, 115, 97, 103, 101]⟩, px, k, text] (RdC.of_owns (World.ownsRow_lit (base := 0) (e := 9) (size := 1) w4 #[.string ⟨#[112, 109, 101, 115, 115, 97, 103, 101]⟩, .string px, .string k, .string text] 4 (Nat.zero_le _) (by decide) rfl)) (by simp))
                clear hm4 hq4
                go_wp2_with fail
                refine HBU.out.mono ?_
                rintro e w7 ⟨u, rfl, hu, hf7⟩
                obtain ⟨ua, uc, rfl⟩ := ow_sliceN hu
                have hf07 : Fr (fun _ => False) wz w7 := (HQ4.out.trans (Fr.alloc (fun _ => False) w4 _) (fun _ h _ => h)).trans hf7 (fun _ h _ => h)
                have HU := Lib.hid (ow_baseT hu (show w1.heap.size ≤ _ by rw [World.size_alloc]; omega))
                have HF7 := Lib.hid hf07
                have hrow7 := ow_frT HQ2.out hf07 (fun _ _ h => h)
                have HR7 := Lib.hid hrow7
                have hs7 : w1.heap.size ≤ w7.heap.size := Nat.le_trans hB9 hf07.size
                clear hu hf7 hf07 hrow7
                go_wp2_with (at_builtin; refine wpl_append rfl (.tmp 59) (.tmp 67) 44 rfl w1.heap.size 51 i0 (.agg #[.int .i64 0, .int .i64 0, .string ⟨#[]⟩, .int .i64 0, .slice none 0 0]) 5 64 Tryz.underlying44 HI.out HZ0.out HZ1.out HZ2.out rfl (by decide) (.slice oa n oc) n _ rfl (HR7.out.alloc _) _ 1 [.int .i64 sx, .int .i64 6, .string ⟨#[]⟩, .int .i64 0, .slice ua 4 uc] rfl (RdC.of_owns (World.ownsRow_lit (base := 0) (e := 51) (size := 5) w7 #[.int .i64 sx, .int .i64 6, .string ⟨#[]⟩, .int .i64 0, .slice ua 4 uc] 1 (Nat.zero_le _) (by decide) rfl)) (by simp [Value.oneCell']) (by unfold maxLen; omega) (by omega) (by rw [World.size_alloc]; omega) ?_; intro v8 w8 hown hgrow; have HO8 := Lib.hid hown; have HG8 := Lib.hid hgrow; clear hown hgrow)
                have HO9 : Hid (OutsAt w8 w1.heap.size v8 (T ++ ((P.take (q + 1)).filter fun p => gm p k).map fun p => pmsgL sx p k text)) := by
                  show OutsAt _ _ _ _
                  rw [HTS.out]
                  simp only [if_true]
                  refine HO6.out.snoc (w1 := w7.alloc (.cells #[.int .i64 sx, .int .i64 6, .string ⟨#[]⟩, .int .i64 0, .slice ua 4 uc] 51)) (HF7.out.thenAlloc _) (u := .slice ua 4 uc) (HU.out.alloc _) (by rw [HN2.out]; exact HQ2.out) (by rw [HN2.out]; exact HO8.out) (fun vals h1 h2 => by rw [HN2.out] at h2; exact own_uniq h2 HQ2.out) HG8.out
                have hlow := ow_lt HR7.out
                have HRB := Lib.hid (ow_lt HR7.out)
                have HF9 : Hid (Fr (fun _ => False) w1 w8) := ((HF6.out.wide HF7.out (fun _ h => h.elim)).thenAlloc _).wide (Fr.of_grownBy HG8.out) (fun i hi => .inr (hlow i hi).1)
                have hz8 := HR7.out.alloc (.cells #[.int .i64 sx, .int .i64 6, .string ⟨#[]⟩, .int .i64 0, .slice ua 4 uc] 51)
                have hg8 := (ow_frT HG6.out HF7.out (fun _ _ h => h)).alloc (.cells #[.int .i64 sx, .int .i64 6, .string ⟨#[]⟩, .int .i64 0, .slice ua 4 uc] 51)
                have hr8 := (ow_frT HR6.out HF7.out (fun _ _ h => h)).alloc (.cells #[.int .i64 sx, .int .i64 6, .string ⟨#[]⟩, .int .i64 0, .slice ua 4 uc] 51)
                have HG9 := Lib.hid (ow_frT hg8 (Fr.of_grownBy HG8.out) (rows_apart hg8 hz8 (by decide)))
                have HR9 := Lib.hid (ow_frT hr8 (Fr.of_grownBy HG8.out) (rows_apart hr8 hz8 (by decide)))
                clear hz8 hg8 hr8
                go_roundw
                case rel => exact ⟨q + 1, by go_num, by omega, HO9, HF9, HG9, HR9⟩
                case measure => simp [intOf]; omega
            · obtain rfl : q = P.length := by omega
              have HO8 : Hid (OutsAt wz w1.heap.size vz (S.map (fun s => msgL s k text) ++ (K.take (j2 + 1)).flatMap (patL fp k text))) := by
                have h9 := HO6.out
                rw [List.take_length] at h9
                show OutsAt _ _ _ _
                rw [HNX.out]
                exact h9
              go_wp2_with fail
              go_roundw
              case rel => exact ⟨j2 + 1, by go_num, by omega, HO8, HF6, HG6⟩
              case measure => simp [intOf]; omega
        · obtain rfl : j2 = K.length := by omega
          have HFF : Hid (Fr (fun _ => False) w wp) := HQ1.out.wide HF3.out (fun _ h => h.elim)
          have HOO : Hid (OutsAt wp w.heap.size vp (tellL fb (X.pt.map (·.1)) fp k text)) := by
            have h9 := HO3.out
            rw [List.take_length] at h9
            show OutsAt _ _ _ _
            unfold tellL
            rw [HSS.out, HKK.out]
            exact h9.base hs1
          go_wp2_with fail
          go_ret
          exact ⟨vp, rfl, HOO.out, HFF.out⟩
end Go.Proofs.YtleoeccjnchclaaGreatDoor
namespace Go.Proofs.YtleoeccjnchclaaGreatDoor
open Go.RowKit
/-- what a step makes of the two rows -/
def doesH (do_ s : Int) (k : ByteArray) (f : (Int → List ByteArray) × (Int → List ByteArray)) : (Int → List ByteArray) × (Int → List ByteArray) :=
  if do_ = 0 ∨ do_ = 1 then ((lsRes f.1 f.2 s k).2.2, f.2) else if do_ = 2 then (f.1, (lsRes f.2 f.1 s k).2.2) else if do_ = 3 then (delF f.1 s k, f.2) else if do_ = 4 then (f.1, delF f.2 s k) else if do_ = 5 then (cutF f.1 s, cutF f.2 s) else f
theorem HubT.upN {w : World} {B N N' h : Nat} {F : Nat → Prop} {fc fp : Int → List ByteArray} (H : HubT w B F N h fc fp) (hN : N ≤ N') : HubT w B F N' h fc fp := by
  obtain ⟨X, fb, H, ht⟩ := H
  exact ⟨X, fb, H.upN hN, ht⟩
theorem HubT.quiet {w w' : World} {B N h : Nat} {F : Nat → Prop} {fc fp : Int → List ByteArray} (H : HubT w B F N h fc fp) (hf : Fr (fun _ => False) w w') : HubT w' B F N h fc fp := by
  obtain ⟨X, fb, H, ht⟩ := H
  exact ⟨X, fb, H.quiet hf, ht⟩
theorem HubT.lt {w : World} {B N h : Nat} {F : Nat → Prop} {fc fp : Int → List ByteArray} (H : HubT w B F N h fc fp) : ∀ k, F k → B ≤ k ∧ k < w.heap.size := by
  obtain ⟨X, fb, H, ht⟩ := H
  exact H.lt
theorem HubT.wide {w : World} {B N h : Nat} {F F' : Nat → Prop} {fc fp : Int → List ByteArray} (H : HubT w B F N h fc fp) (hF : ∀ k, F k → F' k) (hl : ∀ k, F' k → B ≤ k ∧ k < w.heap.size) : HubT w B F' N h fc fp := by
  obtain ⟨X, fb, H, ht⟩ := H
  exact ⟨X, fb, H.wide hF hl, ht⟩
/-- what a call leaves, seen from ahead of a quiet step -/
theorem HubT.pre {w w1 w' : World} {B N h : Nat} {F : Nat → Prop} {fc fp : Int → List ByteArray} (hl : ∀ k, F k → B ≤ k ∧ k < w.heap.size) (hB : B ≤ w.heap.size) (hq : Fr (fun _ => False) w w1) (hf : Fr F w1 w') (H : HubT w' B (Grew F w1 w') N h fc fp) : Fr F w w' ∧ HubT w' B (Grew F w w') N h fc fp :=
  ⟨(hq.mono (T := F) (fun _ h _ => h.elim)).trans hf (fun _ h _ => h), H.wide (fun i hi => hi.imp id (fun q => ⟨Nat.le_trans hq.size q.1, q.2⟩)) (grew_lt hl hB (Nat.le_trans hq.size hf.size))⟩
end Go.Proofs.YtleoeccjnchclaaGreatDoor
namespace Go.Proofs.YtleoeccjnchclaaGreatDoor
open Go.RowKit
theorem addF_ne (f : Int → List ByteArray) {s s' : Int} (k : ByteArray) (h : s' ≠ s) : addF f s k s' = f s' := by unfold addF; rw [if_neg h]
theorem delF_ne (f : Int → List ByteArray) {s s' : Int} (k : ByteArray) (h : s' ≠ s) : delF f s k s' = f s' := by unfold delF; rw [if_neg h]
theorem cutF_ne (f : Int → List ByteArray) {s s' : Int} (h : s' ≠ s) : cutF f s s' = f s' := by unfold cutF; rw [if_neg h]
theorem cutF_eq (f : Int → List ByteArray) (s : Int) : cutF f s s = [] := by unfold cutF; rw [if_pos rfl]
theorem ls_other (fx fy : Int → List ByteArray) {s s' : Int} (k : ByteArray) (h : s' ≠ s) : (lsRes fx fy s k).2.2 s' = fx s' := by
  unfold lsRes
  split
  · rfl
  · split
    · rfl
    · split
      · rfl
      · exact addF_ne fx k h
theorem ls_same {fx fy gx gy : Int → List ByteArray} {s : Int} (k : ByteArray) (hx : fx s = gx s) (hy : fy s = gy s) : (lsRes fx fy s k).2.2 s = (lsRes gx gy s k).2.2 s := by
  unfold lsRes
  rw [hx, hy]
  split
  · exact hx
  · split
    · exact hx
    · split
      · exact hx
      · exact (addF_same fx s k).trans ((by rw [hx] : fx s ++ [k] = gx s ++ [k]).trans (addF_same gx s k).symm)
theorem does_other (do_ : Int) {s s' : Int} (k : ByteArray) (f : (Int → List ByteArray) × (Int → List ByteArray)) (h : s' ≠ s) : (doesH do_ s k f).1 s' = f.1 s' ∧ (doesH do_ s k f).2 s' = f.2 s' := by
  unfold doesH
  split
  · exact ⟨ls_other _ _ k h, rfl⟩
  · split
    · exact ⟨rfl, ls_other _ _ k h⟩
    · split
      · exact ⟨delF_ne f.1 k h, rfl⟩
      · split
        · exact ⟨rfl, delF_ne f.2 k h⟩
        · split
          · exact ⟨cutF_ne f.1 h, cutF_ne f.2 h⟩
          · exact ⟨rfl, rfl⟩
theorem does_same (do_ s : Int) (k : ByteArray) {f g : (Int → List ByteArray) × (Int → List ByteArray)} (h1 : f.1 s = g.1 s) (h2 : f.2 s = g.2 s) : (doesH do_ s k f).1 s = (doesH do_ s k g).1 s ∧ (doesH do_ s k f).2 s = (doesH do_ s k g).2 s := by
  unfold doesH
  split
  · exact ⟨ls_same k h1 h2, h2⟩
  · split
    · exact ⟨h1, ls_same k h2 h1⟩
    · split
      · exact ⟨(delF_same f.1 s k).trans ((congrArg (List.filter fun y => decide (y ≠ k)) h1).trans (delF_same g.1 s k).symm), h2⟩
      · split
        · exact ⟨h1, (delF_same f.2 s k).trans ((congrArg (List.filter fun y => decide (y ≠ k)) h2).trans (delF_same g.2 s k).symm)⟩
        · split
          · exact ⟨(cutF_eq f.1 s).trans (cutF_eq g.1 s).symm, (cutF_eq f.2 s).trans (cutF_eq g.2 s).symm⟩
          · exact ⟨h1, h2⟩
/-- the names in the rows are those that were given -/
theorem does_mem (do_ s : Int) (k : ByteArray) (f : (Int → List ByteArray) × (Int → List ByteArray)) (p : ByteArray → Prop) (hk : p k) (h1 : ∀ s, ∀ x ∈ f.1 s, p x) (h2 : ∀ s, ∀ x ∈ f.2 s, p x) : (∀ s', ∀ x ∈ (doesH do_ s k f).1 s', p x) ∧ (∀ s', ∀ x ∈ (doesH do_ s k f).2 s', p x) := by
  have ha : ∀ (fx fy : Int → List ByteArray), (∀ s, ∀ x ∈ fx s, p x) → ∀ s', ∀ x ∈ (lsRes fx fy s k).2.2 s', p x := fun fx fy h s' x hx => by
    unfold lsRes at hx
    split at hx
    · exact h s' x hx
    · split at hx
      · exact h s' x hx
      · split at hx
        · exact h s' x hx
        · have hx : x ∈ addF fx s k s' := hx
          unfold addF at hx
          split at hx
          · rcases List.mem_append.1 hx with hx | hx
            · exact h s' x hx
            · rw [List.mem_singleton.1 hx]; exact hk
          · exact h s' x hx
  have hd : ∀ (fx : Int → List ByteArray), (∀ s, ∀ x ∈ fx s, p x) → ∀ s', ∀ x ∈ delF fx s k s', p x := fun fx h s' x hx => by
    unfold delF at hx
    split at hx
    · exact h s' x (List.mem_filter.1 hx).1
    · exact h s' x hx
  have hc : ∀ (fx : Int → List ByteArray), (∀ s, ∀ x ∈ fx s, p x) → ∀ s', ∀ x ∈ cutF fx s s', p x := fun fx h s' x hx => by
    unfold cutF at hx
    split at hx
    · cases hx
    · exact h s' x hx
  unfold doesH
  split
  · exact ⟨ha _ _ h1, h2⟩
  · split
    · exact ⟨h1, ha _ _ h2⟩
    · split
      · exact ⟨hd _ h1, h2⟩
      · split
        · exact ⟨h1, hd _ h2⟩
        · split
          · exact ⟨hc _ h1, hc _ h2⟩
          · exact ⟨h1, h2⟩
end Go.Proofs.YtleoeccjnchclaaGreatDoor
namespace Go.Proofs.YtleoeccjnchclaaGreatDoor
open Go.RowKit
theorem flat_filter {α : Type} (f : Int → List α) (K : List Int) : (K.filter fun s => !(f s).isEmpty).flatMap f = K.flatMap f := by
  induction K with
  | nil => rfl
  | cons s K ih =>
    rw [List.filter_cons]
    by_cases h : (f s).isEmpty = true
    · rw [if_neg (by rw [h]; decide), ih, List.flatMap_cons, List.isEmpty_iff.1 h, List.nil_append]
    · rw [if_pos (by simpa using h), List.flatMap_cons, List.flatMap_cons, ih]
theorem flat_sorted {α : Type} {f : Int → List α} {K Z : List Int} (hK : K.Pairwise (· < ·)) (hZ : Z.Pairwise (· < ·)) (h : ∀ s, f s ≠ [] → (s ∈ K ↔ s ∈ Z)) : K.flatMap f = Z.flatMap f := by
  rw [← flat_filter f K, ← flat_filter f Z]
  have nk : K.Nodup := hK.imp (fun h => by omega)
  have nz : Z.Nodup := hZ.imp (fun h => by omega)
  have e : (K.filter fun s => !(f s).isEmpty) = Z.filter fun s => !(f s).isEmpty := by
    refine ltI_one ((List.perm_ext_iff_of_nodup (List.filter_sublist.nodup nk) (List.filter_sublist.nodup nz)).2 fun s => ?_) (hK.sublist List.filter_sublist) (hZ.sublist List.filter_sublist)
    rw [List.mem_filter, List.mem_filter]
    by_cases hs : f s = []
    · simp [hs]
    · have := h s hs
      simp [hs, this]
  rw [e]
/-- what is told, by any rising list that holds all who listen by patterns -/
theorem tell_by {fb : ByteArray → List Int} {ks Z : List Int} {fp : Int → List ByteArray} (hn : ks.Nodup) (hZ : Z.Pairwise (· < ·)) (h1 : ∀ s, fp s ≠ [] → s ∈ ks) (h2 : ∀ s, fp s ≠ [] → s ∈ Z) (k text : ByteArray) :
    tellL fb ks fp k text = (sortI (fb k)).map (fun s => msgL s k text) ++ Z.flatMap (patL fp k text) := by
  have e : (sortI ks).flatMap (patL fp k text) = Z.flatMap (patL fp k text) := flat_sorted (sortI_rises hn) hZ fun s hs => by
    have hne : fp s ≠ [] := fun e => hs (by unfold patL; rw [e]; simp [sortS])
    exact ⟨fun _ => h2 s hne, fun _ => (sortI_perm ks).mem_iff.2 (h1 s hne)⟩
  rw [← e]
  rfl
end Go.Proofs.YtleoeccjnchclaaGreatDoor
namespace Go.Proofs.YtleoeccjnchclaaGreatDoor
open Go.RowKit
/-- all names are short -/
def Sm (f : (Int → List ByteArray) × (Int → List ByteArray)) : Prop := (∀ s, ∀ x ∈ f.1 s, x.size ≤ 1024) ∧ ∀ s, ∀ x ∈ f.2 s, x.size ≤ 1024
theorem sm_none : Sm (fun _ => [], fun _ => []) := ⟨fun _ _ h => (by cases h), fun _ _ h => (by cases h)⟩
theorem does_small (do_ s : Int) (k : ByteArray) (f : (Int → List ByteArray) × (Int → List ByteArray)) (h : Sm f) : Sm (doesH do_ s k f) := by
  obtain ⟨h1, h2⟩ := h
  have ha : ∀ (fx fy : Int → List ByteArray), (∀ s, ∀ x ∈ fx s, x.size ≤ 1024) → ∀ s', ∀ x ∈ (lsRes fx fy s k).2.2 s', x.size ≤ 1024 := fun fx fy h s' x hx => by
    unfold lsRes at hx
    split at hx
    · exact h s' x hx
    · rename_i hk
      split at hx
      · exact h s' x hx
      · split at hx
        · exact h s' x hx
        · have hx : x ∈ addF fx s k s' := hx
          unfold addF at hx
          split at hx
          · rcases List.mem_append.1 hx with hx | hx
            · exact h s' x hx
            · rw [List.mem_singleton.1 hx]; omega
          · exact h s' x hx
  have hd : ∀ (fx : Int → List ByteArray), (∀ s, ∀ x ∈ fx s, x.size ≤ 1024) → ∀ s', ∀ x ∈ delF fx s k s', x.size ≤ 1024 := fun fx h s' x hx => by
    unfold delF at hx
    split at hx
    · exact h s' x (List.mem_filter.1 hx).1
    · exact h s' x hx
  have hc : ∀ (fx : Int → List ByteArray), (∀ s, ∀ x ∈ fx s, x.size ≤ 1024) → ∀ s', ∀ x ∈ cutF fx s s', x.size ≤ 1024 := fun fx h s' x hx => by
    unfold cutF at hx
    split at hx
    · cases hx
    · exact h s' x hx
  unfold doesH
  split
  · exact ⟨ha _ _ h1, h2⟩
  · split
    · exact ⟨h1, ha _ _ h2⟩
    · split
      · exact ⟨hd _ h1, h2⟩
      · split
        · exact ⟨h1, hd _ h2⟩
        · split
          · exact ⟨hc _ h1, hc _ h2⟩
          · exact ⟨h1, h2⟩
theorem del_len {l : List ByteArray} (hn : l.Nodup) (k : ByteArray) : (l.filter fun y => decide (y ≠ k)).length + (if k ∈ l then 1 else 0) = l.length := by
  induction l with
  | nil => simp
  | cons a l ih =>
    rw [List.nodup_cons] at hn
    have h1 := ih hn.2
    by_cases e : a = k
    · subst e
      rw [if_neg hn.1] at h1
      rw [List.filter_cons_of_neg (by simp), if_pos (List.mem_cons_self ..), List.length_cons]
      omega
    · rw [List.filter_cons_of_pos (by simpa using e), List.length_cons, List.length_cons]
      by_cases h2 : k ∈ l
      · rw [if_pos h2] at h1
        rw [if_pos (List.mem_cons_of_mem _ h2)]
        omega
      · rw [if_neg h2] at h1
        rw [if_neg (by rw [List.mem_cons]; rintro (h | h); exact e h.symm; exact h2 h)]
        omega
theorem mem_sortS (l : List ByteArray) (x : ByteArray) : x ∈ sortS l ↔ x ∈ l := (sortS_perm l).mem_iff
/-- a session that listens to nothing is told nothing -/
theorem tell_apart {fb : ByteArray → List Int} {fc fp : Int → List ByteArray} {ks : List Int} {s : Int} (ht : Tie fb fc) (hc : fc s = []) (hp : fp s = []) (k text : ByteArray) : ∀ o ∈ tellL fb ks fp k text, o.1 ≠ s := fun o ho e => by
  unfold tellL at ho
  rcases List.mem_append.1 ho with ho | ho
  · obtain ⟨x, hx, rfl⟩ := List.mem_map.1 ho
    have h1 := (ht k x).1 ((sortI_perm _).mem_iff.1 hx)
    have e : x = s := e
    rw [e, hc] at h1
    cases h1
  · obtain ⟨x, hx, ho⟩ := List.mem_flatMap.1 ho
    obtain ⟨p, hp2, rfl⟩ := List.mem_map.1 ho
    have h1 := (mem_sortS _ _).1 (List.mem_filter.1 hp2).1
    have e : x = s := e
    rw [e, hp] at h1
    cases h1
end Go.Proofs.YtleoeccjnchclaaGreatDoor
namespace Go.Proofs.YtleoeccjnchclaaGreatDoor
open Go.RowKit
theorem filter_one {l : List ByteArray} (hn : l.Nodup) (k : ByteArray) : (l.filter fun c => decide (c = k)) = if k ∈ l then [k] else [] := by
  induction l with
  | nil => simp
  | cons a l ih =>
    rw [List.nodup_cons] at hn
    have h1 := ih hn.2
    by_cases e : a = k
    · subst e
      rw [if_neg hn.1] at h1
      rw [List.filter_cons_of_pos (by simp), h1, if_pos (List.mem_cons_self ..)]
    · rw [List.filter_cons_of_neg (by simpa using e), h1]
      by_cases h2 : k ∈ l
      · rw [if_pos h2, if_pos (List.mem_cons_of_mem _ h2)]
      · rw [if_neg h2, if_neg (by rw [List.mem_cons]; rintro (h | h); exact e h.symm; exact h2 h)]
theorem sortS_nodup {l : List ByteArray} (h : l.Nodup) : (sortS l).Nodup := (sortS_perm l).nodup_iff.2 h
/-- what a session is told by name -/
def nameL (fc : Int → List ByteArray) (k text : ByteArray) (s : Int) : List Ot := ((sortS (fc s)).filter fun c => decide (c = k)).map fun _ => msgL s k text
theorem nameL_eq {fc : Int → List ByteArray} {s : Int} (hn : (fc s).Nodup) (k text : ByteArray) : nameL fc k text s = if k ∈ fc s then [msgL s k text] else [] := by
  unfold nameL
  rw [filter_one (sortS_nodup hn)]
  by_cases h : k ∈ fc s
  · rw [if_pos ((mem_sortS _ _).2 h), if_pos h]; rfl
  · rw [if_neg (fun h2 => h ((mem_sortS _ _).1 h2)), if_neg h]; rfl
theorem flat_if {α β : Type} (Z : List α) (p : α → Prop) [DecidablePred p] (f : α → β) : (Z.flatMap fun s => if p s then [f s] else []) = (Z.filter fun s => decide (p s)).map f := by
  induction Z with
  | nil => rfl
  | cons a Z ih =>
    rw [List.flatMap_cons, ih]
    by_cases h : p a
    · rw [if_pos h, List.filter_cons_of_pos (by simpa using h)]; rfl
    · rw [if_neg h, List.filter_cons_of_neg (by simpa using h)]; rfl
/-- those who listen by name, rising -/
theorem names_sorted {fb : ByteArray → List Int} {fc : Int → List ByteArray} {Z : List Int} (ht : Tie fb fc) (k : ByteArray) (hf : (fb k).Nodup) (hZ : Z.Pairwise (· < ·)) (h3 : ∀ s, fc s ≠ [] → s ∈ Z) : sortI (fb k) = Z.filter fun s => decide (k ∈ fc s) := by
  refine ltI_one ?_ (sortI_rises hf) (hZ.sublist List.filter_sublist)
  refine (List.perm_ext_iff_of_nodup ((sortI_perm _).nodup_iff.2 hf) (List.filter_sublist.nodup (hZ.imp fun h => by omega))).2 fun s => ?_
  rw [(sortI_perm _).mem_iff, ht k s, List.mem_filter, decide_eq_true_eq]
  exact ⟨fun h => ⟨h3 s (fun e => by rw [e] at h; cases h), h⟩, fun h => h.2⟩
theorem tell_split {fb : ByteArray → List Int} {ks Z : List Int} {fc fp : Int → List ByteArray} (ht : Tie fb fc) (k text : ByteArray) (hf : (fb k).Nodup) (hc : ∀ s, (fc s).Nodup) (hn : ks.Nodup) (hZ : Z.Pairwise (· < ·)) (h1 : ∀ s, fp s ≠ [] → s ∈ ks) (h2 : ∀ s, fp s ≠ [] → s ∈ Z) (h3 : ∀ s, fc s ≠ [] → s ∈ Z) :
    tellL fb ks fp k text = Z.flatMap (nameL fc k text) ++ Z.flatMap (patL fp k text) := by
  rw [tell_by hn hZ h1 h2, names_sorted ht k hf hZ h3]
  have e : Z.flatMap (nameL fc k text) = Z.flatMap fun s => if k ∈ fc s then [msgL s k text] else [] := congrArg (fun f => Z.flatMap f) (funext fun s => nameL_eq (hc s) k text)
  rw [e, flat_if]
theorem tell_count {fb : ByteArray → List Int} {Z : List Int} {fc : Int → List ByteArray} (ht : Tie fb fc) (k text : ByteArray) (hf : (fb k).Nodup) (hc : ∀ s, (fc s).Nodup) (hZ : Z.Pairwise (· < ·)) (h3 : ∀ s, fc s ≠ [] → s ∈ Z) :
    (Z.flatMap (nameL fc k text)).length = (fb k).length := by
  have e : Z.flatMap (nameL fc k text) = Z.flatMap fun s => if k ∈ fc s then [msgL s k text] else [] := congrArg (fun f => Z.flatMap f) (funext fun s => nameL_eq (hc s) k text)
  rw [e, flat_if, List.length_map, ← names_sorted ht k hf hZ h3, sortI_len]
/-- a session laid in its place -/
theorem ins_rises {Z : List Int} (hZ : Z.Pairwise (· < ·)) (s : Int) (at_ : Nat) (h1 : ∀ j (hj : j < Z.length), j < at_ → Z[j] < s) (h2 : ∀ (hj : at_ < Z.length), s < Z[at_]) : (Z.take at_ ++ s :: Z.drop at_).Pairwise (· < ·) := by
  have hp := List.pairwise_iff_getElem.1 hZ
  have hlo : ∀ x ∈ Z.take at_, x < s := fun x hx => by
    obtain ⟨j, hj, rfl⟩ := List.getElem_of_mem hx
    rw [List.length_take] at hj
    rw [List.getElem_take]
    exact h1 j (by omega) (by omega)
  have hhi : ∀ x ∈ Z.drop at_, s < x := fun x hx => by
    obtain ⟨j, hj, rfl⟩ := List.getElem_of_mem hx
    rw [List.length_drop] at hj
    rw [List.getElem_drop]
    have h3 := h2 (by omega)
    by_cases e : j = 0
    · subst e; simpa using h3
    · have := hp at_ (at_ + j) (by omega) (by omega) (by omega)
      omega
  refine List.pairwise_append.2 ⟨hZ.sublist (List.take_sublist _ _), List.pairwise_cons.2 ⟨hhi, hZ.sublist (List.drop_sublist _ _)⟩, fun a ha b hb => ?_⟩
  rcases List.mem_cons.1 hb with rfl | hb
  · exact hlo a ha
  · have := hlo a ha
    have := hhi b hb
    omega
theorem ins_mem (Z : List Int) (s : Int) (at_ : Nat) (x : Int) : x ∈ Z.take at_ ++ s :: Z.drop at_ ↔ x = s ∨ x ∈ Z := by
  rw [List.mem_append, List.mem_cons]
  constructor
  · rintro (h | h | h)
    · exact .inr (List.mem_of_mem_take h)
    · exact .inl h
    · exact .inr (List.mem_of_mem_drop h)
  · rintro (h | h)
    · exact .inr (.inl h)
    · rw [← List.take_append_drop at_ Z, List.mem_append] at h
      rcases h with h | h
      · exact .inl h
      · exact .inr (.inr h)
/-- all who listen to something are in a list -/
def Named (f : (Int → List ByteArray) × (Int → List ByteArray)) (Z : List Int) : Prop := (∀ s, f.1 s ≠ [] → s ∈ Z) ∧ ∀ s, f.2 s ≠ [] → s ∈ Z
theorem does_named (do_ s : Int) (k : ByteArray) {f : (Int → List ByteArray) × (Int → List ByteArray)} {Z Z' : List Int} (h : Named f Z) (hs : s ∈ Z') (hz : ∀ x ∈ Z, x ∈ Z') : Named (doesH do_ s k f) Z' :=
  ⟨fun s' h1 => by
    by_cases e : s' = s
    · rw [e]; exact hs
    · rw [(does_other do_ k f e).1] at h1; exact hz _ (h.1 s' h1),
   fun s' h1 => by
    by_cases e : s' = s
    · rw [e]; exact hs
    · rw [(does_other do_ k f e).2] at h1; exact hz _ (h.2 s' h1)⟩
/-- the next of a list, behind what has been told -/
theorem next_at {α : Type} {l P R : List α} {x : α} (h : l = P ++ x :: R) : l[P.length]? = some x := by rw [h, List.getElem?_append_right (Nat.le_refl _), Nat.sub_self]; rfl
theorem flat_split {α β : Type} (Z : List α) (f : α → List β) (j : Nat) (hj : j < Z.length) : Z.flatMap f = (Z.take j).flatMap f ++ (f Z[j] ++ (Z.drop (j + 1)).flatMap f) := by
  conv => lhs; rw [← List.take_append_drop j Z, List.drop_eq_getElem_cons hj]
  rw [List.flatMap_append, List.flatMap_cons]
theorem filter_split {α : Type} (C : List α) (p : α → Bool) (q : Nat) (hq : q < C.length) (h : p C[q] = true) : C.filter p = (C.take q).filter p ++ C[q] :: (C.drop (q + 1)).filter p := by
  conv => lhs; rw [← List.take_append_drop q C, List.drop_eq_getElem_cons hq]
  rw [List.filter_append, List.filter_cons_of_pos h]
/-- how many have been told, in the midst -/
theorem take_filter_succ {α : Type} (C : List α) (p : α → Bool) (q : Nat) (hq : q < C.length) : ((C.take (q + 1)).filter p).length = ((C.take q).filter p).length + if p C[q] then 1 else 0 := by
  rw [List.take_succ_eq_append_getElem hq, List.filter_append, List.length_append]
  congr 1
  cases h : p C[q] <;> simp [h]
theorem flat_next {α β γ : Type} {O A R : List β} {Z : List α} {f : α → List β} {j : Nat} {hj : j < Z.length} {C : List γ} {p : γ → Bool} {g : γ → β} {q : Nat} (hq : q < C.length) (hO : O = A ++ Z.flatMap f ++ R) (hf : f Z[j] = (C.filter p).map g) (hp : p C[q] = true) :
    O[A.length + ((Z.take j).flatMap f).length + ((C.take q).filter p).length]? = some (g C[q]) := by
  have e : O = (A ++ (Z.take j).flatMap f ++ ((C.take q).filter p).map g) ++ g C[q] :: (((C.drop (q + 1)).filter p).map g ++ (Z.drop (j + 1)).flatMap f ++ R) := by
    rw [hO, flat_split Z f j hj, hf, filter_split C p q hq hp]
    simp [List.append_assoc]
  have h := next_at e
  rw [List.length_append, List.length_append, List.length_map] at h
  exact h
end Go.Proofs.YtleoeccjnchclaaGreatDoor
namespace Go.Proofs.YtleoeccjnchclaaGreatDoor
open Go.RowKit
/-- a row of the document's list: session, is it a pattern, name -/
abbrev Rw := Int × Bool × ByteArray
/-- one stands ahead of another -/
def ahd (a b : Rw) : Prop := (a.2.1 = false ∧ b.2.1 = true) ∨ (a.2.1 = b.2.1 ∧ (a.1 < b.1 ∨ (a.1 = b.1 ∧ ltS a.2.2 b.2.2)))
theorem ltS_irrefl (a : ByteArray) : ¬ ltS a a := fun h => List.lt_irrefl _ h
theorem ltS_trans {a b c : ByteArray} (h1 : ltS a b) (h2 : ltS b c) : ltS a c := List.lt_trans h1 h2
theorem ltS_tri (a b : ByteArray) : ltS a b ∨ a = b ∨ ltS b a := by
  by_cases h1 : a.toList < b.toList
  · exact .inl h1
  · by_cases h2 : b.toList < a.toList
    · exact .inr (.inr h2)
    · exact .inr (.inl (key_eqS h1 h2))
theorem ahd_irrefl (a : Rw) : ¬ ahd a a := by
  rintro (⟨h1, h2⟩ | ⟨-, h | ⟨-, h⟩⟩)
  · rw [h1] at h2; cases h2
  · omega
  · exact ltS_irrefl _ h
theorem ahd_trans {a b c : Rw} (h1 : ahd a b) (h2 : ahd b c) : ahd a c := by
  rcases h1 with ⟨p1, p2⟩ | ⟨p1, p2⟩
  · rcases h2 with ⟨q1, q2⟩ | ⟨q1, q2⟩
    · exact .inl ⟨p1, q2⟩
    · exact .inl ⟨p1, by rw [← q1]; exact p2⟩
  · rcases h2 with ⟨q1, q2⟩ | ⟨q1, q2⟩
    · exact .inl ⟨by rw [p1]; exact q1, q2⟩
    · refine .inr ⟨p1.trans q1, ?_⟩
      rcases p2 with p2 | ⟨p2, p3⟩
      · rcases q2 with q2 | ⟨q2, q3⟩
        · exact .inl (by omega)
        · exact .inl (by omega)
      · rcases q2 with q2 | ⟨q2, q3⟩
        · exact .inl (by omega)
        · exact .inr ⟨p2.trans q2, ltS_trans p3 q3⟩
theorem ahd_tri (a b : Rw) : ahd a b ∨ a = b ∨ ahd b a := by
  obtain ⟨s, x, k⟩ := a
  obtain ⟨t, y, m⟩ := b
  by_cases e : x = y
  · subst e
    rcases Int.lt_trichotomy s t with h | rfl | h
    · exact .inl (.inr ⟨rfl, .inl h⟩)
    · rcases ltS_tri k m with h | rfl | h
      · exact .inl (.inr ⟨rfl, .inr ⟨rfl, h⟩⟩)
      · exact .inr (.inl rfl)
      · exact .inr (.inr (.inr ⟨rfl, .inr ⟨rfl, h⟩⟩))
    · exact .inr (.inr (.inr ⟨rfl, .inl h⟩))
  · cases x <;> cases y
    · exact absurd rfl e
    · exact .inl (.inl ⟨rfl, rfl⟩)
    · exact .inr (.inr (.inl ⟨rfl, rfl⟩))
    · exact absurd rfl e
theorem ahd_one {l l' : List Rw} (hp : l.Perm l') (h : l.Pairwise ahd) (h' : l'.Pairwise ahd) : l = l' :=
  hp.eq_of_pairwise (fun a b _ _ h1 h2 => absurd (ahd_trans h1 h2) (ahd_irrefl _)) h h'
theorem ahd_nodup {l : List Rw} (h : l.Pairwise ahd) : l.Nodup := by
  unfold List.Nodup
  exact h.imp fun {a b} h (e : a = b) => ahd_irrefl a (by rw [← e] at h; exact h)
theorem ahd_same {l l' : List Rw} (h : l.Pairwise ahd) (h' : l'.Pairwise ahd) (hm : ∀ x, x ∈ l ↔ x ∈ l') : l = l' :=
  ahd_one ((List.perm_ext_iff_of_nodup (ahd_nodup h) (ahd_nodup h')).2 hm) h h'
/-- the document's list says what the two rows say -/
structure RowsOf (R : List Rw) (fc fp : Int → List ByteArray) : Prop where
  up : R.Pairwise ahd
  c : ∀ s k, (s, false, k) ∈ R ↔ k ∈ fc s
  p : ∀ s k, (s, true, k) ∈ R ↔ k ∈ fp s
theorem RowsOf.none : RowsOf [] (fun _ => []) (fun _ => []) := ⟨.nil, fun _ _ => by simp, fun _ _ => by simp⟩
section
variable {R : List Rw} {fc fp : Int → List ByteArray}
/-- of a session -/
def ofS (s : Int) (r : Rw) : Bool := decide (r.1 = s)
def ofSL (s : Int) (like : Bool) (r : Rw) : Bool := decide (r.1 = s) && (r.2.1 == like)
theorem map_nodup {l : List ByteArray} (h : l.Nodup) (s : Int) (b : Bool) : (l.map fun k => ((s, b, k) : Rw)).Nodup := by
  unfold List.Nodup
  rw [List.pairwise_map]
  exact h.imp fun {a b} h e => h (by simpa using e)
theorem RowsOf.size (H : RowsOf R fc fp) (s : Int) (h1 : (fc s).Nodup) (h2 : (fp s).Nodup) : (R.filter (ofS s)).length = (fc s).length + (fp s).length := by
  have hp : (R.filter (ofS s)).Perm ((fc s).map (fun k => (s, false, k)) ++ (fp s).map (fun k => (s, true, k))) := by
    refine (List.perm_ext_iff_of_nodup (List.filter_sublist.nodup (ahd_nodup H.up)) (List.nodup_append.2 ⟨map_nodup h1 s false, map_nodup h2 s true, fun a ha b hb e => ?_⟩)).2 fun x => ?_
    · obtain ⟨_, _, rfl⟩ := List.mem_map.1 ha
      obtain ⟨_, _, rfl⟩ := List.mem_map.1 hb
      simp at e
    · obtain ⟨t, b, k⟩ := x
      rw [List.mem_filter, List.mem_append, List.mem_map, List.mem_map]
      unfold ofS
      rw [decide_eq_true_eq]
      constructor
      · rintro ⟨hm, e⟩
        have e : t = s := e
        subst e
        cases b
        · exact .inl ⟨k, (H.c _ _).1 hm, rfl⟩
        · exact .inr ⟨k, (H.p _ _).1 hm, rfl⟩
      · rintro (⟨k', hk, e⟩ | ⟨k', hk, e⟩)
        · cases e; exact ⟨(H.c _ _).2 hk, rfl⟩
        · cases e; exact ⟨(H.p _ _).2 hk, rfl⟩
  rw [hp.length_eq, List.length_append, List.length_map, List.length_map]
theorem RowsOf.names (H : RowsOf R fc fp) (s : Int) (like : Bool) (h : (if like then fp s else fc s).Nodup) : (R.filter (ofSL s like)).map (fun r => r.2.2) = sortS (if like then fp s else fc s) := by
  have hm : ∀ k, k ∈ (R.filter (ofSL s like)).map (fun r => r.2.2) ↔ k ∈ (if like then fp s else fc s) := fun k => by
    rw [List.mem_map]
    constructor
    · rintro ⟨⟨t, b, m⟩, hr, rfl⟩
      rw [List.mem_filter] at hr
      obtain ⟨hr, e⟩ := hr
      unfold ofSL at e
      rw [Bool.and_eq_true, decide_eq_true_eq, beq_iff_eq] at e
      obtain ⟨e1, e2⟩ := e
      have e1 : t = s := e1
      have e2 : b = like := e2
      subst e1 e2
      cases b
      · exact (H.c _ _).1 hr
      · exact (H.p _ _).1 hr
    · intro hk
      refine ⟨(s, like, k), List.mem_filter.2 ⟨?_, by unfold ofSL; simp⟩, rfl⟩
      cases like
      · exact (H.c _ _).2 hk
      · exact (H.p _ _).2 hk
  have hup : ((R.filter (ofSL s like)).map (fun r => r.2.2)).Pairwise ltS := by
    rw [List.pairwise_map]
    refine (List.Pairwise.and_mem.1 (H.up.sublist List.filter_sublist)).imp fun {a b} h => ?_
    obtain ⟨ha, hb, h⟩ := h
    have ea := (List.mem_filter.1 ha).2
    have eb := (List.mem_filter.1 hb).2
    unfold ofSL at ea eb
    rw [Bool.and_eq_true, decide_eq_true_eq, beq_iff_eq] at ea eb
    rcases h with ⟨p1, p2⟩ | ⟨p1, p2 | ⟨p2, p3⟩⟩
    · rw [ea.2] at p1; rw [eb.2, p1] at p2; cases p2
    · omega
    · exact p3
  refine ltS_one ?_ hup (sortS_rises h)
  refine (List.perm_ext_iff_of_nodup (by unfold List.Nodup; exact hup.imp fun {a b} h (e : a = b) => ltS_irrefl a (by rw [← e] at h; exact h)) (sortS_nodup h)).2 fun k => ?_
  rw [hm, mem_sortS]
/-- a row laid in its place -/
def insR (aheadB : Rw → Rw → Bool) (x : Rw) (R : List Rw) : List Rw := R.takeWhile (fun r => !aheadB x r) ++ x :: R.dropWhile (fun r => !aheadB x r)
theorem insR_mem {aheadB : Rw → Rw → Bool} (x : Rw) (R : List Rw) (y : Rw) : y ∈ insR aheadB x R ↔ y = x ∨ y ∈ R := by
  unfold insR
  conv => rhs; rw [← List.takeWhile_append_dropWhile (p := fun r => !aheadB x r) (l := R)]
  rw [List.mem_append, List.mem_cons, List.mem_append]
  constructor
  · rintro (h | h | h)
    · exact .inr (.inl h)
    · exact .inl h
    · exact .inr (.inr h)
  · rintro (h | h | h)
    · exact .inr (.inl h)
    · exact .inl h
    · exact .inr (.inr h)
theorem insR_len (aheadB : Rw → Rw → Bool) (x : Rw) (R : List Rw) : (insR aheadB x R).length = R.length + 1 := by
  unfold insR
  conv => rhs; rw [← List.takeWhile_append_dropWhile (p := fun r => !aheadB x r) (l := R)]
  rw [List.length_append, List.length_append, List.length_cons]
  omega
theorem insR_up {aheadB : Rw → Rw → Bool} (hb : ∀ a b, aheadB a b = true ↔ ahd a b) {x : Rw} (hx : x ∉ R) (H : R.Pairwise ahd) : (insR aheadB x R).Pairwise ahd := by
  induction R with
  | nil => unfold insR; simp
  | cons a R ih =>
    rw [List.pairwise_cons] at H
    have hxa : x ≠ a := fun e => hx (by rw [e]; exact List.mem_cons_self ..)
    have hxR : x ∉ R := fun h => hx (List.mem_cons_of_mem _ h)
    by_cases e : aheadB x a = true
    · have e2 : insR aheadB x (a :: R) = x :: a :: R := by
        unfold insR
        rw [List.takeWhile_cons_of_neg (by rw [e]; decide), List.dropWhile_cons_of_neg (by rw [e]; decide)]
        rfl
      rw [e2]
      refine List.pairwise_cons.2 ⟨fun y hy => ?_, List.pairwise_cons.2 H⟩
      rcases List.mem_cons.1 hy with rfl | hy
      · exact (hb _ _).1 e
      · exact ahd_trans ((hb _ _).1 e) (H.1 y hy)
    · have e2 : insR aheadB x (a :: R) = a :: insR aheadB x R := by
        unfold insR
        have e : aheadB x a = false := by simpa using e
        rw [List.takeWhile_cons_of_pos (by rw [e]; rfl), List.dropWhile_cons_of_pos (by rw [e]; rfl)]
        rfl
      rw [e2]
      refine List.pairwise_cons.2 ⟨fun y hy => ?_, ih hxR H.2⟩
      rcases (insR_mem x R y).1 hy with rfl | hy
      · rcases ahd_tri a y with h | h | h
        · exact h
        · exact absurd h.symm hxa
        · exact absurd ((hb _ _).2 h) e
      · exact H.1 y hy
theorem RowsOf.addC {aheadB : Rw → Rw → Bool} (hb : ∀ a b, aheadB a b = true ↔ ahd a b) (H : RowsOf R fc fp) (s : Int) (k : ByteArray) (hk : k ∉ fc s) : RowsOf (insR aheadB (s, false, k) R) (addF fc s k) fp := by
  refine ⟨insR_up hb (fun h => hk ((H.c _ _).1 h)) H.up, fun s' k' => ?_, fun s' k' => ?_⟩
  · rw [insR_mem, H.c]
    unfold addF
    by_cases e : s' = s
    · subst e; simp [or_comm]
    · rw [if_neg e]
      exact ⟨fun h => h.elim (fun h => absurd (by cases h; rfl) e) id, .inr⟩
  · rw [insR_mem, H.p]
    exact ⟨fun h => h.elim (fun h => by simp at h) id, .inr⟩
theorem RowsOf.addP {aheadB : Rw → Rw → Bool} (hb : ∀ a b, aheadB a b = true ↔ ahd a b) (H : RowsOf R fc fp) (s : Int) (k : ByteArray) (hk : k ∉ fp s) : RowsOf (insR aheadB (s, true, k) R) fc (addF fp s k) := by
  refine ⟨insR_up hb (fun h => hk ((H.p _ _).1 h)) H.up, fun s' k' => ?_, fun s' k' => ?_⟩
  · rw [insR_mem, H.c]
    exact ⟨fun h => h.elim (fun h => by simp at h) id, .inr⟩
  · rw [insR_mem, H.p]
    unfold addF
    by_cases e : s' = s
    · subst e; simp [or_comm]
    · rw [if_neg e]
      exact ⟨fun h => h.elim (fun h => absurd (by cases h; rfl) e) id, .inr⟩
theorem RowsOf.delC (H : RowsOf R fc fp) (s : Int) (k : ByteArray) : RowsOf (R.filter fun r => decide (r ≠ (s, false, k))) (delF fc s k) fp := by
  refine ⟨H.up.sublist List.filter_sublist, fun s' k' => ?_, fun s' k' => ?_⟩
  · rw [List.mem_filter, H.c, decide_eq_true_eq]
    unfold delF
    by_cases e : s' = s
    · subst e
      rw [if_pos rfl, List.mem_filter, decide_eq_true_eq]
      exact ⟨fun h => ⟨h.1, fun e => h.2 (by rw [e])⟩, fun h => ⟨h.1, fun e => h.2 (by cases e; rfl)⟩⟩
    · rw [if_neg e]
      exact ⟨fun h => h.1, fun h => ⟨h, fun e2 => e (by cases e2; rfl)⟩⟩
  · rw [List.mem_filter, H.p, decide_eq_true_eq]
    exact ⟨fun h => h.1, fun h => ⟨h, fun e2 => by simp at e2⟩⟩
theorem RowsOf.delP (H : RowsOf R fc fp) (s : Int) (k : ByteArray) : RowsOf (R.filter fun r => decide (r ≠ (s, true, k))) fc (delF fp s k) := by
  refine ⟨H.up.sublist List.filter_sublist, fun s' k' => ?_, fun s' k' => ?_⟩
  · rw [List.mem_filter, H.c, decide_eq_true_eq]
    exact ⟨fun h => h.1, fun h => ⟨h, fun e2 => by simp at e2⟩⟩
  · rw [List.mem_filter, H.p, decide_eq_true_eq]
    unfold delF
    by_cases e : s' = s
    · subst e
      rw [if_pos rfl, List.mem_filter, decide_eq_true_eq]
      exact ⟨fun h => ⟨h.1, fun e => h.2 (by rw [e])⟩, fun h => ⟨h.1, fun e => h.2 (by cases e; rfl)⟩⟩
    · rw [if_neg e]
      exact ⟨fun h => h.1, fun h => ⟨h, fun e2 => e (by cases e2; rfl)⟩⟩
theorem RowsOf.cut (H : RowsOf R fc fp) (s : Int) : RowsOf (R.filter fun r => decide (r.1 ≠ s)) (cutF fc s) (cutF fp s) := by
  refine ⟨H.up.sublist List.filter_sublist, fun s' k' => ?_, fun s' k' => ?_⟩
  · rw [List.mem_filter, H.c, decide_eq_true_eq]
    unfold cutF
    by_cases e : s' = s
    · rw [if_pos e]; exact ⟨fun h => absurd e h.2, fun h => by cases h⟩
    · rw [if_neg e]; exact ⟨fun h => h.1, fun h => ⟨h, e⟩⟩
  · rw [List.mem_filter, H.p, decide_eq_true_eq]
    unfold cutF
    by_cases e : s' = s
    · rw [if_pos e]; exact ⟨fun h => absurd e h.2, fun h => by cases h⟩
    · rw [if_neg e]; exact ⟨fun h => h.1, fun h => ⟨h, e⟩⟩
/-- what the document's Tell tells -/
def rowT (k text : ByteArray) (r : Rw) : List Ot := if r.2.1 = false ∧ r.2.2 = k then [msgL r.1 k text] else if r.2.1 = true ∧ gm r.2.2 k = true then [pmsgL r.1 r.2.2 k text] else []
end
end Go.Proofs.YtleoeccjnchclaaGreatDoor
namespace Go.Proofs.YtleoeccjnchclaaGreatDoor
open Go.RowKit
theorem drewN_drewN (w : World) (a b : Nat) : (w.drewN a).drewN b = w.drewN (a + b) := World.drewN_drewN w a b
theorem str_beq (a b : ByteArray) : (a.toList == b.toList) = decide (a = b) := by
  rw [Go.ByteArray.toList_eq, Go.ByteArray.toList_eq, Bool.eq_iff_iff, beq_iff_eq, decide_eq_true_eq]
  exact ⟨fun h => bytes_ext h, fun h => by rw [h]⟩
set_option maxRecDepth 100000 in
set_option maxHeartbeats 1000000 in
theorem same25_any (w : World) (v1 v2 : Value) (l1 l2 : List ByteArray) (h1 : RdC w 1 v1 l1.length (l1.map .string)) (h2 : RdC w 1 v2 l2.length (l2.map .string)) :
    Calls Tryz.prog 25 #[v1, v2] w fun e w' => e = .returned (.bool (decide (l1 = l2))) ∧ ∃ m, w' = w.drewN m := by
  have hm1 := h1.len
  have hm2 := h2.len
  unfold maxLen at hm1 hm2
  have H1 := Lib.hid h1
  have H2 := Lib.hid h2
  obtain ⟨-, a1, c1, rfl, -⟩ := h1
  obtain ⟨-, a2, c2, rfl, -⟩ := h2
  by_cases hl : l1.length = l2.length
  case neg =>
    have hne : decide (l1 = l2) = false := decide_eq_false (fun e => hl (by rw [e]))
    have g : ((l1.length : Int) != l2.length) = true := by rw [bne_iff_ne]; omega
    rw [hne]
    clear hne hl
    go_enter Tryz.func25, Tryz.ntmps25
    go_wp2
    go_ret
    exact ⟨rfl, 0, rfl⟩
  case pos =>
    have g : ((l1.length : Int) != l2.length) = false := by rw [bne_eq_false_iff_eq]; omega
    have HL := Lib.hid hl
    clear hl
    go_enter Tryz.func25, Tryz.ntmps25
    go_wp2
    go_loopw [13] (fun i wr => ∃ k m : Nat, i = .int .i64 k ∧ k ≤ l1.length ∧ Hid (wr = w.drewN m) ∧ Hid (l1.take k = l2.take k)) (fun i _ => l1.length - (intOf i).toNat)
    case atStart => exact ⟨0, 0, rfl, by omega, (show w = w.drewN 0 from rfl), (show _ = _ from rfl)⟩
    case round =>
      obtain ⟨k, m, rfl, hk, HW, HE⟩ := hrel
      obtain ⟨wo, rfl⟩ : ∃ wo, wo = wr := ⟨_, rfl⟩
      by_cases hlt : k < l1.length
      · have hlt2 : k < l2.length := by have := HL.out; omega
        have hb1 : (k : Int) < (l1.length : Int) := by omega
        have hb2 : (k : Int) < (l2.length : Int) := by omega
        have hb0 : (0 : Int) ≤ (k : Int) := by omega
        obtain ⟨g1, o1, rfl, c1⟩ := texts_at H1.out k hlt
        obtain ⟨g2, o2, rfl, c2⟩ := texts_at H2.out k hlt2
        have c1' : wo.cell? ⟨g1, o1 + k, none⟩ = some (.string l1[k]) := by rw [HW.out]; exact c1
        have c2' : wo.cell? ⟨g2, o2 + k, none⟩ = some (.string l2[k]) := by rw [HW.out]; exact c2
        obtain ⟨x, hx⟩ : ∃ x, l1[k] = x := ⟨_, rfl⟩
        obtain ⟨y, hy⟩ : ∃ y, l2[k] = y := ⟨_, rfl⟩
        rw [hx] at c1'
        rw [hy] at c2'
        have HX := Lib.hid hx
        have HY := Lib.hid hy
        clear c1 c2 hx hy
        by_cases hxy : x = y
        · have hq : (x.toList == y.toList) = true := by rw [str_beq]; simpa using hxy
          have hq2 : (x.toList != y.toList) = false := by simp [bne, hq]
          have hts : Hid (l1.take (k + 1) = l2.take (k + 1)) := by
            show _ = _
            rw [List.take_succ_eq_append_getElem hlt, List.take_succ_eq_append_getElem hlt2, HE.out, HX.out, HY.out, hxy]
          clear hxy
          go_upto_region 6 with (fail)
          go_quiet (fail)
          go_wp2
          go_roundw
          case rel => exact ⟨k + 1, m + nq, by go_num, by omega, (show wo.drewN nq = _ by rw [HW.out]; exact drewN_drewN _ _ _), hts⟩
          case measure => simp [intOf]; omega
        · have hq : (x.toList == y.toList) = false := by rw [str_beq]; simpa using hxy
          have hq2 : (x.toList != y.toList) = true := by simp [bne, hq]
          have hne : decide (l1 = l2) = false := decide_eq_false (fun e => hxy (by rw [← HX.out, ← HY.out]; subst e; rfl))
          have HNE := Lib.hid hne
          clear hne hxy
          go_upto_region 6 with (fail)
          go_quiet (fail)
          go_wp2
          go_ret
          exact ⟨by rw [HNE.out]; rfl, m + nq, by rw [HW.out]; exact drewN_drewN _ _ _⟩
      · obtain rfl : k = l1.length := by omega
        have heq : decide (l1 = l2) = true := decide_eq_true (by have := HE.out; rwa [List.take_length, HL.out, List.take_length] at this)
        have HNE := Lib.hid heq
        clear heq
        go_wp2
        go_ret
        exact ⟨by rw [HNE.out]; rfl, m, HW.out⟩
end Go.Proofs.YtleoeccjnchclaaGreatDoor
