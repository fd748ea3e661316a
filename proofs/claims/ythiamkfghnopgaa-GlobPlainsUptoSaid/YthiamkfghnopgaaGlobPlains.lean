/- GlobPlains: the program's Plain and the document's answer, every pattern; the second form (Upto). -/
import Derived.Test.YthiamkfghnopgaaGlobR
import Derived.Test.YthiamkfghnopgaaUpto
namespace Go.Proofs.Ythiamkfghnopgaa
open Go.ChangeShapes Go.WideShapes Go.ChangeAt Go.RowKit
/-- the one name that a row of signs means -/
def plR : List RS → Option Bytes
  | [] => some []
  | r :: L => if r.pl then (plR L).map (r.one :: ·) else none
theorem plR_rs : ∀ (n : Nat) (q : Bytes), q.length ≤ n → plR (rs q) = plainO q := by
  intro n
  induction n with
  | zero =>
    intro q hq
    have : q = [] := List.length_eq_zero_iff.1 (by omega)
    subst this; rfl
  | succ n ih =>
    intro q hq
    cases q with
    | nil => rfl
    | cons c q =>
      have h2 := rs1_pos (c :: q)
      have h3 : ((c :: q).drop (rs1 (c :: q)).2).length ≤ n := by rw [List.length_drop]; simp at hq ⊢; omega
      rw [rs_cons]
      by_cases h42 : c = 42
      · subst h42; rw [plainO_none _ _ (.inl rfl)]; rfl
      by_cases h63 : c = 63
      · subst h63; rw [plainO_none _ _ (.inr (.inl rfl))]; rfl
      by_cases h91 : c = 91
      · subst h91; rw [plainO_none _ _ (.inr (.inr rfl))]; rfl
      rw [plainO_cons c q (by rintro (h | h | h) <;> contradiction)]
      have hi := ih _ h3
      rw [rs1_lit c q h42 h63 h91] at hi ⊢
      show (if true = true then (plR _).map _ else none) = _
      rw [if_pos rfl, hi]
theorem flat_at {α : Type} (f : α → List Value) (n : Nat) (hf : ∀ x, (f x).length = n) (l : List α) (k j : Nat) (hk : k < l.length) (hj : j < n) : (l.flatMap f)[k * n + j]? = (f l[k])[j]? := by
  induction l generalizing k with
  | nil => simp at hk
  | cons x l ih =>
    rw [List.flatMap_cons]
    cases k with
    | zero =>
      rw [Nat.zero_mul, Nat.zero_add, List.getElem?_append_left (by rw [hf]; exact hj)]
      rfl
    | succ k =>
      have := ih k (by simpa using hk)
      rw [List.getElem?_append_right (by rw [hf, Nat.succ_mul]; omega), hf, show (k + 1) * n + j - n = k * n + j by rw [Nat.succ_mul]; omega]
      exact this
theorem sign_at {w : World} {a : Option Addr} {cap : Nat} {R : List RS} (h : RdC w 259 (.slice a R.length cap) R.length (R.flatMap rsC)) (i : Nat) (hi : i < R.length) :
    ∃ g off, a = some ⟨g, off, none⟩ ∧ w.cell? ⟨g, off + i * 259 + 258, none⟩ = some (.bool R[i].pl) ∧ w.cell? ⟨g, off + i * 259 + 257, none⟩ = some (.int .u8 R[i].one.toNat) := by
  have h1 := flat_at rsC 259 rsC_len R i 258 hi (by decide)
  rw [show (rsC R[i])[258]? = some (.bool R[i].pl) from signC_last1 _ _ _ _ 258 rfl] at h1
  have h2 := flat_at rsC 259 rsC_len R i 257 hi (by decide)
  rw [show (rsC R[i])[257]? = some (.int .u8 R[i].one.toNat) from signC_last0 _ _ _ _ 257 rfl] at h2
  have hpos : 0 < (R.flatMap rsC).length := by have := (List.getElem?_eq_some_iff.1 h1).1; omega
  obtain ⟨g, off, rfl, hc⟩ := h.at hpos
  refine ⟨g, off, rfl, ?_, ?_⟩
  · have := hc _ _ h1
    rwa [show off + (i * 259 + 258) = off + i * 259 + 258 by omega] at this
  · have := hc _ _ h2
    rwa [show off + (i * 259 + 257) = off + i * 259 + 257 by omega] at this
set_option maxRecDepth 100000 in
set_option maxHeartbeats 2000000 in
theorem refPlain_any (s : ByteArray) (w : World) (hs : s.size ≤ 274877906944) :
    Calls Try.prog 12 #[.string s] w fun e w' => e = .returned (plainV s) ∧ Below w.heap.size w w' := by
  obtain ⟨i0, hi, hz0, hz1, hz2⟩ := info_parts infoByte
  have HI := Lib.hid hi
  have HZ1 := Lib.hid hz1
  obtain ⟨R, hR⟩ : ∃ R, rs (bl s) = R := ⟨_, rfl⟩
  have hx : plR R = plainO (bl s) := by rw [← hR]; exact plR_rs _ _ (Nat.le_refl _)
  have hrl : R.length ≤ s.size := by rw [← hR, ← bl_len]; exact rs_len _ _ (Nat.le_refl _)
  obtain ⟨X, hX⟩ : ∃ X, plainO (bl s) = X := ⟨_, rfl⟩
  have hpv : plainV s = plainR X := by unfold plainV; rw [hX]
  rw [hX] at hx
  have HPV := Lib.hid hpv
  have HX := Lib.hid hx
  have HS := Lib.hid (signs_ref s w hs)
  rw [hR] at HS
  have hmk := mk_bytes R.length (by omega)
  clear hpv hx hX hR hi hz0 hz1 hz2
  go_enter Try.func12, Try.ntmps12
  go_wp2_with fail
  refine HS.out.mono ?_
  rintro e w1 ⟨v, rfl, hr, hb1⟩
  have HB1 := Lib.hid hb1
  have HR := Lib.hid (RdC.of_owns hr)
  obtain ⟨va, vc, rfl⟩ := owns_slice hr
  clear hr hb1 HS
  go_wp2_with fail
  go_loopg [5, 6] R.length (fun gh v i wr => ∃ (k : Nat), Hid (k + gh = R.length) ∧ i = .int .i64 k ∧ v = .slice (some ⟨w1.heap.size, 0, none⟩) k R.length ∧ Hid (wr.ownsRow w1.heap.size 5 1 (.slice (some ⟨w1.heap.size, 0, none⟩) k R.length) k (((R.take k).map RS.one).map u8)) ∧ Hid (Below w1.heap.size w1 wr) ∧ Hid ((plR (R.drop k)).map ((R.take k).map RS.one ++ ·) = X))
  case atStart =>
    refine ⟨0, Nat.zero_add _, rfl, rfl, ?_, (Below.refl _ _).alloc (Nat.le_refl _) _, ?_⟩
    · exact World.ownsRow_made w1 _ R.length (Nat.le_refl _) (by unfold maxLen; omega) (by simp)
    · show _ = _
      rw [← HX.out, List.drop_zero, List.take_zero]
      cases plR R <;> rfl
  case round =>
    obtain ⟨k, HG, rfl, rfl, HO, HB, HXX⟩ := hrel
    have hk : k ≤ R.length := by have := HG.out; omega
    clear hmk
    by_cases hlt : k < R.length
    · obtain ⟨gs, off, rfl, d1, d2⟩ := sign_at (HR.out.below HB.out) k hlt
      have hstep := HXX.out
      rw [List.drop_eq_getElem_cons hlt] at hstep
      have htk : (R.take (k + 1)).map RS.one = (R.take k).map RS.one ++ [R[k].one] := by rw [List.take_succ_eq_append_getElem hlt, List.map_append]; rfl
      obtain ⟨r, hr⟩ : ∃ r, R[k] = r := ⟨_, rfl⟩
      rw [hr] at d1 d2 hstep htk
      unfold plR at hstep
      obtain ⟨st, T, one, pl⟩ := r
      simp only at d1 d2 hstep htk
      have HST := Lib.hid hstep
      have HTK := Lib.hid htk
      clear hstep htk hr
      cases pl with
      | false =>
        go_wp2
        go_ret2
        exact ⟨by rw [HPV.out, ← HST.out]; rfl, HB1.out.trans (HB.out.mono HB1.out.size)⟩
      | true =>
        go_wp2_with (at_builtin; refine wpl_append_spare rfl (.tmp 24) (.tmp 30) 42 rfl w1.heap.size 5 i0 1 Try.underlying42 HI.out HZ1.out (by decide) w1.heap.size k R.length _ rfl (HO.out.alloc _) _ 1 ([one].map u8) rfl (RdC.of_owns (World.ownsRow_lit (e := 5) wr #[.int .u8 one.toNat] 1 (Nat.le_refl _) (by decide) rfl)) (by decide) (one_u8 _) (by omega) ?_; intro w2 hown hgrow; have hbel1 : Below w1.heap.size w1 w2 := (HB.out.alloc HB.out.size _).grown hgrow (by have := HB.out.size; simp; omega) (fun k e => by cases e; exact Nat.le_refl _); have HO1 := Lib.hid hown; have HB9 := Lib.hid hbel1; clear hown hgrow hbel1)
        go_wp2
        go_roundg (R.length - (k + 1))
        case measure => have := HG.out; omega
        case rel =>
          refine ⟨k + 1, by show _ = _; omega, by go_num, rfl, ?_, HB9, ?_⟩
          · show World.ownsRow _ _ _ _ _ _ _
            rw [HTK.out, List.map_append]
            exact HO1.out
          · show _ = _
            rw [← HST.out, HTK.out]
            cases plR (R.drop (k + 1)) <;> simp
    · obtain rfl : k = R.length := by omega
      have hr := HXX.out
      rw [List.drop_length, List.take_length] at hr
      obtain ⟨l, hl⟩ : ∃ l, R.map RS.one = l := ⟨_, rfl⟩
      have hll : l.length = R.length := by rw [← hl]; simp
      have ho := HO.out
      rw [List.take_length, hl] at ho
      have hr2 : X = some l := by rw [← hr, ← hl]; simp [plR]
      have HN := Lib.hid hr2
      have hrd : RdC wr 1 (.slice (some ⟨w1.heap.size, 0, none⟩) R.length R.length) l.length (l.map u8) := by rw [hll]; exact RdC.of_owns ho
      have HRD := Lib.hid hrd
      clear hr hr2 ho hrd hl hll
      go_wp2_with (refine wpl_toString rfl (.tmp 32) 42 9 5 rfl _ l rfl Try.underlying42 Try.underlying9 Try.underlying5 HRD.out ?_)
      go_ret2
      exact ⟨by rw [HPV.out, HN.out]; rfl, HB1.out.trans (HB.out.mono HB1.out.size)⟩
set_option maxRecDepth 100000 in
set_option maxHeartbeats 2000000 in
theorem globPlains_walk (w : World) (s : ByteArray) (hs : s.size ≤ 1048576) :
    Calls Try.prog 4 #[.string s] w fun e w' => e = .returned (.bool true) ∧ Below w.heap.size w w' := by
  have HP := Lib.hid (fun w => plain_any s w (by omega))
  have HR := Lib.hid (fun w => refPlain_any s w (by omega))
  have hV : ∃ (y : ByteArray) (b : Bool), plainV s = .tuple #[.string y, .bool b] := by
    unfold plainV plainR
    cases plainO (bl s) with
    | none => exact ⟨_, _, rfl⟩
    | some l => exact ⟨_, _, rfl⟩
  obtain ⟨y, b, hy⟩ := hV
  rw [hy] at HP HR
  clear hy
  have q1 : (y.toList == y.toList) = true := by simp
  have q2 : (b == b) = true := by simp
  have ha : plainV ⟨#[97]⟩ = .tuple #[.string ⟨#[97]⟩, .bool true] := rfl
  have HA := Lib.hid (fun w => plain_any ⟨#[97]⟩ w (by decide))
  rw [ha] at HA
  clear ha
  go_enter Try.func4, Try.ntmps4
  go_wp2_with fail
  refine (HP.out _).mono ?_
  rintro e w1 ⟨rfl, hb1⟩
  have HB1 := Lib.hid hb1; clear hb1
  go_wp2_with fail
  refine (HR.out _).mono ?_
  rintro e w2 ⟨rfl, hb2⟩
  have HB2 := Lib.hid (HB1.out.trans (hb2.mono HB1.out.size)); clear hb2
  go_wp2_with fail
  refine (HA.out _).mono ?_
  rintro e w3 ⟨rfl, hb3⟩
  have HB3 := Lib.hid (HB2.out.trans (hb3.mono HB2.out.size)); clear hb3
  go_wp2_with fail
  go_ret
  exact ⟨rfl, HB3.out⟩
theorem globPlains_laid (os : Os) : laidMet Try.prog Rows.globPlainsUptoRow.laid ((laidWorld os).forCall (fun _ _ => 0) ⟨#[], #[.string ⟨#[]⟩], []⟩).memory :=
  laidMet_of_run' 8 (by kernel_rfl) (by kernel_rfl)
theorem globPlains_reads (os : Os) (H : Type) (enc : TypeId × Value → H) : DataW.whole enc Try.prog ((laidWorld os).forCall (fun _ _ => 0) ⟨#[], #[.string ⟨#[]⟩], []⟩).memory Try.f4.params.toList Rows.globPlainsSpec.vars false (#[.string ⟨#[]⟩] : Array Value).toList 8 = some ([.lit (.string [])], [], []) := by kernel_rfl
set_option maxRecDepth 100000 in
theorem globPlains_lifted (os : Os) (started : os.Started) (H : Type) (enc : TypeId × Value → H) (F : Stop.Interp) :
    ReturnsInHanded {} Try.checked os 4 .any ((Rows.OpenSpec.upto Rows.globPlainsSpec).preRow enc Try.prog Try.f4 Rows.globPlainsUptoRow.domain false Rows.globPlainsUptoRow.laid) (((Rows.OpenSpec.upto Rows.globPlainsSpec).at F).post enc Try.prog Try.f4 false true false false) := by
  refine returnsInHanded_of_row (C := Try.checked) (s := Rows.OpenSpec.upto Rows.globPlainsSpec) own started (by kernel_rfl) Try.func4
    (witness_row_at (enc := enc) (C := Try.checked) false (laidWorld os) #[.string ⟨#[]⟩] rfl (by kernel_rfl) (by kernel_rfl) (by kernel_rfl)
      (OpenSpec.preRow_of_cond 8 (globPlains_reads os H enc) (by kernel_rfl) (fun k hk => by cases hk; kernel_rfl) (by kernel_rfl) (globPlains_laid os))) ?_
  intro W base args ds gs before hval0 hW _ hcond hsz0 hL _ _
  have hval : ∀ (j : Nat) t v, Try.f4.params[j]? = some t → args[j]? = some v → Value.okWide Try.prog W .any base t v := hval0
  have hW' := hW
  obtain ⟨p, q, hA0, hV, rfl, hfz, hnd⟩ := hW
  have hA : DataW.TrodAll enc Try.prog W 0 (fun _ => true) true Try.f4.params.toList args.toList ds p := hA0
  rw [Try.params4] at hA hval
  obtain ⟨v0, vs0, d0, ds0, p0, q0, hargs, rfl, rfl, h0, r0⟩ := trodAll_cons hA
  obtain ⟨rfl, rfl, rfl⟩ := trodAll_nil r0
  obtain rfl : args = #[v0] := by cases args; simp_all
  obtain ⟨rfl, rfl⟩ := trodVars_none hV
  have hsz : (DataW.weightsEach Try.prog [9] [d0]).all (fun x => decide (x ≤ reachBytes)) = true := by
    exact hsz0
  clear hsz0
  have hsm : Rows.uptoSmall H ([d0] ++ []) = true := hcond _ rfl
  have hbk : Rows.uptoBulkAll [d0] ≤ 1048576 := by
    simp only [Rows.uptoSmall, decide_eq_true_eq, List.append_nil] at hsm
    exact hsm
  have hbk0 : Rows.uptoBulk d0 ≤ 1048576 := Nat.le_trans (bulk_part (l := [d0]) (by simp)) hbk
  obtain ⟨hw0, hsz0⟩ := weights_cons hsz
  obtain ⟨x0, rfl, hs0⟩ := open_strB Try.underlying9 (hval 0 9 v0 rfl rfl) h0 (hbk0)
  clear hA0 hval0
  refine (globPlains_walk W x0 hs0).mono fun e W' ⟨he, bel⟩ => ?_
  subst he
  exact ⟨_, rfl, law_post laidOut Try.underlying4 (by kernel_rfl) rfl (by kernel_rfl) hW' rfl bel⟩

theorem globPlains_holds : Rows.GlobPlainsUptoSaid :=
  OpenClaim.holds_of_cond 4 Try.f4 rfl rfl rfl rfl rfl rfl rfl ⟨rfl, rfl, rfl, rfl, rfl⟩ rfl rfl rfl rfl rfl (by kernel_rfl) Try.func4 (by kernel_rfl)
    (of_decide_eq_true (by kernel_rfl)) (by unfold Func.isWrapper; first | (rw [if_pos (by decide +kernel)]; kernel_rfl) | (rw [if_neg (by decide +kernel)]; exact ⟨rfl, rfl⟩))
    (fun os started H enc _ F => by rw [OpenClaim.pre_eq_preRow]; exact globPlains_lifted os started H enc F)

end Go.Proofs.Ythiamkfghnopgaa
